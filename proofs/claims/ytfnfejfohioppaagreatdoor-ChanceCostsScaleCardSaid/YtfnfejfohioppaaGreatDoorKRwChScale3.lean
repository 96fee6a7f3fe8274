/-
  Texts that the proof stands on.
-/
import Derived.Test.YtfnfejfohioppaaGreatDoorKRwChScale2
import Derived.Shelf.SlSortCmp.Whole1
import Derived.Laws.CopyRow
import Derived.Laws.Cover3
import Derived.WalkSmall
import Derived.Shelf.RegionOpenPlain
import Derived.Lib.Walk
import Derived.Lib.SliceRun
import Derived.Lib.JoinLaws
import Derived.Lib.AppendZerosOnto
import Derived.Lib.Overlaps
import Derived.Laws.Externs
import Derived.Laws.IdiomCopy
import Derived.Laws.NewBlocks
import Derived.Shelf.Small.Bits
import Derived.Shelf.Strconv.Itoa0
import Derived.Shelf.Sort.Plain
import Derived.Shelf.Bits.Mul64
import Derived.Shelf.Slices.Equal
import Derived.Ground.Names2Prog
import Derived.Shelf.Slices.Clone
import Derived.Shelf.Slices.SearchI
import Derived.Shelf.Slices.Cells
import Derived.Shelf.Slices.In.SortNone
import Derived.Shelf.Slices.Empties
import Derived.Shelf.Slices.Empties2
import Derived.Ground.SlsfProg
import Derived.Shelf.SlSortCmp.Insertion
import Derived.Shelf.SlSortCmp.SiftDown1
import Derived.Shelf.SlSortCmp.HeapSort1
import Derived.Shelf.SlSortCmp.Insertion1
import Derived.Shelf.SlSortCmp.Median1
import Derived.Shelf.SlSortCmp.Pivot1
import Derived.Shelf.SlSortCmp.ReverseRange1
import Derived.Shelf.SlSortCmp.PartialInsertion1
import Derived.Shelf.SlSortCmp.PartitionEqual1
import Derived.Shelf.SlSortCmp.Partition1
import Derived.Shelf.SlSortCmp.Pdq1
import Derived.Shelf.SlSortCmp.NoneTotal
import Derived.Test.YtfnfejfohioppaaGreatDoorProg
set_option linter.all false
section
namespace Ab
open Go Go.Sort
theorem putCellsG_size{α:Type}[Inhabited α]{enc:α→Vl}{off:Nat}{d:Array α}{arr:Array Vl}:(putCells enc off d arr).size=arr.size:=by simp[putCells]
theorem putCellsG_get{α:Type}[Inhabited α]{enc:α→Vl}{off:Nat}{d:List α}{arr:Array Vl}(h:off+d.length≤arr.size){j:Nat}{x:α}(hj:d[j]? =some x):(putCells enc off d.toArray arr)[off+j]? =some (enc x):=by
 have hjl:=(lG.1 hj).1
 have hx:=(lG.1 hj).2
 simp only[putCells,Array.getElem?_mapIdx]
 rw[Array.getElem?_eq_getElem (by omega)]
 simp only[Option.map_some,List.size_toArray]
 rw[if_pos (by omega)]
 simp[hjl,hx]
theorem putRowG_setRow{α:Type}[Inhabited α]{enc:α→Vl}{w:World}{b off:Nat}{arr:Array Vl}{ety:Ti}{fr:Nat×Nat}{d:Array α}(hb:w.heap[b]? =some (.cells arr ety fr)):
  putRow enc w b off d=w.setRow b (putCells enc off d arr):=by
 unfold putRow mapBlock World.setRow
 congr 1
 apply Array.ext_getElem?
 intro k
 simp only[Array.getElem?_modify]
 by_cases hk:b=k
 ·subst hk;simp only[if_true,hb,Option.map_some,onCells]
 ·simp[hk]
theorem putRowG_ahead{α:Type}[Inhabited α](enc:α→Vl)(w:World)(n b off:Nat)(d:Array α):putRow enc (Go.Sort.ahead w n) b off d=Go.Sort.ahead (putRow enc w b off d) n:=rfl
theorem putRow_other{α:Type}[Inhabited α](enc:α→Vl)(w:World)(b off:Nat)(d:Array α){k:Nat}(hk:k ≠ b):(putRow enc w b off d).heap[k]? =w.heap[k]? :=by
 unfold putRow mapBlock
 simp only[Array.getElem?_modify]
 rw[if_neg (fun e=>hk e.symm)]
theorem putRow_size{α:Type}[Inhabited α](enc:α→Vl)(w:World)(b off:Nat)(d:Array α):(putRow enc w b off d).heap.size=w.heap.size:=by simp[putRow,mapBlock]
theorem grow_of{W W':World}(h1:W'.os=W.os)(h2:W'.tape=W.tape)(h3:W.drawn≤W'.drawn)(h4:W'.output=W.output)(h5:W.heap.size≤W'.heap.size)(h6:∀k,k<W.heap.size→W'.heap[k]? =W.heap[k]?):∃q os,W'=Go.Sort.grow (W.drewN q) os:=by
 refine⟨W'.drawn - W.drawn,W'.heap.extract W.heap.size W'.heap.size,?_⟩
 have hh:W'.heap=W.heap++W'.heap.extract W.heap.size W'.heap.size:=by
  apply Array.ext_getElem?
  intro k
  rw[Array.getElem?_append]
  split
  ·exact h6 k ‹_›
  ·rw[Array.getElem?_extract]
   split
   ·congr 1;omega
   ·rw[Array.getElem?_eq_none (by omega)]
 obtain⟨heap,tape,drawn,os,output⟩:=W
 obtain⟨heap',tape',drawn',os',output'⟩:=W'
 dsimp only at h1 h2 h3 h4 hh
 subst h1 h2 h4
 unfold Go.Sort.grow World.drewN
 dsimp only
 rw[← hh]
 congr 1
 omega
section
variable {α:Type}
abbrev Shw(w:World)(A:Nat→Prop)(g0:α→I):={x:Vl×α // RelI w A (g0 x.2) x.1}
theorem perm_unique{le:α→α→Bool}(hanti:∀a b,le a b=true→le b a=true→a=b):∀{l m:List α},l.Pairwise (fun a b=>le a b=true)→m.Pairwise (fun a b=>le a b=true)→l.Perm m→l=m
 |[],m,_,_,hp=>(List.nil_perm.1 hp).symm
 |a::l,[],_,_,hp=>absurd hp.length_eq (by simp)
 |a::l,b::m,hl,hm,hp=>by
  obtain⟨l1,l2⟩:=List.pairwise_cons.1 hl
  obtain⟨m1,m2⟩:=List.pairwise_cons.1 hm
  have hab:a=b:=by
   rcases List.mem_cons.1 (hp.subset (List.mem_cons_self ..)) with e|e
   ·exact e
   ·rcases List.mem_cons.1 (hp.symm.subset (List.mem_cons_self ..)) with e'|e'
    ·exact e'.symm
    ·exact hanti a b (l1 b e') (m1 a e)
  subst hab
  rw[perm_unique hanti l2 m2 ((List.perm_cons a).1 hp)]
theorem sortF_fn{P:Program}{f g:FuncId}(hf:S6 P f)(hgn:S6 P g){g0:α→I}{cf:α→α→Int}(hO:SWO (Go.Proofs.ltOf cf))(hT:∀a b,¬ cf a b<0→¬ cf b a<0→a=b)
  (hg:∀a b,e8 P g [.c (.imm (g0 a)),.c (.imm (g0 b))] (.c (int (cf a b))))
  (hC:∀(β:Type) [Inhabited β] (enc:β→Vl),Go.Proofs.OneCell enc→∀(cf:β→β→Int),SWO (Go.Proofs.ltOf cf)→∀(g:Nat) (cb:Array Vl) (blk off cap:Nat) (d:Array β) (w:World),(∀args w,(callFunc g args).run P w=.ok (.enter g args) w)→Go.Proofs.CmpLays1 P g cb enc cf blk off d.size w→Holds enc w blk off d→blk<w.heap.size→d.size<4611686018427387904→
   Calls P f #[.slice (some ⟨blk,off,none⟩) d.size cap,.func (.func g) #[] cb] w fun e w'=>e=.returned (.tuple #[])∧∃d' n os,PermIn 0 d.size d d'∧SortedIn (Go.Proofs.ltOf cf) 0 d.size d'∧w'=Go.Proofs.sortWorld enc w blk off n d' os)
  (hC0:∀(p:Option Addr) (cap:Nat) (fv:Vl) (w:World),Calls P f #[.slice p 0 cap,fv] w fun e w'=>e=.returned (.tuple #[])∧w'=w)
  {σ:b6} {id:Id} {l:List α} (hσ:σ[id]? =some (some (vec 1 (fun a=>[g0 a]) l))) (hl:l.length<4611686018427387904):
  FnOk P f [.c (.own id 0 l.length),.c (.fn g [])] σ fun r σ'=>r=.tup []∧σ'.length=σ.length∧∀i:Id,σ'[i]? =(σ.put id (some (vec 1 (fun a=>[g0 a]) (l.mergeSort fun x y=>decide (¬ cf y x<0)))))[i]? :=by
 refine⟨hf,fun Γ vs hΓ hG hlen hrel=> ?_⟩
 subst hΓ
 match vs,hlen with
 |[u,fv],_=>
 have hu:=A9 (hrel 0 _ u rfl rfl) hσ
 have hfv:fv=.func (.func g) #[] #[]:=by
  have h:=hrel 1 _ fv rfl rfl
  cases h with|c h=>cases h with|fn us hr=>rfl
 subst hfv
 have tupR:∀{w φ σ A},RelT w φ σ A (.tup []) (.tuple #[]):=fun {w φ σ A}=>RelT.tup (ts:=[]) (fun _=>undef) fun i t h=>by simp at h
 have vlen:∀{m:List α},((m.map fun a=>[g0 a]).map (·.map C.imm)).length=m.length:=by simp
 rw[vlen] at hu
 have empty:∀(p:Option Addr) (cap:Nat),l=[]→Calls P f #[.slice p 0 cap,.func (.func g) #[] #[]] Γ.w0 fun e w'=>∃v r σ' φ',e=.returned v∧(r=.tup []∧σ'.length=Γ.σ0.length∧∀i:Id,σ'[i]? =(Γ.σ0.put id (some (vec 1 (fun a=>[g0 a]) (l.mergeSort fun x y=>decide (¬ cf y x<0)))))[i]?)∧RelT w' φ' σ' (Al Γ.N φ' σ') r v∧Rs Γ σ' φ' w':=fun p cap he=>by
  refine(hC0 p cap _ Γ.w0).mono ?_
  rintro e w' ⟨rfl,rfl⟩
  refine⟨_,.tup [],Γ.σ0,Γ.φ0,rfl,⟨rfl,rfl,fun i=> ?_⟩,tupR,Rs.refl hG⟩
  have:(l.mergeSort fun x y=>decide (¬ cf y x<0))=l:=by rw[he];simp
  rw[this]
  by_cases hi:i=id
  ·rw[hi,b6.get_put_eq hσ,hσ]
  ·rw[b6.get_put_ne hi]
 rcases hu with⟨_,hv,_,h0⟩|⟨b,base,cap,arr,ety,a,hp,hv,ha,hcap,hmax,hjn,hbk,hsz⟩
 ·have he:l=[]:=List.eq_nil_of_length_eq_zero (by omega)
  rw[hv]
  exact empty none 0 he
 ·rw[hv]
  by_cases hc0:0<cap
  ·have:=ha hc0
   subst this
   simp only[Nat.zero_mul,Nat.add_zero]
   have hR:=Rs.refl hG
   rcases hR.st.blk _ _ hσ with⟨h1,_⟩|⟨b',base',arr2,ety2,h1,h2,h3,h4,h5⟩
   ·rw[hp] at h1;cases h1
   ·rw[hp] at h1;cases h1
    rw[hbk] at h2;cases h2
    rw[vlen] at h3
    have hblk:=(Array.getElem?_eq_some_iff.1 hbk).1
    have hAne:∀k,Al Γ.N Γ.φ0 Γ.σ0 k→k ≠ b:=fun k hk e=>by subst e;exact hk.2 id _ base hσ hp
    -- the elements
    obtain⟨ds,d1,d2⟩:=ex_list (p:=fun j (x:Shw Γ.w0 (Al Γ.N Γ.φ0 Γ.σ0) g0)=>arr[base+j]? =some x.1.1∧l[j]? =some x.1.2) l.length fun j hj=>by
     obtain⟨u,hu1,hu2⟩:=h5 j _ 0 (.imm (g0 l[j])) (by simp[hj];rfl) rfl
     cases hu2 with|imm hu2=>exact⟨⟨(u,l[j]),hu2⟩,by simpa using hu1,by simp[hj]⟩
    have dl:ds.map (fun x=>x.1.2)=l:=by
     refine List.ext_getElem? fun j=> ?_
     rw[lM]
     by_cases hj:j<l.length
     ·obtain⟨x,hx⟩:∃x,ds[j]? =some x:=⟨ds[j],by simp[d1,hj]⟩
      rw[hx,(d2 j x hx).2];rfl
     ·rw[List.getElem?_eq_none (by omega),List.getElem?_eq_none (by omega)];rfl
    by_cases hl0:l=[]
    ·have hl1:l.length=0:=by rw[hl0];rfl
     rw[hl1]
     exact empty _ cap hl0
    ·obtain⟨x0,hx0⟩:∃x,ds[0]? =some x:=by
      have:0<ds.length:=by rw[d1];exact List.length_pos_iff.2 hl0
      exact⟨ds[0],by simp[this]⟩
     letI:Inhabited (Shw Γ.w0 (Al Γ.N Γ.φ0 Γ.σ0) g0):=⟨x0⟩
     have hH:Holds (fun x:Shw Γ.w0 (Al Γ.N Γ.φ0 Γ.σ0) g0=>x.1.1) Γ.w0 b base ds.toArray:=by
      intro j hj
      have hjl:j<ds.length:=by simpa using hj
      refine⟨?_,by simp[World.frozen?,hbk]⟩
      rw[World.cell?]
      simp only[hbk]
      rw[(d2 j ds[j] (by simp[hjl])).1]
      simp[hjl]
     have hcmp:Go.Proofs.CmpLays1 P g #[] (fun x:Shw Γ.w0 (Al Γ.N Γ.φ0 Γ.σ0) g0=>x.1.1) (fun x y=>cf x.1.2 y.1.2) b base ds.toArray.size Γ.w0:=by
      intro m os dk hdk x y
      have hW:∀k,Al Γ.N Γ.φ0 Γ.σ0 k→k<Γ.w0.heap.size→(Go.Proofs.sortWorld (fun x:Shw Γ.w0 (Al Γ.N Γ.φ0 Γ.σ0) g0=>x.1.1) Γ.w0 b base m dk os).heap[k]? =Γ.w0.heap[k]? :=fun k hk hlt=>by
       unfold Go.Proofs.sortWorld
       rw[heap_grow_old _ os (by rw[putRow_size];exact hlt),putRow_other _ _ _ _ _ (hAne k hk)];rfl
      have gd:∀W:World,Good ⟨W,fun _=>False,fun _=>none,[]⟩:=fun W=>⟨⟨fun i b h=>by simp at h,fun i j bi bj p q h=>by simp at h⟩,fun b h=>h.elim,fun i blk b base h=>by simp at h⟩
      have rel:∀z:Shw Γ.w0 (Al Γ.N Γ.φ0 Γ.σ0) g0,RelT (Go.Proofs.sortWorld (fun x:Shw Γ.w0 (Al Γ.N Γ.φ0 Γ.σ0) g0=>x.1.1) Γ.w0 b base m dk os) (fun _=>none) [] (Al (fun _=>False) (fun _=>none) []) (.c (.imm (g0 z.1.2))) z.1.1:=fun z=>
       .c (.imm (z.2.mono hW fun k _ _=>⟨_root_.id,fun i blk base h=>by simp at h⟩))
      refine((hg x.1.2 y.1.2).run ⟨Go.Proofs.sortWorld (fun x:Shw Γ.w0 (Al Γ.N Γ.φ0 Γ.σ0) g0=>x.1.1) Γ.w0 b base m dk os,fun _=>False,fun _=>none,[]⟩ [x.1.1,y.1.1] rfl (gd _) rfl (fun i t v hi hv=> ?_)).mono ?_
      ·match i with
       |0=>cases hi;cases hv;exact rel x
       |1=>cases hi;cases hv;exact rel y
       |i+2=>simp at hi
      ·rintro e w' ⟨v,r,σ',φ',rfl,rfl,hr,hs⟩
       refine⟨?_,grow_of hs.os hs.tape hs.drawn hs.output hs.size fun k hk=>hs.block k ⟨hk,fun i blk base h=>by simp at h⟩⟩
       cases hr with|c hr=>cases hr with|imm hr=>cases hr with|val=>rfl
     obtain⟨gf,gf1,gf2,gf3⟩:=hgn
     have hszd:ds.toArray.size=l.length:=by simp[d1]
     have key:=hC _ (fun x:Shw Γ.w0 (Al Γ.N Γ.φ0 Γ.σ0) g0=>x.1.1) (fun x=>x.2.one) (fun x y=>cf x.1.2 y.1.2) ⟨fun x=>hO.irrefl x.1.2,fun x y z=>hO.trans x.1.2 y.1.2 z.1.2,fun x y z=>hO.ntrans x.1.2 y.1.2 z.1.2⟩ g #[] b base cap ds.toArray Γ.w0 (fun args w=>by
      have h2':¬ gf.name= "runtime.NumGoroutine" :=by simpa using gf2
      have h3':¬ gf.body=none:=fun e=>by rw[e] at gf3;cases gf3
      simp[callFunc,gf1,h2',h3']) hcmp hH hblk (by rw[hszd];exact hl)
     rw[hszd] at key
     refine key.mono ?_
     rintro e w' ⟨rfl,d',n,os,hperm,hsort,rfl⟩
     obtain⟨p1,_,p3⟩:=hperm
     have dsz:d'.size=l.length:=by rw[p1];simp[d1]
     have e1:d'.toList.Perm ds:=by
      have a1:d'.extract 0 l.length=d':=by rw[← dsz];simp
      have a2:ds.toArray.extract 0 l.length=ds.toArray:=by rw[← hszd];simp
      rw[a1,a2] at p3
      simpa using p3
     have e2:(d'.toList.map fun x=>x.1.2)=l.mergeSort fun x y=>decide (¬ cf y x<0):=by
      refine perm_unique (le:=fun x y=>decide (¬ cf y x<0)) (fun a b h1 h2=> ?_) ?_ ?_ ?_
      ·simp only[decide_eq_true_eq] at h1 h2
       exact hT a b h2 h1
      ·rw[List.pairwise_map,List.pairwise_iff_getElem]
       intro i j hi hj hij
       have hj':j<d'.size:=by simpa using hj
       have:=hsort i j (by omega) hij (by rw[← dsz];exact hj')
       rw[getElem!_pos d' j hj',getElem!_pos d' i (by omega)] at this
       simpa[Go.Proofs.ltOf] using this
      ·refine List.pairwise_mergeSort (fun a b c h1 h2=> ?_) (fun a b=> ?_) l
       ·simp only[decide_eq_true_eq] at h1 h2 ⊢
        have:=hO.ntrans c b a (by simpa[Go.Proofs.ltOf] using h2) (by simpa[Go.Proofs.ltOf] using h1)
        simpa[Go.Proofs.ltOf] using this
       ·simp only[Bool.or_eq_true,decide_eq_true_eq]
        rcases Int.lt_or_le (cf b a) 0 with h|h
        ·right
         intro h'
         have:=hO.trans a b a (by simpa[Go.Proofs.ltOf] using h') (by simpa[Go.Proofs.ltOf] using h)
         rw[hO.irrefl] at this;cases this
        ·left;omega
      ·exact((e1.map _).trans (by rw[dl])).trans (List.mergeSort_perm ..).symm
     rw[← e2]
     have hW:=Rs.write (k:=1) (es':=((d'.toList.map fun x=>x.1.2).map fun a=>[g0 a]).map (·.map C.imm)) (arr':=putCells (fun x:Shw Γ.w0 (Al Γ.N Γ.φ0 Γ.σ0) g0=>x.1.1) base d' arr) hR hσ hp hbk (by rw[vlen,vlen];simp[dsz]) putCellsG_size (fun j e he=>by
       simp only[List.map_map,lM,oM] at he
       obtain⟨a,_,rfl⟩:=he;rfl) (by rw[vlen];omega) (fun j e o x he hx=>by
       simp only[List.map_map,lM,oM] at he
       obtain⟨z,hz,rfl⟩:=he
       match o with
       |0=>
        cases hx
        have:=putCellsG_get (enc:=fun x:Shw Γ.w0 (Al Γ.N Γ.φ0 Γ.σ0) g0=>x.1.1) (off:=base) (d:=d'.toList) (arr:=arr) (by simp[dsz];omega) hz
        exact⟨_,by simpa using this,.imm z.2⟩
       |o+1=>simp at hx)
     unfold Go.Proofs.sortWorld
     rw[putRowG_ahead,putRowG_setRow hbk]
     refine⟨_,.tup [],_,Γ.φ0,rfl,⟨rfl,?_,fun i=>rfl⟩,tupR,(hW.2.ahead n).grow os⟩
     rw[b6.length_put]
  ·have he:l=[]:=List.eq_nil_of_length_eq_zero (by omega)
   have hl0:l.length=0:=by rw[he];rfl
   rw[hl0]
   exact empty (some a) cap he
end
end Ab
end
section
namespace Ab
open Go
def vw{α:Type}(l:List α)(off len:Int):Option Unit:=if 0≤off∧0≤len∧off+len≤l.length then some () else none
def cutV(len lo hi:Int):Option Unit:=if 0≤lo∧lo≤hi∧hi≤len then some () else none
def ixV{α:Type}(l:List α)(off len i:Int):Option α:=if 0≤off∧0≤i∧i<len∧off+len≤l.length then ix l (off+i) else none
def n7{α:Type}(l:List α)(off len:Int):List α:=(l.drop off.toNat).take len.toNat
def clrL{α:Type}(l:List α)(off len:Int)(z:α):List α:=l.take off.toNat++List.replicate len.toNat z++l.drop (off.toNat+len.toNat)
theorem S0{α:Type}{l:List α}{off len:Int}{u:Unit}(h:vw l off len=some u):0≤off∧0≤len∧off+len≤l.length:=by
 unfold vw at h
 split at h
 ·assumption
 ·cases h
theorem ag3{len lo hi:Int}{u:Unit}(h:cutV len lo hi=some u):0≤lo∧lo≤hi∧hi≤len:=by
 unfold cutV at h
 split at h
 ·assumption
 ·cases h
theorem ixV_get{α:Type}{l:List α}{off len i:Int}{a:α}(h:ixV l off len i=some a):(0≤off∧0≤i∧i<len∧off+len≤l.length)∧ix l (off+i)=some a:=by
 unfold ixV at h
 split at h
 ·exact⟨‹_›,h⟩
 ·cases h
theorem ixV_ix{α:Type}{l:List α}{off len i:Int}{a:α}(h:ixV l off len i=some a):ix l (off+i)=some a:=(ixV_get h).2
theorem viewL_len{α:Type}{l:List α}{off len:Int}{u:Unit}(h:vw l off len=some u):(n7 l off len).length=len.toNat:=by
 have:=S0 h
 simp[n7];omega
section
variable {α:Type}{f:α→List I}{l:List α}{P:Program}{σ0:b6}{sz:Nat}{Q:Post}{env env':Env}{σv σ':b6}{ops:Array Oper}{rest:List Oper}{dst:Option Nat}{ty:Ti}{pos:String}{after:Array Edge}{id:Id}{k:Nat}
theorem S.lenV{x:Od}{t e:Ti}{n:Int}{j:Nat}[ht:TyD P t (.slice e)](hn:0≤n)(hx:ev env x=some (.c (.own id j n.toNat)))(hσ:σv[id]? =some (some (vec k f l)))(hd:f8 sz dst=true)
  (h:n≤9223372036854775807→AOps P σ0 sz ops Q rest (St.mk (putE env dst (.c (int n))) σv)):AOps P σ0 sz ops Q (⟨dst,.call ⟨.builtin .len,#[x],#[t]⟩,ty,pos,after,none⟩::rest) (St.mk env σv):=
 AOps.lenOwnB hx hσ hd fun hb=>by
  have e1:((n.toNat:Nat):Int)=n:=by omega
  rw[e1]
  exact h (by omega)
theorem S.idxV{x y:Od}{t e:Ti}{bytes:Nat}{z:Vl}{kk:IntKind}{off len i:Int}{a:α}[ht:TyD P t (.slice e)][hs:TyS P e k bytes z]
  (he:ixV l off len i=some a) (hx:ev env x=some (.c (.own id off.toNat len.toNat))) (hσ:σv[id]? =some (some (vec k f l))) (hy:ev env y=some (.c (.imm (.val (.int kk i))))) (hd:f8 sz dst=true)
  (h:AOps P σ0 sz ops Q rest (St.mk (putE env dst (.c (.ptr id (off+i).toNat 0))) σv)):AOps P σ0 sz ops Q (⟨dst,.indexAddr t x y,ty,pos,after,none⟩::rest) (St.mk env σv):=by
 obtain⟨⟨h1,h2,h3,h4⟩,_⟩:=ixV_get he
 refine .indexAddrOwn hx hσ hy (by omega) hd ?_
 rw[show off.toNat+i.toNat=(off+i).toNat by omega]
 exact h
theorem S.vFrom{x y:Od}{t e:Ti}{bytes:Nat}{z:Vl}{kk:IntKind}{off len lo:Int}{j n:Nat}{u u':Unit}[ht:TyD P t (.slice e)][hs:TyS P e k bytes z]
  (hv:vw l off len=some u) (hc:cutV len lo len=some u') (hx:ev env x=some (.c (.own id j n))) (hj:j=off.toNat) (hn:n=len.toNat) (hσ:σv[id]? =some (some (vec k f l))) (hy:ev env y=some (.c (.imm (.val (.int kk lo))))) (hd:f8 sz dst=true)
  (h:AOps P σ0 sz ops Q rest (St.mk (putE env dst (.c (.own id (off+lo).toNat (len - lo).toNat))) σv)):AOps P σ0 sz ops Q (⟨dst,.slice t x (some y) none none,ty,pos,after,none⟩::rest) (St.mk env σv):=by
 have h1:=S0 hv;have h2:=ag3 hc
 subst hj hn
 have e1:lo=((lo.toNat:Nat):Int):=by omega
 rw[e1] at hy
 refine AOps.sliceOwnFrom hx hσ hy (by omega) hd ?_
 rw[show off.toNat+lo.toNat=(off+lo).toNat by omega,show len.toNat - lo.toNat=(len - lo).toNat by omega]
 exact h
theorem S.vTo{x y:Od}{t e:Ti}{bytes:Nat}{z:Vl}{kk:IntKind}{off len hi:Int}{j n:Nat}{u u':Unit}[ht:TyD P t (.slice e)][hs:TyS P e k bytes z]
  (hv:vw l off len=some u) (hc:cutV len 0 hi=some u') (hx:ev env x=some (.c (.own id j n))) (hj:j=off.toNat) (hn:n=len.toNat) (hσ:σv[id]? =some (some (vec k f l))) (hy:ev env y=some (.c (.imm (.val (.int kk hi))))) (hd:f8 sz dst=true)
  (h:AOps P σ0 sz ops Q rest (St.mk (putE env dst (.c (.own id off.toNat hi.toNat))) σv)):AOps P σ0 sz ops Q (⟨dst,.slice t x none (some y) none,ty,pos,after,none⟩::rest) (St.mk env σv):=by
 have h1:=S0 hv;have h2:=ag3 hc
 subst hj hn
 have e1:hi=((hi.toNat:Nat):Int):=by omega
 rw[e1] at hy
 exact AOps.sliceOwnTo hx hσ hy (by omega) hd h
theorem S.v3{x y y':Od}{t e:Ti}{bytes:Nat}{z:Vl}{kk kk':IntKind}{off len lo hi:Int}{j n:Nat}{u u':Unit}[ht:TyD P t (.slice e)][hs:TyS P e k bytes z]
  (hv:vw l off len=some u) (hc:cutV len lo hi=some u') (hx:ev env x=some (.c (.own id j n))) (hj:j=off.toNat) (hn:n=len.toNat) (hσ:σv[id]? =some (some (vec k f l))) (hy:ev env y=some (.c (.imm (.val (.int kk lo))))) (hy':ev env y'=some (.c (.imm (.val (.int kk' hi))))) (hd:f8 sz dst=true)
  (h:AOps P σ0 sz ops Q rest (St.mk (putE env dst (.c (.own id (off+lo).toNat (hi - lo).toNat))) σv)):AOps P σ0 sz ops Q (⟨dst,.slice t x (some y) (some y') none,ty,pos,after,none⟩::rest) (St.mk env σv):=by
 have h1:=S0 hv;have h2:=ag3 hc
 subst hj hn
 refine AOps.sliceOwn hx hσ hy hy' (by omega) hd ?_
 rw[show off.toNat+lo.toNat=(off+lo).toNat by omega,show hi.toNat - lo.toNat=(hi - lo).toNat by omega]
 exact h
def ReE(env:Env)(t:Nat)(c':C):Env→Prop
 |[]=>True
 |(t',v)::r=>(t'=t∧v=.c c'∨lookup t' env=some v)∧ReE env t c' r
theorem ReE.get{t:Nat}{c':C}:∀{env':Env},ReE env t c' env'→∀t' v,lookup t' env'=some v→t'=t∧v=.c c'∨lookup t' env=some v
 |[],_,t,v,h=>by simp[lookup] at h
 |(k,x)::r,⟨h1,h2⟩,t',v,h=>by
  simp only[lookup] at h
  split at h
  ·cases h
   rename_i e
   have:k=t':=by simpa using e
   subst this
   exact h1
  ·exact ReE.get h2 t' v h
theorem Sub.reown{off len:Int}{j n:Nat}{n':Id}{σ1:b6}{u:Unit}(t:Nat)(hv:vw l off len=some u)(hx:lookup t env=some (.c (.own id j n)))(hj:j=off.toNat)(hn:n=len.toNat)(hσ:σv[id]? =some (some (vec k f l)))(h0:Nat.ble σ0.length id.1=true)(hid:newF σv=some n')
  (h1:putF σv id none=some σ1) (hσ':q9 σ1 (.one (vec k f (n7 l off len)))=some σ') (henv:ReE env t (.own n' 0 (n7 l off len).length) env'):Sub σ0 ⟨env,σv⟩ ⟨env',σ'⟩:=fun Γ sz φ a w hΓ hR=>by
 have h2:=A6 h1
 have h3:=y7 hid;have h4:=m7 hσ'
 have hvl:=viewL_len hv
 have hvg:=S0 hv
 subst hj hn h2 h3 h4
 have hidl:=b6.lt_of hσ
 have at_new:(σv.put id none++[.one (vec k f (n7 l off len))])[((σv.length,[]):Id)]? =some (some (vec k f (n7 l off len))):=by
  rw[b6.get_right (by simp)];simp;rfl
 obtain⟨u0,hu0,hrel⟩:=hR.env t _ hx
 have ho:=A9 hrel hσ
 have fin:∀(φ':Phi) (hk:Kept w w φ φ' σv (σv.put id none++[.one (vec k f (n7 l off len))]) (Al Γ.N φ σv) (Al Γ.N φ' (σv.put id none++[.one (vec k f (n7 l off len))]))) (hs:Rs Γ (σv.put id none++[.one (vec k f (n7 l off len))]) φ' w) (hview:P6 w (φ' (σv.length,[])) k (n7 l off len).length 0 (n7 l off len).length u0),
   R Γ sz ⟨env',σv.put id none++[.one (vec k f (n7 l off len))]⟩ φ' a w:=fun φ' hk hs hview=>by
  have hR1:=hR.of hk hs
  refine {toRs:=hs,defers:=hR1.defers,asize:=hR.asize,env:=fun t' v' ht'=> ?_}
  rcases henv.get t' v' ht' with⟨rfl,rfl⟩|h
  ·refine⟨u0,hu0,.c (.own (by simp) (by cases hrel with|c g2=>exact g2.one) fun k' es' he=> ?_)⟩
   rw[at_new] at he
   cases he
   simpa using hview
  ·obtain⟨u1,g1,g2⟩:=hR1.env t' v' h
   exact⟨u1,g1,g2⟩
 rcases ho with⟨p1,p2,p3,p4⟩|⟨b,base,cap,arr,ety,ad,hp,hvv,had,hcap,hmax,hjn,hbk,hsz⟩
 ·have hnil:n7 l off len=[]:=List.eq_nil_of_length_eq_zero (by rw[hvl,p4])
  have hK:=hR.toRs.kill id
  have hV:=hK.2.virt k
  have e1:σv.put id none++[.one (vec k f (n7 l off len))]=σv.put id none++[.one (.cells k [])]:=by rw[hnil];rfl
  rw[b6.length_put] at hV
  refine⟨fun i=>if i=(σv.length,[]) then none else φ i,?_⟩
  have:=fin (fun i=>if i=(σv.length,[]) then none else φ i) (by rw[e1];exact Kept.trans (Nat.le_refl _) hK.1 hV.1) (by rw[e1];exact hV.2) (.inl ⟨by simp,p2,rfl,by rw[hnil];rfl⟩)
  exact this
 ·obtain⟨arr2,ety2,q1,q2,q3,q4⟩:=F0 hR hσ hp
  rw[hbk] at q1;cases q1
  have hO:=Rs.reown (k:=k) (base':=base+off.toNat * k) (es':=((n7 l off len).map f).map (·.map C.imm)) (arr':=arr) hR.toRs hσ hp hbk (fun j e he=>by
    have:((n7 l off len).map f).map (·.map C.imm)=((((l.map f).map (·.map C.imm)).drop off.toNat).take len.toNat):=by simp[n7,List.map_drop,List.map_take]
    rw[this,List.getElem?_take] at he
    split at he
    ·rw[List.getElem?_drop] at he
     exact q3 _ e he
    ·cases he) (by
    simp only[List.length_map,hvl]
    have:(off.toNat+cap) * k=off.toNat * k+cap * k:=Nat.add_mul ..
    have:len.toNat * k≤cap * k:=Nat.mul_le_mul_right k hcap
    omega) (fun j e o x he hx=>by
    have:((n7 l off len).map f).map (·.map C.imm)=((((l.map f).map (·.map C.imm)).drop off.toNat).take len.toNat):=by simp[n7,List.map_drop,List.map_take]
    rw[this,List.getElem?_take] at he
    split at he
    ·rw[List.getElem?_drop] at he
     obtain⟨u2,g1,g2⟩:=q4 _ e o x he hx
     refine⟨u2,?_,g2⟩
     rw[← g1,Nat.add_mul]
     congr 1;omega
    ·cases he)
  rw[Go.setRow_self w b arr ety (0,0) hbk] at hO
  refine⟨fun i=>if i=(σv.length,[]) then some (b,base+off.toNat * k) else φ i,?_⟩
  refine fin _ hO.1 hO.2 (.inr ⟨b,base+off.toNat * k,cap,arr,ety,ad,by simp,?_,fun hc=> ?_,?_,hmax,by omega,hbk,?_⟩)
  ·rw[hvv,hvl]
  ·rw[had hc,Nat.zero_mul,Nat.add_zero]
  ·rw[hvl];exact hcap
  ·have:(off.toNat+cap) * k=off.toNat * k+cap * k:=Nat.add_mul ..
   rw[Nat.zero_add];omega
theorem AWP.reown{c:Code}{off len:Int}{j n:Nat}{n':Id}{σ1:b6}{u:Unit}(t:Nat)(hv:vw l off len=some u)(hx:lookup t env=some (.c (.own id j n)))(hj:j=off.toNat)(hn:n=len.toNat)(hσ:σv[id]? =some (some (vec k f l)))(h0:Nat.ble σ0.length id.1=true)(hid:newF σv=some n')
  (h1:putF σv id none=some σ1) (hσ':q9 σ1 (.one (vec k f (n7 l off len)))=some σ') (henv:ReE env t (.own n' 0 (n7 l off len).length) env') (h:AWP P σ0 sz c Q ⟨env',σ'⟩):AWP P σ0 sz c Q ⟨env,σv⟩:=
 AWP.sub (Sub.reown t hv hx hj hn hσ h0 hid h1 hσ' henv) h
theorem zeroCells_one{v:Vl}(n:Nat):(Builtin.zeroCells #[v] n).toList=List.replicate n v:=by
 refine List.ext_getElem? fun i=> ?_
 simp only[Builtin.zeroCells,Array.toList_map,lM,List.getElem?_replicate]
 by_cases h:i<n
 ·have:(Array.range (n * (#[v]:Array Vl).size)).toList[i]? =some i:=by simp[h]
  rw[this,if_pos h]
  simp[Nat.mod_one]
 ·have:(Array.range (n * (#[v]:Array Vl).size)).toList[i]? =none:=by simp;omega
  rw[this,if_neg h];rfl
theorem S.clear{x:Od}{t e:Ti}{bytes:Nat}{z:Vl}{off len:Int}{j n:Nat}{u:Unit}{a0:α}{c0:C}[ht:TyD P t (.slice e)][hs:TyS P e 1 bytes z](hz1:z.cells=#[z])(hzc:z.oneCell'=true)
  (hf:(f a0).map C.imm=[c0]) (hrel:∀w φ σ A,RelC w φ σ A c0 z)
  (hv:vw l off len=some u) (hx:ev env x=some (.c (.own id j n))) (hj:j=off.toNat) (hn:n=len.toNat) (hσ:σv[id]? =some (some (vec 1 f l))) (hσ':putF σv id (some (vec 1 f (clrL l off len a0)))=some σ')
  (h:AOps P σ0 sz ops Q rest (St.mk env σ')):AOps P σ0 sz ops Q (⟨none,.call ⟨.builtin .clear,#[x],#[t]⟩,ty,pos,after,none⟩::rest) (St.mk env σv):=by
 have hvg:=S0 hv
 have h2:=A6 hσ'
 subst hj hn h2
 refine .valueW rfl rfl (.tup []) (σv.put id (some (vec 1 f (clrL l off len a0)))) (fun Γ φ a w hR=> ?_) h
 have tupR:∀{w φ σ A},RelT w φ σ A (.tup []) (.tuple #[]):=fun {w φ σ A}=>RelT.tup (ts:=[]) (fun _=>undef) fun i t h=>by simp at h
 have ho:=A9 (i4 hR hx) hσ
 have clen:(clrL l off len a0).length=l.length:=by simp[clrL];omega
 have nothing:len.toNat=0→clrL l off len a0=l:=fun e=>by simp[clrL,e]
 have same:len.toNat=0→(execOp a.eval ⟨none,.call ⟨.builtin .clear,#[x],#[t]⟩,ty,pos,after,none⟩).run P w=.ok (.value (.tuple #[])) w→∃u w' φ',(execOp a.eval ⟨none,.call ⟨.builtin .clear,#[x],#[t]⟩,ty,pos,after,none⟩).run P w=.ok (.value u) w'∧RelT w' φ' (σv.put id (some (vec 1 f (clrL l off len a0)))) (Al Γ.N φ' (σv.put id (some (vec 1 f (clrL l off len a0))))) (.tup []) u∧R Γ sz ⟨env,σv.put id (some (vec 1 f (clrL l off len a0)))⟩ φ' a w':=fun e0 hrun=>by
  rw[nothing e0]
  have hsub:=Sub.blk (σ0:=Γ.σ0) (env:=env) (id:=id) (k:=1) (es:=(l.map f).map (·.map C.imm)) (es':=(l.map f).map (·.map C.imm)) hσ rfl (fun i e' he=>by
   rcases hR.st.blk _ _ hσ with⟨_,g2⟩|⟨_,_,_,_,_,_,_,g4,_⟩
   ·rw[g2] at he;simp at he
   ·exact g4 i e' he) (fun i e' o x' he hx'=>⟨e',x',he,hx',fun _ _ _ _ _ hr=>hr⟩)
  obtain⟨φ',hR'⟩:=hsub Γ sz φ a w rfl hR
  exact⟨_,w,φ',hrun,tupR,hR'⟩
 rcases ho with⟨p1,p2,p3,p4⟩|⟨b,base,cap,arr,ety,ad,hp,hvv,had,hcap,hmax,hjn,hbk,hsz⟩
 ·exact same p4 (by simp[execOp,resolve,invoke,builtin,p2,Builtin.clear_,run_underlying ht.h])
 ·by_cases e0:len.toNat=0
  ·refine same e0 ?_
   rw[e0] at hvv
   simp[execOp,resolve,invoke,builtin,hvv,Builtin.clear_,run_underlying ht.h]
  ·have hc0:0<cap:=by omega
   have:=had hc0
   subst this
   obtain⟨arr2,ety2,q1,q2,q3,q4⟩:=F0 hR hσ hp
   rw[hbk] at q1;cases q1
   simp only[List.length_map] at q2 hjn
   have hst:=run_storeCells_at P b (base+off.toNat * 1) ety (List.replicate len.toNat z) 0 arr w hbk (by simp;omega) (fun v hv=>by rw[List.eq_of_mem_replicate hv];exact hzc)
   simp only[Nat.add_zero,Nat.mul_one,List.length_replicate] at hst
   have hl1:∀b:α,((f b).map C.imm).length=(f b).length:=fun b=>by simp
   have hW:=Rs.write (k:=1) (es':=((clrL l off len a0).map f).map (·.map C.imm)) (arr':=(arr.toList.take (base+off.toNat)++List.replicate len.toNat z++arr.toList.drop (base+off.toNat+len.toNat)).toArray) hR.toRs hσ hp hbk (by simp[clen]) (by simp;omega) (fun i e' he=>by
     simp only[List.map_map,lM,oM] at he
     obtain⟨y,hy,rfl⟩:=he
     by_cases hyl:y ∈ l
     ·obtain⟨i',hi'⟩:=List.getElem?_of_mem hyl
      exact q3 i' _ (by simp[hi'])
     ·have hy:=List.mem_of_getElem? hy
      simp only[clrL,List.mem_append] at hy
      rcases hy with(hy|hy)|hy
      ·exact absurd (List.mem_of_mem_take hy) hyl
      ·rw[List.eq_of_mem_replicate hy]
       simp only[Function.comp_apply,hf];rfl
      ·exact absurd (List.mem_of_mem_drop hy) hyl) (by simp;omega) (fun i e' o x' he hx'=>by
     simp only[List.map_map,lM,oM,Function.comp_apply] at he
     obtain⟨y,hy,rfl⟩:=he
     simp only[List.getElem?_toArray]
     have hsp:=w6 arr.toList (List.replicate len.toNat z) (base+off.toNat) (base+(i * 1+o)) (by simp;omega)
     simp only[List.length_replicate] at hsp
     rw[hsp]
     have hy':(clrL l off len a0)[i]? =if off.toNat≤i∧i<off.toNat+len.toNat then some a0 else l[i]? :=by
      have:=w6 l (List.replicate len.toNat a0) off.toNat i (by simp;omega)
      simp only[List.length_replicate] at this
      rw[clrL,this]
      split
      ·rw[List.getElem?_replicate,if_pos (by omega)]
      ·rfl
     rw[hy'] at hy
     split at hy
     ·rename_i hi
      cases hy
      rw[hf] at hx'
      match o with
      |0=>
       cases hx'
       rw[if_pos (by omega),List.getElem?_replicate,if_pos (by omega)]
       exact⟨z,rfl,hrel _ _ _ _⟩
      |o+1=>simp at hx'
     ·rename_i hi
      have ho:o=0:=by
       have h1:=q3 i ((f y).map C.imm) (by simp[hy])
       have:=(lG.1 hx').1
       omega
      subst ho
      rw[if_neg (by omega)]
      obtain⟨u2,g1,g2⟩:=q4 i ((f y).map C.imm) 0 x' (by simp[hy]) hx'
      exact⟨u2,by simpa using g1,g2⟩)
   have hz:=V6 (P:=P) (t:=e) w
   refine⟨.tuple #[],_,φ,?_,tupR,hR.of hW.1 hW.2⟩
   have hne:¬ (len.toNat=0):=e0
   simp[execOp,resolve,invoke,builtin,hvv,Builtin.clear_,run_underlying ht.h,hz,hz1,zeroCells_one,hst]
end
end Ab
end
section
namespace Ab
open Go Go.Sort
def CmpOk{α:Type}(cmp:α→α→Option Int)(cf:α→α→Int):Prop:=(∀a b,cmp a b=some (cf a b))∧SWO (Go.Proofs.ltOf cf)∧∀a b,¬ cf a b<0→¬ cf b a<0→a=b
noncomputable def sortFL{α:Type}(cmp:α→α→Option Int)(l:List α):Option (List α):=open Classical in
 if h:l.length<4611686018427387904∧∃cf,CmpOk cmp cf then some (l.mergeSort fun x y=>decide (¬ h.2.choose y x<0)) else none
theorem sortFL_eq{α:Type}{cmp:α→α→Option Int}{cf:α→α→Int}{l:List α}(h:l.length<4611686018427387904)(hc:CmpOk cmp cf):sortFL cmp l=some (l.mergeSort fun x y=>decide (¬ cf y x<0)):=by
 unfold sortFL
 have hx:l.length<4611686018427387904∧∃cf,CmpOk cmp cf:=⟨h,cf,hc⟩
 rw[dif_pos hx]
 have e:hx.2.choose=cf:=by
  funext a b
  have:=hx.2.choose_spec.1 a b
  rw[hc.1 a b] at this
  exact(Option.some.inj this).symm
 rw[e]
def lltB:Li→Li→Bool
 |[],[]=>false
 |[],_::_=>true
 |_::_,[]=>false
 |a::l,b::m=>if a<b then true else if a=b then lltB l m else false
def sortLL(l:LL):Option (LL):=if l.length<4611686018427387904 then some (srtB lltB l) else none
theorem sortFL_len{α:Type}{cmp:α→α→Option Int}{l l':List α}(h:sortFL cmp l=some l'):l.length=l'.length:=by
 unfold sortFL at h
 split at h
 ·cases h;simp
 ·cases h
def SortFOk(P:Program)(f:FuncId):Prop:=∀{α:Type} {g:FuncId} {g0:α→I} {cf:α→α→Int},S6 P g→SWO (Go.Proofs.ltOf cf)→(∀a b,¬ cf a b<0→¬ cf b a<0→a=b)→(∀a b,e8 P g [.c (.imm (g0 a)),.c (.imm (g0 b))] (.c (int (cf a b))))→
 ∀{σ:b6} {id:Id} {l:List α},σ[id]? =some (some (vec 1 (fun a=>[g0 a]) l))→l.length<4611686018427387904→
  FnOk P f [.c (.own id 0 l.length),.c (.fn g [])] σ fun r σ'=>r=.tup []∧σ'.length=σ.length∧∀i:Id,σ'[i]? =(σ.put id (some (vec 1 (fun a=>[g0 a]) (l.mergeSort fun x y=>decide (¬ cf y x<0)))))[i]?
section
variable {P:Program}{σ0:b6}{sz:Nat}{Q:Post}{env:Env}{σv σ':b6}{ops:Array Oper}{rest:List Oper}{dst:Option Nat}{ty:Ti}{pos:String}{after:Array Edge}
theorem S.sortF{α:Type}{f:α→List I}(g0:α→I){cmp:α→α→Option Int}{x:Od}{al:List Od}{ats:Array Ti}{fs g:FuncId}{id:Id}{n:Nat}{l l':List α}(hs:sortFL cmp l=some l')(hfg:f=fun a=>[g0 a])
  (hcmp:∀{a b r},cmp a b=some r→e8 P g [.c (.imm (g0 a)),.c (.imm (g0 b))] (.c (int r))) (hf:SortFOk P fs) (hgn:S6 P g) (hx:ev env x=some (.c (.fn fs []))) (ha:evs env al=some [.c (.own id 0 n),.c (.fn g [])]) (hn:n=l.length) (hσ:σv[id]? =some (some (vec 1 f l)))
  (hd:f8 sz dst=true) (hσ':putF σv id (some (vec 1 f l'))=some σ') (h:AOps P σ0 sz ops Q rest (St.mk (putE env dst (.tup [])) σ')):
  AOps P σ0 sz ops Q (⟨dst,.call ⟨.value x,al.toArray,ats⟩,ty,pos,after,none⟩::rest) (St.mk env σv):=by
 have h2:=A6 hσ'
 subst h2 hn hfg
 unfold sortFL at hs
 split at hs
 ·rename_i hx0
  cases hs
  obtain⟨c1,c2,c3⟩:=hx0.2.choose_spec
  refine AOps.callS hx ha hd (hf hgn c2 c3 (fun a b=>hcmp (c1 a b)) hσ hx0.1) ?_
  rintro r σ2 ⟨rfl,hl,he⟩
  refine AOps.sub (s':=⟨putE env dst (.tup []),σv.put id (some (vec 1 (fun a=>[g0 a]) (l.mergeSort fun x y=>decide (¬ hx0.2.choose y x<0))))⟩) ?_ h
  have:=Sub.same (σ0:=σ0) (env:=putE env dst (.tup [])) (σ1:=σ2) (σ2:=σv.put id (some (vec 1 (fun a=>[g0 a]) (l.mergeSort fun x y=>decide (¬ hx0.2.choose y x<0))))) (by rw[b6.length_put,hl]) he
  cases dst<;>exact this
 ·cases hs
end
/-! ### Views in chains -/
theorem B1{α:Type}(l:List α):vw l 0 (l.length:Int)=some ():=by unfold vw;rw[if_pos];omega
theorem ab5{α:Type}{l:List α}{off len lo hi:Int}{u u':Unit}(h:vw l off len=some u)(hc:cutV len lo hi=some u'):vw l (off+lo) (hi - lo)=some ():=by
 have:=S0 h;have:=ag3 hc
 unfold vw;rw[if_pos];omega
theorem vw_to{α:Type}{l:List α}{off len hi:Int}{u u':Unit}(h:vw l off len=some u)(hc:cutV len 0 hi=some u'):vw l off hi=some ():=by
 have:=S0 h;have:=ag3 hc
 unfold vw;rw[if_pos];omega
theorem clrL_len{α:Type}{l:List α}{off len:Int}{u:Unit}{z:α}(h:vw l off len=some u):(clrL l off len z).length=l.length:=by
 have:=S0 h
 simp[clrL];omega
end Ab
end
section
namespace Ab
open Go
def chkN(b:Int):Option Unit:=if b=0 then none else some ()
theorem chkN_get{b:Int}{u:Unit}(h:chkN b=some u):b ≠ 0:=by
 unfold chkN at h
 split at h
 ·cases h
 ·assumption
section
variable {P:Program}{σ0:b6}{sz:Nat}{Q:Post}{env:Env}{σv:b6}{ops:Array Oper}{rest:List Oper}{dst:Option Nat}{ty:Ti}{pos:String}{after:Array Edge}
theorem S.quo{t t':Ti}{x y:Od}{k:IntKind}{a b:Int}{u:Unit}(hb:chkN b=some u)(hx:ev env x=some (.c (.imm (.val (.int k a)))))(hy:ev env y=some (.c (.imm (.val (.int k b)))))(hd:f8 sz dst=true)
  (h:AOps P σ0 sz ops Q rest (St.mk (putE env dst (.c (.imm (.val (.int k (k.wrap (a.tdiv b))))))) σv)):AOps P σ0 sz ops Q (⟨dst,.binOp .quo t x y t',ty,pos,after,none⟩::rest) (St.mk env σv):=.quoW hx hy hd (chkN_get hb) h
theorem S.rem{t t':Ti}{x y:Od}{k:IntKind}{a b:Int}{u:Unit}(hb:chkN b=some u)(hx:ev env x=some (.c (.imm (.val (.int k a)))))(hy:ev env y=some (.c (.imm (.val (.int k b)))))(hd:f8 sz dst=true)
  (h:AOps P σ0 sz ops Q rest (St.mk (putE env dst (.c (.imm (.val (.int k (a.tmod b)))))) σv)):AOps P σ0 sz ops Q (⟨dst,.binOp .rem t x y t',ty,pos,after,none⟩::rest) (St.mk env σv):=.remW hx hy hd (chkN_get hb) h
end
section
variable {P:Program}{σ0:b6}{sz:Nat}{Q:Post}{env env':Env}{σv σ':b6}
theorem Sub.virtB{α:Type}(k:Nat)(f:α→List I){b n:Id}{kb o:Nat}{cs cs':List C}{σ1:b6}(hb:σv[b]? =some (some (.cells kb [cs])))(hc:cs[o]? =some (.imm (.val (.slice none 0 0))))(hn:newF σv=some n)(h1:q9 σv (.one (vec k f []))=some σ1)
  (hs:setF cs o (.own n 0 ([]:List α).length)=some cs') (hσ':putF σ1 b (some (.cells kb [cs']))=some σ'):Sub σ0 ⟨env,σv⟩ ⟨env,σ'⟩:=fun Γ sz φ a w hΓ hR=>by
 have g1:=y7 hn;have g2:=m7 h1;have g3:=K0 hs;have g4:=A6 hσ'
 obtain⟨g3,g3'⟩:=g3
 subst g1 g2 g3 g4
 have hbl:=b6.lt_of hb
 have hV:=hR.toRs.virt k
 have hb':(σv++[.one (vec k f [])])[b]? =some (some (.cells kb [cs])):=by rw[b6.get_left hbl];exact hb
 have e0:(σv++[.one (.cells k [])]:b6)=σv++[.one (vec k f [])]:=rfl
 rw[e0] at hV
 generalize hφ:(fun i=>if i=((σv.length,[]):Id) then none else φ i)=φ' at hV
 have φn:φ' (σv.length,[])=none:=by rw[← hφ];simp
 rcases hV.2.st.blk _ _ hb' with⟨_,g⟩|⟨b0,base,arr,ety,q1,q2,q3,q4,q5⟩
 ·cases g
 ·have hW:=Rs.write (k:=kb) (es':=[cs.set o (.own (σv.length,[]) 0 ([]:List α).length)]) (arr':=arr) hV.2 hb' q1 q2 rfl rfl (fun j e he=>by
   match j with
   |0=>
    cases he
    rw[lS]
    exact q4 0 cs rfl
   |j+1=>simp at he) (by simpa using q3) (fun j e i x he hx=>by
   match j with
   |0=>
    cases he
    rw[List.getElem?_set] at hx
    split at hx
    ·rename_i e
     subst e
     cases hx
     obtain⟨u,hu,hr⟩:=q5 0 cs o _ rfl hc
     refine⟨u,hu,?_⟩
     cases hr with|imm hr=>cases hr with|val h=>
      exact .own (by simp) rfl fun k' es' _=>.inl ⟨φn,rfl,rfl,rfl⟩
    ·exact q5 0 cs i x rfl hx
   |j+1=>simp at he)
  rw[Go.setRow_self w b0 arr ety (0,0) q2] at hW
  exact⟨φ',(hR.of hV.1 hV.2).of hW.1 hW.2⟩
theorem AWP.virtB{α:Type}{c:Code}(k:Nat)(f:α→List I){b n:Id}{kb o:Nat}{cs cs':List C}{σ1:b6}(hb:σv[b]? =some (some (.cells kb [cs])))(hc:cs[o]? =some (.imm (.val (.slice none 0 0))))(hn:newF σv=some n)(h1:q9 σv (.one (vec k f []))=some σ1)
  (hs:setF cs o (.own n 0 ([]:List α).length)=some cs') (hσ':putF σ1 b (some (.cells kb [cs']))=some σ') (h:AWP P σ0 sz c Q ⟨env,σ'⟩):AWP P σ0 sz c Q ⟨env,σv⟩:=AWP.sub (Sub.virtB k f hb hc hn h1 hs hσ') h
def NilB:List C→List C→Prop
 |[],[]=>True
 |c::r,c'::r'=>(c'=c∨c=.imm (.val (.slice none 0 0))∧∃k,c'=.imm (.sl k []))∧NilB r r'
 |_,_=>False
theorem NilB.len:∀{l l':List C},NilB l l'→l'.length=l.length
 |[],[],_=>rfl
 |_::r,_::r',⟨_,h⟩=>by simp[NilB.len h]
 |[],_::_,h=>h.elim
 |_::_,[],h=>h.elim
theorem NilB.get:∀{l l':List C},NilB l l'→∀(o:Nat) (x:C),l'[o]? =some x→∃x0,l[o]? =some x0∧(x=x0∨x0=.imm (.val (.slice none 0 0))∧∃k,x=.imm (.sl k []))
 |[],[],_,o,x,h=>by simp at h
 |c::r,c'::r',⟨h1,h2⟩,o,x,h=>by
  match o with
  |0=>cases h;exact⟨c,rfl,h1⟩
  |o+1=>simpa using NilB.get h2 o x (by simpa using h)
 |[],_::_,h,_,_,_=>h.elim
 |_::_,[],h,_,_,_=>h.elim
theorem Sub.nilB{b:Id}{kb:Nat}{cs:List C}(cs':List C)(hb:σv[b]? =some (some (.cells kb [cs])))(h:NilB cs cs')(hlen:cs.length=kb)(hσ':putF σv b (some (.cells kb [cs']))=some σ'):Sub σ0 ⟨env,σv⟩ ⟨env,σ'⟩:=by
 have g:=A6 hσ'
 subst g
 refine Sub.blk hb rfl (fun j e he=> ?_) (fun j e o x he hx=> ?_)
 ·match j with
  |0=>cases he;rw[h.len,hlen]
  |j+1=>simp at he
 ·match j with
  |0=>
   cases he
   obtain⟨x0,h1,h2⟩:=h.get o x hx
   refine⟨cs,x0,rfl,h1,fun w φ σ A u hr=> ?_⟩
   rcases h2 with rfl|⟨rfl,k,rfl⟩
   ·exact hr
   ·cases hr with|imm hr=>cases hr with|val=>exact .imm .slNil
  |j+1=>simp at he
theorem AWP.nilB{c:Code}{b:Id}{kb:Nat}{cs:List C}(cs':List C)(hb:σv[b]? =some (some (.cells kb [cs])))(h:NilB cs cs')(hlen:cs.length=kb)(hσ':putF σv b (some (.cells kb [cs']))=some σ')(hn:AWP P σ0 sz c Q ⟨env,σ'⟩):AWP P σ0 sz c Q ⟨env,σv⟩:=AWP.sub (Sub.nilB cs' hb h hlen hσ') hn
end
end Ab
end
section
namespace Ab
open Go
section
variable {P:Program}{σ0:b6}{sz:Nat}{Q:Post}{env env':Env}{σv σ':b6}{α:Type}{f:α→List I}{k:Nat}{l:List α}{id:Id}
end
end Ab
end
section
namespace Ab
open Go
section
variable {α:Type}{f:α→List I}{l:List α}{p m:Nat}{n id:Id}
abbrev vecS(f:α→List I)(l:List α)(p:Nat)(n:Id)(m:Nat):Blk:=.cells 1 (((l.map f).map (·.map C.imm)).set p [.own n 0 m])
theorem mem_set{β:Type}{x a:β}:∀{l:List β} {p:Nat},x ∈ l.set p a→x ∈ l∨x=a
 |[],_,h=>by simp at h
 |b::l,0,h=>by
  rcases List.mem_cons.1 h with h|h
  ·exact .inr h
  ·exact .inl (List.mem_cons_of_mem _ h)
 |b::l,p+1,h=>by
  rcases List.mem_cons.1 h with h|h
  ·exact .inl (h ▸ List.mem_cons_self ..)
  ·rcases mem_set h with h|h
   ·exact .inl (List.mem_cons_of_mem _ h)
   ·exact .inr h
theorem vs_ok{N:Nat}(h:Nat.blt n.1 N=true):(vecS f l p n m).ok N=true:=by
 simp only[Blk.ok,List.all_eq_true]
 intro e he
 rcases mem_set he with h1|rfl
 ·have:=M4 (n:=N) (g:=f) (l:=l) (k:=1)
  simp only[vec,Blk.im,Blk.ok,List.all_eq_true] at this
  exact this e h1
 ·simpa[C.okL,C.ok] using h
theorem vs_no(h:idb n id=false):(vecS f l p n m).no id=true:=by
 simp only[Blk.no,List.all_eq_true]
 intro e he
 rcases mem_set he with h1|rfl
 ·have:=Blk.im_no id 1 (l.map f)
  simp only[Blk.im,Blk.no,List.all_eq_true] at this
  exact this e h1
 ·simp[C.noL,C.no,h]
theorem vs_rl{r s:Nat}(q:Nat):(vecS f l p (s,[]) m).no (r,[q])=true:=vs_no (by simp[idb,lbeq])
theorem vs_frz{β:Type}{g:β→List I}{M:List β}{k:Nat}(hm:m=M.length){a:α}(hf:f a=[.sl k (M.map g)]):Blk.frz n k (M.map g) (vecS f l p n m)=vec 1 f (l.set p a):=by
 have h:Blk.frz n k (M.map g) (vec 1 f l)=vec 1 f l:=Blk.frz_no _ (Blk.im_no _ _ _)
 subst hm
 simp only[vec,Blk.im,Blk.frz,Blk.cells.injEq,true_and] at h ⊢
 rw[List.map_set,h,List.map_set,List.map_set,hf]
 congr 1
 simp[C.frzL,C.frz,N5.2 rfl,List.take_of_length_le]
theorem FrzB.vs{X:C→C→Prop}(h:idb n id=false):FrzB id X (.one (vecS f l p n m)) (.one (vecS f l p n m)):=by
 have hno:=vs_no (f:=f) (l:=l) (p:=p) (m:=m) h
 have imm:∀e ∈ ((l.map f).map (·.map C.imm)).set p [.own n 0 m],FrzL id X e e:=fun e he=>by
  rcases mem_set he with h1|rfl
  ·simp only[List.map_map,List.mem_map,Function.comp_apply] at h1
   obtain⟨a,_,rfl⟩:=h1
   exact FrzL.imm _
  ·exact⟨.inl ⟨rfl,by simp[C.no,h]⟩,Y⟩
 unfold FrzB
 split
 ·rename_i h1 _;cases h1
 ·rename_i k1 e k2 e' h1 h2
  simp only[Ent.one.injEq,Blk.cells.injEq] at h1 h2
  obtain⟨rfl,h1⟩:=h1
  obtain⟨rfl,h2⟩:=h2
  have:e=e':=by rw[h1] at h2;simpa using h2
  subst this
  exact⟨rfl,imm e (by rw[h1];simp)⟩
 ·rename_i h1 h2
  cases h1;cases h2
  exact⟨rfl,hno⟩
 ·rename_i h1;cases h1
 ·rename_i h1 h2 h3 h4
  first|exact(h3 _ _ rfl rfl).elim|exact(h4 _ _ rfl rfl).elim|exact(h2 _ _ rfl rfl).elim
end
section
variable {P:Program}{σ0:b6}{sz:Nat}{Q:Post}{env:Env}{σv σ':b6}{ops:Array Oper}{rest:List Oper}{dst:Option Nat}{ty:Ti}{pos:String}{after:Array Edge}
variable {α β:Type}{f:α→List I}{l:List α}{p m:Nat}{n id:Id}
inductive FrzE(id:Id)(k:Nat)(es:List (List I))(X:C→C→Prop):Ent→Ent→Prop
 |old {e e':Ent} (h:FrzB id X e e'):FrzE id k es X e e'
 |vs {α:Type} {f:α→List I} {l:List α} {p m:Nat} {b:Blk} (h:Blk.frz id k es (vecS f l p id m)=b):FrzE id k es X (.one (vecS f l p id m)) (.one b)
 |any {e e':Ent} (h:∀p,(e.sub p).map (Blk.frz id k es)=e'.sub p):FrzE id k es X e e'
def FrzS2(id:Id)(k:Nat)(es:List (List I))(X:C→C→Prop):b6→b6→Prop
 |[],[]=>True
 |b::r,b'::r'=>FrzE id k es X b b'∧FrzS2 id k es X r r'
 |_,_=>False
theorem FrzE.get{k:Nat}{es:List (List I)}{X:C→C→Prop}(hX:∀c c',X c c'→c.frz id k es=c'){e e':Ent}(h:FrzE id k es X e e')(p:List Nat):(e.sub p).map (Blk.frz id k es)=e'.sub p:=by
 cases h with
 |old h=>exact FrzB.get hX h p
 |any h=>exact h p
 |vs h=>
  cases p with
  |nil=>simp only[Ent.sub,Option.map_some,h]
  |cons=>rfl
theorem FrzS2.get{k:Nat}{es:List (List I)}{X:C→C→Prop}(hX:∀c c',X c c'→c.frz id k es=c'):∀{σ σ2:b6},FrzS2 id k es X σ σ2→∀i:Id,(σ[i]?).map (Option.map (Blk.frz id k es))=σ2[i]?
 |[],[],_,i=>rfl
 |[],_::_,h,_=>h.elim
 |_::_,[],h,_=>h.elim
 |e::r,e'::r',h,(0,p)=>by
  rw[b6.at_eq,b6.at_eq]
  simp only[b6.at,List.getElem?_cons_zero,Option.map_some,FrzE.get hX h.1 p]
 |e::r,e'::r',h,(i+1,p)=>by
  have:=FrzS2.get hX h.2 (i,p)
  rw[b6.at_eq,b6.at_eq] at this ⊢
  simpa[b6.at] using this
theorem FrzS2.len{k:Nat}{es:List (List I)}{X:C→C→Prop}:∀{σ σ2:b6},FrzS2 id k es X σ σ2→σ2.length=σ.length
 |[],[],_=>rfl
 |[],_::_,h=>h.elim
 |_::_,[],h=>h.elim
 |e::r,e'::r',h=>by simp[FrzS2.len h.2]
theorem Sub.frzW{g:β→List I}{M:List β}{k:Nat}{env2:Env}{σ1 σ2:b6}(hid:Nat.ble σ0.length id.1=true)(hσ:σv[id]? =some (some (vec k g M)))(henv:P0 id (XRow id M.length (row k g M)) env env2)(h1:putF σv id none=some σ1)(hst:FrzS2 id k (M.map g) (XRow id M.length (row k g M)) σ1 σ2):Sub σ0 ⟨env,σv⟩ ⟨env2,σ2⟩:=by
 have h2:=A6 h1
 subst h2
 have hX:=XRow.eq (f:=g) (l:=M) (id:=id) (k:=k)
 have hf:=Sub.frz (σ0:=σ0) (s:=⟨env,σv⟩) id k (M.map g) (Nat.le_of_ble_eq_true hid) hσ
 have hs:Sub σ0 (St.frz ⟨env,σv⟩ id k (M.map g)) ⟨env.map fun p=>(p.1,p.2.frz id k (M.map g)),σ2⟩:=Sub.same (by rw[hst.len];simp[St.frz]) (fun i=>by rw[← FrzS2.get hX hst i,b6.get_map])
 refine(hf.trans hs).trans (fun _ _ φ _ _ _ hR=>⟨φ,{toRs:=hR.toRs,defers:=hR.defers,asize:=hR.asize,env:=fun t v ht=>hR.env t v ?_}⟩)
 show lookup t (env.map fun p=>(p.1,p.2.frz id k (M.map g)))=some v
 rw[X9 (fun v=>v.frz id k (M.map g))]
 exact P0.get hX henv t v ht
theorem S.storeS{x y:Od}{t:Ti}{bytes:Nat}{z:Vl}[hs:TyS P t 1 bytes z](hp:p<l.length)(hf:∀a,∃u,f a=[u])(hx:ev env x=some (.c (.ptr id p 0)))(hy:ev env y=some (.c (.own n 0 m)))
  (hσ:σv[id]? =some (some (vec 1 f l))) (hσ':putF σv id (some (vecS f l p n m))=some σ') (h:AOps P σ0 sz ops Q rest (St.mk env σ')):AOps P σ0 sz ops Q (⟨none,.store t x y,ty,pos,after,none⟩::rest) (St.mk env σv):=by
 have h2:=A6 hσ'
 subst h2
 obtain⟨u,hu⟩:=hf l[p]
 refine AOps.store (e:=[.imm u]) hx hy hσ ?_ (by simp) ?_
 ·simp[hp,hu]
 ·exact h
theorem S.loadS{x:Od}{t:Ti}{d:TypeDesc}[ht:TyD P t d](ha:x7 d=false)(hp:p<l.length)(hx:ev env x=some (.c (.ptr id p 0)))(hσ:σv[id]? =some (some (vecS f l p n m)))(hd:f8 sz dst=true)
  (h:AOps P σ0 sz ops Q rest (St.mk (putE env dst (.c (.own n 0 m))) σv)):AOps P σ0 sz ops Q (⟨dst,.load t x,ty,pos,after,none⟩::rest) (St.mk env σv):=
 AOps.load (e:=[.own n 0 m]) ha hx hσ (by simp[hp]) rfl hd h
theorem S.idxS{x y:Od}{t e:Ti}{bytes q:Nat}{z:Vl}{kk:IntKind}{i:Int}[ht:TyD P t (.slice e)][hs:TyS P e 1 bytes z]
  (hp:p<l.length) (hi:0≤i∧i.toNat=p) (hx:ev env x=some (.c (.own id 0 q))) (hn:q=l.length) (hσ:σv[id]? =some (some (vecS f l p n m))) (hy:ev env y=some (.c (.imm (.val (.int kk i))))) (hd:f8 sz dst=true)
  (h:AOps P σ0 sz ops Q rest (St.mk (putE env dst (.c (.ptr id p 0))) σv)):AOps P σ0 sz ops Q (⟨dst,.indexAddr t x y,ty,pos,after,none⟩::rest) (St.mk env σv):=
 .indexAddrOwn hx hσ hy (by obtain⟨h0,h1⟩:=hi;subst hn;omega) hd (by obtain⟨h0,h1⟩:=hi;rw[Nat.zero_add,h1];exact h)
theorem ix_pos{l:List α}{i:Int}{a:α}(h:ix l i=some a):0≤i∧i.toNat=i.toNat:=⟨(I4 h).1,rfl⟩
end
end Ab
end
section
namespace Ab
open Go
/-! ### What the slots hold that rounds read -/
section
variable {w:World}{φ:Phi}{σ:b6}{A:Nat→Prop}
end
section
variable {P:Program}{σ0:b6}{sz:Nat}{Q:Post}{env env':Env}{σv σ' σb:b6}{ops:Array Oper}{rest:List Oper}{dst:Option Nat}{ty:Ti}{pos:String}{after:Array Edge}
variable {szc:Nat}{ps:List Nat}{asg body:Code}{sh:List (Nat×Option Nat)}{cs:List C}
end
end Ab
end
section
namespace Ab
open Go
def DatL:List C→List I→Prop
 |[],[]=>True
 |c::r,x::s=>(c=.imm x∨c=.imm (.val (.slice none 0 0))∧∃k,x=.sl k [])∧DatL r s
 |_,_=>False
def DatLL:List (List C)→List (List I)→Prop
 |[],[]=>True
 |c::r,x::s=>DatL c x∧DatLL r s
 |_,_=>False
theorem DatL.get:∀{l:List C} {m:List I},DatL l m→l.length=m.length∧∀(i:Nat) (x:I),m[i]? =some x→∃c,l[i]? =some c∧∀{w:World} {φ:Phi} {σ:b6} {A:Nat→Prop} {u:Vl},RelC w φ σ A c u→RelI w A x u
 |[],[],_=>⟨rfl,fun i x h=>by simp at h⟩
 |[],_::_,h=>h.elim
 |_::_,[],h=>h.elim
 |c::r,x::s,⟨h1,h2⟩=>by
  obtain⟨g1,g2⟩:=DatL.get h2
  refine⟨by simp[g1],fun i y hy=> ?_⟩
  cases i with
  |zero=>
   simp only[List.getElem?_cons_zero,Option.some.injEq] at hy
   subst hy
   refine⟨c,rfl,fun {w φ σ A u} hr=> ?_⟩
   rcases h1 with rfl|⟨rfl,k,rfl⟩
   ·cases hr with|imm h=>exact h
   ·cases hr with|imm h=>cases h with|val=>exact .slNil
  |succ i=>simpa using g2 i y (by simpa using hy)
theorem DatLL.get:∀{l:List (List C)} {m:List (List I)},DatLL l m→l.length=m.length∧∀(i:Nat) (x:List I),m[i]? =some x→∃c,l[i]? =some c∧DatL c x
 |[],[],_=>⟨rfl,fun i x h=>by simp at h⟩
 |[],_::_,h=>h.elim
 |_::_,[],h=>h.elim
 |c::r,x::s,⟨h1,h2⟩=>by
  obtain⟨g1,g2⟩:=DatLL.get h2
  refine⟨by simp[g1],fun i y hy=> ?_⟩
  cases i with
  |zero=>simp only[List.getElem?_cons_zero,Option.some.injEq] at hy;subst hy;exact⟨c,rfl,h1⟩
  |succ i=>simpa using g2 i y (by simpa using hy)
section
variable {P:Program}{σ0:b6}{sz:Nat}{Q:Post}{env env':Env}{σv σ':b6}{ops:Array Oper}{rest:List Oper}{dst:Option Nat}{ty:Ti}{pos:String}{after:Array Edge}
end
end Ab
end
section
namespace Ab
open Go
section
variable {P:Program}{σ0:b6}{sz:Nat}{Q:Post}{env:Env}{σv:b6}{ops:Array Oper}{rest:List Oper}{dst:Option Nat}{ty:Ti}{pos:String}{after:Array Edge}
theorem AOps.max3{x y z:Od}{ts:Array Ti}{k:IntKind}{a1 a2 a3:Int}(h1:ev env x=some (.c (.imm (.val (.int k a1)))))(h2:ev env y=some (.c (.imm (.val (.int k a2)))))(h3:ev env z=some (.c (.imm (.val (.int k a3)))))(hd:f8 sz dst=true)
  (h:AOps P σ0 sz ops Q rest (St.mk (putE env dst (.c (.imm (.val (.int k (max (max a1 a2) a3)))))) σv)):AOps P σ0 sz ops Q (⟨dst,.call ⟨.builtin .max,#[x,y,z],ts⟩,ty,pos,after,none⟩::rest) (St.mk env σv):=
 .value rfl hd _ (fun _ _ a w hR=>⟨.int k (max (max a1 a2) a3),by
  simp[execOp,u4 hR h1,u4 hR h2,u4 hR h3,resolve,invoke,builtin,Builtin.max_,Builtin.max2]
  repeat' split
  all_goals omega,.c (.imm (.val rfl))⟩) h
end
end Ab
end
section
namespace Ab
open Go
section
variable {P:Program}{σ0:b6}{sz:Nat}{Q:Post}{env:Env}{σv:b6}{ops:Array Oper}{rest:List Oper}{dst:Option Nat}{ty:Ti}{pos:String}{after:Array Edge}
theorem AOps.makeFuncB{f:FuncId}{l:List Od}{cs:List C}(hl:evC env l=some cs)(hd:f8 sz dst=true)
  (h:AOps P σ0 sz ops Q rest (St.mk (putE env dst (.c (.fnb f cs))) σv)):AOps P σ0 sz ops Q (⟨dst,.makeFunc (.func f) l.toArray #[],ty,pos,after,none⟩::rest) (St.mk env σv):=
 .value rfl hd _ (fun Γ φ a w hR=>by
  obtain⟨g1,g2⟩:=evC_rel hR hl
  refine⟨.func (.func f) ((List.range cs.length).map fun i=>((l.map a.eval)[i]?).getD Go.undef).toArray #[],?_,.c (.fnb _ fun i c hi=> ?_)⟩
  ·have:(List.range cs.length).map (fun i=>((l.map a.eval)[i]?).getD Go.undef)=l.map a.eval:=by
    apply List.ext_getElem?
    intro i
    by_cases hi:i<l.length
    ·simp[g1,hi]
    ·simp[g1,hi]
   rw[this]
   simp[execOp,Instr.makeFunc]
  ·obtain⟨v,hv,hr⟩:=g2 i c hi
   rw[hv];exact hr) h
theorem fnb_inv{w:World}{φ:Phi}{σ:b6}{A:Nat→Prop}{f:FuncId}{caps:List C}{u:Vl}(h:RelT w φ σ A (.c (.fnb f caps)) u):∃vs:List Vl,u=.func (.func f) vs.toArray #[]∧vs.length=caps.length∧∀(i:Nat) (c:C) (v:Vl),caps[i]? =some c→vs[i]? =some v→RelC w φ σ A c v:=by
 cases h with|c h=>cases h with|fnb us hr=>
  refine⟨_,rfl,by simp,fun i c v hi hv=> ?_⟩
  rw[lM,oM] at hv
  obtain⟨j,hj,rfl⟩:=hv
  obtain⟨_,rfl⟩:=H0 hj
  exact hr i c hi
theorem call_enterB{Γ:Cx}{φ:Phi}{a:Act}{w:World}(hR:R Γ sz (St.mk env σv) φ a w){x:Od}{as':List Od}{ats:Array Ti}{f:FuncId}{caps:List C}{ts:List T}(hx:ev env x=some (.c (.fnb f caps)))(ha:evs env as'=some ts)
  (hfn : ∃ fn, P.funcs[f]? = some fn ∧ (fn.name == "runtime.NumGoroutine")=false∧fn.body.isNone=false):
  ∃vs:List Vl,(execOp a.eval ⟨dst,.call ⟨.value x,as'.toArray,ats⟩,ty,pos,after,none⟩).run P w=.ok (.enter f vs.toArray) w∧(caps.map T.c++ts).length=vs.length∧
   ∀(i:Nat) (t:T) (u:Vl),(caps.map T.c++ts)[i]? =some t→vs[i]? =some u→RelT w φ σv (Al Γ.N φ σv) t u:=by
 obtain⟨fn,h1,h2,h3⟩:=hfn
 obtain⟨cv,g1,g2,g3⟩:=fnb_inv (i4 hR hx)
 obtain⟨k1,k2⟩:=evs_rel hR ha
 refine⟨cv++as'.map a.eval,?_,by simp[k1,g2],fun i t u hi hu=> ?_⟩
 ·have h2':¬ fn.name= "runtime.NumGoroutine" :=by simpa using h2
  have h3':¬ fn.body=none:=fun e=>by rw[e] at h3;cases h3
  simp[execOp,resolve,g1,Deferred.ofValue,invoke,callFunc,h1,h2',h3']
 ·rw[List.getElem?_append] at hi hu
  by_cases hlt:i<caps.length
  ·rw[if_pos (by simpa using hlt)] at hi
   rw[if_pos (by omega)] at hu
   rw[lM,oM] at hi
   obtain⟨c,hc,rfl⟩:=hi
   exact .c (g3 i c u hc hu)
  ·rw[if_neg (by simpa using hlt)] at hi
   rw[if_neg (by omega)] at hu
   simp only[List.length_map] at hi
   rw[g2] at hu
   exact k2 _ t u hi hu
theorem AOps.callFB{x:Od}{as':List Od}{ats:Array Ti}{f:FuncId}{caps:List C}{ts:List T}{r2:T}{σ'':b6}(hx:ev env x=some (.c (.fnb f caps)))(ha:evs env as'=some ts)(hd:f8 sz dst=true)
  (hf:FnOk P f (caps.map T.c++ts) σv fun r s=>r=r2∧s=σ'') (h:AOps P σ0 sz ops Q rest (St.mk (putE env dst r2) σ'')):
  AOps P σ0 sz ops Q (⟨dst,.call ⟨.value x,as'.toArray,ats⟩,ty,pos,after,none⟩::rest) (St.mk env σv):=fun Γ φ a w hΓ hR ro=>by
  obtain⟨vs,h1,h2,h3⟩:=call_enterB (P:=P) (dst:=dst) (ty:=ty) (pos:=pos) (after:=after) (ats:=ats) hR hx ha hf.fn
  refine P7 rfl (ah3 h1 ?_)
  refine(hf.run ⟨w,Γ.N,φ,σv⟩ vs rfl hR.toRs.down h2 h3).mono ?_
  rintro e w' ⟨v,r,σ',φ',rfl,⟨rfl,rfl⟩,hr,hs⟩
  exact h Γ φ' _ w' hΓ ((hR.of hs.kept (hR.toRs.up hs)).put hd hr) ro
end
/-! ### Maps whose values are structs of plain cells -/
section
variable {P:Program}{σ0:b6}{sz:Nat}{Q:Post}{env:Env}{σv σ':b6}{ops:Array Oper}{rest:List Oper}{dst:Option Nat}{ty:Ti}{pos:String}{after:Array Edge}
variable {K V:Type}[DecidableEq K]{d:TypeDesc}{fk:K→Vl}{gv:V→List Vl}
end
end Ab
end
section
namespace Ab
open Go
theorem Rs.adopt{Γ:Cx}{σ:b6}{φ:Phi}{w w':World}(h:Rs Γ σ φ w)(hos:w'.os=w.os)(ht:w'.tape=w.tape)(hdr:w.drawn≤w'.drawn)(ho:w'.output=w.output)(hs:w.heap.size≤w'.heap.size)(hold:∀b,b<w.heap.size→w'.heap[b]? =w.heap[b]?)
  {k:Nat} {es:List (List C)} {q:Option (Nat×Nat)} (hq:∀b base,q=some (b,base)→w.heap.size≤b) (hblk:∀φ σ A,BlkR w' φ σ A q (.cells k es)):
  Kept w w' φ (fun i=>if i=(σ.length,[]) then q else φ i) σ (σ++[.one (.cells k es)]) (Al Γ.N φ σ) (Al Γ.N (fun i=>if i=(σ.length,[]) then q else φ i) (σ++[.one (.cells k es)]))∧
  Rs Γ (σ++[.one (.cells k es)]) (fun i=>if i=(σ.length,[]) then q else φ i) w':=by
 generalize hφ:(fun i=>if i=(σ.length,[]) then q else φ i)=φ'
 have plo:∀i:Id,i.1<σ.length→φ' i=φ i:=fun i hi=>by
  have:i ≠ (σ.length,[]):=fun e=>by rw[e] at hi;exact Nat.lt_irrefl _ hi
  rw[← hφ];simp[this]
 have pnew:φ' (σ.length,[])=q:=by rw[← hφ];simp
 have cases2:∀(i:Id) blk,(σ++[.one (.cells k es)])[i]? =some (some blk)→(i.1<σ.length∧σ[i]? =some (some blk))∨(i=(σ.length,[])∧blk=.cells k es):=fun i blk hi=>b6.get_new hi
 have A1:∀b,Al Γ.N φ σ b→b<w.heap.size→Al Γ.N φ' (σ++[.one (.cells k es)]) b:=fun b hb hl=>⟨hb.1,fun i blk base hi hp=>by
  rcases cases2 i blk hi with⟨h1,h2⟩|⟨rfl,rfl⟩
  ·rw[plo i h1] at hp;exact hb.2 i blk base h2 hp
  ·rw[pnew] at hp;have:=hq b base hp;omega⟩
 have hK:Kept w w' φ φ' σ (σ++[.one (.cells k es)]) (Al Γ.N φ σ) (Al Γ.N φ' (σ++[.one (.cells k es)])):=
  {imm:=fun b _ hl=>hold b hl,all:=A1,len:=by simp,
   cells:=fun i kk es' hi he=>by
    rw[b6.get_left hi] at he
    exact⟨es',he,rfl,plo i hi,fun b base arr ety hp hb=>⟨arr,(hold b (Al.own_lt h.st he hp)).trans hb,rfl⟩⟩,
   obj:=fun i p' cs' hi he=>by
    rw[b6.get_left hi] at he
    exact⟨plo i hi,p',cs',he⟩}
 refine⟨hK,?_⟩
 exact {
  good:=h.good
  st:=⟨fun i b hi=>by
    rcases cases2 i b hi with⟨h1,h2⟩|⟨rfl,rfl⟩
    ·rw[plo i h1]
     exact(h.st.blk i b h2).mono hK fun g base hp=>hold g (Al.own_lt h.st h2 hp)
    ·rw[pnew]
     exact hblk _ _ _,
   fun i j bi bj p1 q1 hi hj hp hq1 he=>by
    obtain⟨pb,po⟩:=p1
    obtain⟨qb,qo⟩:=q1
    dsimp only at he
    subst he
    rcases cases2 i bi hi with⟨h1,h2⟩|⟨rfl,rfl⟩<;>rcases cases2 j bj hj with⟨g1,g2⟩|⟨rfl,rfl⟩
    ·rw[plo i h1] at hp;rw[plo j g1] at hq1
     exact h.st.inj i j bi bj _ _ h2 g2 hp hq1 rfl
    ·rw[plo i h1] at hp;rw[pnew] at hq1
     have:=Al.own_lt h.st h2 hp;have:=hq _ _ hq1;omega
    ·rw[plo j g1] at hq1;rw[pnew] at hp
     have:=Al.own_lt h.st g2 hq1;have:=hq _ _ hp;omega
    ·rfl⟩
  keep:=fun i blk b base hi hp hKb=>by
   rcases cases2 i blk hi with⟨h1,h2⟩|⟨rfl,rfl⟩
   ·rw[plo i h1] at hp;exact h.keep i blk b base h2 hp hKb
   ·rw[pnew] at hp
    have:=hq _ _ hp
    have:=hKb.1;have:=h.size;omega
  os:=hos.trans h.os
  tape:=ht.trans h.tape
  drawn:=Nat.le_trans h.drawn hdr
  output:=ho.trans h.output
  size:=Nat.le_trans h.size hs
  block:=fun b hKb=>(hold b (Nat.lt_of_lt_of_le hKb.1 h.size)).trans (h.block b hKb)
  kept:=Kept.trans h.size h.kept hK}
section
variable {P:Program}{σ0:b6}{sz:Nat}{Q:Post}{env:Env}{σv σ':b6}{ops:Array Oper}{rest:List Oper}{dst:Option Nat}{ty:Ti}{pos:String}{after:Array Edge}
theorem S.freshL{α:Type}{g:α→List I}{l:List α}{x:Od}{as':List Od}{ats:Array Ti}{f:FuncId}{caps:List C}{ts ts':List T}{k:Nat}{n:Id}(hg:∀a,((g a).map C.imm).all C.scal=true)(hx:ev env x=some (.c (.fn f caps)))(ha:evs env as'=some ts)(hl:X3 σv (ts++caps.map T.c) ts')(hd:f8 sz dst=true)
  (hf:m8 P f ts' k (l.map g)) (hn:newF σv=some n) (hσ:q9 σv (.one (vec k g l))=some σ') (h:AOps P σ0 sz ops Q rest (St.mk (putE env dst (.c (.own n 0 l.length))) σ')):
  AOps P σ0 sz ops Q (⟨dst,.call ⟨.value x,as'.toArray,ats⟩,ty,pos,after,none⟩::rest) (St.mk env σv):=by
 have h1:=y7 hn;have h2:=m7 hσ
 subst h1 h2
 intro Γ φ a w hΓ hR ro
 obtain⟨vs,h1,h2,h3⟩:=ae6 (P:=P) (dst:=dst) (ty:=ty) (pos:=pos) (after:=after) (ats:=ats) hR hx ha hf.fn
 obtain⟨l1,l2⟩:=hl.get
 refine P7 rfl (ah3 h1 ?_)
 refine(hf.run (Cx.open w) vs rfl (good_open w) (by rw[l1];exact h2) (fun i t u hi hu=> ?_)).mono ?_
 ·obtain⟨t0,ht0,hlend⟩:=l2 i t hi
  exact hlend.rel hR (al_open w) (h3 i t0 u ht0 hu)
 ·rintro e w' ⟨v,r',σ2,φ',rfl,⟨id',rfl,hid⟩,hrel,hs⟩
  have hview:=A9 hrel hid
  have hb:=hs.st.blk _ _ hid
  have hnew:∀b base,φ' id'=some (b,base)→w.heap.size≤b:=fun b base hp=>by
   have:=hs.keep id' _ b base hid hp
   rcases Nat.lt_or_ge b w.heap.size with c|c
   ·exact absurd ⟨c,fun i blk base hi=>by simp[Cx.open] at hi⟩ this
   ·exact c
  have scal:∀(j:Nat) (e:List C) (o:Nat) (y:C),((l.map g).map (·.map C.imm))[j]? =some e→e[o]? =some y→y.scal=true:=fun j e o y he hy=>by
   simp only[List.map_map,lM,oM,Function.comp_apply] at he
   obtain⟨z,_,rfl⟩:=he
   have:=List.all_eq_true.1 (hg z)
   exact this y (List.mem_of_getElem? hy)
  obtain⟨hK1,hR1⟩:=hR.toRs.adopt (w':=w') hs.os hs.tape hs.drawn hs.output hs.size (fun b hb=>hs.block b ⟨hb,fun i blk base hi=>by simp[Cx.open] at hi⟩) (k:=k) (es:=(l.map g).map (·.map C.imm)) (q:=φ' id') hnew (fun φ σ A=>by
   rcases hb with h|⟨b,base,arr,ety,p1,p2,p3,p4,p5⟩
   ·exact .inl h
   ·refine .inr ⟨b,base,arr,ety,p1,p2,p3,p4,fun j e o y he hy=> ?_⟩
    obtain⟨u,hu,hr⟩:=p5 j e o y he hy
    exact⟨u,hu,C.scal_rel (scal j e o y he hy) hr⟩)
  have hlen:(l.map g).length=l.length:=List.length_map ..
  refine h Γ _ _ w' hΓ ((hR.of hK1 hR1).put hd ?_) ro
  refine E5 (k:=k) (es:=(l.map g).map (·.map C.imm)) (b6.get_last _ _) (by cases hrel with|c hr=>exact hr.one) ?_
  rw[hlen] at hview
  simpa using hview
end
end Ab
end
section
namespace Ab
open Go
def mvr(r n:Nat)(i:Id):Id:=((match Nat.beq i.1 r with|true=>n|false=>i.1),i.2)
theorem am4{r n:Nat}{i:Id}(h:i.1=r):mvr r n i=(n,i.2):=by
 have:Nat.beq i.1 r=true:=by rw[h];exact Nat.beq_refl r
 simp only[mvr,this]
theorem mvr_ne{r n:Nat}{i:Id}(h:i.1 ≠ r):mvr r n i=i:=by
 have:Nat.beq i.1 r=false:=X8 h
 simp only[mvr,this]
section
variable {P:Program}{σ0:b6}{sz:Nat}{Q:Post}{env env':Env}{σv σ':b6}{ops:Array Oper}{rest:List Oper}{dst:Option Nat}{ty:Ti}{pos:String}{after:Array Edge}
inductive EntR(r n:Nat)(σ:b6)(m i:Nat):Ent→Prop
 |dead:EntR r n σ m i .dead
 |one {b:Blk} (h1:b.ok m=true) (h2:σ[mvr r n (i,[])]? =some (some (b.ren (mvr r n)))):EntR r n σ m i (.one b)
 |vec {α:Type} {k:Nat} {f:α→List I} {l:List α} (h2:σ[mvr r n (i,[])]? =some (some (vec k f l))):EntR r n σ m i (.one (vec k f l))
 |mat {α:Type} {k j:Nat} {f:α→List I} {M:List (List α)} (hj:(mvr r n (i,[])).1=j) (hi:Nat.blt i m=true) (h:σ[j]? =some (mat (j,[]) k f M)):EntR r n σ m i (mat (i,[]) k f M)
 |any {e:Ent} (h:∀p b,e.sub p=some b→b.ok m=true∧σ[mvr r n (i,p)]? =some (some (b.ren (mvr r n)))):EntR r n σ m i e
def StR_(r n:Nat)(σ:b6)(m:Nat):Nat→b6→Prop
 |_,[]=>True
 |i,e::l=>EntR r n σ m i e∧StR_ r n σ m (i+1) l
theorem EntR.get{r n:Nat}{σ:b6}{m i:Nat}{e:Ent}(h:EntR r n σ m i e){p:List Nat}{b:Blk}(hb:e.sub p=some b):b.ok m=true∧σ[mvr r n (i,p)]? =some (some (b.ren (mvr r n))):=by
 cases h with
 |dead=>cases p<;>cases hb
 |one h1 h2=>cases p with
  |nil=>cases hb;exact⟨h1,h2⟩
  |cons=>cases hb
 |vec h2=>cases p with
  |nil=>cases hb;exact⟨M4,by rw[Blk.im_ren];exact h2⟩
  |cons=>cases hb
 |@mat α k j f M hj hi h=>
  have hi':i<m:=by simpa using hi
  have e:∀q,mvr r n (i,q)=(j,q):=fun q=>by rw[← hj];rfl
  rw[e,m9 h]
  cases p with
  |nil=>
   cases hb
   refine⟨hdr_ok hi' _,?_⟩
   rw[mat_main]
   congr 2
   simp only[Blk.ren]
   congr 1
   apply List.ext_getElem?
   intro q
   rw[lM]
   simp only[hdr,List.getElem?_mapIdx,Option.map_map]
   cases M[q]? with
   |none=>rfl
   |some row=>simp[C.renL,C.ren,e]
  |cons a q=>
   rw[F6] at hb ⊢
   split at hb
   ·rename_i row hrow
    cases q with
    |cons b q=>cases hb
    |nil=>cases hb;exact⟨M4,by rw[Blk.im_ren]⟩
   ·cases hb
 |any h=>exact h p b hb
theorem StR_.get{r n m:Nat}{σ:b6}:∀{i:Nat} {σ':b6},StR_ r n σ m i σ'→∀(j:Nat) (p:List Nat) (b:Blk),σ'[((j,p):Id)]? =some (some b)→b.ok m=true∧σ[mvr r n (i+j,p)]? =some (some (b.ren (mvr r n)))
 |_,[],_,j,p,b,h=>by simp at h
 |i,e::l,h,0,p,b,hb=>by
  rw[b6.at_eq] at hb
  simp only[b6.at,List.getElem?_cons_zero,Option.some.injEq] at hb
  exact h.1.get hb
 |i,e::l,h,j+1,p,b,hb=>by
  have:=StR_.get (i:=i+1) h.2 j p b (by
   rw[b6.at_eq] at hb ⊢
   simpa[b6.at] using hb)
  rwa [show i+1+j=i+(j+1) by omega] at this
def EnvR(r n:Nat)(env:Env):Env→Prop
 |[]=>True
 |(t,v)::l=>lookup t env=some (v.ren (mvr r n))∧EnvR r n env l
theorem EnvR.get{r n:Nat}:∀{env':Env},EnvR r n env env'→∀t v,lookup t env'=some v→lookup t env=some (v.ren (mvr r n))
 |[],_,t,v,h=>by simp[lookup] at h
 |(k,x)::l,⟨h1,h2⟩,t,v,h=>by
  simp only[lookup] at h
  split at h
  ·rename_i he;cases h;rw[← Nat.eq_of_beq_eq_true he];exact h1
  ·exact EnvR.get h2 t v h
def deadR(σ:b6)(n:Nat):Bool:=match σ[n]? with
 |some .dead=>true
 |some _=>false
 |none=>true
theorem Sub.moveM(r n:Nat)(h0:Nat.ble σ0.length r=true)(hl:Nat.ble σ0.length σ'.length=true)(hn:deadR σ' n=true)(henv:EnvR r n env env')(he:Q5 σ'.length env'=true)(hst:StR_ r n σv σ'.length 0 σ'):Sub σ0 ⟨env,σv⟩ ⟨env',σ'⟩:=by
 have h0':=Nat.le_of_ble_eq_true h0
 have hd:∀(p:List Nat) b,σ'[((n,p):Id)]? ≠ some (some b):=fun p b hb=>by
  rw[b6.at_eq] at hb
  simp only[b6.at] at hb
  simp only[deadR] at hn
  split at hb
  ·rename_i e hx
   rw[hx] at hn
   cases e with
   |dead=>cases p<;>cases hb
   |one=>cases hn
   |node=>cases hn
  ·cases hb
 refine Sub.mk (mvr r n) (fun i hi=>mvr_ne (fun e=>by omega)) (Nat.le_of_ble_eq_true hl) (fun i j b b' hi hj h=> ?_) (fun i b hi=> ?_) (fun t v ht=>⟨W2 he t v ht,henv.get t v ht⟩)
 ·by_cases h1:i.1=r<;>by_cases h2:j.1=r
  ·rw[am4 h1,am4 h2] at h
   exact Prod.ext (h1.trans h2.symm) (Prod.mk.inj h).2
  ·rw[am4 h1,mvr_ne h2] at h
   subst h;exact absurd hj (hd _ _)
  ·rw[am4 h2,mvr_ne h1] at h
   subst h;exact absurd hi (hd _ _)
  ·rwa [mvr_ne h1,mvr_ne h2] at h
 ·have:=hst.get i.1 i.2 b hi
  rwa [Nat.zero_add] at this
theorem AWP.moveM{c:Code}(r n:Nat)(h0:Nat.ble σ0.length r=true)(hl:Nat.ble σ0.length σ'.length=true)(hn:deadR σ' n=true)(henv:EnvR r n env env')(he:Q5 σ'.length env'=true)(hst:StR_ r n σv σ'.length 0 σ')(h:AWP P σ0 sz c Q (St.mk env' σ')):AWP P σ0 sz c Q (St.mk env σv):=
 AWP.sub (Sub.moveM r n h0 hl hn henv he hst) h
/-! ### A row of nothing appended to rows -/
end
end Ab
end
section
namespace Ab
open Go
section
variable {P:Program}{σ0:b6}{sz:Nat}{Q:Post}{env env':Env}{σv σ':b6}
theorem Sub.virtBM{α:Type}(k:Nat)(f:α→List I){b:Id}{n kb o:Nat}{cs cs':List C}{σ1 σ3 σ4:b6}(hb:σv[b]? =some (some (.cells kb [cs])))(hc:cs[o]? =some (.imm (.val (.slice none 0 0))))(hn:newF σv=some (n,[]))(h1:q9 σv (mat (n,[]) k f [])=some σ1)
  (hs:setF cs o (.own (n,[]) 0 ([]:List (List α)).length)=some cs') (hσ':putF σ1 b (some (.cells kb [cs']))=some σ') (h3:q9 σv (.one (vec 1 (fun _:α=>([]:List I)) ([]:List α)))=some σ3) (h4:putF σ3 b (some (.cells kb [cs']))=some σ4):Sub σ0 ⟨env,σv⟩ ⟨env,σ'⟩:=by
 have g1:=y7 hn;have g2:=m7 h1;have g4:=A6 hσ'
 cases g1
 subst g2 g4
 have e3:=m7 h3;have e4:=A6 h4
 subst e3 e4
 have hbl:=b6.lt_of hb
 have hb3:(σv++[.one (vec 1 (fun _:α=>([]:List I)) ([]:List α))])[b]? =some (some (.cells kb [cs])):=by rw[b6.get_left hbl];exact hb
 refine(Sub.virtB (α:=α) 1 (fun _=>[]) hb hc hn h3 hs h4).trans (Sub.same (by simp) fun i=> ?_)
 have hbm:(σv++[mat (σv.length,[]) k f ([]:List (List α))])[b]? =some (some (.cells kb [cs])):=by rw[b6.get_left hbl];exact hb
 by_cases hi:i=b
 ·subst hi
  rw[b6.get_put_eq hb3,b6.get_put_eq hbm]
 ·rw[b6.get_put_ne hi,b6.get_put_ne hi]
  rcases Nat.lt_or_ge i.1 σv.length with hl|hl
  ·rw[b6.get_left hl,b6.get_left hl]
  ·rw[b6.get_right hl,b6.get_right hl]
   obtain⟨i1,q⟩:=i
   rw[b6.at_eq,b6.at_eq]
   simp only[b6.at]
   cases i1 - σv.length with
   |zero=>cases q<;>rfl
   |succ m=>rfl
theorem AWP.virtBM{α:Type}{c:Code}(k:Nat)(f:α→List I){b:Id}{n kb o:Nat}{cs cs':List C}{σ1 σ3 σ4:b6}(hb:σv[b]? =some (some (.cells kb [cs])))(hc:cs[o]? =some (.imm (.val (.slice none 0 0))))(hn:newF σv=some (n,[]))(h1:q9 σv (mat (n,[]) k f [])=some σ1)
  (hs:setF cs o (.own (n,[]) 0 ([]:List (List α)).length)=some cs') (hσ':putF σ1 b (some (.cells kb [cs']))=some σ') (h3:q9 σv (.one (vec 1 (fun _:α=>([]:List I)) ([]:List α)))=some σ3) (h4:putF σ3 b (some (.cells kb [cs']))=some σ4) (h:AWP P σ0 sz c Q ⟨env,σ'⟩):AWP P σ0 sz c Q ⟨env,σv⟩:=AWP.sub (Sub.virtBM k f hb hc hn h1 hs hσ' h3 h4) h
end
end Ab
end
section
namespace Ab
open Go
section
variable {P:Program}{σ0:b6}{sz:Nat}{Q:Post}{env env':Env}{σv σ':b6}{ops:Array Oper}{rest:List Oper}{dst:Option Nat}{ty:Ti}{pos:String}{after:Array Edge}
/-! ### Calls through an interface -/
class MethF (P:Program) (t:Ti) (name:String) (f:outParam FuncId) (b:outParam Bool):Prop where
 h:((P.info? t).bind fun i=>(i.methods.find? (·.name==name)).map fun m=>(m.path.toList,m.func))=some ([],some (f,b))
theorem MethF.get{t:Ti}{name:String}{f:FuncId}{b:Bool}[h:MethF P t name f b]:∃i m,P.info? t=some i∧i.methods.find? (·.name==name)=some m∧m.path=#[]∧m.func=some (f,b):=by
 obtain⟨i,h1,h2⟩:=Option.bind_eq_some_iff.1 h.h
 obtain⟨m,h3,h4⟩:=oM.1 h2
 simp only[Prod.mk.injEq] at h4
 exact⟨i,m,h1,h3,by simpa using h4.1,h4.2⟩
/-! ### Maps: how many keys -/
/-! ### Maps whose values are nothing (sets) -/
end
/-! ### A struct without fields -/
/-! ### Contracts with two kinds of ends -/
end Ab
end
section
namespace Ab
open Go
section
variable {α:Type}
/-! ### Rows and maps of pointers among other blocks -/
section
variable {K:Type}{fk:K→Vl}{r:Nat}{m:List (K×Int)}
end
end
section
variable {P:Program}{σ0:b6}{sz:Nat}{Q:Post}{env env':Env}{σv σ':b6}{ops:Array Oper}{rest:List Oper}{dst:Option Nat}{ty:Ti}{pos:String}{after:Array Edge}
/-! ### Rows of pointers -/
/-! ### Entries -/
/-! ### Maps of pointers -/
section
variable {K:Type}[DecidableEq K]{V:Type}{fk:K→Vl}{d:TypeDesc}
end
/-! ### A view becomes a row of its own -/
/-! ### Places told by their bounds alone -/
end
end Ab
end
section
namespace Ab
open Go
section
variable {K α:Type}[DecidableEq K]
variable {fk:K→Vl}{f:α→List I}{m:List (K×List α)}{r k:Nat}
end
section
variable {P:Program}{σ0:b6}{sz:Nat}{Q:Post}{env env':Env}{σv σ':b6}{ops:Array Oper}{rest:List Oper}{dst:Option Nat}{ty:Ti}{pos:String}{after:Array Edge}
variable {K α:Type}[DecidableEq K]{fk:K→Vl}{d:TypeDesc}{f:α→List I}{m:List (K×List α)}{r k:Nat}
end
end Ab
end
section
namespace Ab
open Go
section
variable {P:Program}{σ0:b6}{sz:Nat}{Q:Post}{env:Env}{σv σ':b6}{ops:Array Oper}{rest:List Oper}{dst:Option Nat}{ty:Ti}{pos:String}{after:Array Edge}
theorem AOps.eqlNil{x y:Od}{t t' e:Ti}{k:Nat}{es:List (List I)}[ht:TyD P t (.slice e)](hx:ev env x=some (.c (.imm (.sl k es))))(hy:ev env y=some (.c (.imm (.val (.slice none 0 0)))))(hd:f8 sz dst=true)
  (h1:es=[]→AOps P σ0 sz ops Q rest (St.mk (putE env dst (.c (bool true))) σv)) (h2:AOps P σ0 sz ops Q rest (St.mk (putE env dst (.c (bool false))) σv)):
  AOps P σ0 sz ops Q (⟨dst,.binOp .eql t x y t',ty,pos,after,none⟩::rest) (St.mk env σv):=fun Γ φ a w hΓ hR ro=>by
  have hrel:=i4 hR hx
  have hyv:=u4 hR hy
  generalize hu:a.eval x=u at hrel
  cases hrel with|c hrel=>cases hrel with|imm hrel=>
  cases hrel with
  |slNil=>
   have hg:(eqGuard .eql t x y (.slice none 0 0) (.slice none 0 0)).run P w=.ok () w:=rfl
   have hr:(binOp .eql t (.slice none 0 0) (.slice none 0 0)).run P w=.ok (.bool true) w:=by
    show(do pure (Value.bool (← Op.equal t (.slice none 0 0) (.slice none 0 0)))).run P w=_
    simp[run_equal_slice_nil w t e none 0 0 ht.h]
   have hrun:(execOp a.eval ⟨dst,.binOp .eql t x y t',ty,pos,after,none⟩).run P w=.ok (.value (.bool true)) w:=by
    simp[execOp,hu,hyv,hg,hr]
   exact P7 rfl (val_in hrun (h1 rfl Γ φ _ w hΓ (hR.put hd (.c (.imm (.val rfl)))) ro))
  |@sl _ _ ad cap us _ _ _ _ _=>
   have hg:(eqGuard .eql t x y (.slice (some ad) es.length cap) (.slice none 0 0)).run P w=.ok () w:=rfl
   have hr:(binOp .eql t (.slice (some ad) es.length cap) (.slice none 0 0)).run P w=.ok (.bool false) w:=by
    show(do pure (Value.bool (← Op.equal t (.slice (some ad) es.length cap) (.slice none 0 0)))).run P w=_
    simp[run_equal_slice_nil w t e (some ad) es.length cap ht.h]
   have hrun:(execOp a.eval ⟨dst,.binOp .eql t x y t',ty,pos,after,none⟩).run P w=.ok (.value (.bool false)) w:=by
    simp[execOp,hu,hyv,hg,hr]
   exact P7 rfl (val_in hrun (h2 Γ φ _ w hΓ (hR.put hd (.c (.imm (.val rfl)))) ro))
end
end Ab
end
section
namespace Ab
open Go Go.Proofs
open Tryz
def q7(s:Li):Option Li:=app 8 [] s
theorem A4{s r:Li}(h:q7 s=some r):m8 prog 76 [.c (row 1 intI s)] 1 (List.map intI r):=by
 unfold q7 at h
 unfold m8
 refine FnOk.enter (rs:=[.t 2]) func76 rfl ntmps76 results76 rfl ⟨Y,Y⟩ (by kernel_rfl) rfl ?_
 refine AWP.j ?_
 refine AWP.U ?_
 refine AOps.E rfl rfl ?_
 refine AOps.nil ?_
 refine b5 ?_
 refine AWP.j ?_
 refine AWP.j ?_
 refine AWP.U ?_
 refine AOps.z rfl rfl ?_
 refine AOps.eqlNil rfl rfl rfl (fun he=> ?_) ?_
 ·have hs:s=[]:=by simpa using he
  subst hs
  have hr:r=[]:=by
   have:=af2 h
   simpa using this.2
  subst hr
  refine AOps.nil ?_
  refine b5 ?_
  refine AWP.condT rfl ?_
  refine AWP.j ?_
  refine AWP.U ?_
  refine AOps.E rfl rfl ?_
  refine AOps.nil ?_
  refine b5 ?_
  refine AWP.virtV 1 intI 2 rfl rfl rfl ?_
  refine AWP.ret ?_
  refine e7 ?_
  exact Done.ret rfl (Fresh.mk rfl rfl)
 ·refine AOps.nil ?_
  refine b5 ?_
  refine AWP.condF rfl ?_
  refine AWP.skip ?_
  refine b5 ?_
  refine AWP.j ?_
  refine AWP.U ?_
  refine S.lit (f:=intI) (l:=[]) (ess:=[]) rfl rfl rfl rfl rfl rfl rfl Y rfl rfl rfl ?_
  refine AOps.z rfl rfl ?_
  refine S.append (f:=intI) h rfl rfl rfl rfl rfl rfl .row rfl rfl rfl rfl ?_
  refine AOps.E rfl rfl ?_
  refine AOps.nil ?_
  refine b5 ?_
  refine AWP.ret ?_
  exact Done.ret rfl (Fresh.mk rfl rfl)
end Ab
end
section
namespace Ab
open Go Go.Proofs
open Tryz
abbrev rowI(l:Li):List I:=[.sl 1 (l.map intI)]
def w3(s:LL):Option (LL):=app 24 [] s
theorem I3{s r:LL}(h:w3 s=some r):m8 prog 38 [.c (row 1 rowI s)] 1 (List.map rowI r):=by
 unfold w3 at h
 unfold m8
 refine FnOk.enter (rs:=[.t 2]) func38 rfl ntmps38 results38 rfl ⟨Y,Y⟩ (by kernel_rfl) rfl ?_
 refine AWP.j ?_
 refine AWP.U ?_
 refine AOps.E rfl rfl ?_
 refine AOps.nil ?_
 refine b5 ?_
 refine AWP.j ?_
 refine AWP.j ?_
 refine AWP.U ?_
 refine AOps.z rfl rfl ?_
 refine AOps.eqlNil rfl rfl rfl (fun he=> ?_) ?_
 ·have hs:s=[]:=by simpa using he
  subst hs
  have hr:r=[]:=by
   have:=af2 h
   simpa using this.2
  subst hr
  refine AOps.nil ?_
  refine b5 ?_
  refine AWP.condT rfl ?_
  refine AWP.j ?_
  refine AWP.U ?_
  refine AOps.E rfl rfl ?_
  refine AOps.nil ?_
  refine b5 ?_
  refine AWP.virtV 1 rowI 2 rfl rfl rfl ?_
  refine AWP.ret ?_
  refine e7 ?_
  exact Done.ret rfl (Fresh.mk rfl rfl)
 ·refine AOps.nil ?_
  refine b5 ?_
  refine AWP.condF rfl ?_
  refine AWP.skip ?_
  refine b5 ?_
  refine AWP.j ?_
  refine AWP.U ?_
  refine S.lit (f:=rowI) (l:=[]) (ess:=[]) rfl rfl rfl rfl rfl rfl rfl Y rfl rfl rfl ?_
  refine AOps.z rfl rfl ?_
  refine S.append (f:=rowI) h rfl rfl rfl rfl rfl rfl .row rfl rfl rfl rfl ?_
  refine AOps.E rfl rfl ?_
  refine AOps.nil ?_
  refine b5 ?_
  refine AWP.ret ?_
  exact Done.ret rfl (Fresh.mk rfl rfl)
end Ab
end
section
namespace Ab
open Go Go.Proofs
open Tryz
set_option maxHeartbeats 4000000
attribute [local irreducible] AWP AOps thn inB Done e8 m8 Sub
abbrev u64(n:Int):C:=.imm (.val (.int .u64 n))
theorem and32(n:Nat)(hn:n≤4294967295):Go.bits .and .u64 (n:Int) 4294967295=n:=by
 have h:=bits_and_u64_nat n 4294967295 (by omega) (by omega)
 rw[show(4294967295:Nat)=2 ^ 32 - 1 from rfl,Nat.and_two_pow_sub_one_eq_mod] at h
 rw[show((4294967295:Int))=((2 ^ 32 - 1:Nat):Int) from rfl,h]
 omega
theorem small_facts(n:Nat)(hn:n≤4294967295):Go.bits .and .u64 (n:Int) 4294967295=n∧Int.fdiv (n:Int) (2 ^ (min (32:Int).toNat (IntKind.bits .u64)))=0∧IntKind.u64.wrap (1 * (n:Int))=n∧IntKind.u64.wrap (0 * (n:Int))=0:=by
 refine⟨and32 n hn,?_,?_,?_⟩
 ·show Int.fdiv (n:Int) 4294967296=0
  rw[Int.fdiv_eq_ediv_of_nonneg _ (by omega)];omega
 ·simp only[IntKind.wrap,IntKind.bits,IntKind.signed,Bool.false_and];simp;omega
 ·simp[IntKind.wrap,IntKind.bits,IntKind.signed]
theorem ag1(n:Nat)(hn:n≤4294967295):e8 prog 143 [.c (u64 1),.c (u64 n)] (.tup [.c (u64 0),.c (u64 n)]):=by
 obtain⟨f1,f2,f3,f4⟩:=small_facts n hn
 unfold e8
 refine FnOk.enter (rs:=[.t 4,.t 5]) func143 rfl ntmps143 results143 rfl ⟨Y,Y,Y⟩ (by kernel_rfl) rfl ?_
 repeat (first|refine AOps.z rfl rfl ?_|refine AOps.E rfl rfl ?_|refine AOps.nil ?_|refine AWP.j ?_|refine AWP.U ?_|refine b5 ?_|refine AOps.andE (c:=(n:Int)) rfl rfl rfl f1 ?_|refine AOps.andE (c:=1) rfl rfl rfl (by decide) ?_|refine AOps.andE (c:=0) rfl rfl rfl (by decide) ?_|refine AOps.shr (c:=0) rfl rfl rfl (by decide) (by first|exact f2|decide) ?_|refine AOps.mulE (c:=(n:Int)) rfl rfl rfl f3 ?_|refine AOps.mulE (c:=0) rfl rfl rfl (by first|exact f4|decide) ?_|refine AOps.addE (c:=0) rfl rfl rfl (by decide) ?_)
 repeat (first|refine AWP.j ?_|refine AWP.ret ?_|refine e7 ?_|refine g7 ?_|refine AWP.skip ?_|refine b5 ?_|refine d7 ?_|refine AWP.exit ?_|refine h9 ?_|refine f9 ?_|refine ab1 rfl ?_)
 exact Done.ret rfl rfl
theorem mul_ok(n:Nat)(hn:n≤4294967295):e8 prog 120 [.c (u64 1),.c (u64 n)] (.tup [.c (u64 0),.c (u64 n)]):=by
 unfold e8
 refine FnOk.enter (rs:=[.t 4,.t 5]) func120 rfl ntmps120 results120 rfl ⟨Y,Y,Y⟩ (by kernel_rfl) rfl ?_
 repeat (first|refine AWP.j ?_|refine AWP.q ?_|refine AWP.skip ?_|refine b5 ?_|refine d7 ?_|refine AWP.condT rfl ?_|refine AWP.condF rfl ?_)
 refine AWP.U ?_
 refine AOps.E rfl rfl ?_
 refine AOps.E rfl rfl ?_
 refine AOps.nil ?_
 repeat (first|refine b5 ?_|refine d7 ?_)
 repeat (first|refine AWP.j ?_|refine AWP.q ?_|refine AWP.skip ?_|refine b5 ?_|refine d7 ?_|refine AWP.condT rfl ?_|refine AWP.condF rfl ?_)
 refine AWP.U ?_
 refine AOps.z rfl rfl ?_
 refine AOps.z rfl rfl ?_
 first|refine AOps.u rfl rfl rfl rfl (ag1 n hn) rfl ?_|refine AOps.u rfl rfl rfl rfl (ag1 n hn) rfl ?_|refine AOps.u rfl rfl rfl rfl (ag1 n hn) rfl ?_|refine AOps.u rfl rfl rfl rfl (ag1 n hn) rfl ?_|refine AOps.u rfl rfl rfl rfl (ag1 n hn) rfl ?_
 refine AOps.z rfl rfl ?_
 refine AOps.extract rfl rfl rfl ?_
 refine AOps.extract rfl rfl rfl ?_
 refine AOps.E rfl rfl ?_
 refine AOps.E rfl rfl ?_
 refine AOps.nil ?_
 repeat (first|refine b5 ?_|refine d7 ?_)
 repeat (first|refine AWP.j ?_|refine AWP.q ?_|refine AWP.skip ?_|refine b5 ?_|refine d7 ?_|refine AWP.condT rfl ?_|refine AWP.condF rfl ?_)
 refine AWP.U ?_
 refine AOps.z rfl rfl ?_
 refine AOps.z rfl rfl ?_
 refine AOps.E rfl rfl ?_
 refine AOps.E rfl rfl ?_
 refine AOps.nil ?_
 repeat (first|refine b5 ?_|refine d7 ?_)
 repeat (first|refine AWP.j ?_|refine AWP.ret ?_|refine e7 ?_|refine g7 ?_|refine AWP.skip ?_|refine b5 ?_|refine d7 ?_|refine AWP.exit ?_|refine h9 ?_|refine f9 ?_|refine ab1 rfl ?_)
 exact Done.ret rfl rfl
theorem wrap_facts(n:Nat)(hn:n≤4294967295):IntKind.u64.wrap (n:Int)=n∧IntKind.i64.wrap (n:Int)=n:=by
 refine⟨?_,wrap_i64 (by omega)⟩
 simp only[IntKind.wrap,IntKind.bits,IntKind.signed,Bool.false_and];simp;omega
def repC(c:Int)(n i:Nat):List (List C):=(List.range n).map fun j=>[int (if j<i then c else 0)]
theorem rep_first{c:Int}{n:Nat}(h:1≤n):(List.replicate n [C.imm (.val (.int .i64 0))]).take 0++(([c]:Li).map intI|>.map (·.map C.imm)).take 1++(List.replicate n [C.imm (.val (.int .i64 0))]).drop (0+1)=repC c n 1:=by
 apply List.ext_getElem?
 intro j
 simp only[repC,lM]
 match j with
 |0=>simp[show 0<n by omega]
 |j+1=>
  simp only[List.take_zero,List.nil_append,List.map_cons,List.map_nil,List.take_succ_cons,List.take_nil,List.cons_append,List.getElem?_cons_succ,List.getElem?_drop,List.getElem?_replicate]
  by_cases hj:j+1<n
  ·rw[if_pos (by omega),List.getElem?_range hj];simp
  ·rw[if_neg (by omega),List.getElem?_eq_none (by simp;omega)];rfl
theorem rep_more{c:Int}{n i m:Nat}(h1:m≤i)(h2:i+m≤n):(repC c n i).take (0+i)++(((repC c n i).drop 0).take i).take m++(repC c n i).drop (0+i+m)=repC c n (i+m):=by
 apply List.ext_getElem?
 intro j
 have len:(repC c n i).length=n:=by simp[repC]
 have hg:∀k j,(repC c n k)[j]? =if j<n then some [int (if j<k then c else 0)] else none:=fun k j=>by
  simp only[repC,lM]
  by_cases hj:j<n
  ·rw[List.getElem?_range hj,if_pos hj];rfl
  ·rw[List.getElem?_eq_none (by simp;omega),if_neg hj];rfl
 rw[Nat.zero_add,List.drop_zero,hg]
 rcases Nat.lt_or_ge j i with hl|hl
 ·rw[List.append_assoc,List.getElem?_append_left (by simp[len];omega),List.getElem?_take,if_pos hl,hg]
  simp[show j<n by omega,hl,show j<i+m by omega]
 ·rcases Nat.lt_or_ge j (i+m) with hl2|hl2
  ·rw[List.getElem?_append_left (by simp[len];omega),List.getElem?_append_right (by simp[len];omega),List.getElem?_take,if_pos (by simp[len];omega),List.getElem?_take,if_pos (by simp[len];omega),hg]
   have e:(List.take i (repC c n i)).length=i:=by simp[len];omega
   rw[e,if_pos (by omega),if_pos (by omega),if_pos (by omega),if_pos (by omega)]
  ·rw[List.getElem?_append_right (by simp[len];omega),List.getElem?_drop,hg]
   have e:(List.take i (repC c n i)++List.take m (List.take i (repC c n i))).length=i+m:=by simp[len];omega
   rw[e,show i+m+(j - (i+m))=j by omega]
   split
   ·rw[if_neg (by omega),if_neg (by omega)]
   ·rfl
theorem rep_full(c:Int)(n:Nat):Blk.cells 1 (repC c n n)=Blk.im 1 (List.replicate n [.val (.int .i64 c)]):=by
 rw[Blk.im,repC]
 congr 1
 apply List.ext_getElem?
 intro j
 simp only[lM,List.getElem?_replicate]
 by_cases hj:j<n
 ·rw[List.getElem?_range hj,if_pos hj];simp[hj]
 ·rw[List.getElem?_eq_none (by simp;omega),if_neg hj];rfl
theorem repeat_ok(c:Int)(n:Nat)(h1:1≤n)(hn:n≤4294967295):m8 prog 83 [.c (ints [c]),.c (int n)] 1 (List.replicate n [.val (.int .i64 c)]):=by
 obtain⟨w1,w2⟩:=wrap_facts n hn
 unfold m8
 refine FnOk.enter (rs:=[.t 4]) func83 rfl ntmps83 results83 rfl ⟨Y,Y⟩ (by kernel_rfl) rfl ?_
 repeat (first|refine AWP.j ?_|refine AWP.q ?_|refine AWP.skip ?_|refine b5 ?_|refine d7 ?_|refine AWP.condT rfl ?_|refine AWP.condF rfl ?_)
 refine AWP.U ?_
 refine AOps.E rfl rfl ?_
 refine AOps.nil ?_
 repeat (first|refine b5 ?_|refine d7 ?_)
 have hd:decide ((n:Int)<0)=false:=decide_eq_false (by omega)
 repeat (first|refine AWP.j ?_|refine AWP.q ?_|refine AWP.skip ?_|refine b5 ?_|refine d7 ?_|refine AWP.condT rfl ?_|refine AWP.condF rfl ?_)
 refine AWP.U ?_
 refine AOps.z rfl rfl ?_
 refine AOps.lss rfl rfl rfl ?_
 refine AOps.nil ?_
 repeat (first|refine b5 ?_|refine d7 ?_)
 (repeat (refine AWP.j ?_));first|refine AWP.condD rfl (fun hc=> ?_) (fun hc=> ?_)|refine AWP.condN rfl (fun hc=> ?_) (fun hc=> ?_)|refine AWP.condE rfl (fun hc=> ?_) (fun hc hc'=> ?_)|refine AWP.condB rfl (fun hc=> ?_) (fun hc=> ?_)|refine AWP.cond rfl (fun hc=> ?_) (fun hc=> ?_)
 ·omega
 repeat (first|refine AWP.skip ?_|refine b5 ?_|refine d7 ?_|refine AWP.condT rfl ?_|refine AWP.condF rfl ?_)
 repeat (first|refine AWP.j ?_|refine AWP.q ?_|refine AWP.skip ?_|refine b5 ?_|refine d7 ?_|refine AWP.condT rfl ?_|refine AWP.condF rfl ?_)
 refine AWP.U ?_
 refine AOps.z rfl rfl ?_
 first|refine AOps.lenB rfl rfl (fun _=> ?_)|refine AOps.lenOwnB rfl rfl rfl (fun _=> ?_)|refine AOps.lenNil rfl rfl ?_
 refine AOps.convE (c:=1) rfl rfl (show IntKind.u64.wrap ((1:Nat):Int)=1 by decide) ?_
 refine AOps.z rfl rfl ?_
 refine AOps.convE (c:=(n:Int)) rfl rfl w1 ?_
 first|refine AOps.u rfl rfl rfl rfl (mul_ok n hn) rfl ?_|refine AOps.u rfl rfl rfl rfl (mul_ok n hn) rfl ?_|refine AOps.u rfl rfl rfl rfl (mul_ok n hn) rfl ?_|refine AOps.u rfl rfl rfl rfl (mul_ok n hn) rfl ?_|refine AOps.u rfl rfl rfl rfl (mul_ok n hn) rfl ?_
 refine AOps.z rfl rfl ?_
 refine AOps.extract rfl rfl rfl ?_
 refine AOps.extract rfl rfl rfl ?_
 refine AOps.E rfl rfl ?_
 refine AOps.E rfl rfl ?_
 refine AOps.nil ?_
 repeat (first|refine b5 ?_|refine d7 ?_)
 have hd2:decide ((0:Int)<0)=false:=by decide
 repeat (first|refine AWP.j ?_|refine AWP.q ?_|refine AWP.skip ?_|refine b5 ?_|refine d7 ?_|refine AWP.condT rfl ?_|refine AWP.condF rfl ?_)
 refine AWP.U ?_
 refine AOps.z rfl rfl ?_
 refine AOps.gtr rfl rfl rfl ?_
 refine AOps.z rfl rfl ?_
 first|(refine AOps.guardF rfl rfl rfl (by assumption) ?_)|(refine AOps.guardSkip rfl rfl rfl ?_)|(refine AOps.O rfl rfl rfl (by assumption) ?_;refine AOps.z rfl rfl ?_)
 first|(refine AOps.guardF rfl rfl rfl (by assumption) ?_)|(refine AOps.guardSkip rfl rfl rfl ?_)|(refine AOps.O rfl rfl rfl (by assumption) ?_;refine AOps.gtr rfl rfl rfl ?_)
 first|refine AOps.pickT rfl (by assumption) rfl rfl ?_|refine AOps.pickF rfl (by assumption) rfl rfl ?_
 refine AOps.nil ?_
 repeat (first|refine b5 ?_|refine d7 ?_)
 (repeat (refine AWP.j ?_));first|refine AWP.condD rfl (fun hc=> ?_) (fun hc=> ?_)|refine AWP.condN rfl (fun hc=> ?_) (fun hc=> ?_)|refine AWP.condE rfl (fun hc=> ?_) (fun hc hc'=> ?_)|refine AWP.condB rfl (fun hc=> ?_) (fun hc=> ?_)|refine AWP.cond rfl (fun hc=> ?_) (fun hc=> ?_)
 ·omega
 repeat (first|refine AWP.skip ?_|refine b5 ?_|refine d7 ?_|refine AWP.condT rfl ?_|refine AWP.condF rfl ?_)
 repeat (first|refine AWP.j ?_|refine AWP.q ?_|refine AWP.skip ?_|refine b5 ?_|refine d7 ?_|refine AWP.condT rfl ?_|refine AWP.condF rfl ?_)
 refine AWP.U ?_
 refine AOps.z rfl rfl ?_
 refine AOps.convE (c:=(n:Int)) rfl rfl w2 ?_
 refine W.make rfl rfl rfl (by omega) (by omega) rfl rfl rfl ?_
 refine AOps.E rfl rfl ?_
 refine AOps.nil ?_
 repeat (first|refine b5 ?_|refine d7 ?_)
 repeat (first|refine AWP.j ?_|refine AWP.q ?_|refine AWP.skip ?_|refine b5 ?_|refine d7 ?_|refine AWP.condT rfl ?_|refine AWP.condF rfl ?_)
 refine AWP.U ?_
 refine AOps.z rfl rfl ?_
 refine AOps.z rfl rfl ?_
 refine AOps.copyE (m:=1) (es':=repC c n 1) rfl rfl (by omega) rfl .imm rfl (Nat.min_eq_left h1) (rep_first h1) rfl ?_
 refine AOps.E rfl rfl ?_
 refine AOps.nil ?_
 repeat (first|refine b5 ?_|refine d7 ?_)
 refine AWP.j ?_
 refine AWP.q ?_
 refine AWP.loop (X:=Nat) (fun i=>⟨[(7,.c (.own 0 0 n)),(8,.c (int i))],[.one (.cells 1 (repC c n i))]⟩) (fun i=>1≤i∧i≤n) (fun i=>n - i) 1 (Sub.env ⟨rfl,rfl,Y⟩) ⟨Nat.le_refl _,h1⟩ ?_
 rintro i ⟨i1,i2⟩
 repeat (first|refine AWP.j ?_|refine AWP.q ?_|refine AWP.skip ?_|refine b5 ?_|refine d7 ?_|refine AWP.condT rfl ?_|refine AWP.condF rfl ?_)
 refine AWP.U ?_
 refine AOps.z rfl rfl ?_
 refine AOps.z rfl rfl ?_
 first|refine AOps.lenB rfl rfl (fun _=> ?_)|refine AOps.lenOwnB rfl rfl rfl (fun _=> ?_)|refine AOps.lenNil rfl rfl ?_
 refine AOps.lss rfl rfl rfl ?_
 refine AOps.nil ?_
 repeat (first|refine b5 ?_|refine d7 ?_)
 (repeat (refine AWP.j ?_));first|refine AWP.condD rfl (fun hc=> ?_) (fun hc=> ?_)|refine AWP.condN rfl (fun hc=> ?_) (fun hc=> ?_)|refine AWP.condE rfl (fun hc=> ?_) (fun hc hc'=> ?_)|refine AWP.condB rfl (fun hc=> ?_) (fun hc=> ?_)|refine AWP.cond rfl (fun hc=> ?_) (fun hc=> ?_)
 ·have hi:i<n:=by omega
  obtain⟨m,hm⟩:∃m,m=Nat.min i (n - i):=⟨_,rfl⟩
  have hm1:1≤m:=by rw[hm];exact Nat.le_min.2 ⟨i1,by omega⟩
  have hm2:m≤i∧i+m≤n:=by
   have:=Nat.min_le_left i (n - i)
   have:=Nat.min_le_right i (n - i)
   change m=min i (n - i) at hm
   omega
  have hcm:Nat.min (((repC c n i).drop 0).take i).length (n - i)=m:=by
   rw[hm]
   congr 1
   simp[repC];omega
  have hce:(repC c n i).take (0+i)++(((repC c n i).drop 0).take i).take m++(repC c n i).drop (0+i+m)=repC c n (i+m):=rep_more hm2.1 hm2.2
  repeat (first|refine AWP.skip ?_|refine b5 ?_|refine d7 ?_|refine AWP.condT rfl ?_|refine AWP.condF rfl ?_)
  repeat (first|refine AWP.j ?_|refine AWP.q ?_|refine AWP.skip ?_|refine b5 ?_|refine d7 ?_|refine AWP.condT rfl ?_|refine AWP.condF rfl ?_)
  refine AWP.drawEI [7] mixed rfl rfl rfl ?_
  apply b8.consN;exact rfl;exact rfl;intro E
  refine AOps.z rfl rfl ?_
  exact AOps.nil ⟨rfl,rfl⟩
  exact rfl
  apply b8.consN;exact rfl;exact rfl;intro E
  refine AOps.z rfl rfl ?_
  exact AOps.nil ⟨rfl,rfl⟩
  exact rfl
  apply b8.consN;exact rfl;exact rfl;intro E
  refine AOps.z rfl rfl ?_
  exact AOps.nil ⟨rfl,rfl⟩
  exact rfl
  apply b8.consN;exact rfl;exact rfl;intro E
  first|refine AOps.sliceArrI rfl (Nat.le_of_ble_eq_true rfl) rfl rfl ?_|refine AOps.sliceOwnTo rfl rfl rfl (by omega) rfl ?_|refine AOps.sliceOwnFrom rfl rfl rfl (by omega) rfl ?_
  exact AOps.nil ⟨rfl,rfl⟩
  exact rfl
  apply b8.consN;exact rfl;exact rfl;intro E
  refine AOps.z rfl rfl ?_
  exact AOps.nil ⟨rfl,rfl⟩
  exact rfl
  apply b8.consN;exact rfl;exact rfl;intro E
  refine AOps.z rfl rfl ?_
  exact AOps.nil ⟨rfl,rfl⟩
  exact rfl
  apply b8.consN;exact rfl;exact rfl;intro E
  first|refine AOps.sliceArrI rfl (Nat.le_of_ble_eq_true rfl) rfl rfl ?_|refine AOps.sliceOwnTo rfl rfl rfl (by omega) rfl ?_|refine AOps.sliceOwnFrom rfl rfl rfl (by omega) rfl ?_
  exact AOps.nil ⟨rfl,rfl⟩
  exact rfl
  apply b8.consE;exact rfl;exact rfl;intro E
  refine AOps.copyE rfl rfl (by omega) rfl (Src.own rfl) rfl hcm hce rfl ?_
  exact AOps.nil ⟨rfl,rfl⟩
  exact rfl
  exact rfl
  apply b8.consN;exact rfl;exact rfl;intro E
  refine AOps.add rfl rfl rfl (by omega) ?_
  exact AOps.nil ⟨rfl,rfl⟩
  exact rfl
  apply b8.consN;exact rfl;exact rfl;intro E
  refine AOps.E rfl rfl ?_
  exact AOps.nil ⟨rfl,rfl⟩
  exact rfl
  refine b8.done rfl ?_ ?_
  ·apply d8.cons;exact rfl;exact rfl
   first|refine g8.skip rfl ?_|(apply g8.go;exact rfl;exact rfl;intro E;(refine AOps.z rfl rfl ?_);exact AOps.nil ⟨rfl,rfl⟩)
   first|refine g8.skip rfl ?_|(apply g8.go;exact rfl;exact rfl;intro E;(refine AOps.z rfl rfl ?_);exact AOps.nil ⟨rfl,rfl⟩)
   exact g8.nil
   apply d8.cons;exact rfl;exact rfl
   first|refine g8.skip rfl ?_|(apply g8.go;exact rfl;exact rfl;intro E;(refine AOps.z rfl rfl ?_);exact AOps.nil ⟨rfl,rfl⟩)
   first|refine g8.skip rfl ?_|(apply g8.go;exact rfl;exact rfl;intro E;(refine AOps.z rfl rfl ?_);exact AOps.nil ⟨rfl,rfl⟩)
   exact g8.nil
   apply d8.cons;exact rfl;exact rfl
   first|refine g8.skip rfl ?_|(apply g8.go;exact rfl;exact rfl;intro E;(refine AOps.z rfl rfl ?_);exact AOps.nil ⟨rfl,rfl⟩)
   first|refine g8.skip rfl ?_|(apply g8.go;exact rfl;exact rfl;intro E;(refine AOps.z rfl rfl ?_);exact AOps.nil ⟨rfl,rfl⟩)
   exact g8.nil
   apply d8.cons;exact rfl;exact rfl
   first|refine g8.skip rfl ?_|(apply g8.go;exact rfl;exact rfl;intro E;(first|refine AOps.sliceArrI rfl (Nat.le_of_ble_eq_true rfl) rfl rfl ?_|refine AOps.sliceOwnTo rfl rfl rfl (by omega) rfl ?_|refine AOps.sliceOwnFrom rfl rfl rfl (by omega) rfl ?_);exact AOps.nil ⟨rfl,rfl⟩)
   first|refine g8.skip rfl ?_|(apply g8.go;exact rfl;exact rfl;intro E;(first|refine AOps.sliceArrI rfl (Nat.le_of_ble_eq_true rfl) rfl rfl ?_|refine AOps.sliceOwnTo rfl rfl rfl (by omega) rfl ?_|refine AOps.sliceOwnFrom rfl rfl rfl (by omega) rfl ?_);exact AOps.nil ⟨rfl,rfl⟩)
   exact g8.nil
   apply d8.cons;exact rfl;exact rfl
   first|refine g8.skip rfl ?_|(apply g8.go;exact rfl;exact rfl;intro E;(refine AOps.z rfl rfl ?_);exact AOps.nil ⟨rfl,rfl⟩)
   first|refine g8.skip rfl ?_|(apply g8.go;exact rfl;exact rfl;intro E;(refine AOps.z rfl rfl ?_);exact AOps.nil ⟨rfl,rfl⟩)
   exact g8.nil
   apply d8.cons;exact rfl;exact rfl
   first|refine g8.skip rfl ?_|(apply g8.go;exact rfl;exact rfl;intro E;(refine AOps.z rfl rfl ?_);exact AOps.nil ⟨rfl,rfl⟩)
   first|refine g8.skip rfl ?_|(apply g8.go;exact rfl;exact rfl;intro E;(refine AOps.z rfl rfl ?_);exact AOps.nil ⟨rfl,rfl⟩)
   exact g8.nil
   apply d8.cons;exact rfl;exact rfl
   first|refine g8.skip rfl ?_|(apply g8.go;exact rfl;exact rfl;intro E;(first|refine AOps.sliceArrI rfl (Nat.le_of_ble_eq_true rfl) rfl rfl ?_|refine AOps.sliceOwnTo rfl rfl rfl (by omega) rfl ?_|refine AOps.sliceOwnFrom rfl rfl rfl (by omega) rfl ?_);exact AOps.nil ⟨rfl,rfl⟩)
   first|refine g8.skip rfl ?_|(apply g8.go;exact rfl;exact rfl;intro E;(first|refine AOps.sliceArrI rfl (Nat.le_of_ble_eq_true rfl) rfl rfl ?_|refine AOps.sliceOwnTo rfl rfl rfl (by omega) rfl ?_|refine AOps.sliceOwnFrom rfl rfl rfl (by omega) rfl ?_);exact AOps.nil ⟨rfl,rfl⟩)
   exact g8.nil
   refine d8.skip rfl ?_
   apply d8.cons;exact rfl;exact rfl
   first|refine g8.skip rfl ?_|(apply g8.go;exact rfl;exact rfl;intro E;(refine AOps.add rfl rfl rfl (by omega) ?_);exact AOps.nil ⟨rfl,rfl⟩)
   first|refine g8.skip rfl ?_|(apply g8.go;exact rfl;exact rfl;intro E;(refine AOps.add rfl rfl rfl (by omega) ?_);exact AOps.nil ⟨rfl,rfl⟩)
   exact g8.nil
   apply d8.cons;exact rfl;exact rfl
   first|refine g8.skip rfl ?_|(apply g8.go;exact rfl;exact rfl;intro E;(refine AOps.E rfl rfl ?_);exact AOps.nil ⟨rfl,rfl⟩)
   first|refine g8.skip rfl ?_|(apply g8.go;exact rfl;exact rfl;intro E;(refine AOps.E rfl rfl ?_);exact AOps.nil ⟨rfl,rfl⟩)
   exact g8.nil
   exact d8.nil
  dsimp only[g9]
  repeat (first|refine b5 ?_|refine d7 ?_)
  exact⟨i+m,Sub.env ⟨rfl,rfl,Y⟩,⟨by omega,by omega⟩,by omega⟩
 repeat (first|refine AWP.j ?_|refine AWP.ret ?_|refine e7 ?_|refine g7 ?_|refine AWP.skip ?_|refine b5 ?_|refine d7 ?_|refine AWP.exit ?_|refine h9 ?_|refine f9 ?_|refine ab1 rfl ?_)
 repeat (first|refine AWP.j ?_|refine AWP.q ?_|refine AWP.skip ?_|refine b5 ?_|refine d7 ?_|refine AWP.condT rfl ?_|refine AWP.condF rfl ?_)
 refine AWP.U ?_
 refine AOps.z rfl rfl ?_
 refine AOps.E rfl rfl ?_
 refine AOps.nil ?_
 repeat (first|refine b5 ?_|refine d7 ?_)
 repeat (first|refine AWP.j ?_|refine AWP.ret ?_|refine e7 ?_|refine g7 ?_|refine AWP.skip ?_|refine b5 ?_|refine d7 ?_|refine AWP.exit ?_|refine h9 ?_|refine f9 ?_|refine ab1 rfl ?_)
 have hin:i=n:=by omega
 subst hin
 refine Done.ret rfl ⟨0,by simp,?_⟩
 show some (some (Blk.cells 1 (repC c i i)))=_
 rw[rep_full]
def G1(x:Li)(n:Int):Option Li:=match x with
 |[c]=>if 1≤n∧n≤4294967295 then some (List.replicate n.toNat c) else none
 |_=>none
theorem S1{x:Li}{n:Int}{r:Li}(h:G1 x n=some r):m8 prog 83 [.c (row 1 intI x),.c (int n)] 1 (List.map intI r):=by
 unfold G1 at h
 split at h
 ·rename_i c
  split at h
  ·rename_i hn
   cases h
   have:=repeat_ok c n.toNat (by omega) (by omega)
   rw[Int.toNat_of_nonneg (by omega)] at this
   rwa [List.map_replicate]
  ·cases h
 ·cases h
end Ab
end
section
set_option linter.all false
namespace Ab
open Go Go.Proofs Go.RowKit Go.Lib
open Tryz
def spl(arr:Array Vl)(o:Nat)(cs:List Vl):Array Vl:=(arr.toList.take o++cs++arr.toList.drop (o+cs.length)).toArray
theorem Y5{arr:Array Vl}{o:Nat}{cs:List Vl}(h:o+cs.length≤arr.size):(spl arr o cs).size=arr.size:=by simp[spl];omega
theorem spl_get{arr:Array Vl}{o:Nat}{cs:List Vl}(h:o+cs.length≤arr.size)(i:Nat):(spl arr o cs)[i]? =if o≤i∧i<o+cs.length then cs[i - o]? else arr[i]? :=by
 have:=w6 arr.toList cs o i (by simpa using h)
 simpa[spl] using this
theorem ai7{P:Program}{dT sT ty e:Ti}{k bytes:Nat}{z:Vl}[ht:TyD P dT (.slice e)][hs:TyS P e k bytes z](w:World)(g o dLen dCap:Nat)(a:Addr)(sLen sCap m:Nat)(cur:Array Vl)(t:Ti)(cs:List Vl)
  (hm:Nat.min sLen dLen=m) (hg:w.heap[g]? =some (.cells cur t (0,0))) (hn:cs.length=m * k) (hsrc:∀j v,cs[j]? =some v→w.cell? (a.add j)=some v) (hfit:o+cs.length≤cur.size) (h1:∀v ∈ cs,v.oneCell'=true):
  (Builtin.copy_ #[dT,sT] ty #[.slice (some ⟨g,o,none⟩) dLen dCap,.slice (some a) sLen sCap]).run P w=.ok (goInt m) (w.setRow g (spl cur o cs)):=by
 have hf:(Builtin.firstCells k m (.slice (some a) sLen sCap)).run P w=.ok cs.toArray w:=run_firstCells_some w k m a sLen sCap cs hn hsrc
 have hst:=run_storeCells_at P g o t cs 0 cur w hg (by simpa using hfit) h1
 have hz:=l9 (P:=P) (t:=e) w
 simp[Builtin.copy_,run_underlying ht.h,hz,Builtin.lenOf,hm,hf,hst,spl]
theorem setRow_alloc(w:World)(r r':Array Vl)(e:Ti):(w.alloc (.cells r e)).setRow w.heap.size r'=w.alloc (.cells r' e):=by
 unfold World.setRow World.alloc
 congr 1
 apply Array.ext_getElem?
 intro i
 simp only[Array.getElem?_modify,Array.getElem?_push]
 by_cases h:w.heap.size=i
 ·subst h;simp
 ·rw[if_neg h,if_neg (fun e=>h e.symm),if_neg (fun e=>h e.symm)]
section
variable {P:Program}
theorem wpL_copy(w:World){ops:Array Oper}{rest:List Oper}{o:Oper}{a:Act}{Q:Exit→Act→World→Prop}(hgd:o.guard=none)(d s:Od)(t t':Ti)
  (ho:o.op=.call {callee:=.builtin .copy,args:=#[d,s],argTypes:=#[t,t']}) {v u v':Vl} {w':World} (hd:a.eval d=v) (hs:a.eval s=u) (hr:(Builtin.copy_ #[t,t'] o.type #[v,u]).run P w=.ok v' w')
  (h:wpList P ops Q rest (a.put o.dst v') w'):wpList P ops Q (o::rest) a w:=
 wpList_plain hgd fun K hK=>by
  have:(execOp a.eval o).run P w=.ok (.value v') w':=by
   simp[execOp,ho,resolve,invoke,builtin,hd,hs,hr,Result.andThen]
  unfold Oper.wp
  rw[this]
  exact hK _ _ h
theorem wpS_copy{ops:Array Oper}{o:Oper}{a:Act}{w:World}{K:Act→World→Prop}{Q:Exit→Act→World→Prop}{E:Prop}(hgd:o.guard=none)(d s:Od)(t t':Ti)
  (ho:o.op=.call {callee:=.builtin .copy,args:=#[d,s],argTypes:=#[t,t']}) {v u v':Vl} {w':World} (hd:a.eval d=v) (hs:a.eval s=u) (hr:(Builtin.copy_ #[t,t'] o.type #[v,u]).run P w=.ok v' w')
  (hK:K (a.put o.dst v') w'):if Region.wanted o (yielded ops a.tmps)=true then Oper.wp P o a w K Q else E:=by
 have hw:Region.wanted o (yielded ops a.tmps)=true:=by simp[Region.wanted,hgd]
 have:(execOp a.eval o).run P w=.ok (.value v') w':=by
  simp[execOp,ho,resolve,invoke,builtin,hd,hs,hr,Result.andThen]
 rw[if_pos hw]
 unfold Oper.wp
 rw[this]
 exact hK
end
section
set_option maxHeartbeats 4000000
set_option maxRecDepth 100000
abbrev insF:Nat:=97
abbrev choT:Nat:=102
abbrev C7:Nat:=26
theorem ins_shift(b off n c i vb voff vc:Nat)(arr varr:Array Vl)(ety vety:Ti)(cs vs:List Vl)(w:World)(hi:i<n)(hroom:n+1≤c)(hc63:c≤9223372036854775807)(hvb:vb ≠ b)
  (hb:w.heap[b]? =some (.cells arr ety (0,0))) (hv:w.heap[vb]? =some (.cells varr vety (0,0))) (hfit:off+(n+1) * 2≤arr.size)
  (hcl:cs.length=(n - i) * 2) (hvl:vs.length=1 * 2) (hcs:∀j v,cs[j]? =some v→w.cell? (⟨b,off+i * 2+j,none⟩)=some v) (hvs:∀j v,vs[j]? =some v→w.cell? ⟨vb,voff+j,none⟩=some v) (h1c:∀v ∈ cs,v.oneCell'=true) (h1v:∀v ∈ vs,v.oneCell'=true):
  Calls prog insF #[.slice (some ⟨b,off,none⟩) n c,.int .i64 i,.slice (some ⟨vb,voff,none⟩) 1 vc] w fun e w'=>
   e=.returned (.slice (some ⟨b,off,none⟩) (n+1) c)∧w'=w.drew.setRow b (spl (spl arr (off+(i+1) * 2) cs) (off+i * 2) vs):=by
 have hz2:¬ ((i:Int)=(n:Int)):=by omega
 have hov:∀lb cb,(callFunc 127 #[.slice (some ⟨vb,voff,none⟩) 1 vc,.slice (some ⟨b,off+(i+1) * 2,none⟩) lb cb]).run prog w=.ok (.value (.bool false)) w:=fun lb cb=>by
  rw[run_callFunc_extern func127 (by kernel_rfl) (by kernel_rfl) (by kernel_rfl) (e:=Extern.SlicesOverlaps.overlaps #[C7,C7] #[4]) (by kernel_rfl),
   Lib.run_overlaps_apart w C7 4 choT underlying26 2 (fun w=>l9 w) ⟨vb,voff,none⟩ ⟨b,off+(i+1) * 2,none⟩ 1 vc lb cb hvb vety ety varr.size arr.size (by simp[World.shape?,hv]) (by simp[World.shape?,hb]) (by omega) (by simp[World.frozen?,hv]) (by simp[World.frozen?,hv])]
  rfl
 have mixed:prog.follows .mixedOrders=true:=by kernel_rfl
 have u26:=run_underlying underlying26
 have hw1:IntKind.i64.wrap ((i:Int)+(1:Int))=(i:Int)+(1:Int):=by rw[IntKind.wrap_i64];omega
 have hb1:(0:Int)≤(i:Int)+(1:Int):=by omega
 have hin:i≤n:=by omega
 have htn:((i:Int)+(1:Int)).toNat=i+1:=by omega
 have hb2:¬ (c=i+1):=by omega
 have hb3:(i:Int)≤(n:Int)+(1:Int):=by omega
 have hb4:¬ (c=i):=by omega
 have hcp1:∀ty dc sc,(Builtin.copy_ #[C7,C7] ty #[.slice (some ⟨b,off+(i+1) * 2,none⟩) (n - i) dc,.slice (some ⟨b,off+i * 2,none⟩) (n+1 - i) sc]).run prog w.drew=.ok (goInt (n - i:Nat)) (w.drew.setRow b (spl arr (off+(i+1) * 2) cs)):=fun ty dc sc=>
  ai7 (e:=choT) w.drew _ _ _ _ _ _ _ _ arr ety cs (by simp only[Nat.min_def];split<;>omega) hb hcl (fun j v hj=>by rw[Addr.add_lit];exact hcs j v hj) (by omega) h1c
 have hcp2:∀ty dc,(Builtin.copy_ #[C7,C7] ty #[.slice (some ⟨b,off+i * 2,none⟩) (n+1 - i) dc,.slice (some ⟨vb,voff,none⟩) 1 vc]).run prog (w.drew.setRow b (spl arr (off+(i+1) * 2) cs))=.ok (goInt 1) ((w.drew.setRow b (spl arr (off+(i+1) * 2) cs)).setRow b (spl (spl arr (off+(i+1) * 2) cs) (off+i * 2) vs)):=fun ty dc=>
  ai7 (e:=choT) _ _ _ _ _ _ _ _ _ _ ety vs (by simp only[Nat.min_def];split<;>omega) (setRow_heap w.drew b arr _ ety (0,0) hb) hvl (fun j v hj=>by
   rw[Addr.add_lit,World.cell?_of_block (setRow_other w.drew b vb _ hvb)];exact hvs j v hj) (by rw[Y5 (by omega)];omega) h1v
 go_enter func97,ntmps97
 go_wp2_with (simp only[hov])
 go_region_law_o (refine wpS_copy rfl _ _ C7 C7 rfl (by simp[Act.eval,Act.put]) (by simp[Act.eval,Act.put]) (hcp1 _ _ _) ?_)
 go_wp2_with (at_builtin;refine wpL_copy _ rfl _ _ C7 C7 rfl rfl rfl (hcp2 _ _) ?_)
 go_ret
 exact⟨rfl,by rw[setRow_setRow]⟩
theorem ins_grow(b off n c i vb voff vc:Nat)(os cs vs:List Vl)(w:World)(hi:i<n)(hnc:n≤c)(hroom:c<n+1)(hbig:(n+1) * 32≤140737488355328)(hbw:b<w.heap.size)(hvw:vb<w.heap.size)
  (hol:os.length=i * 2) (hcl:cs.length=(n - i) * 2) (hvl:vs.length=1 * 2)
  (hos:∀j v,os[j]? =some v→w.cell? (⟨b,off+j,none⟩)=some v) (hcs:∀j v,cs[j]? =some v→w.cell? (⟨b,off+i * 2+j,none⟩)=some v) (hvs:∀j v,vs[j]? =some v→w.cell? ⟨vb,voff+j,none⟩=some v)
  (h1c:∀v ∈ cs,v.oneCell'=true) (h1v:∀v ∈ vs,v.oneCell'=true):
  Calls prog insF #[.slice (some ⟨b,off,none⟩) n c,.int .i64 i,.slice (some ⟨vb,voff,none⟩) 1 vc] w fun e w'=>
   ∃(G:Nat) (ROW:Array Vl),n+1≤G∧G≤maxLen∧ROW.size=G * 2∧(∀(j:Nat) v,os[j]? =some v→ROW[j]? =some v)∧
   e=.returned (.slice (some ⟨w.heap.size,0,none⟩) (n+1) G)∧w'=w.drew.drew.alloc (.cells (spl (spl ROW (i * 2) vs) ((i+1) * 2) cs) choT):=by
 have hz2:¬ ((i:Int)=(n:Int)):=by omega
 have hz3:(c:Int)<(n:Int)+(1:Int):=by omega
 have mixed:prog.follows .mixedOrders=true:=by kernel_rfl
 have u26:=run_underlying underlying26
 obtain⟨inf,hi1,hi2,hi3,hi4⟩:=(inferInstance:TyS prog choT 2 32 _).h
 have hkk:(n:Int)+(1:Int) - (i:Int)=((n+1 - i:Nat):Int):=by omega
 have hik:i+(n+1 - i)=n+1:=by omega
 have hold:(Builtin.firstCells inf.size i (.slice (some ⟨b,off,none⟩) i c)).run prog w.drew=.ok os.toArray w.drew:=by
  rw[hi2]
  exact run_firstCells_some w.drew 2 i ⟨b,off,none⟩ i c os hol (fun j v hj=>by
   rw[Addr.add_lit]
   exact hos j v hj)
 obtain⟨G,hG⟩:∃G,G=grownCap w (n+1) c choT:=⟨_,rfl⟩
 obtain⟨ROW,hROW⟩:∃ROW:Array Vl,ROW=os.toArray++Builtin.zeroCells (Value.agg #[.slice none 0 0,.int .i64 0]).cells (n+1 - i)++Builtin.zeroCells (Value.agg #[.slice none 0 0,.int .i64 0]).cells (G - (n+1)):=⟨_,rfl⟩
 have hGn:n+1≤G:=by rw[hG];exact grownCap_ge w _ _ _
 have hGm:G≤maxLen:=by
  rw[hG]
  exact grownCap_le_maxLen w (n+1) c choT (by unfold maxLen;omega)
 have hG63:G≤9223372036854775807:=hGm
 have hRl:ROW.size=G * 2:=by
  rw[hROW]
  simp[Builtin.zeroCells,Value.cells,hol]
  omega
 have hRo:∀(j:Nat) v,os[j]? =some v→ROW[j]? =some v:=fun j v hj=>by
  rw[hROW,Array.append_assoc,Array.getElem?_append_left (by simpa using(lG.1 hj).1)]
  simpa using hj
 have hrz:∀ty,(Builtin.append_ #[C7,3] ty #[.slice (some ⟨b,off,none⟩) i c,.int .i64 ((n:Int)+(1:Int) - (i:Int))]).run prog w=
   .ok (.slice (some ⟨w.heap.size,0,none⟩) (n+1) G) (w.drew.alloc (.cells ROW choT)):=fun ty=>by
  have h:=Lib.run_append_grow_zeros w C7 3 ty choT inf _ .i64 .i64 underlying26 underlying3 hi1 hi4 (some ⟨b,off,none⟩) i c os hold (n+1 - i) (by omega) (by omega) (by omega) (by omega) (by rw[hi3];omega) (by rw[hi3,hik];exact growslice_fits hroom hbig)
  rw[hik,← hG] at h
  rw[hkk,hROW]
  exact h
 have hci:¬ (c=i):=by omega
 have hGi:¬ (G=i):=by omega
 have hGim:¬ (G=i+1):=by omega
 have hw1:IntKind.i64.wrap ((i:Int)+(1:Int))=(i:Int)+(1:Int):=by rw[IntKind.wrap_i64];omega
 have hb1:(0:Int)≤(i:Int)+(1:Int):=by omega
 have hin:i≤n:=by omega
 have htn:((i:Int)+(1:Int)).toNat=i+1:=by omega
 have hb3:(i:Int)≤(n:Int):=by omega
 have hcpA:∀ty dc,(Builtin.copy_ #[C7,C7] ty #[.slice (some ⟨w.heap.size,i * 2,none⟩) (n+1 - i) dc,.slice (some ⟨vb,voff,none⟩) 1 vc]).run prog (w.alloc (.cells ROW choT)).drew=.ok (goInt 1) ((w.alloc (.cells ROW choT)).drew.setRow w.heap.size (spl ROW (i * 2) vs)):=fun ty dc=>
  ai7 (e:=choT) _ _ _ _ _ _ _ _ _ ROW choT vs (by simp only[Nat.min_def];split<;>omega) (heap_alloc_new w.drew _) hvl (fun j v hj=>by
   rw[Addr.add_lit,World.cell?_of_block (show(w.alloc (.cells ROW choT)).drew.heap[vb]? =w.heap[vb]? from by first|exact heap_alloc_old w.drew _ hvw|exact heap_alloc_old w.drew _ _ hvw)];exact hvs j v hj) (by omega) h1v
 have hcpB:∀ty dc sc,(Builtin.copy_ #[C7,C7] ty #[.slice (some ⟨w.heap.size,(i+1) * 2,none⟩) (n - i) dc,.slice (some ⟨b,off+i * 2,none⟩) (n - i) sc]).run prog ((w.alloc (.cells ROW choT)).drew.setRow w.heap.size (spl ROW (i * 2) vs)).drew=.ok (goInt (n - i:Nat)) (((w.alloc (.cells ROW choT)).drew.setRow w.heap.size (spl ROW (i * 2) vs)).drew.setRow w.heap.size (spl (spl ROW (i * 2) vs) ((i+1) * 2) cs)):=fun ty dc sc=>
  ai7 (e:=choT) _ _ _ _ _ _ _ _ _ (spl ROW (i * 2) vs) choT cs (by simp only[Nat.min_def];split<;>omega) (setRow_heap _ _ ROW _ choT (0,0) (heap_alloc_new w.drew _)) hcl (fun j v hj=>by
   rw[Addr.add_lit,World.cell?_of_block (show((w.drew.alloc (.cells ROW choT)).setRow w.heap.size (spl ROW (i * 2) vs)).drew.heap[b]? =w.heap[b]? from(setRow_other _ w.heap.size b _ (by omega)).trans (by first|exact heap_alloc_old w.drew _ hbw|exact heap_alloc_old w.drew _ _ hbw))];exact hcs j v hj) (by rw[Y5 (by omega)];omega) h1c
 clear hkk hik hold hG hROW
 go_enter func97,ntmps97
 go_wp2_with (first
  |(at_builtin;refine Lib.wpList_append_run _ rfl _ _ _ _ rfl _ _ rfl rfl _ _ (hrz _) ?_)
  |(at_builtin;refine wpL_copy _ rfl _ _ C7 C7 rfl rfl rfl (hcpA _ _) ?_))
 go_region_law_o (refine wpS_copy rfl _ _ C7 C7 rfl (by simp[Act.eval,Act.put]) (by simp[Act.eval,Act.put]) (hcpB _ _ _) ?_)
 go_wp2
 go_ret
 refine⟨G,ROW,hGn,hGm,hRl,hRo,rfl,?_⟩
 exact(setRow_setRow (w.alloc (.cells ROW choT)).drew.drew w.heap.size (spl ROW (i * 2) vs) (spl (spl ROW (i * 2) vs) ((i+1) * 2) cs)).trans (setRow_alloc w.drew.drew ROW (spl (spl ROW (i * 2) vs) ((i+1) * 2) cs) choT)
theorem ins_end(base:Option Addr)(n c:Nat)(vv r:Vl)(w w':World)(hvv:∃b cv,vv=.slice b 1 cv)(hrun:∀ty,(Builtin.append_ #[C7,C7] ty #[.slice base n c,vv]).run prog w=.ok r w')(hnc:n≤c):
  Calls prog insF #[.slice base n c,.int .i64 n,vv] w fun e w2=>e=.returned r∧w2=w':=by
 obtain⟨vb,vc,rfl⟩:=hvv
 have mixed:prog.follows .mixedOrders=true:=by kernel_rfl
 have u26:=run_underlying underlying26
 go_enter func97,ntmps97
 cases base with
 |none=>
  go_wp2_with (at_builtin;refine Lib.wpList_append_run _ rfl _ _ _ _ rfl _ _ rfl rfl _ _ (hrun _) ?_)
  all_goals (go_ret;exact⟨rfl,rfl⟩)
 |some a=>
  obtain⟨ab,ao,asp⟩:=a
  go_wp2_with (at_builtin;refine Lib.wpList_append_run _ rfl _ _ _ _ rfl _ _ rfl rfl _ _ (hrun _) ?_)
  all_goals (go_ret;exact⟨rfl,rfl⟩)
end
structure Rw(w:World)(φ:Phi)(σ:b6)(A:Nat→Prop)(k:Nat)(es:List (List C))(us:List Vl):Prop where
 len:us.length=es.length * k
 hk:∀(j:Nat) (e:List C),es[j]? =some e→e.length=k
 rel:∀(j:Nat) (e:List C) (o:Nat) (x:C),es[j]? =some e→e[o]? =some x→∃u,us[j * k+o]? =some u∧RelC w φ σ A x u
theorem U3.rw{w:World}{φ:Phi}{σ:b6}{A:Nat→Prop}{k:Nat}{es:List (List C)}{b:Option Addr}{us:List Vl}(h:U3 w φ σ A k es b us):Rw w φ σ A k es us:=⟨h.len,h.hk,h.rel⟩
section
variable {w:World}{φ:Phi}{σ:b6}{A:Nat→Prop}{k:Nat}{es es2:List (List C)}{us us2:List Vl}
theorem Rw.append(h:Rw w φ σ A k es us)(g:Rw w φ σ A k es2 us2):Rw w φ σ A k (es++es2) (us++us2):=by
 refine⟨by rw[List.length_append,List.length_append,h.len,g.len,Nat.add_mul],fun j e he=> ?_,fun j e o x he hx=> ?_⟩
 ·rw[List.getElem?_append] at he
  split at he
  ·exact h.hk j e he
  ·exact g.hk _ e he
 ·rw[List.getElem?_append] at he
  split at he
  ·obtain⟨u,hu,hr⟩:=h.rel j e o x he hx
   exact⟨u,by rw[List.getElem?_append_left (lG.1 hu).1];exact hu,hr⟩
  ·rename_i hj
   obtain⟨u,hu,hr⟩:=g.rel _ e o x he hx
   have hl:=h.len
   have hm:es.length * k≤j * k:=Nat.mul_le_mul_right k (by omega)
   refine⟨u,?_,hr⟩
   rw[List.getElem?_append_right (by omega),hl]
   rw[Nat.sub_mul] at hu
   rw[← hu];congr 1;omega
theorem Rw.take(h:Rw w φ σ A k es us)(i:Nat)(hi:i≤es.length):Rw w φ σ A k (es.take i) (us.take (i * k)):=by
 have hl:=h.len
 have hm:i * k≤es.length * k:=Nat.mul_le_mul_right k hi
 refine⟨by rw[List.length_take,List.length_take,Nat.min_eq_left hi,Nat.min_eq_left (by omega)],fun j e he=> ?_,fun j e o x he hx=> ?_⟩
 ·rw[List.getElem?_take] at he
  split at he
  ·exact h.hk j e he
  ·cases he
 ·rw[List.getElem?_take] at he
  split at he
  ·rename_i hj
   obtain⟨u,hu,hr⟩:=h.rel j e o x he hx
   have:=h.hk j e he
   have:=(lG.1 hx).1
   have hm2:(j+1) * k≤i * k:=Nat.mul_le_mul_right k hj
   rw[Nat.add_mul] at hm2
   exact⟨u,by rw[List.getElem?_take,if_pos (by omega)];exact hu,hr⟩
  ·cases he
theorem Rw.drop(h:Rw w φ σ A k es us)(i:Nat)(hi:i≤es.length):Rw w φ σ A k (es.drop i) (us.drop (i * k)):=by
 have hl:=h.len
 refine⟨by rw[List.length_drop,List.length_drop,hl,Nat.sub_mul],fun j e he=> ?_,fun j e o x he hx=> ?_⟩
 ·rw[List.getElem?_drop] at he
  exact h.hk _ e he
 ·rw[List.getElem?_drop] at he
  obtain⟨u,hu,hr⟩:=h.rel _ e o x he hx
  refine⟨u,?_,hr⟩
  rw[List.getElem?_drop,← hu,Nat.add_mul,Nat.add_assoc]
theorem Rw.mono{w':World}{φ':Phi}{σ':b6}{A':Nat→Prop}(H:Kept w w' φ φ' σ σ' A A')(h:Rw w φ σ A k es us):Rw w' φ' σ' A' k es us:=
 ⟨h.len,h.hk,fun j e o x he hx=>let ⟨u,hu,hr⟩:=h.rel j e o x he hx; ⟨u,hu,hr.mono H⟩⟩
end
theorem ins_lists{α:Type}{f:α→List I}{l:List α}{x:α}{i:Nat}:(((l.map f).map (·.map C.imm)).take i++(([x].map f).map (·.map C.imm))++((l.map f).map (·.map C.imm)).drop i)=((l.take i++x::l.drop i).map f).map (·.map C.imm):=by
 simp[List.map_take,List.map_drop]
set_option maxRecDepth 100000 in
theorem ins_fn{α:Type}{f:α→List I}{σ:b6}{id id2:Id}{l:List α}{x:α}{i:Int}(hσ:σ[id]? =some (some (vec 2 f l)))(hσ2:σ[id2]? =some (some (vec 2 f [x])))(hne:id2 ≠ id)(hb:(l.length+1) * 32≤140737488355328)(h0:0≤i)(h1:i≤l.length):
  FnOk prog insF [.c (.own id 0 l.length),.c (int i),.c (.own id2 0 1)] σ fun r σ'=>r=.c (.own (σ.length,[]) 0 (l.take i.toNat++x::l.drop i.toNat).length)∧σ'=σ.put id none++[.one (vec 2 f (l.take i.toNat++x::l.drop i.toNat))]:=by
 refine⟨⟨_,func97,rfl,rfl⟩,fun Γ vs hΓ hG hlen hrel=> ?_⟩
 subst hΓ
 match vs,hlen with
 |[u,iv,v],_=>
 have hu:=A9 (hrel 0 _ u rfl rfl) hσ
 have hv:=A9 (hrel 2 _ v rfl rfl) hσ2
 have hiv:iv=.int .i64 i:=by
  have h:=hrel 1 _ iv rfl rfl
  cases h with|c h=>cases h with|imm h=>cases h with|val=>rfl
 subst hiv
 obtain⟨ni,rfl⟩:∃ni:Nat,i=ni:=⟨i.toNat,by omega⟩
 have hR:R Γ 3 ⟨[(0,.c (.own id 0 l.length)),(1,.c (int ni)),(2,.c (.own id2 0 1))],Γ.σ0⟩ Γ.φ0 ⟨#[u,.int .i64 ni,v],[]⟩ Γ.w0:=
  {toRs:=Rs.refl hG,defers:=.nil,asize:=rfl,env:=fun t x hx=>by
    simp only[lookup] at hx
    split at hx
    ·rename_i e;cases hx
     have:=Nat.eq_of_beq_eq_true e;subst this
     exact⟨u,rfl,hrel 0 _ u rfl rfl⟩
    ·split at hx
     ·rename_i e;cases hx
      have:=Nat.eq_of_beq_eq_true e;subst this
      exact⟨_,rfl,hrel 1 _ _ rfl rfl⟩
     ·split at hx
      ·rename_i e;cases hx
       have:=Nat.eq_of_beq_eq_true e;subst this
       exact⟨v,rfl,hrel 2 _ v rfl rfl⟩
      ·cases hx}
 have vlen:∀{m:List α},((m.map f).map (·.map C.imm)).length=m.length:=by simp
 have nlen:(l.take ni++x::l.drop ni).length=l.length+1:=by simp;omega
 simp only[Int.toNat_natCast] at *
 rw[nlen]
 by_cases hend:ni=l.length
 · -- at the end
  subst hend
  obtain⟨v',w',φ',g1,g2,g3⟩:=append_R (P:=prog) (t:=C7) (e:=choT) (ty:=0) (x:=.tmp 0) (y:=.tmp 2) (new:=([x].map f).map (·.map C.imm)) rfl rfl rfl hσ rfl (by
   have h:=Src.own (j:=0) (n:=1) hσ2
   rwa [List.drop_zero,List.take_of_length_le (by simp)] at h) (by simpa using hb) hR
  obtain⟨b0,cap0,us0,hx1,_,_⟩:=M2 hR hσ hu
  obtain⟨b2,cap2,us2,hy1,_,_⟩:=M2 hR hσ2 hv
  have hnc:l.length≤cap0:=by
   rcases hu with⟨_,h2,_,h4⟩|⟨_,_,cap,_,_,_,_,h2,_,h3,_⟩
   ·rw[hx1] at h2;injection h2 with q1 q2 q3;omega
   ·rw[hx1] at h2;injection h2 with q1 q2 q3;omega
  have e1:(⟨#[u,.int .i64 (l.length:Int),v],[]⟩:Act).eval (.tmp 0)=u:=rfl
  have e2:(⟨#[u,.int .i64 (l.length:Int),v],[]⟩:Act).eval (.tmp 2)=v:=rfl
  rw[e1,e2,hx1] at g1
  have hc:=ins_end b0 l.length cap0 v v' Γ.w0 w' ⟨b2,cap2,hy1⟩ (fun _=>g1) hnc
  rw[hx1]
  refine hc.mono ?_
  rintro e w2 ⟨rfl,rfl⟩
  have e3:=ins_lists (f:=f) (l:=l) (x:=x) (i:=l.length)
  have e4:((((l.map f).map (·.map C.imm)).drop 0).take l.length++([x].map f).map (·.map C.imm))=((l.take l.length++x::l.drop l.length).map f).map (·.map C.imm):=by
   rw[← e3,List.drop_zero,List.drop_of_length_le (by simp),List.append_nil]
  have e5:l.length+(([x].map f).map (·.map C.imm)).length=l.length+1:=by simp
  rw[e4] at g2 g3
  rw[e5] at g2
  exact⟨v',.c (.own (Γ.σ0.length,[]) 0 (l.length+1)),_,φ',rfl,⟨rfl,rfl⟩,g2,g3.toRs⟩
 ·have hi:ni<l.length:=by omega
  obtain⟨b0,cap0,us0,hx1,hx2,hx3⟩:=M2 hR hσ hu
  obtain⟨b2,cap2,us2,hy1,hy2,hy3⟩:=M2 hR hσ2 hv
  rcases hu with⟨_,_,_,h4⟩|⟨b,base,cap,arr,ety,ad,hp,hvv,had,hcap,hmax,hjn,hbk,hsz⟩
  ·omega
  rcases hv with⟨_,_,_,h4⟩|⟨c2,base2,cap2',arr2,ety2,ad2,hp2,hvv2,had2,hcap2,hmax2,hjn2,hbk2,hsz2⟩
  ·omega
  rw[hx1] at hvv;cases hvv
  rw[hy1] at hvv2;cases hvv2
  have:=had (by omega);subst this
  have:=had2 (by omega);subst this
  simp only[Nat.zero_mul,Nat.add_zero,Nat.zero_add,vlen,List.drop_zero] at *
  have hvb:c2 ≠ b:=fun e=>hne (hR.st.inj id2 id _ _ _ _ hσ2 hσ hp2 hp (by simpa using e))
  have r1:Rw Γ.w0 Γ.φ0 Γ.σ0 (Al Γ.N Γ.φ0 Γ.σ0) 2 ((l.map f).map (·.map C.imm)) us0:=by
   have:=hx3.rw
   rwa [List.take_of_length_le (by simp)] at this
  have r2:Rw Γ.w0 Γ.φ0 Γ.σ0 (Al Γ.N Γ.φ0 Γ.σ0) 2 (([x].map f).map (·.map C.imm)) us2:=by
   have:=hy3.rw
   rwa [List.take_of_length_le (by simp)] at this
  have r3:=((r1.take ni (by simp;omega)).append r2).append (r1.drop ni (by simp;omega))
  rw[ins_lists] at r3
  have u0l:us0.length=l.length * 2:=by rw[r1.len];simp
  have u2l:us2.length=1 * 2:=by rw[r2.len];simp
  have cellA:∀j v,us0[j]? =some v→Γ.w0.cell? ⟨b,base+j,none⟩=some v:=fun j v hj=>by
   have:=hx3.cell _ rfl j v hj
   rwa [Addr.add_lit] at this
  have cellB:∀j v,us2[j]? =some v→Γ.w0.cell? ⟨c2,base2+j,none⟩=some v:=fun j v hj=>by
   have:=hy3.cell _ rfl j v hj
   rwa [Addr.add_lit] at this
  have one1:∀v ∈ us0,v.oneCell'=true:=hx3.one
  have one2:∀v ∈ us2,v.oneCell'=true:=hy3.one
  have hdl:(us0.drop (ni * 2)).length=(l.length - ni) * 2:=by rw[List.length_drop,u0l,Nat.sub_mul]
  have htl:(us0.take (ni * 2)).length=ni * 2:=by rw[List.length_take];omega
  have cellD:∀j v,(us0.drop (ni * 2))[j]? =some v→Γ.w0.cell? ⟨b,base+ni * 2+j,none⟩=some v:=fun j v hj=>by
   rw[List.getElem?_drop] at hj
   rw[Nat.add_assoc];exact cellA _ v hj
  have hids:id.1<Γ.σ0.length:=b6.lt_of hσ
  rw[hx1,hy1]
  by_cases hroom:l.length+1≤cap0
  · -- room
   have hc:=ins_shift b base l.length cap0 ni c2 base2 cap2 arr arr2 ety ety2 (us0.drop (ni * 2)) us2 Γ.w0 hi hroom (by unfold maxLen at hmax;omega) hvb hbk hbk2 (by omega) hdl u2l cellD cellB (fun v hv=>one1 v (List.mem_of_mem_drop hv)) one2
   refine hc.mono ?_
   rintro e w2 ⟨rfl,rfl⟩
   have hK0:=Kept.drew Γ.w0 Γ.φ0 Γ.σ0 (Al Γ.N Γ.φ0 Γ.σ0)
   have s1:(spl arr (base+(ni+1) * 2) (us0.drop (ni * 2))).size=arr.size:=Y5 (by omega)
   have s2:(spl (spl arr (base+(ni+1) * 2) (us0.drop (ni * 2))) (base+ni * 2) us2).size=arr.size:=by rw[Y5 (by omega),s1]
   have hO:=Rs.reown (k:=2) (base':=base) (es':=((l.take ni++x::l.drop ni).map f).map (·.map C.imm)) (arr':=spl (spl arr (base+(ni+1) * 2) (us0.drop (ni * 2))) (base+ni * 2) us2) hR.toRs.drew hσ hp hbk (r3.hk) (by rw[s2];simp only[List.length_map,nlen];omega) (fun j e o y he hy=>by
    obtain⟨uu,hu,hr⟩:=r3.rel j e o y he hy
    refine⟨uu,?_,hr.mono hK0⟩
    have hlt:=(lG.1 hu).1
    simp only[List.length_append,htl,hdl,u2l] at hlt
    rw[spl_get (by omega),spl_get (by omega)]
    by_cases c1:j * 2+o<ni * 2
    ·rw[if_neg (by omega),if_neg (by omega)]
     rw[List.append_assoc,List.getElem?_append_left (by omega),List.getElem?_take,if_pos c1] at hu
     have:=cellA _ _ hu
     rw[K3 hbk] at this
     simpa using this
    ·by_cases c2:j * 2+o<ni * 2+2
     ·rw[if_pos (by omega)]
      rw[List.append_assoc,List.getElem?_append_right (by omega),List.getElem?_append_left (by omega),htl] at hu
      rw[← hu];congr 1;omega
     ·rw[if_neg (by omega),if_pos (by omega)]
      rw[List.getElem?_append_right (by simp[htl,u2l];omega)] at hu
      rw[← hu]
      simp only[List.length_append,htl,u2l]
      congr 1;omega)
   refine⟨_,_,_,_,rfl,⟨rfl,rfl⟩,?_,hO.2⟩
   refine E5 (k:=2) (es:=((l.take ni++x::l.drop ni).map f).map (·.map C.imm)) (by rw[← b6.length_put Γ.σ0 id none];exact b6.get_last _ _) rfl (.inr ⟨b,base,cap0,_,ety,⟨b,base,none⟩,by simp,rfl,fun _=>by simp,hroom,hmax,by simp only[List.length_map,nlen];omega,setRow_heap Γ.w0.drew b arr _ ety (0,0) hbk,by rw[s2];omega⟩)
  ·have hc:=ins_grow b base l.length cap0 ni c2 base2 cap2 (us0.take (ni * 2)) (us0.drop (ni * 2)) us2 Γ.w0 hi hcap (by omega) hb (hR.toRs.blk_lt hσ hp) (hR.toRs.blk_lt hσ2 hp2) htl hdl u2l (fun j v hj=>by
    rw[List.getElem?_take] at hj
    split at hj
    ·exact cellA _ v hj
    ·cases hj) cellD cellB (fun v hv=>one1 v (List.mem_of_mem_drop hv)) one2
   refine hc.mono ?_
   rintro e w2 ⟨G,ROW,g1,g2,g3,g4,rfl,rfl⟩
   obtain⟨hK1,hR1⟩:=hR.toRs.drew.drew.kill id
   have hK0:Kept Γ.w0 Γ.w0.drew.drew Γ.φ0 Γ.φ0 Γ.σ0 Γ.σ0 (Al Γ.N Γ.φ0 Γ.σ0) (Al Γ.N Γ.φ0 Γ.σ0):=Kept.trans (show Γ.w0.heap.size≤Γ.w0.drew.heap.size from Nat.le_refl _) (Kept.drew Γ.w0 Γ.φ0 Γ.σ0 _) (Kept.drew Γ.w0.drew Γ.φ0 Γ.σ0 _)
   have hK01:=Kept.trans (show Γ.w0.heap.size≤Γ.w0.drew.drew.heap.size from Nat.le_refl _) hK0 hK1
   have s1:(spl ROW (ni * 2) us2).size=G * 2:=by rw[Y5 (by omega)];exact g3
   have s2:(spl (spl ROW (ni * 2) us2) ((ni+1) * 2) (us0.drop (ni * 2))).size=G * 2:=by rw[Y5 (by omega),s1]
   have hA:=Rs.alloc (k:=2) (es:=((l.take ni++x::l.drop ni).map f).map (·.map C.imm)) (arr:=spl (spl ROW (ni * 2) us2) ((ni+1) * 2) (us0.drop (ni * 2))) (ety:=choT) hR1 r3.hk (by rw[s2];simp only[List.length_map,nlen];omega) (fun j e o y he hy=>by
    obtain⟨uu,hu,hr⟩:=r3.rel j e o y he hy
    refine⟨uu,?_,hr.mono hK01⟩
    have hlt:=(lG.1 hu).1
    simp only[List.length_append,htl,hdl,u2l] at hlt
    rw[spl_get (by omega),spl_get (by omega)]
    by_cases c1:j * 2+o<ni * 2
    ·rw[if_neg (by omega),if_neg (by omega)]
     rw[List.append_assoc,List.getElem?_append_left (by omega)] at hu
     exact g4 _ _ hu
    ·by_cases c2:j * 2+o<ni * 2+2
     ·rw[if_neg (by omega),if_pos (by omega)]
      rw[List.append_assoc,List.getElem?_append_right (by omega),List.getElem?_append_left (by omega),htl] at hu
      exact hu
     ·rw[if_pos (by omega)]
      rw[List.getElem?_append_right (by simp[htl,u2l];omega)] at hu
      rw[← hu]
      simp only[List.length_append,htl,u2l]
      congr 1;omega)
   rw[b6.length_put] at hA
   refine⟨_,_,_,_,rfl,⟨rfl,rfl⟩,?_,hA.2⟩
   refine E5 (k:=2) (es:=((l.take ni++x::l.drop ni).map f).map (·.map C.imm)) (by rw[← b6.length_put Γ.σ0 id none];exact b6.get_last _ _) rfl (.inr ⟨Γ.w0.heap.size,0,G,_,choT,⟨Γ.w0.heap.size,0,none⟩,by simp[k9],rfl,fun _=>by simp,g1,g2,by simp only[List.length_map,nlen];omega,heap_alloc_new Γ.w0.drew.drew _,by rw[s2];omega⟩)
end Ab
end
section
namespace Ab
open Go Go.Proofs
open Tryz
def insL{α:Type}(l:List α)(i:Int)(x:α):Option (List α):=if 0≤i∧i≤l.length∧(l.length+1) * 32≤140737488355328 then some (l.take i.toNat++x::l.drop i.toNat) else none
section
variable {σ0:b6}{sz:Nat}{Q:Post}{env:Env}{σv σ':b6}{ops:Array Oper}{rest:List Oper}{dst:Option Nat}{ty:Ti}{pos:String}{after:Array Edge}
theorem S.insert{α:Type}{f:α→List I}{x:Od}{al:List Od}{ats:Array Ti}{id id2 n':Id}{n m:Nat}{i:Int}{l l':List α}{y:α}{σ1:b6}(hl:insL l i y=some l')(hx:ev env x=some (.c (.fn insF [])))
  (ha:evs env al=some [.c (.own id 0 n),.c (int i),.c (.own id2 0 m)]) (hn:n=l.length) (hm:m=1) (hne:(id2.1==id.1)=false) (hσ:σv[id]? =some (some (vec 2 f l))) (hσ2:σv[id2]? =some (some (vec 2 f [y])))
  (hd:f8 sz dst=true) (hid:newF σv=some n') (h1:putF σv id none=some σ1) (hσ':q9 σ1 (.one (vec 2 f l'))=some σ') (h:AOps prog σ0 sz ops Q rest (St.mk (putE env dst (.c (.own n' 0 l'.length))) σ')):
  AOps prog σ0 sz ops Q (⟨dst,.call ⟨.value x,al.toArray,ats⟩,ty,pos,after,none⟩::rest) (St.mk env σv):=by
 have h2:=A6 h1
 have h3:=y7 hid;have h4:=m7 hσ'
 subst hn hm h2 h3 h4
 unfold insL at hl
 split at hl
 ·rename_i c
  cases hl
  refine AOps.callS hx ha hd (ins_fn hσ hσ2 (fun e=>by rw[e] at hne;simp at hne) c.2.2 c.1 c.2.1) ?_
  rintro r σ2 ⟨rfl,rfl⟩
  cases dst<;>exact h
 ·cases hl
end
end Ab
end
section
namespace Ab
open Go Go.Sort
section
variable {P:Program}{σ0:b6}{sz:Nat}{Q:Post}{env:Env}{σv σ':b6}{ops:Array Oper}{rest:List Oper}{dst:Option Nat}{ty:Ti}{pos:String}{after:Array Edge}
end
end Ab
end
section
namespace Ab
open Go
section
variable {α β:Type}{pre post:α→List I}{g:α→List β}{kb k r:Nat}{fb:β→List I}{M:List α}
def oc(pre post:α→List I)(c:C)(a:α):List C:=(pre a).map .imm++c::(post a).map .imm
def ohdr(pre post:α→List I)(g:α→List β)(r:Nat)(M:List α):List (List C):=M.mapIdx fun i a=>oc pre post (.own (r,[i]) 0 (g a).length) a
def omat(r k:Nat)(pre post:α→List I)(g:α→List β)(kb:Nat)(fb:β→List I)(M:List α):Ent:=.node (some (.cells k (ohdr pre post g r M))) (M.map fun a=>.one (vec kb fb (g a)))
theorem oc_ren{π:Id→Id}{c:C}{a:α}:C.renL π (oc pre post c a)=oc pre post (c.ren π) a:=by
 have h:∀l:List I,C.renL π (l.map .imm)=l.map .imm:=fun l=>by
  induction l with
  |nil=>rfl
  |cons x l ih=>simp[C.renL,C.ren,ih]
 have h2:∀(l:List I) (m:List C),C.renL π (l.map .imm++m)=l.map .imm++C.renL π m:=fun l m=>by
  induction l with
  |nil=>rfl
  |cons x l ih=>simp[C.renL,C.ren,ih]
 simp only[oc,h2,C.renL,h]
theorem oc_all(p:C→Bool)(hp:∀x:I,p (.imm x)=true){c:C}{a:α}:(oc pre post c a).all p=p c:=by
 have h:∀l:List I,(l.map C.imm).all p=true:=fun l=>by simp[List.all_eq_true,hp]
 simp only[oc,List.all_append,List.all_cons,h,Bool.true_and,Bool.and_true]
theorem oc_ok{n:Nat}{c:C}{a:α}:C.okL n (oc pre post c a)=c.ok n:=by
 rw[F2];exact oc_all _ (fun _=>rfl)
theorem oc_no{id:Id}{c:C}{a:α}:C.noL id (oc pre post c a)=c.no id:=by
 rw[noL_eq];exact oc_all _ (fun _=>rfl)
theorem ohdr_len:(ohdr pre post g r M).length=M.length:=by simp[ohdr]
theorem ohdr_get{i:Nat}{e:List C}(h:(ohdr pre post g r M)[i]? =some e):∃a,M[i]? =some a∧e=oc pre post (.own (r,[i]) 0 (g a).length) a:=by
 simp only[ohdr,List.getElem?_mapIdx,oM] at h
 obtain⟨a,h1,h2⟩:=h
 exact⟨a,h1,h2.symm⟩
theorem om_sub{q:List Nat}{b:Blk}(h:(omat r k pre post g kb fb M).sub q=some b):(q=[]∧b=.cells k (ohdr pre post g r M))∨∃i a,q=[i]∧M[i]? =some a∧b=vec kb fb (g a):=by
 cases q with
 |nil=>exact .inl ⟨rfl,by simpa[omat,Ent.sub] using h.symm⟩
 |cons i q=>
  simp only[omat,Ent.sub,lM] at h
  cases hi:M[i]? with
  |none=>simp[hi] at h
  |some p=>
   rw[hi] at h
   cases q with
   |nil=>simp only[Option.map_some,Ent.sub,Option.some.injEq] at h;exact .inr ⟨i,p,rfl,hi,h.symm⟩
   |cons=>simp[Ent.sub] at h
theorem om_main:(omat r k pre post g kb fb M).sub []=some (.cells k (ohdr pre post g r M)):=rfl
theorem om_row{i:Nat}{a:α}(h:M[i]? =some a):(omat r k pre post g kb fb M).sub [i]=some (vec kb fb (g a)):=by simp[omat,Ent.sub,h]
theorem om_ok{n:Nat}(h:Nat.blt r n=true):∀q b,(omat r k pre post g kb fb M).sub q=some b→b.ok n=true:=fun q b hb=>by
 rcases om_sub hb with⟨_,rfl⟩|⟨i,p,_,_,rfl⟩
 ·simp only[Blk.ok,List.all_eq_true]
  intro e he
  obtain⟨i,hi⟩:=List.getElem?_of_mem he
  obtain⟨a,_,rfl⟩:=ohdr_get hi
  rw[oc_ok];simpa[C.ok] using h
 ·exact M4
theorem om_no{id:Id}(h:id.1 ≠ r):∀q b,(omat r k pre post g kb fb M).sub q=some b→b.no id=true:=fun q b hb=>by
 rcases om_sub hb with⟨_,rfl⟩|⟨i,p,_,_,rfl⟩
 ·simp only[Blk.no,List.all_eq_true]
  intro e he
  obtain⟨i,hi⟩:=List.getElem?_of_mem he
  obtain⟨a,_,rfl⟩:=ohdr_get hi
  have:idb ((r,[i]):Id) id=false:=ac0 (fun e=>h (by rw[← e]))
  rw[oc_no];simp[C.no,this]
 ·exact Blk.im_no _ _ _
theorem ohdr_ren{π:Id→Id}{r':Nat}(h:∀q,π (r,q)=(r',q)):(Blk.cells k (ohdr pre post g r M)).ren π=.cells k (ohdr pre post g r' M):=by
 simp only[Blk.ren]
 congr 1
 apply List.ext_getElem?
 intro j
 simp only[ohdr,lM,List.getElem?_mapIdx]
 cases M[j]? with
 |none=>rfl
 |some a=>simp[oc_ren,C.ren,h]
theorem EntMv.omat{id n:Id}{mx:Nat}{σ:b6}(h:Nat.beq id.1 r=false)(hr:Nat.blt r mx=true)(hσ:σ[r]? =some (Ab.omat r k pre post g kb fb M)):EntMv id n σ mx r (Ab.omat r k pre post g kb fb M):=by
 have hne:id.1 ≠ r:=fun e=>by simp[e] at h
 show ∀(p:List Nat) (b:Blk),(Ab.omat r k pre post g kb fb M).sub p=some b→_
 intro p b hb
 have hm:mv id n (r,p)=(r,p):=by
  have:(r,p) ≠ id:=fun e=>hne (by rw[← e])
  simp[mv,ac0 this]
 rw[hm,m9 hσ,hb]
 exact⟨om_ok hr p b hb,by rw[Blk.ren_no _ (om_no hne p b hb)]⟩
theorem EntR.omat{r0 n mx i j:Nat}{σ:b6}(hj:(mvr r0 n (i,[])).1=j)(hr:Nat.blt i mx=true)(hσ:σ[j]? =some (Ab.omat j k pre post g kb fb M)):EntR r0 n σ mx i (Ab.omat i k pre post g kb fb M):=.any fun p b hb=>by
 have e:∀q,mvr r0 n (i,q)=(j,q):=fun q=>by rw[← hj];rfl
 rw[e,m9 hσ]
 refine⟨om_ok hr p b hb,?_⟩
 rcases om_sub hb with⟨rfl,rfl⟩|⟨q,p',rfl,hq,rfl⟩
 ·rw[om_main,ohdr_ren e]
 ·rw[om_row hq,W0]
theorem RenE.omat{r':Nat}{π:Id→Id}(h:∀q,π (r,q)=(r',q)):RenE π r (Ab.omat r k pre post g kb fb M) r' (Ab.omat r' k pre post g kb fb M):=.any (fun p b hb=>by
  rcases om_sub hb with⟨rfl,rfl⟩|⟨q,p',rfl,hq,rfl⟩
  ·rw[om_main,ohdr_ren h]
  ·rw[om_row hq,W0]) (fun p b hb=>by
  rcases om_sub hb with⟨rfl,rfl⟩|⟨q,p',rfl,hq,rfl⟩
  ·exact⟨_,om_main,(ohdr_ren h).symm⟩
  ·exact⟨_,om_row hq,W0.symm⟩)
theorem FrzB.omat{id:Id}{X:C→C→Prop}(h:Nat.beq id.1 r=false):FrzB id X (Ab.omat r k pre post g kb fb M) (Ab.omat r k pre post g kb fb M):=by
 have hne:id.1 ≠ r:=fun e=>by simp[e] at h
 show _=_∧_
 exact⟨rfl,fun p b h=>om_no hne p b h⟩
end
section
variable {P:Program}{σ0:b6}{sz:Nat}{Q:Post}{env env':Env}{σv σ':b6}{ops:Array Oper}{rest:List Oper}{dst:Option Nat}{ty:Ti}{pos:String}{after:Array Edge}
variable {α β:Type}{pre post:α→List I}{g:α→List β}{kb k r:Nat}{fb:β→List I}{M:List α}
theorem om_head(h:σv[r]? =some (omat r k pre post g kb fb M)):σv[((r,[]):Id)]? =some (some (.cells k (ohdr pre post g r M))):=by rw[m9 h];rfl
theorem S.appendO{x y:Od}{t e:Ti}{bytes m n s t0 q:Nat}{z:Vl}{a:α}{M':List α}{σ1 σ2:b6}[ht:TyD P t (.slice e)][hts:TyS P e k bytes z]
  (ha:app bytes M [a]=some M') (hzk:(z.cells.size==k)=true) (hbp:Nat.blt 0 bytes=true) (hx:ev env x=some (.c (.own (r,[]) 0 m))) (hm:m=M.length) (hσ:σv[r]? =some (omat r k pre post g kb fb M))
  (hy:ev env y=some (.c (.own (t0,[]) 0 1))) (ht0:σv[((t0,[]):Id)]? =some (some (.cells k [oc pre post (.own (s,[]) 0 q) a]))) (hq:q=(g a).length) (hs:σv[((s,[]):Id)]? =some (some (vec kb fb (g a)))) (hsr:Nat.beq s r=false)
  (hn:newF σv=some (n,[])) (h1:setF σv r .dead=some σ1) (h2:setF σ1 s .dead=some σ2) (hσ':q9 σ2 (omat n k pre post g kb fb M')=some σ') (hd:f8 sz dst=true) (h0:Nat.ble σ0.length n=true)
  (h:AOps P σ0 sz ops Q rest (St.mk (putE env dst (.c (.own (n,[]) 0 M'.length))) σ')):
  AOps P σ0 sz ops Q (⟨dst,.call ⟨.builtin .append,#[x,y],#[t,t]⟩,ty,pos,after,none⟩::rest) (St.mk env σv):=by
 have h2':=(K0 h1).1;have h2s:=(K0 h2).1;have h3:=y7 hn;have h4:=m7 hσ'
 cases h3
 subst h2' h2s h4 hm hq
 obtain⟨hb,rfl⟩:=af2 ha
 have hsr':s ≠ r:=fun e=>by simp[e] at hsr
 have hrl:=(lG.1 hσ).1
 have hsl:s<σv.length:=b6.lt_of hs
 have h0':=Nat.le_of_ble_eq_true h0
 intro Γ0 φ0 a0 w0 hΓ0 hR0
 have hsrc:Src σv k (.c (.own (t0,[]) 0 1)) [oc pre post (.own (s,[]) 0 (g a).length) a]:=.own (j:=0) (n:=1) ht0
 refine AOps.append hzk hbp hx (om_head hσ) hy hsrc (by simpa using hb) hd ?_ Γ0 φ0 a0 w0 hΓ0 hR0
 have e1:((ohdr pre post g r M).drop 0).take M.length=ohdr pre post g r M:=by rw[List.drop_zero,List.take_of_length_le (by simp[ohdr_len])]
 rw[e1]
 generalize hX:σv.put (r,[]) none++[Ent.one (.cells k (ohdr pre post g r M++[oc pre post (.own (s,[]) 0 (g a).length) a]))]=σX
 have e5:(St.mk env σX).put dst (.c (.own (σv.length,[]) 0 (M.length+[oc pre post (.own (s,[]) 0 (g a).length) a].length)))=⟨putE env dst (.c (.own (σv.length,[]) 0 (M++[a]).length)),σX⟩:=by
  rw[show M.length+[oc pre post (.own (s,[]) 0 (g a).length) a].length=(M++[a]).length by simp]
  cases dst<;>rfl
 rw[e5]
 have xn:σX[((σv.length,[]):Id)]? =some (some (.cells k (ohdr pre post g r M++[oc pre post (.own (s,[]) 0 (g a).length) a]))):=by
  rw[← hX,b6.get_right (by simp)];simp[b6.at_eq,b6.at,Ent.sub]
 have xo:∀i:Id,i.1<σv.length→i ≠ (r,[])→σX[i]? =σv[i]? :=fun i hi hne=>by
  rw[← hX,b6.get_left (by simpa using hi),b6.get_put_ne hne]
 generalize hπ:(fun i:Id=>if i.1=σv.length then(if i.2=[] then(σv.length,[]) else if i.2=[M.length] then(s,[]) else(r,i.2)) else i)=π
 have π0:∀i:Id,i.1 ≠ σv.length→π i=i:=fun i hi=>by rw[← hπ];simp[hi]
 have πn:π (σv.length,[])=(σv.length,[]):=by rw[← hπ];simp
 have πv:π (σv.length,[M.length])=(s,[]):=by rw[← hπ];simp
 have πr:∀q,q<M.length→π (σv.length,[q])=(r,[q]):=fun q hq=>by rw[← hπ];simp;omega
 have hMlen:(M++[a]).length=M.length+1:=by simp
 have dead:∀(i:Id) b,((σv.set r .dead).set s .dead)[i]? =some (some b)→i.1 ≠ r∧i.1 ≠ s∧σv[i]? =some (some b):=fun i b hi=>by
  obtain⟨i1,q⟩:=i
  rw[b6.at_eq] at hi
  simp only[b6.at,List.getElem?_set,lS] at hi
  by_cases e1:s=i1
  ·subst e1;simp[hsl,Ent.sub] at hi
  ·rw[if_neg e1] at hi
   by_cases e2:r=i1
   ·subst e2;simp[hrl,Ent.sub] at hi
   ·rw[if_neg e2] at hi
    exact⟨fun e=>e2 e.symm,fun e=>e1 e.symm,by rw[b6.at_eq];exact hi⟩
 have cases3:∀(i:Id) b,((σv.set r .dead).set s .dead++[omat σv.length k pre post g kb fb (M++[a])])[i]? =some (some b)→
   (i.1<σv.length∧i.1 ≠ r∧i.1 ≠ s∧σv[i]? =some (some b))∨(i=(σv.length,[])∧b=.cells k (ohdr pre post g σv.length (M++[a])))∨(∃q c,i=(σv.length,[q])∧(M++[a])[q]? =some c∧b=vec kb fb (g c)):=fun i b hi=>by
  rcases Nat.lt_or_ge i.1 σv.length with hl|hl
  ·rw[b6.get_left (by simpa using hl)] at hi
   obtain⟨g1,g2,g3⟩:=dead i b hi
   exact .inl ⟨hl,g1,g2,g3⟩
  ·rw[b6.get_right (by simpa using hl)] at hi
   obtain⟨i1,q⟩:=i
   simp only[lS] at hi hl
   have hz:i1=σv.length:=by
    have:=b6.lt_of hi
    simp at this;simp at hl;omega
   subst hz
   rw[Nat.sub_self,m9 (e:=omat σv.length k pre post g kb fb (M++[a])) rfl] at hi
   simp only[Option.some.injEq] at hi
   rcases om_sub hi with⟨rfl,rfl⟩|⟨q',c,rfl,hc,rfl⟩
   ·exact .inr (.inl ⟨rfl,rfl⟩)
   ·exact .inr (.inr ⟨q',c,rfl,hc,rfl⟩)
 refine AOps.sub (s':=⟨putE env dst (.c (.own (σv.length,[]) 0 (M++[a]).length)),(σv.set r .dead).set s .dead++[omat σv.length k pre post g kb fb (M++[a])]⟩) ?_ h
 have hlen':((σv.set r .dead).set s .dead++[omat σv.length k pre post g kb fb (M++[a])]).length=σv.length+1:=by simp
 have hqb:∀{q:Nat} {c:α},(M++[a])[q]? =some c→q<M.length+1:=fun hc=>by rw[← hMlen];exact(lG.1 hc).1
 refine Sub.mk π (fun i hi=>π0 i (by omega)) (by rw[hlen'];omega) (fun i j b b' hi hj he=> ?_) (fun i b hi=> ?_) (fun t v ht=> ?_)
 ·rcases cases3 i b hi with⟨g1,g2,g2s,_⟩|⟨rfl,_⟩|⟨q,row,rfl,g1,_⟩<;>rcases cases3 j b' hj with⟨k1,k2,k2s,_⟩|⟨rfl,_⟩|⟨q',row',rfl,k1,_⟩
  ·rwa [π0 i (by omega),π0 j (by omega)] at he
  ·rw[π0 i (by omega),πn] at he;subst he;simp at g1
  ·rw[π0 i (by omega)] at he
   have hq:=hqb k1
   by_cases e:q'=M.length
   ·subst e;rw[πv] at he;subst he;exact absurd rfl g2s
   ·rw[πr q' (by omega)] at he;subst he;exact absurd rfl g2
  ·rw[π0 j (by omega),πn] at he;subst he;simp at k1
  ·rfl
  ·have hq:=hqb k1
   by_cases e:q'=M.length
   ·subst e;rw[πn,πv] at he;simp at he;omega
   ·rw[πn,πr q' (by omega)] at he;simp at he
  ·rw[π0 j (by omega)] at he
   have hq:=hqb g1
   by_cases e:q=M.length
   ·subst e;rw[πv] at he;subst he;exact absurd rfl k2s
   ·rw[πr q (by omega)] at he;subst he;exact absurd rfl k2
  ·have hq:=hqb g1
   by_cases e:q=M.length
   ·subst e;rw[πn,πv] at he;simp at he;omega
   ·rw[πn,πr q (by omega)] at he;simp at he
  ·have hq:=hqb g1
   have hq':=hqb k1
   by_cases e:q=M.length<;>by_cases e':q'=M.length
   ·rw[e,e']
   ·rw[e,πv,πr q' (by omega)] at he;simp at he
   ·rw[e',πv,πr q (by omega)] at he;simp at he
   ·rw[πr q (by omega),πr q' (by omega)] at he
    simp at he;rw[he]
 ·dsimp only
  rw[hlen']
  rcases cases3 i b hi with⟨g1,g2,g2s,g3⟩|⟨rfl,rfl⟩|⟨q,c,rfl,g1,rfl⟩
  ·have hok:=hR0.st.okB g3
   have hren:b.ren π=b:=Blk.ren_ok (m:=σv.length) (fun i hi=>π0 i (by omega)) b hok
   refine⟨Blk.ok_mono (Nat.le_succ _) b hok,?_⟩
   rw[π0 i (by omega),hren,xo i g1 (fun e=>g2 (by rw[e]))]
   exact g3
  ·refine⟨om_ok (r:=σv.length) (kb:=kb) (fb:=fb) (by simp) [] _ om_main,?_⟩
   rw[πn,xn]
   congr 2
   simp only[Blk.ren]
   congr 1
   apply List.ext_getElem?
   intro q
   rw[lM]
   simp only[ohdr,List.getElem?_mapIdx,Option.map_map,List.getElem?_append,List.length_mapIdx]
   by_cases hq:q<M.length
   ·rw[if_pos hq,if_pos hq]
    cases hM:M[q]? with
    |none=>rfl
    |some row=>simp[oc_ren,C.ren,πr q hq]
   ·rw[if_neg hq,if_neg hq]
    by_cases hq2:q=M.length
    ·subst hq2;simp[oc_ren,C.ren,πv]
    ·cases hz:q - M.length with
     |zero=>omega
     |succ x=>simp
  ·have hq:=hqb g1
   refine⟨M4,?_⟩
   rw[W0]
   by_cases e:q=M.length
   ·subst e
    rw[πv,xo (s,[]) hsl (fun e=>hsr' (by cases e;rfl)),hs]
    rw[List.getElem?_append_right (Nat.le_refl _),Nat.sub_self] at g1
    cases g1;rfl
   ·rw[πr q (by omega),xo (r,[q]) hrl (by simp)]
    rw[List.getElem?_append_left (by omega)] at g1
    rw[m9 hσ,om_row g1]
 ·dsimp only at ht ⊢
  rw[hlen']
  have old:∀v,lookup t env=some v→v.ok (σv.length+1)=true∧lookup t env=some (v.ren π):=fun v hv=>by
   obtain⟨u,_,hr⟩:=hR0.env t v hv
   have hok:=hr.ok
   exact⟨T.ok_mono (Nat.le_succ _) v hok,by rw[T.ren_ok (m:=σv.length) (fun i hi=>π0 i (by omega)) v hok];exact hv⟩
  cases hdst:dst with
  |none=>rw[hdst] at ht;exact old v ht
  |some d=>
   rw[hdst] at ht
   simp only[putE,lookup] at ht ⊢
   split at ht
   ·cases ht
    refine⟨by simp[T.ok,C.ok],?_⟩
    simp[T.ren,C.ren,πn]
   ·exact old v ht
/-! ### Rows cease to change -/
theorem Y6.set{e:Ent}(h:Y6 r σv):Y6 r (σv.set r e):=fun i b hi hb q=>by
 refine h i b hi ?_ q
 obtain⟨i1,l⟩:=i
 rw[b6.at_eq] at hb ⊢
 simp only[b6.at,List.getElem?_set] at hb ⊢
 rwa [if_neg (fun e=>hi e.symm)] at hb
/-! ### The block with one cell owned elsewhere: looked at, written -/
end
end Ab
end
section
namespace Ab
open Go
section
variable {P:Program}{σ0:b6}{sz:Nat}{Q:Post}{env:Env}{σv σ':b6}{ops:Array Oper}{rest:List Oper}{dst:Option Nat}{ty:Ti}{pos:String}{after:Array Edge}
variable {β:Type}{k r:Nat}{f:β→List I}{M:List (List β)}
theorem S.appendMR{x y:Od}{t e:Ti}{bytes m n s t0 q:Nat}{z:Vl}{a:List β}{M':List (List β)}{σ1 σ2:b6}[ht:TyD P t (.slice e)][hts:TyS P e 1 bytes z]
  (ha:app bytes M [a]=some M') (hzk:(z.cells.size==1)=true) (hbp:Nat.blt 0 bytes=true) (hx:ev env x=some (.c (.own (r,[]) 0 m))) (hm:m=M.length) (hσ:σv[r]? =some (mat (r,[]) k f M))
  (hy:ev env y=some (.c (.own (t0,[]) 0 1))) (ht0:σv[((t0,[]):Id)]? =some (some (.cells 1 [[.own (s,[]) 0 q]]))) (hq:q=a.length) (hs:σv[((s,[]):Id)]? =some (some (vec k f a))) (hsr:Nat.beq s r=false)
  (hn:newF σv=some (n,[])) (h1:setF σv r .dead=some σ1) (h2:setF σ1 s .dead=some σ2) (hσ':q9 σ2 (mat (n,[]) k f M')=some σ') (hd:f8 sz dst=true) (h0:Nat.ble σ0.length n=true)
  (h:AOps P σ0 sz ops Q rest (St.mk (putE env dst (.c (.own (n,[]) 0 M'.length))) σ')):
  AOps P σ0 sz ops Q (⟨dst,.call ⟨.builtin .append,#[x,y],#[t,t]⟩,ty,pos,after,none⟩::rest) (St.mk env σv):=
 S.appendO (pre:=fun _=>[]) (post:=fun _=>[]) (g:=fun a=>a) (kb:=k) (fb:=f) (k:=1) ha hzk hbp hx hm hσ hy ht0 hq hs hsr hn h1 h2 hσ' hd h0 h
theorem S.storeHS{x y:Od}{t:Ti}{bytes:Nat}{z:Vl}{i:Int}{row:List β}[hs:TyS P t 1 bytes z](he:ix M i=some row)(hx:ev env x=some (.c (.ptr (r,[]) i.toNat 0)))(hy:ev env y=some (.c (.own (r,[i.toNat]) 0 row.length)))
  (hσ:σv[r]? =some (mat (r,[]) k f M)) (h:AOps P σ0 sz ops Q rest (St.mk env σv)):AOps P σ0 sz ops Q (⟨none,.store t x y,ty,pos,after,none⟩::rest) (St.mk env σv):=by
 have he:=(I4 he).2
 refine AOps.store hx hy (ag8 hσ) (hdr_get he) (by simp) ?_
 refine AOps.sub (Sub.same (by simp) fun j=> ?_) h
 have e:(hdr (r,[]) M).set i.toNat [.own (r,[i.toNat]) 0 row.length]=hdr (r,[]) M:=(hdr_set (id:=(r,[]))).symm.trans (hdr_same he rfl)
 by_cases hj:j=(r,[])
 ·subst hj
  rw[b6.get_put_eq (ag8 hσ),ag8 hσ]
  exact congrArg (fun l=>some (some (Blk.cells 1 l))) e
 ·rw[b6.get_put_ne hj]
end
end Ab
end
section
namespace Ab
open Go Go.Proofs
set_option linter.all false
abbrev b9(l:Li):List I:=[.sl 1 (l.map intI)]
structure j3 where
  add:Li
  del:Li
  weight:Int
abbrev s8(v:j3):List I:=[.sl 1 (List.map intI v.add),.sl 1 (List.map intI v.del),.val (.int .i64 v.weight)]
structure e9 where
  pre:Li
  outcomes:List j3
  cost:Int
abbrev d6(v:e9):List I:=[.sl 1 (List.map intI v.pre),.sl 3 (List.map s8 v.outcomes),.val (.int .i64 v.cost)]
structure b7 where
  facts:Int
  init:Li
  goal:Li
  operators:List e9
abbrev eTOpenTask(v:b7):List I:=[.val (.int .i64 v.facts),.sl 1 (List.map intI v.init),.sl 1 (List.map intI v.goal),.sl 3 (List.map d6 v.operators)]
structure i7 where
  code:Int
  index:Int
abbrev B3(l:LL):List I:=[.sl 1 (l.map b9)]
structure ad4 where
  fx:Int
  fy:Int
  signed:Bool
  code:Int
structure Truntime_boundsError where
  fx:Int
  fy:Int
  signed:Bool
  code:Int
structure ab0 where
  facts:Int
  init:Li
  goal:Li
  operators:List e9
structure d9 where
  state:Li
  operator:Int
abbrev f5(v:d9):List I:=[.sl 1 (List.map intI v.state),.val (.int .i64 v.operator)]
abbrev eLTChoice(l:List d9):List I:=[.sl 2 (l.map f5)]
structure TNum_int_Den_int where
  num:Int
  den:Int
structure m5 where
  num:Int
  den:Int
structure TCode_int_Index_int where
  code:Int
  index:Int
structure ao1 where
  pre:Li
  outcomes:List j3
  cost:Int
structure N8 where
  pre:Li
  add:Li
  del:Li
  cost:Int
structure ad1 where
  facts:Int
  init:Li
  goal:Li
  operators:List N8
structure TTask where
  facts:Int
  init:Li
  goal:Li
  operators:List N8
structure ae0 where
  fo:b7
  states:LL
  ops:Li
  num:Li
  den:Int
structure Tchance_chooser where
  fo:b7
  states:LL
  ops:Li
  num:Li
  den:Int
structure Tstates_int_rows_int where
  states:LL
  rows:LL
structure Tchance_system where
  states:LL
  rows:LL
structure TAdd_int_Del_int_Weight_int where
  add:Li
  del:Li
  weight:Int
structure TState_int_Operator_int where
  state:Li
  operator:Int
structure aq2 where
  pre:Li
  add:Li
  del:Li
  cost:Int
structure Tspace_arc where
  ffrom:Int
  cost:Int
structure Tspace_Step_uint32 where
  op:Int
  cost:Int
  to:Int
structure TOp_int_Cost_int_To_uint32 where
  op:Int
  cost:Int
  to:Int
structure Tfrom_uint32_cost_int where
  ffrom:Int
  cost:Int
structure ao5 where
  pre:Int
  add:Int
  del:Int
  cost:Int
structure al2 where
  start:Int
  goal:Int
  ops:List ao5
structure Tspace_Words where
  start:Int
  goal:Int
  ops:List ao5
structure ak6 where
  pre:Int
  add:Int
  del:Int
  cost:Int
structure ap1 where
  item:Int
  key:Int
  time:Int
  fat:Int
structure Topenlist_entry_uint32 where
  item:Int
  key:Int
  time:Int
  fat:Int
def Q9(l:Li)(nv:Int):Int→Unit→Option (Unit⊕Bool):=fun t3 _=>Option.bind (ix l t3) fun a12=>Option.bind (if a12<0 then some true else if nv≤a12 then some true else if 0<t3 then Option.bind (ix l (t3 - 1)) fun a29=>some (decide (a12≤a29)) else some false) fun t4=>if t4=true then some (.inr false) else some (.inl ())
def B5(l:Li)(nv:Int):Option Bool:=(Option.bind (rngX 0 (l.length:Int) (Q9 l nv) ()) fun| .inl _=>some true| .inr x=>some x)
def D8(xv:Int):Option Bool:=some (!(decide (xv=xv)))
def S5(xv:Int)(yv:Int):Option Bool:=Option.bind (Option.bind (D8 xv) fun a6=>if a6=true then Option.bind (D8 yv) fun a9=>if(!a9)=true then some true else some (decide (xv<yv)) else some (decide (xv<yv))) fun t3=>some t3
def I2(xv:Int):Option Bool:=some (!(decide (xv=xv)))
def y5(xv:Li)(target:Int):(Int×Int)→Option ((Int×Int)⊕Int):=fun(iv3,j4)=>if iv3<j4 then Option.bind (ix xv (w64 (shrW .u64 ((IntKind.u64).wrap (w64 (iv3+j4))) 1))) fun a24=>Option.bind (S5 a24 target) fun a27=>if a27=true then some (.inl (w64 ((w64 (shrW .u64 ((IntKind.u64).wrap (w64 (iv3+j4))) 1))+1),j4)) else some (.inl (iv3,w64 (shrW .u64 ((IntKind.u64).wrap (w64 (iv3+j4))) 1))) else some (.inr iv3)
noncomputable def o7(xv:Li)(target:Int):Option (Int×Bool):=Option.bind (Loop (y5 xv target) (0,(xv.length:Int))) fun iv5=>Option.bind (if iv5<(xv.length:Int) then Option.bind (ix xv iv5) fun a38=>if a38=target then some true else Option.bind (ix xv iv5) fun a45=>Option.bind (I2 a45) fun a47=>if a47=true then Option.bind (I2 target) fun a50=>some a50 else some false else some false) fun t8=>some (iv5,t8)
noncomputable def S8(xv:Int)(c2:Li):Option Bool:=Option.bind (o7 c2 xv) fun a9=>some a9.2
def A7(sv:Li)(fv:Int→Option Bool):Int→Unit→Option (Unit⊕Int):=fun t3 _=>Option.bind (ix sv t3) fun a14=>Option.bind (fv a14) fun a16=>if a16=true then some (.inr t3) else some (.inl ())
def D6(sv:Li)(fv:Int→Option Bool):Option Int:=(Option.bind (rngX 0 (sv.length:Int) (A7 sv fv) ()) fun| .inl _=>some (-1)| .inr x=>some x)
def o8(sv:Li)(fv:Int→Option Bool):Option Bool:=Option.bind (D6 sv fv) fun a7=>some (decide (0≤a7))
noncomputable def R9(av:Li)(bv:Li):Option Bool:=Option.bind (o8 av (fun y1=>S8 y1 bv)) fun a7=>some a7
noncomputable def D5(ov:e9)(facts:Int):Int→Unit→Option (Unit⊕Int):=fun t6 _=>Option.bind (ix ov.outcomes t6) fun a38=>Option.bind (Option.bind (B5 a38.add facts) fun a44=>if(!a44)=true then some true else Option.bind (B5 a38.del facts) fun a50=>if(!a50)=true then some true else Option.bind (R9 a38.add a38.del) fun a58=>some a58) fun t7=>if t7=true then some (.inr 5) else if((decide (a38.weight<1))||(decide (6<a38.weight)))=true then some (.inr 3) else some (.inl ())
noncomputable def G5(ov:e9)(facts:Int):Option Int:=Option.bind (B5 ov.pre facts) fun a11=>if(!a11)=true then some 5 else if((decide (ov.cost<0))||(decide (100<ov.cost)))=true then some 3 else if((decide ((ov.outcomes.length:Int)=0))||(decide (4<(ov.outcomes.length:Int))))=true then some 9 else(Option.bind (rngX 0 (ov.outcomes.length:Int) (D5 ov facts) ()) fun| .inl _=>some 0| .inr x=>some x)
noncomputable def I8(ov:b7):Int→Unit→Option (Unit⊕i7):=fun t6 _=>Option.bind (ix ov.operators t6) fun a44=>Option.bind (G5 a44 ov.facts) fun a49=>if a49=0 then some (.inl ()) else some (.inr (⟨a49,t6⟩:i7))
noncomputable def K1(ov:b7):Option i7:=if((decide (ov.facts<0))||(decide (24<ov.facts)))=true then some (⟨3, -1⟩:i7) else Option.bind (B5 ov.init ov.facts) fun a21=>if(!a21)=true then some (⟨5, -2⟩:i7) else Option.bind (B5 ov.goal ov.facts) fun a29=>if(!a29)=true then some (⟨5, -3⟩:i7) else if 40<(ov.operators.length:Int) then some (⟨2, -1⟩:i7) else(Option.bind (rngX 0 (ov.operators.length:Int) (I8 ov) ()) fun| .inl _=>some (⟨0,0⟩:i7)| .inr x=>some x)
def M8(iv:Int):Option ByteArray:=if iv<10 then Option.bind (subS (⟨#[48,49,50,51,52,53,54,55,56,57,97,98,99,100,101,102,103,104,105,106,107,108,109,110,111,112,113,114,115,116,117,118,119,120,121,122]⟩:ByteArray) iv (w64 (iv+1))) fun a8=>some a8 else Option.bind (subS (⟨#[48,48,48,49,48,50,48,51,48,52,48,53,48,54,48,55,48,56,48,57,49,48,49,49,49,50,49,51,49,52,49,53,49,54,49,55,49,56,49,57,50,48,50,49,50,50,50,51,50,52,50,53,50,54,50,55,50,56,50,57,51,48,51,49,51,50,51,51,51,52,51,53,51,54,51,55,51,56,51,57,52,48,52,49,52,50,52,51,52,52,52,53,52,54,52,55,52,56,52,57,53,48,53,49,53,50,53,51,53,52,53,53,53,54,53,55,53,56,53,57,54,48,54,49,54,50,54,51,54,52,54,53,54,54,54,55,54,56,54,57,55,48,55,49,55,50,55,51,55,52,55,53,55,54,55,55,55,56,55,57,56,48,56,49,56,50,56,51,56,52,56,53,56,54,56,55,56,56,56,57,57,48,57,49,57,50,57,51,57,52,57,53,57,54,57,55,57,56,57,57]⟩:ByteArray) (w64 (iv * 2)) (w64 ((w64 (iv * 2))+2))) fun a14=>some a14
abbrev U1(iv:Int)(base:Int)(l:Li):b6:=[.one (vec 1 eU8 l)]
def D1(iv:Int)(base:Int)(l:Li):Option Li:=if base=10 then if iv<100 then Option.bind (M8 (w64 iv)) fun a16=>Option.bind (app 1 l (strL a16)) fun a17=>some a17 else none else none
abbrev V0(iv:Int)(base:Int)(l:Li):b6:=[.one (vec 1 eU8 l)]
def D9(iv:Int)(base:Int)(l:Li):Option Li:=Option.bind (if iv<0 then none else some ()) fun _=>Option.bind (D1 ((IntKind.u64).wrap iv) base l) fun a20=>some a20
abbrev ah7(iv:Int)(base:Int)(l:Li):b6:=[.one (vec 1 eU8 l)]
def O6(iv:Int)(base:Int)(l:Li):Option Li:=Option.bind (D9 iv base l) fun a10=>some a10
def an8(a12:Li):Int→Li→Option Li:=fun t5 c4=>Option.bind (ix a12 t5) fun a18=>Option.bind (O6 a18 10 c4) fun a22=>Option.bind (app 1 a22 [44]) fun a24=>some a24
def ao0(l:LL):Int→Li→Option Li:=fun t3 c2=>Option.bind (ix l t3) fun a12=>(Option.bind (forR 0 (a12.length:Int) (an8 a12) c2) fun c4=>Option.bind (app 1 c4 [59]) fun a28=>some a28)
def ae5(l:LL):Option ByteArray:=(Option.bind (forR 0 (l.length:Int) (ao0 l) []) fun c2=>some (strB c2))
def F1(sv:Li)(a12:Int):Int→Option (Int⊕Int):=fun iv5=>Option.bind (if iv5<(sv.length:Int) then Option.bind (ix sv iv5) fun a21=>some (decide (a21<a12)) else some false) fun t7=>if t7=true then some (.inl (w64 (iv5+1))) else some (.inr iv5)
noncomputable def L4(sv:Li)(part:Li):Int→Int→Option (Int⊕Bool):=fun t4 iv3=>Option.bind (ix part t4) fun a12=>Option.bind (Loop (F1 sv a12) iv3) fun iv6=>Option.bind (if iv6=(sv.length:Int) then some true else Option.bind (ix sv iv6) fun a35=>some (!(decide (a35=a12)))) fun t11=>if t11=true then some (.inr false) else some (.inl iv6)
noncomputable def j7(sv:Li)(part:Li):Option Bool:=(Option.bind (rngX 0 (part.length:Int) (L4 sv part) 0) fun| .inl iv3=>some true| .inr x=>some x)
noncomputable def O9(ov:b7)(sv:Li)(op:Int):Option Bool:=Option.bind (ix ov.operators op) fun a11=>Option.bind (j7 sv a11.pre) fun a14=>some a14
noncomputable def V8(sv:Li)(del:Li):Int→Li→Option Li:=fun t5 c4=>Option.bind (Option.bind (ix sv t5) fun a16=>Option.bind (o7 del a16) fun a21=>if(!a21.2)=true then Option.bind (app 8 c4 [a16]) fun a29=>some a29 else some c4) fun c6=>some c6
noncomputable def G3(sv:Li)(add:Li)(del:Li):Option Li:=(Option.bind (forR 0 (sv.length:Int) (V8 sv del) []) fun c4=>Option.bind (app 8 c4 add) fun a33=>Option.bind (sortL a33) fun a35=>some (U9 a35))
def L6(xv:Int)(yv:Int):Option Int:=Option.bind (D8 xv) fun a8=>Option.bind (D8 yv) fun a10=>if a8=true then if a10=true then some 0 else some (-1) else if a10=true then some 1 else if xv<yv then some (-1) else if yv<xv then some 1 else some 0
def C8(s11:Li)(s22:Li):Int→Unit→Option (Unit⊕Int):=fun t3 _=>Option.bind (ix s11 t3) fun a14=>if(s22.length:Int)≤t3 then some (.inr 1) else Option.bind (ix s22 t3) fun a22=>Option.bind (L6 a14 a22) fun a26=>if a26=0 then some (.inl ()) else some (.inr a26)
def slices_Compare_int_int(s11:Li)(s22:Li):Option Int:=(Option.bind (rngX 0 (s11.length:Int) (C8 s11 s22) ()) fun| .inl _=>if(s11.length:Int)<(s22.length:Int) then some (-1) else some 0| .inr x=>some x)
def J7(s11:Li)(s22:Li):Int→Unit→Option (Unit⊕Bool):=fun t4 _=>Option.bind (ix s11 t4) fun a18=>Option.bind (ix s22 t4) fun a22=>if a18=a22 then some (.inl ()) else some (.inr false)
def x4(s11:Li)(s22:Li):Option Bool:=if(s11.length:Int)=(s22.length:Int) then(Option.bind (rngX 0 (s11.length:Int) (J7 s11 s22) ()) fun| .inl _=>some true| .inr x=>some x) else some false
def E3(xv:LL)(target:Li)(cmp:Li→Li→Option Int):(Int×Int)→Option ((Int×Int)⊕Int):=fun(iv4,j5)=>if iv4<j5 then Option.bind (ix xv (w64 (shrW .u64 ((IntKind.u64).wrap (w64 (iv4+j5))) 1))) fun a27=>Option.bind (cmp a27 target) fun a30=>if a30<0 then some (.inl (w64 ((w64 (shrW .u64 ((IntKind.u64).wrap (w64 (iv4+j5))) 1))+1),j5)) else some (.inl (iv4,w64 (shrW .u64 ((IntKind.u64).wrap (w64 (iv4+j5))) 1))) else some (.inr iv4)
noncomputable def j9(xv:LL)(target:Li)(cmp:Li→Li→Option Int):Option (Int×Bool):=Option.bind (Loop (E3 xv target cmp) (0,(xv.length:Int))) fun iv6=>Option.bind (if iv6<(xv.length:Int) then Option.bind (ix xv iv6) fun a43=>Option.bind (cmp a43 target) fun a46=>some (decide (a46=0)) else some false) fun t9=>some (iv6,t9)
abbrev D0(l:LL):b6:=[.one (vec 1 b9 l)]
def u6(l:LL)(kv54:Int):Int→((LL)×Int)→Option ((LL)×Int):=fun k258 (c56,kv57)=>Option.bind (Option.bind (ixV c56 (0+kv54) ((l.length:Int) - kv54) k258) fun a41=>Option.bind (ixV c56 (0+kv54) ((l.length:Int) - kv54) (k258 - 1)) fun a46=>Option.bind (x4 a41 a46) fun a48=>if(!a48)=true then Option.bind (ixV c56 (0+kv54) ((l.length:Int) - kv54) k258) fun a54=>Option.bind (ix c56 kv57) fun a56=>some (c56.set kv57.toNat a54,w64 (kv57+1)) else some (c56,kv57)) fun⟨c59,kv60⟩=>some (c59,kv60)
def n9(l:LL):Int→Unit→Option (Unit⊕(LL)):=fun kv54 _=>Option.bind (ix l kv54) fun a21=>Option.bind (ix l (kv54 - 1)) fun a26=>Option.bind (x4 a21 a26) fun a28=>if a28=true then Option.bind (cutV (l.length:Int) kv54 (l.length:Int)) fun u31=>(Option.bind (forR 1 ((l.length:Int) - kv54) (u6 l kv54) (l,kv54)) fun⟨c56,kv57⟩=>Option.bind (cutV (c56.length:Int) kv57 (c56.length:Int)) fun u61=>Option.bind (cutV ((clrL c56 (0+kv57) ((c56.length:Int) - kv57) []).length:Int) 0 kv57) fun u64=>some (.inr (n7 (clrL c56 (0+kv57) ((c56.length:Int) - kv57) []) 0 kv57))) else some (.inl ())
def w4(l:LL):Option (LL):=if(l.length:Int)<2 then some l else(Option.bind (rngX 1 (l.length:Int) (n9 l) ()) fun| .inl _=>some l| .inr x=>some x)
abbrev ao6(l:LL):b6:=[.one (vec 1 b9 l)]
def D7(l:LL):Option (LL):=Option.bind (sortLL l) fun a4=>Option.bind (w4 a4) fun a6=>some a6
noncomputable def L7(sv:Li)(a20:e9):Int→(LL)→Option (LL):=fun t5 c4=>Option.bind (ix a20.outcomes t5) fun a26=>Option.bind (G3 sv a26.add a26.del) fun a34=>Option.bind (app 24 c4 [a34]) fun a36=>some a36
noncomputable def D4(c4:LL)(a40:(LL))(a47:e9):Int→Li→Option Li:=fun t7 c6=>Option.bind (ix a47.outcomes t7) fun a54=>Option.bind (ix c4 t7) fun a60=>Option.bind (j9 a40 a60 slices_Compare_int_int) fun a62=>Option.bind (ix c6 a62.1) fun a67=>Option.bind (ix c6 a62.1) fun a72=>some (c6.set a62.1.toNat (w64 (a67+a54.weight)))
noncomputable def l8(ov:b7)(sv:Li)(op:Int):Option ((LL)×Li):=Option.bind (ix ov.operators op) fun a20=>(Option.bind (forR 0 (a20.outcomes.length:Int) (L7 sv a20) []) fun c4=>Option.bind (w3 c4) fun a39=>Option.bind (D7 a39) fun a40=>Option.bind (mkL 8 (a40.length:Int) 0) fun a43=>Option.bind (ix ov.operators op) fun a47=>(Option.bind (forR 0 (a47.outcomes.length:Int) (D4 c4 a40 a47) a43) fun c6=>some (a40,c6)))
def U4:((LL)×(List (ByteArray×Int)))→Option (((LL)×(List (ByteArray×Int)))⊕((LL)×Bool)):=fun(c10,c11)=>some (.inl (c10,c11))
def U7:((LL)×(List (ByteArray×Int)))→Option (((LL)×(List (ByteArray×Int)))⊕((LL)×Bool)):=fun(c16,c17)=>some (.inl (c16,c17))
def an5(a48:(LL)×Li):Int→((LL)×(List (ByteArray×Int)))→Option (((LL)×(List (ByteArray×Int)))⊕((LL)×Bool)):=fun t15 (c13,c14)=>Option.bind (ix a48.1 t15) fun a55=>Option.bind (ae5 [a55]) fun a59=>if 0<Option.getD (mget c14 a59) 0 then U7 (c13,c14) else if(c13.length:Int)=2000 then some (.inr ([],false)) else Option.bind (app 24 c13 [a55]) fun a72=>U7 (a72,mset c14 a59 1)
noncomputable def an7(ov:b7)(atv4:Int):Int→((LL)×(List (ByteArray×Int)))→Option (((LL)×(List (ByteArray×Int)))⊕((LL)×Bool)):=fun t9 (c7,c8)=>Option.bind (ix c7 atv4) fun a36=>Option.bind (O9 ov a36 t9) fun a39=>if(!a39)=true then U4 (c7,c8) else Option.bind (ix c7 atv4) fun a45=>Option.bind (l8 ov a45 t9) fun a48=>(Option.bind (rngX 0 (a48.1.length:Int) (an5 a48) (c7,c8)) fun| .inl (c13,c14)=>U4 (c13,c14)| .inr x=>some (.inr x))
noncomputable def an4(ov:b7):((LL)×(List (ByteArray×Int))×Int)→Option (((LL)×(List (ByteArray×Int))×Int)⊕((LL)⊕((LL)×Bool))):=fun(c2,c3,atv4)=>if atv4<(c2.length:Int) then(Option.bind (rngX 0 (ov.operators.length:Int) (an7 ov atv4) (c2,c3)) fun| .inl (c7,c8)=>some (.inl (c7,c8,w64 (atv4+1)))| .inr x=>some (.inr (.inr x))) else some (.inr (.inl c2))
noncomputable def al5(ov:b7):Option ((LL)×Bool):=Option.bind (q7 ov.init) fun a15=>Option.bind (ae5 [a15]) fun a19=>Option.bind (Loop (an4 ov) ([a15],mset ([]:List (ByteArray×Int)) a19 1,0)) fun| .inl c5=>Option.bind (D7 c5) fun a76=>some (a76,true)| .inr x=>some x
noncomputable def X4(ov:b7):Option ((LL)×i7):=Option.bind (K1 ov) fun a8=>if(!((decide (a8.code=0)) && (decide (a8.index=0))))=true then some ([],a8) else Option.bind (al5 ov) fun a15=>if(!a15.2)=true then some ([],(⟨10, -7⟩:i7)) else some (a15.1,(⟨0,0⟩:i7))
def x5(sv:List e9)(fv:e9→Option Bool):Int→Unit→Option (Unit⊕Int):=fun t3 _=>Option.bind (ix sv t3) fun a14=>Option.bind (fv a14) fun a16=>if a16=true then some (.inr t3) else some (.inl ())
def q6(sv:List e9)(fv:e9→Option Bool):Option Int:=(Option.bind (rngX 0 (sv.length:Int) (x5 sv fv) ()) fun| .inl _=>some (-1)| .inr x=>some x)
def p7(sv:List e9)(fv:e9→Option Bool):Option Bool:=Option.bind (q6 sv fv) fun a7=>some (decide (0≤a7))
def ac4(xv:e9):Option Bool:=some (decide (xv.cost=0))
noncomputable def w9(all:LL)(sv:Li):Option Int:=Option.bind (j9 all sv slices_Compare_int_int) fun a10=>some a10.1
noncomputable def ak5(all:LL)(t6:Int)(a45:(LL)×Li):Int→(LL)→Option (LL):=fun t11 c10=>Option.bind (ix a45.1 t11) fun a52=>Option.bind (ix c10 t6) fun a64=>Option.bind (w9 all a52) fun a68=>Option.bind (app 8 a64 [a68]) fun a70=>Option.bind (ix c10 t6) fun a71=>some (c10.set t6.toNat a70)
noncomputable def ak3(ov:b7)(all:LL)(a21:Li):Int→(LL)→Option (LL):=fun t6 c5=>Option.bind (Option.bind (O9 ov a21 t6) fun a39=>if(!a39)=true then some c5 else Option.bind (l8 ov a21 t6) fun a45=>(Option.bind (forR 0 (a45.1.length:Int) (ak5 all t6 a45) c5) fun c10=>some c10)) fun c7=>some c7
noncomputable def ak8(ov:b7)(all:LL):Int→(List (LL))→Option (List (LL)):=fun t4 c3=>Option.bind (ix all t4) fun a21=>Option.bind (mkL 24 (ov.operators.length:Int) ([]:Li)) fun a28=>Option.bind (ix c3 t4) fun a29=>(Option.bind (forR 0 (ov.operators.length:Int) (ak3 ov all a21) a28) fun c5=>some (c3.set t4.toNat c5))
noncomputable def aj7(ov:b7)(all:LL):Option (List (LL)):=Option.bind (mkL 24 (all.length:Int) []) fun a15=>(Option.bind (forR 0 (all.length:Int) (ak8 ov all) a15) fun c3=>some c3)
def X1(iv:Int)(c2:Li):Option Bool:=Option.bind (ix c2 iv) fun a6=>some (decide (a6=0))
def ac6(l:Li)(safe:Li):Option Bool:=Option.bind (if 0<(l.length:Int) then Option.bind (o8 l (fun y1=>X1 y1 safe)) fun a11=>some (!a11) else some false) fun t3=>some t3
def R3(kv:Int)(c2:Li)(c3:Int):Option Bool:=Option.bind (ix c2 kv) fun a7=>some (decide (a7=w64 (c3 - 1)))
def U8(l:Li)(c2:Li)(c3:Li)(c4:Int):Option Bool:=Option.bind (Option.bind (ac6 l c2) fun a8=>if a8=true then Option.bind (o8 l (fun y1=>R3 y1 c3 c4)) fun a12=>some a12 else some false) fun t2=>some t2
def v6(sv:LL)(fv:Li→Option Bool):Int→Unit→Option (Unit⊕Int):=fun t3 _=>Option.bind (ix sv t3) fun a14=>Option.bind (fv a14) fun a16=>if a16=true then some (.inr t3) else some (.inl ())
def r9(sv:LL)(fv:Li→Option Bool):Option Int:=(Option.bind (rngX 0 (sv.length:Int) (v6 sv fv) ()) fun| .inl _=>some (-1)| .inr x=>some x)
def v7(sv:LL)(fv:Li→Option Bool):Option Bool:=Option.bind (r9 sv fv) fun a7=>some (decide (0≤a7))
noncomputable def ad3(ov:b7)(all:LL):Int→Li→Option Li:=fun t6 c5=>Option.bind (Option.bind (ix all t6) fun a23=>Option.bind (j7 a23 ov.goal) fun a28=>if a28=true then Option.bind (ix c5 t6) fun a31=>some (c5.set t6.toNat 0) else some c5) fun c7=>some c7
def ac9(nextv:List (LL))(safe:Li)(c11:Int):Int→Li→Option Li:=fun t15 c14=>Option.bind (Option.bind (Option.bind (ix c14 t15) fun a46=>if 0≤a46 then some true else Option.bind (ix safe t15) fun a52=>some (decide (a52=0))) fun t18=>if t18=true then some c14 else Option.bind (ix nextv t15) fun a58=>Option.bind (v7 a58 (fun y1=>U8 y1 safe c14 c11)) fun a61=>if a61=true then Option.bind (ix c14 t15) fun a65=>some (c14.set t15.toNat c11) else some c14) fun c16=>some c16
def ad5(all:LL)(nextv:List (LL))(safe:Li):(Li×Int)→Option ((Li×Int)⊕Li):=fun(c10,c11)=>if c11≤(all.length:Int) then(Option.bind (forR 0 (all.length:Int) (ac9 nextv safe c11) c10) fun c14=>some (.inl (c14,w64 (c11+1)))) else some (.inr c10)
noncomputable def aa2(ov:b7)(all:LL)(nextv:List (LL))(safe:Li):Option Li:=Option.bind (G1 [-1] (all.length:Int)) fun a17=>(Option.bind (forR 0 (all.length:Int) (ad3 ov all) a17) fun c5=>Option.bind (Loop (ad5 all nextv safe) (c5,1)) fun c12=>some c12)
def Y3(a21:Li):Int→(Li×Bool)→Option (Li×Bool):=fun t6 (c4,same5)=>Option.bind (if same5=true then Option.bind (ix a21 t6) fun a31=>Option.bind (ix c4 t6) fun a36=>some (decide ((decide (0≤a31))=(decide (0<a36)))) else some false) fun same7=>Option.bind (ix a21 t6) fun a45=>Option.bind (ix c4 t6) fun a49=>some (c4.set t6.toNat (min 1 (w64 (a45+1))),same7)
noncomputable def Y1(ov:b7)(all:LL)(a12:(List (LL))):Li→Option (Li⊕Li):=fun c3=>Option.bind (aa2 ov all a12 c3) fun a21=>(Option.bind (forR 0 (a21.length:Int) (Y3 a21) (c3,true)) fun⟨c4,same5⟩=>if same5=true then some (.inr a21) else some (.inl c4))
noncomputable def O8(ov:b7)(all:LL):Option Li:=Option.bind (aj7 ov all) fun a12=>Option.bind (G1 [1] (all.length:Int)) fun a16=>Option.bind (Loop (Y1 ov all a12) a16) fun x=>some x
noncomputable def U6(sv:Li)(c2:Li)(c3:LL):Option Bool:=Option.bind (w9 c3 sv) fun a8=>Option.bind (ix c2 a8) fun a9=>some (decide (a9<0))
noncomputable def E8(sv:Li)(c2:b7):Option Bool:=Option.bind (j7 sv c2.goal) fun a7=>some a7
def K8:Unit→Option (Unit⊕Int):=fun _=>some (.inl ())
noncomputable def ab8(c2:Li)(c3:LL)(a19:Int)(a36:(LL)×Li):Int→(Bool×Bool)→Option (Bool×Bool):=fun t6 (sure4,near5)=>Option.bind (Option.bind (ix a36.1 t6) fun a43=>Option.bind (w9 c3 a43) fun a48=>Option.bind (ix c2 a48) fun a49=>if sure4=true then if near5=true then some (decide (0≤a49),true) else some (decide (0≤a49),decide (a49=w64 (a19 - 1))) else if near5=true then some (false,true) else some (false,decide (a49=w64 (a19 - 1)))) fun⟨sure7,near8⟩=>some (sure7,near8)
noncomputable def ab3(sv:Li)(c2:Li)(c3:LL)(c4:b7)(a19:Int):Int→Unit→Option (Unit⊕Int):=fun t2 _=>Option.bind (O9 c4 sv t2) fun a30=>if(!a30)=true then K8 () else Option.bind (l8 c4 sv t2) fun a36=>(Option.bind (forR 0 (a36.1.length:Int) (ab8 c2 c3 a19 a36) (true,false)) fun⟨sure4,near5⟩=>if(sure4 && near5)=true then some (.inr t2) else K8 ())
noncomputable def X5(sv:Li)(c2:Li)(c3:LL)(c4:b7):Option Int:=Option.bind (w9 c3 sv) fun a18=>Option.bind (ix c2 a18) fun a19=>(Option.bind (rngX 0 (c4.operators.length:Int) (ab3 sv c2 c3 c4 a19) ()) fun| .inl _=>some (-1)| .inr x=>some x)
def x6(xv:List d9)(target:Li)(cmp:d9→Li→Option Int):(Int×Int)→Option ((Int×Int)⊕Int):=fun(iv4,j5)=>if iv4<j5 then Option.bind (ix xv (w64 (shrW .u64 ((IntKind.u64).wrap (w64 (iv4+j5))) 1))) fun a27=>Option.bind (cmp a27 target) fun a30=>if a30<0 then some (.inl (w64 ((w64 (shrW .u64 ((IntKind.u64).wrap (w64 (iv4+j5))) 1))+1),j5)) else some (.inl (iv4,w64 (shrW .u64 ((IntKind.u64).wrap (w64 (iv4+j5))) 1))) else some (.inr iv4)
noncomputable def i5(xv:List d9)(target:Li)(cmp:d9→Li→Option Int):Option (Int×Bool):=Option.bind (Loop (x6 xv target cmp) (0,(xv.length:Int))) fun iv6=>Option.bind (if iv6<(xv.length:Int) then Option.bind (ix xv iv6) fun a43=>Option.bind (cmp a43 target) fun a46=>some (decide (a46=0)) else some false) fun t9=>some (iv6,t9)
def open_Chosen_1(c:d9)(sv:Li):Option Int:=Option.bind (slices_Compare_int_int c.state sv) fun a8=>some a8
noncomputable def B8(policy:List d9)(sv:Li):Option Int:=Option.bind (i5 policy sv open_Chosen_1) fun a10=>if(!a10.2)=true then some (-1) else Option.bind (ix policy a10.1) fun a17=>some a17.operator
def S7(c:d9)(sv:Li):Option Int:=Option.bind (slices_Compare_int_int c.state sv) fun a8=>some a8
def Q4(atv5:Int):((LL)×(List d9))→Option (((LL)×(List d9)×Int)⊕((List d9)⊕((List d9)×Bool))):=fun(c8,c9)=>some (.inl (c8,c9,w64 (atv5+1)))
noncomputable def ai5(ov:b7)(choose:Li→Option Int):((LL)×(List d9)×Int)→Option (((LL)×(List d9)×Int)⊕((List d9)⊕((List d9)×Bool))):=fun(c3,c4,atv5)=>if atv5<(c3.length:Int) then Option.bind (ix c3 atv5) fun a26=>Option.bind (Option.bind (j7 a26 ov.goal) fun a31=>if a31=true then some true else Option.bind (B8 c4 a26) fun a35=>some (decide (0≤a35))) fun t10=>if t10=true then(Q4 atv5) (c3,c4) else if(c4.length:Int)=200 then some (.inr (.inr ([],false))) else Option.bind (choose a26) fun a43=>Option.bind (i5 c4 a26 S7) fun a47=>Option.bind (q7 a26) fun a53=>Option.bind (insL c4 a47.1 (⟨a53,a43⟩:d9)) fun a57=>Option.bind (l8 ov a26 a43) fun a62=>Option.bind (app 24 c3 a62.1) fun a67=>(Q4 atv5) (a67,a57) else some (.inr (.inl c4))
noncomputable def af7(ov:b7)(choose:Li→Option Int):Option ((List d9)×Bool):=Option.bind (Loop (ai5 ov choose) ([ov.init],[],0)) fun| .inl c6=>some (c6,true)| .inr x=>some x
noncomputable def ac5(ov:b7):Option ((List d9)×Bool×i7):=Option.bind (X4 ov) fun a12=>if(!((decide (a12.2.code=0)) && (decide (a12.2.index=0))))=true then some ([],false,a12.2) else Option.bind (O8 ov a12.1) fun a21=>Option.bind (w9 a12.1 ov.init) fun a26=>Option.bind (ix a21 a26) fun a27=>if a27<0 then some ([],false,(⟨0,0⟩:i7)) else Option.bind (af7 ov (fun y1=>X5 y1 a21 a12.1 ov)) fun a34=>if(!a34.2)=true then some ([],false,(⟨10, -8⟩:i7)) else some (a34.1,true,(⟨0,0⟩:i7))
noncomputable def J3(ov:b7)(states:LL)(t5:Int)(a31:Int)(a36:(LL)×Li):Int→Li→Option Li:=fun t7 c6=>Option.bind (Option.bind (ix a36.1 t7) fun a44=>Option.bind (ix c6 t5) fun a48=>Option.bind (ix a36.2 t7) fun a52=>Option.bind (ix c6 t5) fun a55=>Option.bind (ix (c6.set t5.toNat (w64 (a48+a52))) (states.length:Int)) fun a59=>Option.bind (ix a36.2 t7) fun a63=>Option.bind (ix ov.operators a31) fun a68=>Option.bind (ix (c6.set t5.toNat (w64 (a48+a52))) (states.length:Int)) fun a73=>Option.bind (j7 a44 ov.goal) fun a77=>if(!a77)=true then Option.bind (w9 states a44) fun a82=>Option.bind (ix ((c6.set t5.toNat (w64 (a48+a52))).set ((states.length:Int).toNat) (w64 (a59+(w64 (a63 * a68.cost))))) a82) fun a83=>Option.bind (ix a36.2 t7) fun a87=>Option.bind (ix ((c6.set t5.toNat (w64 (a48+a52))).set ((states.length:Int).toNat) (w64 (a59+(w64 (a63 * a68.cost))))) a82) fun a90=>some (((c6.set t5.toNat (w64 (a48+a52))).set ((states.length:Int).toNat) (w64 (a59+(w64 (a63 * a68.cost))))).set a82.toNat (w64 (a83 - a87))) else some ((c6.set t5.toNat (w64 (a48+a52))).set ((states.length:Int).toNat) (w64 (a59+(w64 (a63 * a68.cost)))))) fun c8=>some c8
noncomputable def A8(ov:b7)(states:LL)(choose:Li→Option Int):Int→(LL)→Option (LL):=fun t5 c4=>Option.bind (ix states t5) fun a23=>Option.bind (mkL 8 (w64 ((states.length:Int)+1)) 0) fun a28=>Option.bind (choose a23) fun a31=>Option.bind (l8 ov a23 a31) fun a36=>(Option.bind (forR 0 (a36.1.length:Int) (J3 ov states t5 a31 a36) a28) fun c6=>Option.bind (app 24 c4 [c6]) fun a96=>some a96)
def I6:(Int×Int)→Option ((Int×Int)⊕Int):=fun(av7,bv8)=>if 0<bv8 then Option.bind (chkN bv8) fun u25=>some (.inl (bv8,(av7).tmod bv8)) else some (.inr av7)
noncomputable def z8(num:Int)(den:Int):Option (m5×Bool):=Option.bind (if den<0 then some (w64 (0 - num),w64 (0 - den)) else some (num,den)) fun⟨num3,den4⟩=>Option.bind (Loop I6 (max num3 (w64 (0 - num3)),den4)) fun av9=>Option.bind (chkN av9) fun u28=>Option.bind (chkN av9) fun u31=>some ((⟨w64 ((num3).tdiv av9),w64 ((den4).tdiv av9)⟩:m5),decide (max (max (w64 ((num3).tdiv av9)) (w64 (0 - (w64 ((num3).tdiv av9))))) (w64 ((den4).tdiv av9))≤1000000000))
noncomputable def J9(num:Int)(den:Int):Option (m5×i7):=Option.bind (z8 num den) fun a11=>if(!a11.2)=true then some ((⟨0,0⟩:m5),(⟨10, -2⟩:i7)) else some (a11.1,(⟨0,0⟩:i7))
abbrev M3(l:LL)(c:LL)(l3:Li):b6:=[.one (vec 1 b9 l),.one (.cells 1 [[.own 3 0 l3.length]]),.one (.cells 1 [[row 1 b9 c]]),.one (vec 1 intI l3)]
noncomputable def L3(c:LL)(l3:Li):((LL)×Int×Int)→Option (((LL)×Int×Int)⊕((LL)×Int)):=fun(c56,iv57,j58)=>if j58<(c56.length:Int) then Option.bind (Option.bind (ix c56 j58) fun a24=>Option.bind (U6 a24 l3 c) fun a28=>if(!a28)=true then Option.bind (ix c56 iv57) fun a33=>some (c56.set iv57.toNat a24,w64 (iv57+1)) else some (c56,iv57)) fun⟨c62,iv63⟩=>some (.inl (c62,iv63,w64 (j58+1))) else some (.inr (c56,iv57))
noncomputable def F3(l:LL)(c:LL)(l3:Li):Option (LL):=Option.bind (r9 l (fun y1=>U6 y1 l3 c)) fun a10=>if a10=(-1) then some l else Option.bind (Loop (L3 c l3) (l,a10,w64 (a10+1))) fun⟨c59,iv60⟩=>Option.bind (cutV (c59.length:Int) iv60 (c59.length:Int)) fun u38=>Option.bind (cutV ((clrL c59 (0+iv60) ((c59.length:Int) - iv60) []).length:Int) 0 iv60) fun u41=>some (n7 (clrL c59 (0+iv60) ((c59.length:Int) - iv60) []) 0 iv60)
abbrev J5(l:LL)(Facts:Int)(Init:Li)(Goal:Li)(Operators:List e9):b6:=[.one (vec 1 b9 l),.one (.cells 4 [[int Facts,row 1 intI Init,row 1 intI Goal,row 3 d6 Operators]])]
noncomputable def J6(Facts:Int)(Init:Li)(Goal:Li)(Operators:List e9):((LL)×Int×Int)→Option (((LL)×Int×Int)⊕((LL)×Int)):=fun(c58,iv59,j60)=>if j60<(c58.length:Int) then Option.bind (Option.bind (ix c58 j60) fun a24=>Option.bind (E8 a24 (⟨Facts,Init,Goal,Operators⟩:b7)) fun a28=>if(!a28)=true then Option.bind (ix c58 iv59) fun a33=>some (c58.set iv59.toNat a24,w64 (iv59+1)) else some (c58,iv59)) fun⟨c64,iv65⟩=>some (.inl (c64,iv65,w64 (j60+1))) else some (.inr (c58,iv59))
noncomputable def E4(l:LL)(Facts:Int)(Init:Li)(Goal:Li)(Operators:List e9):Option (LL):=Option.bind (r9 l (fun y1=>E8 y1 (⟨Facts,Init,Goal,Operators⟩:b7))) fun a10=>if a10=(-1) then some l else Option.bind (Loop (J6 Facts Init Goal Operators) (l,a10,w64 (a10+1))) fun⟨c61,iv62⟩=>Option.bind (cutV (c61.length:Int) iv62 (c61.length:Int)) fun u38=>Option.bind (cutV ((clrL c61 (0+iv62) ((c61.length:Int) - iv62) []).length:Int) 0 iv62) fun u41=>some (n7 (clrL c61 (0+iv62) ((c61.length:Int) - iv62) []) 0 iv62)
abbrev ao2(ov:b7)(l:LL):b6:=[.one (vec 1 b9 l)]
noncomputable def C0(ov:b7)(l:LL):Option (LL):=Option.bind (E4 l ov.facts ov.init ov.goal ov.operators) fun a7=>some a7
abbrev J0(states:LL)(l:LL):b6:=[mat (0,[]) 1 intI l]
def z2(l:LL)(t57:Int)(c55:LL):Unit→Option (Unit⊕Unit):=fun _=>Option.bind (if t57<(l.length:Int) - 1 then Option.bind (ix c55 t57) fun a30=>Option.bind (ix a30 t57) fun a33=>some (decide (a33=0)) else some false) fun t58=>if t58=true then none else some (.inr ())
def z1(t57:Int)(last56:Int)(t63:Int):((LL)×Int)→Option (((LL)×Int)⊕(LL)):=fun(c67,j68)=>if 0≤j68 then Option.bind (if j68=t57 then some c67 else Option.bind (ix c67 t63) fun a70=>Option.bind (ix c67 t57) fun a75=>Option.bind (ix a75 t57) fun a78=>Option.bind (ix c67 t63) fun a82=>Option.bind (ix a82 j68) fun a85=>Option.bind (ix c67 t63) fun a90=>Option.bind (ix a90 t57) fun a93=>Option.bind (ix c67 t57) fun a97=>Option.bind (ix a97 j68) fun a100=>Option.bind (chkN last56) fun u105=>Option.bind (ix a70 j68) fun a106=>some (c67.set t63.toNat (a70.set j68.toNat (w64 ((w64 ((w64 (a78 * a85)) - (w64 (a93 * a100)))).tdiv last56))))) fun c71=>some (.inl (c71,w64 (j68 - 1))) else some (.inr c67)
noncomputable def z7(l:LL)(t57:Int)(last56:Int):Int→(LL)→Option (LL):=fun t63 c62=>Option.bind (if t63=t57 then some c62 else Option.bind (Loop (z1 t57 last56 t63) (c62,(l.length:Int))) fun c69=>Option.bind (ix c69 t63) fun a109=>Option.bind (ix a109 t57) fun a112=>some (c69.set t63.toNat (a109.set t57.toNat 0))) fun c64=>some c64
noncomputable def y9(l:LL):Int→((LL)×Int)→Option ((LL)×Int):=fun t57 (c55,last56)=>Option.bind (Loop (z2 l t57 c55) ()) fun _=>Option.bind (ix c55 t57) fun a45=>Option.bind (ix c55 t57) fun a49=>Option.bind (ix c55 t57) fun a51=>Option.bind (ix c55 t57) fun a52=>(Option.bind (forR 0 (l.length:Int) (z7 l t57 last56) c55) fun c62=>Option.bind (ix c62 t57) fun a116=>Option.bind (ix a116 t57) fun a119=>some (c62,a119))
def D3(l:LL)(c55:LL):Int→Li→Option Li:=fun t75 c74=>Option.bind (ix c55 t75) fun a133=>Option.bind (ix a133 (l.length:Int)) fun a136=>Option.bind (ix c74 t75) fun a138=>some (c74.set t75.toNat a136)
noncomputable def s9(states:LL)(l:LL):Option (Li×Int):=(Option.bind (forR 0 (l.length:Int) (y9 l) (l,1)) fun⟨c55,last56⟩=>Option.bind (mkL 8 (l.length:Int) 0) fun a123=>(Option.bind (forR 0 (a123.length:Int) (D3 l c55) a123) fun c74=>some (c74,last56)))
abbrev Q3(sv:Li)(op:Int)(ov:b7)(states:LL)(den:Int)(l:Li)(l7:Li):b6:=[.one (.cells 8 [[int ov.facts,row 1 intI ov.init,row 1 intI ov.goal,row 3 d6 ov.operators,row 1 b9 states,.own 1 0 l.length,.own 2 0 l7.length,int den]]),.one (vec 1 intI l),.one (vec 1 intI l7)]
def C6:(Int×Int)→Option ((Int×Int)⊕(Int×Int×Bool)):=fun(sum64,all65)=>some (.inl (sum64,all65))
noncomputable def Q7(ov:b7)(states:LL)(l7:Li)(a24:(LL)×Li):Int→(Int×Int)→Option ((Int×Int)⊕(Int×Int×Bool)):=fun t63 (sum61,all62)=>Option.bind (ix a24.1 t63) fun a32=>Option.bind (ix a24.2 t63) fun a37=>Option.bind (j7 a32 ov.goal) fun a46=>if a46=true then C6 (sum61,w64 (all62+a37)) else Option.bind (j9 states a32 slices_Compare_int_int) fun a53=>if(!a53.2)=true then some (.inr (0,0,false)) else Option.bind (ix a24.2 t63) fun a61=>Option.bind (ix l7 a53.1) fun a68=>C6 (w64 (sum61+(w64 (a61 * a68))),w64 (all62+a37))
noncomputable def M7(sv:Li)(op:Int)(ov:b7)(states:LL)(den:Int)(l:Li)(l7:Li):Option (Int×Int×Bool):=Option.bind (l8 ov sv op) fun a24=>(Option.bind (rngX 0 (a24.1.length:Int) (Q7 ov states l7 a24) (0,0)) fun| .inl (sum61,all62)=>Option.bind (ix ov.operators op) fun a81=>some (w64 (sum61+(w64 ((w64 (all62 * a81.cost)) * den))),all62,true)| .inr x=>some x)
abbrev ab6(ov:b7)(states:LL)(den:Int)(l:Li)(l5:Li):b6:=[.one (.cells 8 [[int ov.facts,row 1 intI ov.init,row 1 intI ov.goal,row 3 d6 ov.operators,row 1 b9 states,.own 1 0 l.length,.own 2 0 l5.length,int den]]),.one (vec 1 intI l),.one (vec 1 intI l5)]
noncomputable def O2(ov:b7)(states:LL)(den:Int)(l:Li)(l5:Li)(a27:Li):Int→(Int×Int×Int)→Option (Int×Int×Int):=fun t64 (found61,num62,den63)=>Option.bind (Option.bind (O9 ov a27 t64) fun a44=>if(!a44)=true then some (found61,num62,den63) else Option.bind (M7 a27 t64 ov states den l l5) fun a50=>if(a50.2.2 && ((decide (found61<0))||(decide (w64 (a50.1 * den63)<w64 (num62 * a50.2.1)))))=true then some (t64,a50.1,a50.2.1) else some (found61,num62,den63)) fun⟨found65,num66,den67⟩=>some (found65,num66,den67)
noncomputable def N9(ov:b7)(states:LL)(den:Int)(l:Li)(l5:Li):Int→(Li×Bool)→Option (Li×Bool):=fun t60 (c58,better59)=>Option.bind (ix states t60) fun a27=>(Option.bind (forR 0 (ov.operators.length:Int) (O2 ov states den l l5 a27) (-1,0,1)) fun⟨found61,num62,den63⟩=>Option.bind (if better59=true then some true else Option.bind (ix l5 t60) fun a80=>some (decide (num62<w64 (a80 * den63)))) fun better71=>Option.bind (ix c58 t60) fun a89=>some (c58.set t60.toNat found61,better71))
noncomputable def I0(ov:b7)(states:LL)(den:Int)(l:Li)(l5:Li):Option (Li×Bool):=Option.bind (q7 l) fun a18=>(Option.bind (forR 0 (states.length:Int) (N9 ov states den l l5) (a18,false)) fun⟨c58,better59⟩=>some (c58,better59))
abbrev ah6(sv:Li)(ov:b7)(states:LL)(den:Int)(l:Li)(l6:Li):b6:=[.one (.cells 8 [[int ov.facts,row 1 intI ov.init,row 1 intI ov.goal,row 3 d6 ov.operators,row 1 b9 states,.own 1 0 l.length,.own 2 0 l6.length,int den]]),.one (vec 1 intI l),.one (vec 1 intI l6)]
noncomputable def G9(sv:Li)(ov:b7)(states:LL)(den:Int)(l:Li)(l6:Li):Option Int:=Option.bind (w9 states sv) fun a14=>Option.bind (ix l a14) fun a15=>some a15
abbrev aj5(ov:b7)(states:LL)(ov3:b7)(states4:LL)(den:Int)(l:Li)(l7:Li):b6:=[.one (.cells 8 [[int ov3.facts,row 1 intI ov3.init,row 1 intI ov3.goal,row 3 d6 ov3.operators,row 1 b9 states4,.own 1 0 l.length,.own 2 0 l7.length,int den]]),.one (vec 1 intI l),.one (vec 1 intI l7)]
noncomputable def U2(ov:b7)(states:LL)(t60:Int)(a31:Int)(a36:(LL)×Li):Int→Li→Option Li:=fun t62 c61=>Option.bind (Option.bind (ix a36.1 t62) fun a44=>Option.bind (ix c61 t60) fun a48=>Option.bind (ix a36.2 t62) fun a52=>Option.bind (ix c61 t60) fun a55=>Option.bind (ix (c61.set t60.toNat (w64 (a48+a52))) (states.length:Int)) fun a59=>Option.bind (ix a36.2 t62) fun a63=>Option.bind (ix ov.operators a31) fun a68=>Option.bind (ix (c61.set t60.toNat (w64 (a48+a52))) (states.length:Int)) fun a73=>Option.bind (j7 a44 ov.goal) fun a77=>if(!a77)=true then Option.bind (w9 states a44) fun a82=>Option.bind (ix ((c61.set t60.toNat (w64 (a48+a52))).set ((states.length:Int).toNat) (w64 (a59+(w64 (a63 * a68.cost))))) a82) fun a83=>Option.bind (ix a36.2 t62) fun a87=>Option.bind (ix ((c61.set t60.toNat (w64 (a48+a52))).set ((states.length:Int).toNat) (w64 (a59+(w64 (a63 * a68.cost))))) a82) fun a90=>some (((c61.set t60.toNat (w64 (a48+a52))).set ((states.length:Int).toNat) (w64 (a59+(w64 (a63 * a68.cost))))).set a82.toNat (w64 (a83 - a87))) else some ((c61.set t60.toNat (w64 (a48+a52))).set ((states.length:Int).toNat) (w64 (a59+(w64 (a63 * a68.cost)))))) fun c63=>some c63
noncomputable def T8(ov:b7)(states:LL)(ov3:b7)(states4:LL)(den:Int)(l:Li)(l7:Li):Int→(LL)→Option (LL):=fun t60 c59=>Option.bind (ix states t60) fun a23=>Option.bind (mkL 8 (w64 ((states.length:Int)+1)) 0) fun a28=>Option.bind (G9 a23 ov3 states4 den l l7) fun a31=>Option.bind (l8 ov a23 a31) fun a36=>(Option.bind (forR 0 (a36.1.length:Int) (U2 ov states t60 a31 a36) a28) fun c61=>Option.bind (app 24 c59 [c61]) fun a96=>some a96)
noncomputable def P9(ov:b7)(states:LL)(ov3:b7)(states4:LL)(den:Int)(l:Li)(l7:Li):Option (LL):=(Option.bind (forR 0 (states.length:Int) (T8 ov states ov3 states4 den l l7) ([]:LL)) fun c59=>some c59)
abbrev T3(ov:b7)(ov2:b7)(states:LL)(den:Int)(l:Li)(l6:Li):b6:=[.one (.cells 8 [[int ov2.facts,row 1 intI ov2.init,row 1 intI ov2.goal,row 3 d6 ov2.operators,row 1 b9 states,.own 1 0 l.length,.own 2 0 l6.length,int den]]),.one (vec 1 intI l),.one (vec 1 intI l6)]
def N0(atv61:Int):((LL)×(List d9))→Option (((LL)×(List d9)×Int)⊕((List d9)⊕((List d9)×Bool))):=fun(c64,c65)=>some (.inl (c64,c65,w64 (atv61+1)))
noncomputable def ad6(ov:b7)(ov2:b7)(states:LL)(den:Int)(l:Li)(l6:Li):((LL)×(List d9)×Int)→Option (((LL)×(List d9)×Int)⊕((List d9)⊕((List d9)×Bool))):=fun(c59,c60,atv61)=>if atv61<(c59.length:Int) then Option.bind (ix c59 atv61) fun a26=>Option.bind (Option.bind (j7 a26 ov.goal) fun a31=>if a31=true then some true else Option.bind (B8 c60 a26) fun a35=>some (decide (0≤a35))) fun t66=>if t66=true then(N0 atv61) (c59,c60) else if(c60.length:Int)=200 then some (.inr (.inr ([],false))) else Option.bind (G9 a26 ov2 states den l l6) fun a43=>Option.bind (i5 c60 a26 S7) fun a47=>Option.bind (q7 a26) fun a53=>Option.bind (insL c60 a47.1 (⟨a53,a43⟩:d9)) fun a57=>Option.bind (l8 ov a26 a43) fun a62=>Option.bind (app 24 c59 a62.1) fun a67=>(N0 atv61) (a67,a57) else some (.inr (.inl c60))
noncomputable def aa4(ov:b7)(ov2:b7)(states:LL)(den:Int)(l:Li)(l6:Li):Option ((List d9)×Bool):=Option.bind (Loop (ad6 ov ov2 states den l l6) ([ov.init],[],0)) fun| .inl c62=>some (c62,true)| .inr x=>some x
noncomputable def al0(ov:b7)(a47:(LL)):Int→Li→Option Li:=fun t8 c7=>Option.bind (ix a47 t8) fun a85=>Option.bind (ac5 (⟨ov.facts,a85,ov.goal,ov.operators⟩:b7)) fun a92=>Option.bind (B8 a92.1 a85) fun a103=>Option.bind (app 8 c7 [a103]) fun a105=>some a105
def ak1:Int→Li→Option Li:=fun t22 c21=>Option.bind (ix c21 t22) fun a159=>Option.bind (ix c21 t22) fun a162=>some (c21.set t22.toNat (w64 (0 - a159)))
noncomputable def ak7(ov:b7)(a47:(LL)):(Int×Li×Li×Bool)→Option ((Int×Li×Li×Bool)⊕(Int×Li×Li)):=fun(c9,c10,c11,again12)=>if again12=true then Option.bind (P9 ov a47 ov a47 c9 c10 c11) fun a120=>Option.bind (s9 a47 a120) fun a121=>Option.bind (if a121.2<0 then(Option.bind (forR 0 (a121.1.length:Int) ak1 a121.1) fun c21=>some (w64 (0 - a121.2),c21)) else some (a121.2,a121.1)) fun⟨c17,c18⟩=>Option.bind (I0 ov a47 c17 c10 c18) fun a165=>some (.inl (c17,a165.1,c18,a165.2)) else some (.inr (c9,c10,c11))
noncomputable def aj2(ov:b7):Option ((List d9)×m5×Bool×i7):=Option.bind (X4 ov) fun a24=>if(!((decide (a24.2.code=0)) && (decide (a24.2.index=0))))=true then some ([],(⟨0,0⟩:m5),false,a24.2) else Option.bind (p7 ov.operators ac4) fun a34=>if a34=true then some ([],(⟨0,0⟩:m5),false,(⟨3, -5⟩:i7)) else Option.bind (O8 ov a24.1) fun a39=>Option.bind (w3 a24.1) fun a41=>Option.bind (F3 a41 a24.1 a39) fun a43=>Option.bind (C0 ov a43) fun a47=>Option.bind (w3 a24.1) fun a53=>Option.bind (C0 ov a53) fun a54=>if 5<(a54.length:Int) then some ([],(⟨0,0⟩:m5),false,(⟨10, -7⟩:i7)) else Option.bind (w9 a24.1 ov.init) fun a64=>Option.bind (ix a39 a64) fun a65=>if a65<0 then some ([],(⟨0,0⟩:m5),false,(⟨0,0⟩:i7)) else Option.bind (j7 ov.init ov.goal) fun a75=>if a75=true then some ([],(⟨0,1⟩:m5),true,(⟨0,0⟩:i7)) else(Option.bind (forR 0 (a47.length:Int) (al0 ov a47) []) fun c7=>Option.bind (Loop (ak7 ov a47) (0,c7,[],true)) fun⟨c13,c14,c15⟩=>Option.bind (w9 a47 ov.init) fun a177=>Option.bind (ix c15 a177) fun a178=>Option.bind (J9 a178 c13) fun a184=>if(!((decide (a184.2.code=0)) && (decide (a184.2.index=0))))=true then some ([],(⟨0,0⟩:m5),false,a184.2) else Option.bind (aa4 ov ov a47 c13 c14 c15) fun a196=>some (a196.1,a184.1,true,(⟨0,0⟩:i7)))
def N3(nv:Int)(low:Int)(high:Int):Option Bool:=some ((decide (low≤nv)) && (decide (nv≤high)))
def P5(code:Int)(index:Int):Option i7:=some (⟨code,index⟩:i7)
def ac8(l:Li)(nv:Int):Int→Unit→Option (Unit⊕Bool):=fun iv3 _=>Option.bind (Option.bind (ix l iv3) fun a14=>Option.bind (N3 a14 0 (w64 (nv - 1))) fun a18=>if(!a18)=true then some true else if 0<iv3 then Option.bind (ix l iv3) fun a26=>Option.bind (ix l (iv3 - 1)) fun a31=>some (decide (a26≤a31)) else some false) fun t4=>if t4=true then some (.inr false) else some (.inl ())
def M5(l:Li)(nv:Int):Option Bool:=(Option.bind (rngX 0 (l.length:Int) (ac8 l nv) ()) fun| .inl _=>some true| .inr x=>some x)
def ref1_Has_l1(l:Li)(nv:Int):Int→Unit→Option (Unit⊕Bool):=fun iv3 _=>Option.bind (ix l iv3) fun a14=>if a14=nv then some (.inr true) else some (.inl ())
def am5(l:Li)(nv:Int):Option Bool:=(Option.bind (rngX 0 (l.length:Int) (ref1_Has_l1 l nv) ()) fun| .inl _=>some false| .inr x=>some x)
def ag9(av:Li)(bv:Li):Int→Unit→Option (Unit⊕Bool):=fun iv3 _=>Option.bind (ix av iv3) fun a15=>Option.bind (am5 bv a15) fun a17=>if a17=true then some (.inr false) else some (.inl ())
def ac2(av:Li)(bv:Li):Option Bool:=(Option.bind (rngX 0 (av.length:Int) (ag9 av bv) ()) fun| .inl _=>some true| .inr x=>some x)
def A5(ov:b7)(a42:e9):(Int×Int)→Option ((Int×Int)⊕Int):=fun(ev12,kv13)=>if((decide (kv13<(a42.outcomes.length:Int))) && (decide (ev12=0)))=true then Option.bind (Option.bind (ix a42.outcomes kv13) fun a73=>Option.bind (Option.bind (M5 a73.add ov.facts) fun a79=>if(!a79)=true then some true else Option.bind (M5 a73.del ov.facts) fun a86=>if(!a86)=true then some true else Option.bind (ac2 a73.add a73.del) fun a94=>some (!a94)) fun t18=>if t18=true then some 5 else Option.bind (N3 a73.weight 1 6) fun a99=>if(!a99)=true then some 3 else some ev12) fun ev16=>some (.inl (ev16,w64 (kv13+1))) else some (.inr ev12)
noncomputable def G6(ov:b7):Int→Unit→Option (Unit⊕i7):=fun iv6 _=>Option.bind (ix ov.operators iv6) fun a42=>Option.bind (Option.bind (M5 a42.pre ov.facts) fun a48=>if(!a48)=true then some 5 else Option.bind (N3 a42.cost 0 100) fun a52=>if(!a52)=true then some 3 else Option.bind (N3 (a42.outcomes.length:Int) 1 4) fun a57=>if(!a57)=true then some 9 else some 0) fun ev7=>Option.bind (Loop (A5 ov a42) (ev7,0)) fun ev14=>if ev14=0 then some (.inl ()) else Option.bind (P5 ev14 iv6) fun a105=>some (.inr a105)
noncomputable def aa3(ov:b7):Option i7:=Option.bind (N3 ov.facts 0 24) fun a10=>if(!a10)=true then Option.bind (P5 3 (-1)) fun a12=>some a12 else Option.bind (M5 ov.init ov.facts) fun a17=>if(!a17)=true then Option.bind (P5 5 (-2)) fun a19=>some a19 else Option.bind (M5 ov.goal ov.facts) fun a24=>if(!a24)=true then Option.bind (P5 5 (-3)) fun a26=>some a26 else if 40<(ov.operators.length:Int) then Option.bind (P5 2 (-1)) fun a31=>some a31 else(Option.bind (rngX 0 (ov.operators.length:Int) (G6 ov) ()) fun| .inl _=>some (⟨0,0⟩:i7)| .inr x=>some x)
def ak0(part:Li)(l:Li):Int→Unit→Option (Unit⊕Bool):=fun iv3 _=>Option.bind (ix part iv3) fun a15=>Option.bind (am5 l a15) fun a17=>if(!a17)=true then some (.inr false) else some (.inl ())
def aj0(part:Li)(l:Li):Option Bool:=(Option.bind (rngX 0 (part.length:Int) (ak0 part l) ()) fun| .inl _=>some true| .inr x=>some x)
def ag6(ov:b7)(sv:Li)(op:Int):Option Bool:=Option.bind (ix ov.operators op) fun a10=>Option.bind (aj0 a10.pre sv) fun a14=>some a14
def aa6(av:Li)(bv:Li):Int→Option (Int⊕(Unit⊕Bool)):=fun iv3=>if((decide (iv3<(av.length:Int))) && (decide (iv3<(bv.length:Int))))=true then Option.bind (ix av iv3) fun a20=>Option.bind (ix bv iv3) fun a24=>if a20=a24 then some (.inl (w64 (iv3+1))) else Option.bind (ix av iv3) fun a29=>Option.bind (ix bv iv3) fun a33=>some (.inr (.inr (decide (a29<a33)))) else some (.inr (.inl ()))
noncomputable def ab2(av:Li)(bv:Li):Option Bool:=Option.bind (Loop (aa6 av bv) 0) fun| .inl _=>some (decide ((av.length:Int)<(bv.length:Int)))| .inr x=>some x
def ah4(av:Li)(bv:Li):Int→Unit→Option (Unit⊕Bool):=fun iv4 _=>Option.bind (ix av iv4) fun a19=>Option.bind (ix bv iv4) fun a23=>if a19=a23 then some (.inl ()) else some (.inr false)
def W7(av:Li)(bv:Li):Option Bool:=if(av.length:Int)=(bv.length:Int) then(Option.bind (rngX 0 (av.length:Int) (ah4 av bv) ()) fun| .inl _=>some true| .inr x=>some x) else some false
def law8_coin:Option b7:=some (⟨1,[],[0],[(⟨[],[(⟨[0],[],1⟩:j3),(⟨[],[],2⟩:j3)],1⟩:e9)]⟩:b7)
def ah9(av:List d9)(bv:List d9):Int→Unit→Option (Unit⊕Bool):=fun iv4 _=>Option.bind (Option.bind (ix av iv4) fun a19=>Option.bind (ix bv iv4) fun a24=>if(!(decide (a19.operator=a24.operator)))=true then some true else Option.bind (ix av iv4) fun a31=>Option.bind (ix bv iv4) fun a36=>Option.bind (W7 a31.state a36.state) fun a39=>some (!a39)) fun t5=>if t5=true then some (.inr false) else some (.inl ())
def af9(av:List d9)(bv:List d9):Option Bool:=if(av.length:Int)=(bv.length:Int) then(Option.bind (rngX 0 (av.length:Int) (ah9 av bv) ()) fun| .inl _=>some true| .inr x=>some x) else some false
noncomputable def B7:Option Bool:=Option.bind (law8_coin) fun a6=>Option.bind (aj2 a6) fun a7=>Option.bind (if a7.2.2.2.code=0 then if a7.2.2.1=true then if((decide (a7.2.1.num=3)) && (decide (a7.2.1.den=1)))=true then Option.bind (af9 a7.1 ([(⟨[],0⟩:d9)])) fun a27=>some a27 else some false else some false else some false) fun t1=>some t1
def Y7(p:List d9)(sv:Li):Int→Unit→Option (Unit⊕Int):=fun iv3 _=>Option.bind (ix p iv3) fun a14=>Option.bind (W7 a14.state sv) fun a18=>if a18=true then Option.bind (ix p iv3) fun a21=>some (.inr a21.operator) else some (.inl ())
def aa8(p:List d9)(sv:Li):Option Int:=(Option.bind (rngX 0 (p.length:Int) (Y7 p sv) ()) fun| .inl _=>some (-1)| .inr x=>some x)
def aa7:(Int×Int×Int)→Option ((Int×Int×Int)⊕(Int×Int)):=fun(av3,bv4,twos5)=>if((decide (0<av3)) && (!(decide (av3=bv4))))=true then Option.bind (Option.bind (chkN 2) fun u14=>if(av3).tmod 2=0 then Option.bind (chkN 2) fun u18=>some (decide ((bv4).tmod 2=0)) else some false) fun t9=>if t9=true then Option.bind (chkN 2) fun u22=>Option.bind (chkN 2) fun u24=>some (.inl (w64 ((av3).tdiv 2),w64 ((bv4).tdiv 2),w64 (2 * twos5))) else Option.bind (chkN 2) fun u28=>if(av3).tmod 2=0 then Option.bind (chkN 2) fun u31=>some (.inl (w64 ((av3).tdiv 2),bv4,twos5)) else Option.bind (chkN 2) fun u33=>if(bv4).tmod 2=0 then Option.bind (chkN 2) fun u36=>some (.inl (av3,w64 ((bv4).tdiv 2),twos5)) else if bv4<av3 then some (.inl (w64 (av3 - bv4),bv4,twos5)) else some (.inl (av3,w64 (bv4 - av3),twos5)) else some (.inr (bv4,twos5))
noncomputable def ag2(av:Int)(bv:Int):Option Int:=Option.bind (Loop aa7 (av,bv,1)) fun⟨bv6,twos7⟩=>some (w64 (bv6 * twos7))
noncomputable def H4(num:Int)(den:Int):Option m5:=Option.bind (ag2 num den) fun a8=>Option.bind (chkN a8) fun u11=>Option.bind (chkN a8) fun u14=>some (⟨w64 ((num).tdiv a8),w64 ((den).tdiv a8)⟩:m5)
noncomputable def B4(ov:b7)(policy:List d9):Int→Unit→Option (Unit⊕i7):=fun t5 _=>Option.bind (ix policy t5) fun a24=>Option.bind (Option.bind (Option.bind (B5 a24.state ov.facts) fun a31=>if(!a31)=true then some true else if 0<t5 then Option.bind (ix policy (t5 - 1)) fun a40=>Option.bind (slices_Compare_int_int a40.state a24.state) fun a45=>some (decide (0≤a45)) else some false) fun t8=>if t8=true then some 5 else if((decide (a24.operator<0))||(decide ((ov.operators.length:Int)≤a24.operator)))=true then some 3 else Option.bind (O9 ov a24.state a24.operator) fun a67=>if(!a67)=true then some 11 else some 0) fun ev6=>if ev6=0 then some (.inl ()) else some (.inr (⟨ev6,w64 ((-9) - t5)⟩:i7))
noncomputable def B2(ov:b7)(policy:List d9):Option i7:=Option.bind (K1 ov) fun a10=>if(!((decide (a10.code=0)) && (decide (a10.index=0))))=true then some a10 else if 200<(policy.length:Int) then some (⟨2, -8⟩:i7) else(Option.bind (rngX 0 (policy.length:Int) (B4 ov policy) ()) fun| .inl _=>some (⟨0,0⟩:i7)| .inr x=>some x)
def H8(xv:Li)(c2:Li):Option Bool:=Option.bind (x4 xv c2) fun a6=>some a6
def K6(a46:(LL)×Li):Int→(LL)→Option (LL):=fun t14 c13=>Option.bind (Option.bind (ix a46.1 t14) fun a53=>Option.bind (v7 c13 (fun y1=>H8 y1 a53)) fun a57=>if(!a57)=true then Option.bind (app 24 c13 [a53]) fun a62=>some a62 else some c13) fun c15=>some c15
noncomputable def Q6(ov:b7)(policy:List d9):((LL)×Int)→Option (((LL)×Int)⊕(LL)):=fun(c3,atv4)=>if atv4<(c3.length:Int) then Option.bind (Option.bind (ix c3 atv4) fun a25=>Option.bind (B8 policy a25) fun a27=>Option.bind (if a27<0 then some true else Option.bind (ix c3 atv4) fun a33=>Option.bind (j7 a33 ov.goal) fun a37=>some a37) fun t9=>if t9=true then some c3 else Option.bind (ix c3 atv4) fun a43=>Option.bind (l8 ov a43 a27) fun a46=>(Option.bind (forR 0 (a46.1.length:Int) (K6 a46) c3) fun c13=>some c13)) fun c7=>some (.inl (c7,w64 (atv4+1))) else some (.inr c3)
noncomputable def N2(ov:b7)(policy:List d9):Option (LL):=Option.bind (q7 ov.init) fun a14=>Option.bind (Loop (Q6 ov policy) ([a14],0)) fun c5=>Option.bind (D7 c5) fun a65=>some a65
def E0(sv:Li)(v:Int):Int→Unit→Option (Unit⊕Int):=fun t3 _=>Option.bind (ix sv t3) fun a14=>if v=a14 then some (.inr t3) else some (.inl ())
def G7(sv:Li)(v:Int):Option Int:=(Option.bind (rngX 0 (sv.length:Int) (E0 sv v) ()) fun| .inl _=>some (-1)| .inr x=>some x)
def A0(sv:Li)(v:Int):Option Bool:=Option.bind (G7 sv v) fun a7=>some (decide (0≤a7))
def L8:Li→Option (Li⊕Bool):=fun c7=>some (.inl c7)
noncomputable def Q8(a16:(LL))(t6:Int)(a47:(LL)×Li):Int→Li→Option Li:=fun t11 c10=>Option.bind (ix a47.1 t11) fun a54=>Option.bind (ix c10 t6) fun a60=>Option.bind (w9 a16 a54) fun a65=>Option.bind (ix c10 a65) fun a66=>Option.bind (ix c10 t6) fun a69=>some (c10.set t6.toNat (max a60 a66))
noncomputable def F5(ov:b7)(policy:List d9)(a16:(LL)):Int→Li→Option (Li⊕Bool):=fun t6 c5=>Option.bind (ix a16 t6) fun a29=>Option.bind (j7 a29 ov.goal) fun a34=>if a34=true then Option.bind (ix c5 t6) fun a37=>L8 (c5.set t6.toNat 1) else Option.bind (B8 policy a29) fun a40=>if a40<0 then some (.inr false) else Option.bind (l8 ov a29 a40) fun a47=>(Option.bind (forR 0 (a47.1.length:Int) (Q8 a16 t6 a47) c5) fun c10=>L8 c10)
noncomputable def G0(ov:b7)(policy:List d9)(a16:(LL)):Int→Li→Option (Li⊕Bool):=fun t4 c3=>(Option.bind (rngX 0 (a16.length:Int) (F5 ov policy a16) c3) fun| .inl c5=>some (.inl c5)| .inr x=>some (.inr x))
noncomputable def R6(ov:b7)(policy:List d9):Option Bool:=Option.bind (N2 ov policy) fun a16=>Option.bind (mkL 8 (a16.length:Int) 0) fun a19=>(Option.bind (rngX 0 (a16.length:Int) (G0 ov policy a16) a19) fun| .inl c3=>Option.bind (A0 c3 0) fun a74=>some (!a74)| .inr x=>some x)
noncomputable def H7(sv:Li)(c2:List d9):Option Int:=Option.bind (B8 c2 sv) fun a6=>some a6
abbrev aj9(ov:b7)(states:LL)(c:List d9):b6:=[.one (.cells 1 [[row 2 f5 c]])]
noncomputable def T9(ov:b7)(states:LL)(t56:Int)(a31:Int)(a36:(LL)×Li):Int→Li→Option Li:=fun t58 c57=>Option.bind (Option.bind (ix a36.1 t58) fun a44=>Option.bind (ix c57 t56) fun a48=>Option.bind (ix a36.2 t58) fun a52=>Option.bind (ix c57 t56) fun a55=>Option.bind (ix (c57.set t56.toNat (w64 (a48+a52))) (states.length:Int)) fun a59=>Option.bind (ix a36.2 t58) fun a63=>Option.bind (ix ov.operators a31) fun a68=>Option.bind (ix (c57.set t56.toNat (w64 (a48+a52))) (states.length:Int)) fun a73=>Option.bind (j7 a44 ov.goal) fun a77=>if(!a77)=true then Option.bind (w9 states a44) fun a82=>Option.bind (ix ((c57.set t56.toNat (w64 (a48+a52))).set ((states.length:Int).toNat) (w64 (a59+(w64 (a63 * a68.cost))))) a82) fun a83=>Option.bind (ix a36.2 t58) fun a87=>Option.bind (ix ((c57.set t56.toNat (w64 (a48+a52))).set ((states.length:Int).toNat) (w64 (a59+(w64 (a63 * a68.cost))))) a82) fun a90=>some (((c57.set t56.toNat (w64 (a48+a52))).set ((states.length:Int).toNat) (w64 (a59+(w64 (a63 * a68.cost))))).set a82.toNat (w64 (a83 - a87))) else some ((c57.set t56.toNat (w64 (a48+a52))).set ((states.length:Int).toNat) (w64 (a59+(w64 (a63 * a68.cost)))))) fun c59=>some c59
noncomputable def T7(ov:b7)(states:LL)(c:List d9):Int→(LL)→Option (LL):=fun t56 c55=>Option.bind (ix states t56) fun a23=>Option.bind (mkL 8 (w64 ((states.length:Int)+1)) 0) fun a28=>Option.bind (H7 a23 c) fun a31=>Option.bind (l8 ov a23 a31) fun a36=>(Option.bind (forR 0 (a36.1.length:Int) (T9 ov states t56 a31 a36) a28) fun c57=>Option.bind (app 24 c55 [c57]) fun a96=>some a96)
noncomputable def E1(ov:b7)(states:LL)(c:List d9):Option (LL):=(Option.bind (forR 0 (states.length:Int) (T7 ov states c) ([]:LL)) fun c55=>some c55)
noncomputable def k7(ov:b7)(policy:List d9):Option (m5×i7):=Option.bind (B2 ov policy) fun a12=>if(!((decide (a12.code=0)) && (decide (a12.index=0))))=true then some ((⟨0,0⟩:m5),a12) else Option.bind (R6 ov policy) fun a20=>if(!a20)=true then some ((⟨0,0⟩:m5),(⟨15, -1⟩:i7)) else Option.bind (N2 ov policy) fun a27=>Option.bind (C0 ov a27) fun a28=>if 5<(a28.length:Int) then some ((⟨0,0⟩:m5),(⟨10, -7⟩:i7)) else Option.bind (j7 ov.init ov.goal) fun a38=>if a38=true then some ((⟨0,1⟩:m5),(⟨0,0⟩:i7)) else Option.bind (E1 ov a28 policy) fun a45=>Option.bind (s9 a28 a45) fun a46=>Option.bind (w9 a28 ov.init) fun a53=>Option.bind (ix a46.1 a53) fun a54=>Option.bind (J9 a54 a46.2) fun a57=>some (a57.1,a57.2)
noncomputable def E2(ov:b7)(p:List d9):Int→Unit→Option (Unit⊕i7):=fun iv5 _=>Option.bind (Option.bind (ix p iv5) fun a25=>Option.bind (M5 a25.state ov.facts) fun a30=>if(!a30)=true then some true else if 0<iv5 then Option.bind (ix p (iv5 - 1)) fun a39=>Option.bind (ix p iv5) fun a44=>Option.bind (ab2 a39.state a44.state) fun a47=>some (!a47) else some false) fun t6=>if t6=true then Option.bind (P5 5 (w64 ((-9) - iv5))) fun a53=>some (.inr a53) else Option.bind (ix p iv5) fun a56=>Option.bind (N3 a56.operator 0 (w64 ((ov.operators.length:Int) - 1))) fun a63=>if(!a63)=true then Option.bind (P5 3 (w64 ((-9) - iv5))) fun a67=>some (.inr a67) else Option.bind (ix p iv5) fun a71=>Option.bind (ix p iv5) fun a76=>Option.bind (ag6 ov a71.state a76.operator) fun a79=>if(!a79)=true then Option.bind (P5 11 (w64 ((-9) - iv5))) fun a83=>some (.inr a83) else some (.inl ())
noncomputable def ah1(ov:b7)(p:List d9):Option i7:=Option.bind (aa3 ov) fun a8=>if a8.code=0 then if 200<(p.length:Int) then Option.bind (P5 2 (-8)) fun a16=>some a16 else(Option.bind (rngX 0 (p.length:Int) (E2 ov p) ()) fun| .inl _=>some (⟨0,0⟩:i7)| .inr x=>some x) else some a8
def z6(ov:b7)(byv:Int):Int→(List e9)→Option (List e9):=fun iv6 c5=>Option.bind (ix ov.operators iv6) fun a30=>Option.bind (app 56 c5 [(⟨a30.pre,a30.outcomes,w64 (byv * a30.cost)⟩:e9)]) fun a41=>some a41
noncomputable def F8(ov:b7)(p:List d9)(byv:Int):Option Bool:=Option.bind (N3 byv 1 5) fun a15=>if(!a15)=true then Option.bind (B7) fun a17=>some a17 else(Option.bind (forR 0 (ov.operators.length:Int) (z6 ov byv) []) fun c5=>Option.bind (k7 ov p) fun a46=>Option.bind (k7 (⟨ov.facts,ov.init,ov.goal,c5⟩:b7) p) fun a52=>if((!(decide (a46.2.code=0)))||(!(decide (a52.2.code=0))))=true then Option.bind (B7) fun a63=>some a63 else Option.bind (Option.bind (B7) fun a64=>if a64=true then if 0<a46.1.den then Option.bind (H4 (w64 (byv * a46.1.num)) a46.1.den) fun a77=>some ((decide (a77.num=a52.1.num)) && (decide (a77.den=a52.1.den))) else some false else some false) fun t8=>some t8)
end Ab
end
section
namespace Ab
open Go
mutual
theorem C.no_ok0{id:Id}:∀c:C,c.ok 0=true→c.no id=true
 | .imm _,_=>rfl
 | .own _ _ _,h=>by simp[C.ok] at h
 | .ptr _ _ _,h=>by simp[C.ok] at h
 | .fn _ caps,h=>C.noL_ok0 caps h
 | .fnb _ caps,h=>C.noL_ok0 caps h
 | .ifc _ cs _,h=>C.noL_ok0 cs h
 | .map _,h=>by simp[C.ok] at h
theorem C.noL_ok0{id:Id}:∀l:List C,C.okL 0 l=true→C.noL id l=true
 |[],_=>rfl
 |c::r,h=>by
  simp only[C.okL,Bool.and_eq_true] at h
  simp only[C.noL,Bool.and_eq_true]
  exact⟨C.no_ok0 c h.1,C.noL_ok0 r h.2⟩
end
theorem fnNo{id:Id}{f:FuncId}{cv:List C}(h:C.okL 0 cv=true):(C.fn f cv).no id=true:=C.noL_ok0 cv h
theorem fnOk{n:Nat}{f:FuncId}{cv:List C}(h:C.okL 0 cv=true):(C.fn f cv).ok n=true:=C.okL_mono (Nat.zero_le n) cv h
theorem fnMv{π:Id→Id}{o:Option T}{f:FuncId}{cv:List C}(h:C.okL 0 cv=true)(e:o=some (.c (.fn f cv))):o=some ((T.c (.fn f cv)).ren π):=by
 rw[e]
 simp only[T.ren,C.ren]
 rw[C.renL_ok (m:=0) (fun i hi=>absurd hi (Nat.not_lt_zero _)) cv h]
theorem eOk1{n t:Nat}{v:T}{r:Env}(h:v.ok n=true)(hr:Q5 n r=true):Q5 n ((t,v)::r)=true:=by
 simp only[Q5,h,hr,Bool.and_self]
section
open Go.Proofs
variable {P:Program}{σ0:b6}{sz:Nat}{Q:Post}{env:Env}{σv:b6}{ops:Array Oper}{rest:List Oper}
def XAny(id:Id)(k:Nat)(es:List (List I)):C→C→Prop:=fun c c'=>c.frz id k es=c'
theorem AOps.frzB{e:List I}{id:Id}{k:Nat}{env2:Env}{σ1 σ2:b6}(hid:Nat.ble σ0.length id.1=true)(hσ:σv[id]? =some (some (Blk.im k [e])))(henv:P0 id (XAny id k [e]) env env2)(h1:putF σv id none=some σ1)(hst:FrzS id (XAny id k [e]) σ1 σ2)
  (h:AOps P σ0 sz ops Q rest (St.mk env2 σ2)):AOps P σ0 sz ops Q rest (St.mk env σv):=AOps.sub (Sub.frzX (fun _ _ h=>h) hid hσ henv h1 hst) h
end
end Ab
end
section
namespace Go.Proofs
open Go.Shelf
open Tryz
def Tryz.lays189_ren:Go.Shelf.Ren:=⟨fun|189=>148|125=>136|257=>168|128=>161|129=>162|294=>184|295=>185|296=>186|297=>187|298=>188|299=>189|216=>166|300=>190|301=>191|328=>200|329=>179|330=>180|331=>201|332=>202|215=>146|343=>208|n=>n,fun|28=>22|3=>3|46=>141|0=>0|51=>122|53=>211|4=>4|183=>220|182=>219|131=>131|5=>5|9=>9|218=>241|222=>245|228=>255|229=>256|n=>n,fun|n=>n⟩
theorem Tryz.lays189:Go.Proofs.Lays.n189 prog Tryz.lays189_ren:={
 mixed:=by kernel_rfl
 f125:=func136.trans (congrArg some (by kernel_rfl))
 f128:=func161.trans (congrArg some (by kernel_rfl))
 f129:=func162.trans (congrArg some (by kernel_rfl))
 f189:=func148.trans (congrArg some (by kernel_rfl))
 f215:=func146.trans (congrArg some (by kernel_rfl))
 f216:=func166.trans (congrArg some (by kernel_rfl))
 f257:=func168.trans (congrArg some (by kernel_rfl))
 f294:=func184.trans (congrArg some (by kernel_rfl))
 f295:=func185.trans (congrArg some (by kernel_rfl))
 f296:=func186.trans (congrArg some (by kernel_rfl))
 f297:=func187.trans (congrArg some (by kernel_rfl))
 f298:=func188.trans (congrArg some (by kernel_rfl))
 f299:=func189.trans (congrArg some (by kernel_rfl))
 f300:=func190.trans (congrArg some (by kernel_rfl))
 f301:=func191.trans (congrArg some (by kernel_rfl))
 f328:=func200.trans (congrArg some (by kernel_rfl))
 f329:=func179.trans (congrArg some (by kernel_rfl))
 f330:=func180.trans (congrArg some (by kernel_rfl))
 f331:=func201.trans (congrArg some (by kernel_rfl))
 f332:=func202.trans (congrArg some (by kernel_rfl))
 f343:=func208.trans (congrArg some (by kernel_rfl))
 t0:=underlying0
 a0:=isAgg0
 z0:=sizeOf0
 v0:=zeroValue0
 t3:=underlying3
 a3:=isAgg3
 z3:=sizeOf3
 v3:=zeroValue3
 t4:=underlying4
 a4:=isAgg4
 z4:=sizeOf4
 v4:=zeroValue4
 t5:=underlying5
 a5:=isAgg5
 z5:=sizeOf5
 v5:=zeroValue5
 t9:=underlying9
 a9:=isAgg9
 z9:=sizeOf9
 v9:=zeroValue9
 t28:=underlying22
 a28:=isAgg22
 z28:=sizeOf22
 v28:=zeroValue22
 t46:=underlying141
 a46:=isAgg141
 z46:=sizeOf141
 v46:=zeroValue141
 t51:=underlying122
 a51:=isAgg122
 z51:=sizeOf122
 v51:=zeroValue122
 t53:=underlying211
 a53:=isAgg211
 z53:=sizeOf211
 v53:=zeroValue211
 t131:=underlying131
 a131:=isAgg131
 z131:=sizeOf131
 v131:=zeroValue131
 t182:=underlying219
 a182:=isAgg219
 z182:=sizeOf219
 v182:=zeroValue219
 t183:=underlying220
 a183:=isAgg220
 z183:=sizeOf220
 v183:=zeroValue220
 t218:=underlying241
 a218:=isAgg241
 z218:=sizeOf241
 v218:=zeroValue241
 t222:=underlying245
 a222:=isAgg245
 z222:=sizeOf245
 v222:=zeroValue245
 t228:=underlying255
 a228:=isAgg255
 z228:=sizeOf255
 v228:=zeroValue255
 t229:=underlying256
 a229:=isAgg256
 z229:=sizeOf256
 v229:=zeroValue256}
open Go.Sort Go.RowKit in
theorem Tryz.slices_Sort_int(blk off cap:Nat)(zs:List Int)(w:World)(hH:Holds (Value.int .i64) w blk off zs.toArray)(hblk:blk<w.heap.size)(hsz:zs.length<4611686018427387904):
  Calls prog 148 #[.slice (some ⟨blk,off,none⟩) zs.length cap] w fun e w'=>
   e=.returned (.tuple #[])∧∃n os,w'=grow (putRow (Value.int .i64) (Sort.ahead w n) blk off (zs.mergeSort fun x y=>decide (x≤y)).toArray) os:=Any.slices_Sort_int Tryz.lays189 blk off cap zs w hH hblk hsz
def Tryz.laysNm220_ren:Go.Shelf.Ren:=⟨fun|20=>149|n=>n,fun|22=>22|3=>3|4=>4|0=>0|n=>n,fun|n=>n⟩
theorem Tryz.laysNm220:Go.Proofs.Lays2.n20 prog Tryz.laysNm220_ren:={
 mixed:=by kernel_rfl
 f20:=func149.trans (congrArg some (by kernel_rfl))
 t0:=underlying0
 a0:=isAgg0
 z0:=sizeOf0
 v0:=zeroValue0
 t3:=underlying3
 a3:=isAgg3
 z3:=sizeOf3
 v3:=zeroValue3
 t4:=underlying4
 a4:=isAgg4
 z4:=sizeOf4
 v4:=zeroValue4
 t22:=underlying22
 a22:=isAgg22
 z22:=sizeOf22
 v22:=zeroValue22
 i3:=by kernel_rfl}
open Go.RowKit Go.Lib Go.Sort in
theorem Tryz.slices_Compact_int(blk off cap:Nat)(zs:List Int)(w:World)(hH:Holds (Value.int .i64) w blk off zs.toArray)(hsz:zs.length≤9223372036854775807)(hcap:zs.length≤cap):
  Calls prog 149 #[.slice (some ⟨blk,off,none⟩) zs.length cap] w fun e w'=>e=.returned (.slice (some ⟨blk,off,none⟩) (Lib.compact zs).length cap)∧∃q,w'=putRow (Value.int .i64) (Sort.ahead w q) blk off (Lib.compact zs++List.replicate (zs.length - (Lib.compact zs).length) 0).toArray:=Any.slices_Compact_int Tryz.laysNm220 blk off cap zs w hH hsz hcap
open Go.RowKit Go.Lib Go.Sort in
theorem Tryz.slices_Compact_int_empty(a:Option Addr)(cap:Nat)(w:World):
  Calls prog 149 #[.slice a 0 cap] w fun e w'=>e=.returned (.slice a 0 cap)∧w'=w:=Any.slices_Compact_int_empty Tryz.laysNm220 a cap w
open Go.RowKit Go.Sort in
theorem Tryz.slices_Sort_int_none(p:Option Addr)(cap:Nat)(w:World):
  Calls prog 148 #[.slice p 0 cap] w fun e w'=>e=.returned (.tuple #[])∧w'=w:=Any.slices_Sort_int_none Tryz.lays189 p cap w
def Tryz.laysSlF6_f130_ren:Go.Shelf.Ren:=⟨fun|6=>130|15=>136|14=>151|28=>161|29=>162|20=>170|21=>171|22=>172|23=>173|24=>174|25=>175|26=>176|27=>177|46=>192|47=>179|48=>180|49=>193|50=>194|57=>203|n=>n,fun|22=>34|24=>22|25=>133|3=>3|39=>141|0=>0|53=>122|55=>211|4=>4|46=>220|45=>219|50=>131|5=>5|9=>9|66=>241|70=>245|76=>255|77=>256|n=>n,fun|n=>n⟩
theorem Tryz.laysSlF6_f130:Go.Proofs.SlLaysF.n6 prog Tryz.laysSlF6_f130_ren:={
 mixed:=by kernel_rfl
 f6:=⟨Tryz.f130.name,by decide,func130.trans (congrArg some (by kernel_rfl))⟩
 f14:=⟨Tryz.f151.name,by decide,func151.trans (congrArg some (by kernel_rfl))⟩
 f15:=func136.trans (congrArg some (by kernel_rfl))
 f20:=⟨Tryz.f170.name,by decide,func170.trans (congrArg some (by kernel_rfl))⟩
 f21:=⟨Tryz.f171.name,by decide,func171.trans (congrArg some (by kernel_rfl))⟩
 f22:=⟨Tryz.f172.name,by decide,func172.trans (congrArg some (by kernel_rfl))⟩
 f23:=⟨Tryz.f173.name,by decide,func173.trans (congrArg some (by kernel_rfl))⟩
 f24:=⟨Tryz.f174.name,by decide,func174.trans (congrArg some (by kernel_rfl))⟩
 f25:=⟨Tryz.f175.name,by decide,func175.trans (congrArg some (by kernel_rfl))⟩
 f26:=⟨Tryz.f176.name,by decide,func176.trans (congrArg some (by kernel_rfl))⟩
 f27:=⟨Tryz.f177.name,by decide,func177.trans (congrArg some (by kernel_rfl))⟩
 f28:=func161.trans (congrArg some (by kernel_rfl))
 f29:=func162.trans (congrArg some (by kernel_rfl))
 f46:=⟨Tryz.f192.name,by decide,func192.trans (congrArg some (by kernel_rfl))⟩
 f47:=func179.trans (congrArg some (by kernel_rfl))
 f48:=func180.trans (congrArg some (by kernel_rfl))
 f49:=⟨Tryz.f193.name,by decide,func193.trans (congrArg some (by kernel_rfl))⟩
 f50:=⟨Tryz.f194.name,by decide,func194.trans (congrArg some (by kernel_rfl))⟩
 f57:=⟨Tryz.f203.name,by decide,func203.trans (congrArg some (by kernel_rfl))⟩
 t0:=underlying0
 a0:=isAgg0
 z0:=sizeOf0
 v0:=zeroValue0
 t3:=underlying3
 a3:=isAgg3
 z3:=sizeOf3
 v3:=zeroValue3
 t4:=underlying4
 a4:=isAgg4
 z4:=sizeOf4
 v4:=zeroValue4
 t5:=underlying5
 a5:=isAgg5
 z5:=sizeOf5
 v5:=zeroValue5
 t9:=underlying9
 a9:=isAgg9
 z9:=sizeOf9
 v9:=zeroValue9
 t22:=underlying34
 a22:=isAgg34
 z22:=sizeOf34
 v22:=zeroValue34
 a24:=isAgg22
 z24:=sizeOf22
 t25:=underlying133
 a25:=isAgg133
 z25:=sizeOf133
 v25:=zeroValue133
 t39:=underlying141
 a39:=isAgg141
 z39:=sizeOf141
 v39:=zeroValue141
 t45:=underlying219
 a45:=isAgg219
 z45:=sizeOf219
 v45:=zeroValue219
 t46:=underlying220
 a46:=isAgg220
 z46:=sizeOf220
 v46:=zeroValue220
 t50:=underlying131
 a50:=isAgg131
 z50:=sizeOf131
 v50:=zeroValue131
 t53:=underlying122
 a53:=isAgg122
 z53:=sizeOf122
 v53:=zeroValue122
 t55:=underlying211
 a55:=isAgg211
 z55:=sizeOf211
 v55:=zeroValue211
 t66:=underlying241
 a66:=isAgg241
 z66:=sizeOf241
 v66:=zeroValue241
 t70:=underlying245
 a70:=isAgg245
 z70:=sizeOf245
 v70:=zeroValue245
 t76:=underlying255
 a76:=isAgg255
 z76:=sizeOf255
 v76:=zeroValue255
 t77:=underlying256
 a77:=isAgg256
 z77:=sizeOf256
 v77:=zeroValue256}
open Go.RowKit Go.Lib Go.Sort in
theorem Tryz.slices_SortFunc_f130{α:Type}[Inhabited α](enc:α→Value)(h1:OneCell enc)(cf:α→α→Int)(hO:SWO (ltOf cf))(g:Nat)(cb:Array Value)(blk off cap:Nat)(d:Array α)(w:World)(eg:∀args w,(callFunc g args).run prog w=.ok (.enter g args) w)(hcmp:CmpLays1 prog g cb enc cf blk off d.size w)(hH:Holds enc w blk off d)(hblk:blk<w.heap.size)(hsz:d.size<4611686018427387904):
  Calls prog 130 #[.slice (some ⟨blk,off,none⟩) d.size cap,.func (.func g) #[] cb] w fun e w'=>
   e=.returned (.tuple #[])∧∃d' n os,PermIn 0 d.size d d'∧SortedIn (ltOf cf) 0 d.size d'∧w'=sortWorld enc w blk off n d' os:=Any.slices_SortFunc Tryz.laysSlF6_f130 enc h1 cf hO g cb blk off cap d w eg hcmp hH hblk hsz
def Tryz.laysSlF06_f130_ren:Go.Shelf.Ren:=⟨fun|6=>130|15=>136|14=>151|28=>161|29=>162|20=>170|21=>171|22=>172|23=>173|24=>174|25=>175|26=>176|27=>177|46=>192|47=>179|48=>180|49=>193|50=>194|57=>203|n=>n,fun|22=>34|24=>22|25=>133|3=>3|39=>141|0=>0|53=>122|55=>211|4=>4|46=>220|45=>219|50=>131|5=>5|9=>9|66=>241|70=>245|76=>255|77=>256|n=>n,fun|n=>n⟩
theorem Tryz.laysSlF06_f130:Go.Proofs.SlLaysF0.n6 prog Tryz.laysSlF06_f130_ren:={
 mixed:=by kernel_rfl
 f6:=⟨Tryz.f130.name,by decide,func130.trans (congrArg some (by kernel_rfl))⟩
 f14:=⟨Tryz.f151.name,by decide,func151.trans (congrArg some (by kernel_rfl))⟩
 f15:=func136.trans (congrArg some (by kernel_rfl))
 f20:=⟨Tryz.f170.name,by decide,func170.trans (congrArg some (by kernel_rfl))⟩
 f21:=⟨Tryz.f171.name,by decide,func171.trans (congrArg some (by kernel_rfl))⟩
 f22:=⟨Tryz.f172.name,by decide,func172.trans (congrArg some (by kernel_rfl))⟩
 f23:=⟨Tryz.f173.name,by decide,func173.trans (congrArg some (by kernel_rfl))⟩
 f24:=⟨Tryz.f174.name,by decide,func174.trans (congrArg some (by kernel_rfl))⟩
 f25:=⟨Tryz.f175.name,by decide,func175.trans (congrArg some (by kernel_rfl))⟩
 f26:=⟨Tryz.f176.name,by decide,func176.trans (congrArg some (by kernel_rfl))⟩
 f27:=⟨Tryz.f177.name,by decide,func177.trans (congrArg some (by kernel_rfl))⟩
 f28:=func161.trans (congrArg some (by kernel_rfl))
 f29:=func162.trans (congrArg some (by kernel_rfl))
 f46:=⟨Tryz.f192.name,by decide,func192.trans (congrArg some (by kernel_rfl))⟩
 f47:=func179.trans (congrArg some (by kernel_rfl))
 f48:=func180.trans (congrArg some (by kernel_rfl))
 f49:=⟨Tryz.f193.name,by decide,func193.trans (congrArg some (by kernel_rfl))⟩
 f50:=⟨Tryz.f194.name,by decide,func194.trans (congrArg some (by kernel_rfl))⟩
 f57:=⟨Tryz.f203.name,by decide,func203.trans (congrArg some (by kernel_rfl))⟩
 t0:=underlying0
 a0:=isAgg0
 z0:=sizeOf0
 v0:=zeroValue0
 t3:=underlying3
 a3:=isAgg3
 z3:=sizeOf3
 v3:=zeroValue3
 t4:=underlying4
 a4:=isAgg4
 z4:=sizeOf4
 v4:=zeroValue4
 t5:=underlying5
 a5:=isAgg5
 z5:=sizeOf5
 v5:=zeroValue5
 t9:=underlying9
 a9:=isAgg9
 z9:=sizeOf9
 v9:=zeroValue9
 t22:=underlying34
 a22:=isAgg34
 z22:=sizeOf34
 v22:=zeroValue34
 t25:=underlying133
 a25:=isAgg133
 z25:=sizeOf133
 v25:=zeroValue133
 t39:=underlying141
 a39:=isAgg141
 z39:=sizeOf141
 v39:=zeroValue141
 t45:=underlying219
 a45:=isAgg219
 z45:=sizeOf219
 v45:=zeroValue219
 t46:=underlying220
 a46:=isAgg220
 z46:=sizeOf220
 v46:=zeroValue220
 t50:=underlying131
 a50:=isAgg131
 z50:=sizeOf131
 v50:=zeroValue131
 t53:=underlying122
 a53:=isAgg122
 z53:=sizeOf122
 v53:=zeroValue122
 t55:=underlying211
 a55:=isAgg211
 z55:=sizeOf211
 v55:=zeroValue211
 t66:=underlying241
 a66:=isAgg241
 z66:=sizeOf241
 v66:=zeroValue241
 t70:=underlying245
 a70:=isAgg245
 z70:=sizeOf245
 v70:=zeroValue245
 t76:=underlying255
 a76:=isAgg255
 z76:=sizeOf255
 v76:=zeroValue255
 t77:=underlying256
 a77:=isAgg256
 z77:=sizeOf256
 v77:=zeroValue256}
open Go.RowKit Go.Lib Go.Sort in
theorem Tryz.slices_SortFunc_none_f130{α:Type}[Inhabited α](p:Option Addr)(cap:Nat)(fv:Value)(w:World):
  Calls prog 130 #[.slice p 0 cap,fv] w fun e w'=>e=.returned (.tuple #[])∧w'=w:=AnyF.slices_SortFunc_none Tryz.laysSlF06_f130 p cap fv w
end Go.Proofs
end
section
namespace Ab
open Go Go.Proofs
open Tryz
theorem sort_facts:S6 prog 148:=⟨_,func148,rfl,rfl⟩
theorem compact_facts:S6 prog 149:=⟨_,func149,rfl,rfl⟩
theorem sortL_ok:SortOk prog 148:=fun hσ hl=>sort_fn sort_facts (fun blk off cap zs w hH hb hs=>Tryz.slices_Sort_int blk off cap zs w hH hb hs) (fun p cap w=>Tryz.slices_Sort_int_none p cap w) hσ hl
theorem compactL_ok:CompactOk prog 149:=fun hσ=>compact_fn compact_facts (fun blk off cap zs w hH hs hc=>Tryz.slices_Compact_int blk off cap zs w hH hs hc) (fun a cap w=>Tryz.slices_Compact_int_empty a cap w) hσ
end Ab
end
section
namespace Ab
open Go Go.Proofs
open Tryz
theorem sortF_facts:S6 prog 130:=⟨_,func130,rfl,rfl⟩
theorem sortF_LLi64_ok:SortFOk prog 130:=fun hgn hO hT hg _ _ _ hσ hl=>sortF_fn sortF_facts hgn hO hT hg (fun β _ enc h1 cf hO g cb blk off cap d w eg hcmp hH hblk hsz=>Tryz.slices_SortFunc_f130 enc h1 cf hO g cb blk off cap d w eg hcmp hH hblk hsz) (fun p cap fv w=>Tryz.slices_SortFunc_none_f130 (α:=Unit) p cap fv w) hσ hl
end Ab
end
section
namespace Ab
open Go Go.Proofs
end Ab
end
section
namespace Ab
open Go
theorem r7{α:Type}{l:List α}{k:Nat}:ix l (k:Int)=l[k]? :=by simp[ix]
theorem j8{α:Type}{l:List α}{i:Int}(h0:0≤i)(h1:i<l.length):∃a,ix l i=some a∧l[i.toNat]? =some a:=by
 have h:i.toNat<l.length:=by omega
 exact⟨l[i.toNat],by simp[ix,h0,h],by simp[h]⟩
theorem v8{α:Type}{l:List α}{i:Int}{a:α}(h:ix l i=some a):0≤i∧i<l.length∧l[i.toNat]? =some a:=by
 unfold ix at h
 split at h
 ·have:=(lG.1 h).1
  exact⟨by assumption,by omega,h⟩
 ·cases h
theorem u5{n:Int}(h1: -9223372036854775808≤n)(h2:n≤9223372036854775807):w64 n=n:=w64_eq ⟨h1,h2⟩
theorem forN_inv{S:Type}{body:Int→S→Option S}(P:Int→S→Prop):∀(k:Nat) (i:Int) (s:S),P i s→
  (∀j s,i≤j→j<i+k→P j s→∃s',body j s=some s'∧P (j+1) s')→∃s',forN body k i s=some s'∧P (i+k) s'
 |0,i,s,h,_=>⟨s,rfl,by simpa using h⟩
 |k+1,i,s,h,hb=>by
  obtain⟨s1,h1,h2⟩:=hb i s (Int.le_refl _) (by omega) h
  obtain⟨s2,h3,h4⟩:=forN_inv P k (i+1) s1 h2 (fun j s g1 g2=>hb j s (by omega) (by omega))
  exact⟨s2,by simp only[forN,h1];exact h3,by rw[show i+((k+1:Nat):Int)=i+1+k by omega];exact h4⟩
theorem G2{S:Type}{body:Int→S→Option S}{n:Int}(P:Int→S→Prop){s:S}(hn:0≤n)(h0:P 0 s)
  (hb:∀j s,0≤j→j<n→P j s→∃s',body j s=some s'∧P (j+1) s'):∃s',forR 0 n body s=some s'∧P n s':=by
 obtain⟨s',h1,h2⟩:=forN_inv P (n - 0).toNat 0 s h0 (fun j s g1 g2=>hb j s g1 (by omega))
 exact⟨s',h1,by rwa [show(0:Int)+((n - 0).toNat:Int)=n by omega] at h2⟩
theorem rngN_inv{S O:Type}{body:Int→S→Option (S⊕O)}(P:Int→S→Prop)(Q:O→Prop):∀(k:Nat) (i:Int) (s:S),P i s→
  (∀j s,i≤j→j<i+k→P j s→(∃s',body j s=some (.inl s')∧P (j+1) s')∨∃o,body j s=some (.inr o)∧Q o)→
  (∃s',rngN body k i s=some (.inl s')∧P (i+k) s')∨∃o,rngN body k i s=some (.inr o)∧Q o
 |0,i,s,h,_=>.inl ⟨s,rfl,by simpa using h⟩
 |k+1,i,s,h,hb=>by
  rcases hb i s (Int.le_refl _) (by omega) h with⟨s1,h1,h2⟩|⟨o,h1,h2⟩
  ·rcases rngN_inv P Q k (i+1) s1 h2 (fun j s g1 g2=>hb j s (by omega) (by omega)) with⟨s2,h3,h4⟩|⟨o,h3,h4⟩
   ·exact .inl ⟨s2,by simp only[rngN,h1];exact h3,by rw[show i+((k+1:Nat):Int)=i+1+k by omega];exact h4⟩
   ·exact .inr ⟨o,by simp only[rngN,h1];exact h3,h4⟩
  ·exact .inr ⟨o,by simp only[rngN,h1],h2⟩
theorem aa5{S O:Type}{body:Int→S→Option (S⊕O)}{n:Int}(P:Int→S→Prop)(Q:O→Prop){s:S}(hn:0≤n)(h0:P 0 s)
  (hb:∀j s,0≤j→j<n→P j s→(∃s',body j s=some (.inl s')∧P (j+1) s')∨∃o,body j s=some (.inr o)∧Q o):
  (∃s',rngX 0 n body s=some (.inl s')∧P n s')∨∃o,rngX 0 n body s=some (.inr o)∧Q o:=by
 rcases rngN_inv P Q (n - 0).toNat 0 s h0 (fun j s g1 g2=>hb j s g1 (by omega)) with⟨s',h1,h2⟩|h
 ·exact .inl ⟨s',h1,by rwa [show(0:Int)+((n - 0).toNat:Int)=n by omega] at h2⟩
 ·exact .inr h
theorem LoopN_inv{S O:Type}{body:S→Option (S⊕O)}(P:S→Prop)(Q:O→Prop)(μ:S→Nat)(hb:∀s,P s→(∃s',body s=some (.inl s')∧P s'∧μ s'<μ s)∨∃o,body s=some (.inr o)∧Q o):
  ∀(k:Nat) (s:S),μ s<k→P s→∃o,LoopN body k s=some o∧Q o
 |0,s,h,_=>by omega
 |k+1,s,h,hs=>by
  rcases hb s hs with⟨s',h1,h2,h3⟩|⟨o,h1,h2⟩
  ·obtain⟨o,g1,g2⟩:=LoopN_inv P Q μ hb k s' (by omega) h2
   exact⟨o,by simp only[LoopN,h1];exact g1,g2⟩
  ·exact⟨o,by simp only[LoopN,h1],h2⟩
theorem M6{S O:Type}{body:S→Option (S⊕O)}(P:S→Prop)(Q:O→Prop)(μ:S→Nat){s:S}(hs:P s)
  (hb:∀s,P s→(∃s',body s=some (.inl s')∧P s'∧μ s'<μ s)∨∃o,body s=some (.inr o)∧Q o):∃o,Loop body s=some o∧Q o:=by
 obtain⟨o,h1,h2⟩:=LoopN_inv P Q μ hb (μ s+1) s (by omega) hs
 exact⟨o,V4.2 ⟨_,h1⟩,h2⟩
/-! ### Two loops that do the same -/
theorem rngN_eq{S O:Type}{b1 b2:Int→S→Option (S⊕O)}(P:Int→S→Prop):∀(k:Nat) (i:Int) (s:S),P i s→
  (∀j s,i≤j→j<i+k→P j s→b1 j s=b2 j s∧b1 j s ≠ none∧∀s',b1 j s=some (.inl s')→P (j+1) s')→
  rngN b1 k i s=rngN b2 k i s∧rngN b1 k i s ≠ none∧∀s',rngN b1 k i s=some (.inl s')→P (i+k) s'
 |0,i,s,h,_=>⟨rfl,by simp[rngN],fun s' hs=>by simp only[rngN,Option.some.injEq,Sum.inl.injEq] at hs;subst hs;simpa using h⟩
 |k+1,i,s,h,hb=>by
  obtain⟨h1,h2,h3⟩:=hb i s (Int.le_refl _) (by omega) h
  simp only[rngN]
  rw[← h1]
  cases hc:b1 i s with
  |none=>exact absurd hc h2
  |some x=>
   cases x with
   |inr o=>exact⟨rfl,by simp,fun s' hs=>by simp at hs⟩
   |inl s1=>
    dsimp only
    have:=rngN_eq (b1:=b1) (b2:=b2) P k (i+1) s1 (h3 s1 hc) (fun j s g1 g2=>hb j s (by omega) (by omega))
    rwa [show i+1+(k:Int)=i+((k+1:Nat):Int) by omega] at this
theorem rngX_eq{S O:Type}{b1 b2:Int→S→Option (S⊕O)}{n:Int}(P:Int→S→Prop){s:S}(hn:0≤n)(h0:P 0 s)
  (hb:∀j s,0≤j→j<n→P j s→b1 j s=b2 j s∧b1 j s ≠ none∧∀s',b1 j s=some (.inl s')→P (j+1) s'):
  rngX 0 n b1 s=rngX 0 n b2 s∧rngX 0 n b1 s ≠ none∧∀s',rngX 0 n b1 s=some (.inl s')→P n s':=by
 have:=rngN_eq P (n - 0).toNat 0 s h0 (fun j s g1 g2=>hb j s g1 (by omega))
 rwa [show(0:Int)+((n - 0).toNat:Int)=n by omega] at this
end Ab
end
section
namespace Ab
open Go
noncomputable def dec(p:Prop):Bool:=@decide p (Classical.propDecidable p)
@[simp] theorem o9 {p:Prop}:dec p=true↔p:=by simp[dec]
@[simp] theorem dec_false {p:Prop}:dec p=false↔¬ p:=by simp[dec]
@[simp] theorem y6 {p:Prop}:(!dec p)=dec (¬ p):=by by_cases h:p<;>simp[dec,h]
theorem X7{p:Prop}[Decidable p]:decide p=dec p:=by by_cases h:p<;>simp[dec,h]
theorem p8{p:Prop}(h:p):dec p=true:=o9.2 h
theorem u3{p:Prop}(h:¬ p):dec p=false:=dec_false.2 h
theorem O1{p q:Prop}(h:p↔q):dec p=dec q:=by rw[propext h]
theorem dec_and{p q:Prop}:(dec p && dec q)=dec (p∧q):=by by_cases h:p<;>by_cases g:q<;>simp[dec,h,g]
theorem ifP{α:Type}{p:Prop}{a b:α}(h:p):(if dec p=true then a else b)=a:=if_pos (p8 h)
theorem ifN{α:Type}{p:Prop}{a b:α}(h:¬ p):(if dec p=true then a else b)=b:=if_neg fun g=>h (o9.1 g)
theorem ifNN{α:Type}{p:Prop}{a b:α}(h:p):(if dec (¬ p)=true then a else b)=b:=ifN (not_not_intro h)
theorem r8{α:Type}{l:List α}{i:Int}{a:α}(h:ix l i=some a):a ∈ l:=List.mem_of_getElem? (v8 h).2.2
theorem w8{α:Type}{l:List α}{a:α}(h:a ∈ l):∃i:Int,0≤i∧i<l.length∧ix l i=some a:=by
 obtain⟨k,hk⟩:=List.getElem?_of_mem h
 exact⟨k,by omega,by have:=(lG.1 hk).1;omega,by rw[r7,hk]⟩
theorem ix_put{α:Type}{l:List α}{i j:Int}{x:α}(h0:0≤i)(h1:i<l.length)(hj:0≤j):ix (l.set i.toNat x) j=if j=i then some x else ix l j:=by
 simp only[ix,hj,if_true,List.getElem?_set]
 by_cases h:j=i
 ·subst h;rw[if_pos rfl,if_pos rfl,if_pos (by omega)]
 ·rw[if_neg h,if_neg (by omega)]
theorem C5{O:Type}{body:Int→Unit→Option (Unit⊕O)}{n:Int}(g:Int→Option O)(hn:0≤n)
  (hb:∀j,0≤j→j<n→(∀i,0≤i→i<j→g i=none)→body j ()=some (match g j with|none=>.inl ()|some o=>.inr o)):
  (rngX 0 n body ()=some (.inl ())∧∀j,0≤j→j<n→g j=none)∨∃j o,0≤j∧j<n∧g j=some o∧(∀i,0≤i→i<j→g i=none)∧rngX 0 n body ()=some (.inr o):=by
 rcases aa5 (body:=body) (n:=n) (fun j _=>∀i,0≤i→i<j→g i=none) (fun o=>∃j,0≤j∧j<n∧g j=some o∧∀i,0≤i→i<j→g i=none) (s:=()) hn (fun i h1 h2=>by omega) (fun j s h0 h1 hP=>by
  have:=hb j h0 h1 hP
  cases hg:g j with
  |none=>rw[hg] at this;exact .inl ⟨(),this,fun i h2 h3=>by
    rcases Int.lt_or_eq_of_le (Int.le_of_lt_add_one h3) with h|h
    ·exact hP i h2 h
    ·rw[h,hg]⟩
  |some o=>rw[hg] at this;exact .inr ⟨o,this,j,h0,h1,hg,hP⟩) with⟨s',h1,h2⟩|⟨o,h1,j,h2,h3,h4,h5⟩
 ·exact .inl ⟨h1,h2⟩
 ·exact .inr ⟨j,o,h2,h3,h4,h5,h1⟩
theorem rng_list{α O:Type}{l:List α}{body:Int→Unit→Option (Unit⊕O)}(q:α→Prop)(b:O)
  (hb:∀j a,ix l j=some a→(q a∧body j ()=some (.inl ()))∨(¬ q a∧body j ()=some (.inr b))):
  rngX 0 (l.length:Int) body ()=some (if dec (∀a ∈ l,q a)=true then .inl () else .inr b):=by
 rcases C5 (body:=body) (n:=(l.length:Int)) (fun j=>match ix l j with|some a=>if dec (q a)=true then none else some b|none=>none) (by omega) (fun j h0 h1 _=>by
  obtain⟨a,h2,_⟩:=j8 h0 h1
  rw[h2]
  rcases hb j a h2 with⟨h3,h4⟩|⟨h3,h4⟩
  ·rw[h4];simp[h3]
  ·rw[h4];simp[h3]) with⟨h1,h2⟩|⟨j,o,h0,h1,h2,_,h4⟩
 ·rw[h1,if_pos]
  rw[o9]
  intro a ha
  obtain⟨i,g1,g2,g3⟩:=w8 ha
  have:=h2 i g1 g2
  rw[g3] at this
  simpa using this
 ·rw[h4]
  obtain⟨a,g1,_⟩:=j8 h0 h1
  rw[g1] at h2
  simp only[o9] at h2
  split at h2
  ·cases h2
  ·rename_i hq
   cases h2
   rw[if_neg]
   rw[o9]
   exact fun h=>hq (p8 (h a (r8 g1)))
abbrev Inc(l:Li):Prop:=l.Pairwise (· < ·)
theorem inc_of_adj:∀{l:Li},(∀(k:Nat) a b,l[k]? =some a→l[k+1]? =some b→a<b)→Inc l
 |[],_=>.nil
 |[_],_=>by simp
 |a::b::l,h=>by
  have ih:Inc (b::l):=inc_of_adj fun k x y h1 h2=>h (k+1) x y (by simpa using h1) (by simpa using h2)
  have hab:a<b:=h 0 a b rfl rfl
  refine List.pairwise_cons.2 ⟨fun c hc=> ?_,ih⟩
  rcases List.mem_cons.1 hc with rfl|hc
  ·exact hab
  ·exact Int.lt_trans hab ((List.pairwise_cons.1 ih).1 c hc)
theorem Inc.get{l:Li}(h:Inc l){i j:Nat}{a b:Int}(hi:l[i]? =some a)(hj:l[j]? =some b)(hij:i<j):a<b:=by
 obtain⟨h1,rfl⟩:=lG.1 hi
 obtain⟨h2,rfl⟩:=lG.1 hj
 exact List.pairwise_iff_getElem.1 h i j h1 h2 hij
theorem Inc.ext:∀{l m:Li},Inc l→Inc m→(∀x,x ∈ l↔x ∈ m)→l=m
 |[],[],_,_,_=>rfl
 |[],b::m,_,_,h=>absurd ((h b).2 (by simp)) (by simp)
 |a::l,[],_,_,h=>absurd ((h a).1 (by simp)) (by simp)
 |a::l,b::m,hl,hm,h=>by
  obtain⟨l1,l2⟩:=List.pairwise_cons.1 hl
  obtain⟨m1,m2⟩:=List.pairwise_cons.1 hm
  have hab:a=b:=by
   rcases List.mem_cons.1 ((h a).1 (by simp)) with e|e
   ·exact e
   ·rcases List.mem_cons.1 ((h b).2 (by simp)) with e'|e'
    ·exact e'.symm
    ·have:=l1 b e';have:=m1 a e;omega
  subst hab
  rw[Inc.ext l2 m2 fun x=>⟨fun hx=> ?_,fun hx=> ?_⟩]
  ·rcases List.mem_cons.1 ((h x).1 (by simp[hx])) with e|e
   ·have:=l1 x hx;omega
   ·exact e
  ·rcases List.mem_cons.1 ((h x).2 (by simp[hx])) with e|e
   ·have:=m1 x hx;omega
   ·exact e
theorem Inc.filter{l:Li}(h:Inc l)(p:Int→Bool):Inc (l.filter p):=List.Pairwise.filter p h
def nums(lo:Int):Nat→Li
 |0=>[]
 |k+1=>lo::nums (lo+1) k
theorem an1{x:Int}:∀{k:Nat} {lo:Int},x ∈ nums lo k↔lo≤x∧x<lo+k
 |0,lo=>by simp[nums]
 |k+1,lo=>by
  rw[nums,List.mem_cons,an1 (k:=k)]
  omega
theorem inc_nums:∀(k:Nat) (lo:Int),Inc (nums lo k)
 |0,_=>.nil
 |k+1,lo=>List.pairwise_cons.2 ⟨fun x hx=>by have:=an1.1 hx;omega,inc_nums k (lo+1)⟩
theorem len_nums:∀(k:Nat) (lo:Int),(nums lo k).length=k
 |0,_=>rfl
 |k+1,lo=>by simp[nums,len_nums k]
noncomputable def setOf(p:Int→Prop)(n:Int):Li:=(nums 0 n.toNat).filter fun x=>dec (p x)
theorem mem_setOf{p:Int→Prop}{n x:Int}:x ∈ setOf p n↔0≤x∧x<n∧p x:=by
 rw[setOf,List.mem_filter,an1,o9]
 constructor
 ·rintro ⟨⟨h1,h2⟩,h3⟩;exact⟨h1,by omega,h3⟩
 ·rintro ⟨h1,h2,h3⟩;exact⟨⟨h1,by omega⟩,h3⟩
theorem inc_setOf(p:Int→Prop)(n:Int):Inc (setOf p n):=(inc_nums _ _).filter _
theorem setOf_congr{p q:Int→Prop}{n:Int}(h:∀x,0≤x→x<n→(p x↔q x)):setOf p n=setOf q n:=by
 refine List.filter_congr fun x hx=>O1 ?_
 have:=an1.1 hx
 exact h x (by omega) (by omega)
def SetN(l:Li)(n:Int):Prop:=Inc l∧∀x ∈ l,0≤x∧x<n
theorem setN_setOf(p:Int→Prop)(n:Int):SetN (setOf p n) n:=⟨inc_setOf p n,fun x hx=>by have:=mem_setOf.1 hx;exact⟨this.1,this.2.1⟩⟩
theorem SetN.eq{l:Li}{n:Int}(h:SetN l n):l=setOf (· ∈ l) n:=
 h.1.ext (inc_setOf _ _) fun x=>⟨fun hx=>mem_setOf.2 ⟨(h.2 x hx).1,(h.2 x hx).2,hx⟩,fun hx=>(mem_setOf.1 hx).2.2⟩
theorem SetN.eq_of{l:Li}{n:Int}(h:SetN l n){p:Int→Prop}(hp:∀x,0≤x→x<n→(x ∈ l↔p x)):l=setOf p n:=
 h.eq.trans (setOf_congr hp)
theorem SetN.len{l:Li}{n:Int}(h:SetN l n):l.length≤n.toNat:=by
 rw[h.eq,setOf]
 exact Nat.le_trans (List.length_filter_le _ _) (Nat.le_of_eq (len_nums _ _))
theorem forR_filter{α:Type}{l:List α}{b:Nat}{body:Int→List α→Option (List α)}(q:α→Prop)
  (hb:∀j a c,ix l j=some a→(q a→body j c=app b c [a])∧(¬ q a→body j c=some c)) (c0:List α) (hl:(c0.length+l.length) * b≤140737488355328):
  forR 0 (l.length:Int) body c0=some (c0++l.filter fun a=>dec (q a)):=by
 obtain⟨s',h1,h2⟩:=G2 (body:=body) (n:=(l.length:Int)) (s:=c0) (fun j c=>c=c0++(l.take j.toNat).filter fun a=>dec (q a)) (by omega) (by simp) (fun j c h0 h1 hP=>by
  obtain⟨a,g1,g2⟩:=j8 h0 h1
  have e:(j+1).toNat=j.toNat+1:=by omega
  have ht:l.take (j+1).toNat=l.take j.toNat++[a]:=by rw[e,List.take_add_one,g2];rfl
  by_cases hq:q a
  ·have happ:app b c [a]=some (c++[a]):=by
    rw[app,if_pos]
    have h3:((l.take j.toNat).filter fun a=>dec (q a)).length≤(l.take j.toNat).length:=List.length_filter_le _ _
    rw[List.length_take] at h3
    have h5:c.length+1≤c0.length+l.length:=by rw[hP,List.length_append];omega
    refine Nat.le_trans (Nat.mul_le_mul_right b ?_) hl
    simpa using h5
   refine⟨c++[a],by rw[(hb j a c g1).1 hq,happ],?_⟩
   rw[ht,List.filter_append,hP]
   simp[hq]
  ·refine⟨c,(hb j a c g1).2 hq,?_⟩
   rw[ht,List.filter_append,hP]
   simp[hq])
 rw[h1,h2]
 simp
end Ab
end
section
namespace Ab
open Go
theorem has_eq(l:Li)(n:Int):am5 l n=some (dec (n ∈ l)):=by
 unfold am5
 rw[rng_list (l:=l) (fun a=>a ≠ n) true (fun j a h=>by
  unfold ref1_Has_l1
  rw[h]
  by_cases e:a=n<;>simp[e])]
 by_cases h:n ∈ l
 ·rw[if_neg (by simp only[o9];exact fun g=>g n h rfl)]
  simp[h]
 ·rw[if_pos (by simp only[o9];exact fun a ha e=>h (e ▸ ha))]
  simp[h]
theorem subset_eq(part l:Li):aj0 part l=some (dec (∀x ∈ part,x ∈ l)):=by
 unfold aj0
 rw[rng_list (l:=part) (fun a=>a ∈ l) false (fun j a h=>by
  unfold ak0
  rw[h]
  by_cases e:a ∈ l<;>simp[e,has_eq])]
 by_cases h:∀x ∈ part,x ∈ l
 ·rw[if_pos (p8 h),p8 h];rfl
 ·rw[if_neg (by rw[u3 h];simp),u3 h];rfl
theorem disjoint_eq(a b:Li):ac2 a b=some (dec (∀x ∈ a,x ∉ b)):=by
 unfold ac2
 rw[rng_list (l:=a) (fun x=>x ∉ b) false (fun j x h=>by
  unfold ag9
  rw[h]
  by_cases e:x ∈ b<;>simp[e,has_eq])]
 by_cases h:∀x ∈ a,x ∉ b
 ·rw[if_pos (p8 h),p8 h];rfl
 ·rw[if_neg (by rw[u3 h];simp),u3 h];rfl
theorem in_eq(n lo hi:Int):N3 n lo hi=some (dec (lo≤n∧n≤hi)):=by
 unfold N3;rw[X7,X7,dec_and]
theorem at_eq(c i:Int):P5 c i=some ⟨c,i⟩:=rfl
def stepOk(l:Li)(n j:Int):Prop:=∀a,ix l j=some a→(0≤a∧a<n)∧∀b,0<j→ix l (j - 1)=some b→b<a
theorem ad8{l:Li}{n:Int}:(∀j:Int,0≤j→j<l.length→stepOk l n j)↔SetN l n:=by
 constructor
 ·intro h
  refine⟨inc_of_adj fun k a b h1 h2=> ?_,fun x hx=> ?_⟩
  ·have hk:=(lG.1 h2).1
   have:=(h ((k+1:Nat):Int) (by omega) (by omega) b (by rw[r7];exact h2)).2 a (by omega)
   rw[show((k+1:Nat):Int) - 1=(k:Nat) by omega] at this
   exact this (by rw[r7];exact h1)
  ·obtain⟨i,h1,h2,h3⟩:=w8 hx
   exact(h i h1 h2 x h3).1
 ·intro h j h0 h1 a ha
  refine⟨h.2 a (r8 ha),fun b hj hb=> ?_⟩
  obtain⟨_,_,ga⟩:=v8 ha
  obtain⟨_,_,gb⟩:=v8 hb
  exact h.1.get gb ga (by omega)
theorem an0(l:Li)(n:Int):B5 l n=some (dec (SetN l n)):=by
 unfold B5
 rcases C5 (body:=Q9 l n) (n:=(l.length:Int)) (fun j=>if dec (stepOk l n j)=true then none else some false) (by omega) (fun j h0 h1 _=>by
  obtain⟨a,ha,_⟩:=j8 (l:=l) h0 h1
  unfold Q9
  rw[ha]
  simp only[oB]
  by_cases c1:a<0
  ·rw[if_pos c1,if_neg]
   ·rfl
   ·rw[o9];intro h;have:=(h a ha).1;omega
  ·rw[if_neg c1]
   by_cases c2:n≤a
   ·rw[if_pos c2,if_neg]
    ·rfl
    ·rw[o9];intro h;have:=(h a ha).1;omega
   ·rw[if_neg c2]
    by_cases c3:0<j
    ·obtain⟨b,hb,_⟩:=j8 (l:=l) (i:=j - 1) (by omega) (by omega)
     rw[if_pos c3,hb]
     simp only[oB]
     by_cases c4:a≤b
     ·rw[if_pos (by simpa using c4),if_neg]
      rw[o9];intro h;have:=(h a ha).2 b c3 hb;omega
     ·rw[if_neg (by simpa using c4),if_pos]
      rw[o9];intro x hx
      rw[ha] at hx;cases hx
      exact⟨by omega,fun y _ hy=>by rw[hb] at hy;cases hy;omega⟩
    ·rw[if_neg c3]
     simp only[oB]
     rw[if_neg (by simp),if_pos]
     rw[o9];intro x hx
     rw[ha] at hx;cases hx
     exact⟨by omega,fun y hy=>absurd hy c3⟩) with⟨h1,h2⟩|⟨j,o,h0,h1,h2,_,h4⟩
 ·rw[h1,p8]
  ·rfl
  ·exact ad8.1 fun j g1 g2=>by have:=h2 j g1 g2;simpa using this
 ·rw[h4]
  split at h2
  ·cases h2
  ·rename_i hs
   cases h2
   rw[u3]
   ·rfl
   ·exact fun h=>hs (p8 (ad8.2 h j h0 h1))
theorem ai3(l:Li){n:Int}(hn: -9223372036854775808<n)(hn':n≤9223372036854775807):M5 l n=some (dec (SetN l n)):=by
 unfold M5
 rcases C5 (body:=ac8 l n) (n:=(l.length:Int)) (fun j=>if dec (stepOk l n j)=true then none else some false) (by omega) (fun j h0 h1 _=>by
  obtain⟨a,ha,_⟩:=j8 (l:=l) h0 h1
  unfold ac8
  rw[ha]
  simp only[oB,in_eq,u5 (n:=n - 1) (by omega) (by omega),y6]
  by_cases c1:0≤a∧a≤n - 1
  ·rw[if_neg (by simpa using c1)]
   by_cases c3:0<j
   ·obtain⟨b,hb,_⟩:=j8 (l:=l) (i:=j - 1) (by omega) (by omega)
    rw[if_pos c3,hb]
    simp only[oB]
    by_cases c4:a≤b
    ·rw[if_pos (by simpa using c4),if_neg]
     rw[o9];intro h;have:=(h a ha).2 b c3 hb;omega
    ·rw[if_neg (by simpa using c4),if_pos]
     rw[o9];intro x hx
     rw[ha] at hx;cases hx
     exact⟨by omega,fun y _ hy=>by rw[hb] at hy;cases hy;omega⟩
   ·rw[if_neg c3]
    simp only[oB]
    rw[if_neg (by simp),if_pos]
    rw[o9];intro x hx
    rw[ha] at hx;cases hx
    exact⟨by omega,fun y hy=>absurd hy c3⟩
  ·rw[if_pos (by simpa using c1),if_neg]
   ·rfl
   ·rw[o9];intro h;have:=(h a ha).1;omega) with⟨h1,h2⟩|⟨j,o,h0,h1,h2,_,h4⟩
 ·rw[h1,p8]
  ·rfl
  ·exact ad8.1 fun j g1 g2=>by have:=h2 j g1 g2;simpa using this
 ·rw[h4]
  split at h2
  ·cases h2
  ·rename_i hs
   cases h2
   rw[u3]
   ·rfl
   ·exact fun h=>hs (p8 (ad8.2 h j h0 h1))
theorem containsLoop{s:Li}(hs:Inc s)(hl:s.length≤1000000)(x:Int){i:Int}(h0:0≤i)(h1:i≤s.length)(hlt:∀k a,0≤k→k<i→ix s k=some a→a<x):
  ∃i',Loop (F1 s x) i=some i'∧i≤i'∧i'≤s.length∧(∀k a,0≤k→k<i'→ix s k=some a→a<x)∧(∀a,ix s i'=some a→x≤a):=by
 obtain⟨o,h2,h3⟩:=M6 (body:=F1 s x) (fun j=>i≤j∧j≤s.length∧∀k a,0≤k→k<j→ix s k=some a→a<x) (fun i'=>i≤i'∧i'≤s.length∧(∀k a,0≤k→k<i'→ix s k=some a→a<x)∧(∀a,ix s i'=some a→x≤a)) (fun j=>(s.length - j).toNat) (s:=i) ⟨Int.le_refl _,h1,hlt⟩ (fun j ⟨g1,g2,g3⟩=>by
  unfold F1
  by_cases c:j<s.length
  ·obtain⟨a,ha,_⟩:=j8 (l:=s) (i:=j) (by omega) c
   rw[if_pos c,ha]
   simp only[oB,decide_eq_true_eq]
   by_cases c2:a<x
   ·rw[if_pos c2]
    rw[u5 (by omega) (by omega)]
    refine .inl ⟨j+1,rfl,⟨by omega,by omega,fun k b k0 k1 hb=> ?_⟩,by omega⟩
    by_cases e:k=j
    ·subst e;rw[ha] at hb;cases hb;exact c2
    ·exact g3 k b k0 (by omega) hb
   ·rw[if_neg c2]
    exact .inr ⟨j,rfl,g1,g2,g3,fun b hb=>by rw[ha] at hb;cases hb;omega⟩
  ·rw[if_neg c]
   exact .inr ⟨j,rfl,g1,g2,g3,fun b hb=>by have:=(v8 hb).2.1;omega⟩)
 exact⟨o,h2,h3⟩
theorem P4{s part:Li}(hs:Inc s)(hp:Inc part)(hl:s.length≤1000000):j7 s part=some (dec (∀x ∈ part,x ∈ s)):=by
 unfold j7
 rcases aa5 (body:=L4 s part) (n:=(part.length:Int)) (fun j i=>(0≤i∧i≤s.length∧∀k a,0≤k→k<i→ix s k=some a→∀m x,j≤m→ix part m=some x→a<x)∧∀m x,0≤m→m<j→ix part m=some x→x ∈ s) (fun o=>o=false∧¬ ∀x ∈ part,x ∈ s) (s:=0) (by omega) ⟨⟨by omega,by omega,fun k a h1 h2=>by omega⟩,fun m x h1 h2=>by omega⟩ (fun j i h0 h1 ⟨⟨g1,g2,g3⟩,g4⟩=>by
  obtain⟨x,hx,gx⟩:=j8 (l:=part) h0 h1
  unfold L4
  obtain⟨i',e1,e2,e3,e4,e5⟩:=containsLoop hs hl x g1 g2 (fun k a k0 k1 ha=>g3 k a k0 k1 ha j x (Int.le_refl _) hx)
  rw[hx]
  simp only[oB,e1]
  have nin:(∀a,ix s i'=some a→x<a)→x ∉ s:=fun hgt hin=>by
   obtain⟨k,k0,k1,hk⟩:=w8 hin
   rcases Int.lt_trichotomy k i' with c|c|c
   ·have:=e4 k x k0 c hk;omega
   ·subst c;have:=hgt x hk;omega
   ·obtain⟨b,hb,gb⟩:=j8 (l:=s) (i:=i') (by omega) (by omega)
    obtain⟨_,_,gk⟩:=v8 hk
    have:=hs.get gb gk (by omega)
    have:=e5 b hb
    omega
  by_cases c:i'=s.length
  ·rw[if_pos c]
   refine .inr ⟨false,rfl,rfl,fun h=> ?_⟩
   exact nin (fun a ha=>by have:=(v8 ha).2.1;omega) (h x (r8 hx))
  ·rw[if_neg c]
   obtain⟨b,hb,gb⟩:=j8 (l:=s) (i:=i') (by omega) (by omega)
   rw[hb]
   simp only[oB]
   have hxb:=e5 b hb
   by_cases c2:b=x
   ·subst c2
    rw[if_neg (by simp)]
    refine .inl ⟨i',rfl,⟨by omega,e3,fun k a k0 k1 ha m y hm hy=> ?_⟩,fun m y m0 m1 hy=> ?_⟩
    ·obtain⟨_,_,gy⟩:=v8 hy
     have:=hp.get gx gy (by omega)
     have:=e4 k a k0 k1 ha
     omega
    ·by_cases e:m=j
     ·subst e;rw[hx] at hy;cases hy;exact r8 hb
     ·exact g4 m y m0 (by omega) hy
   ·rw[if_pos (by simpa using c2)]
    refine .inr ⟨false,rfl,rfl,fun h=> ?_⟩
    exact nin (fun a ha=>by rw[hb] at ha;cases ha;omega) (h x (r8 hx))) with⟨s',h1,_,h2⟩|⟨o,h1,rfl,h2⟩
 ·rw[h1,p8]
  ·rfl
  ·intro x hx
   obtain⟨m,m0,m1,hm⟩:=w8 hx
   exact h2 m x m0 m1 hm
 ·rw[h1,u3 h2];rfl
end Ab
end
section
namespace Ab
open Go
theorem half_eq{i j:Int}(h0:0≤i)(h1:i≤j)(h2:j≤1000000):w64 (shrW .u64 ((IntKind.u64).wrap (w64 (i+j))) 1)=(i+j) / 2:=by
 rw[u5 (n:=i+j) (by omega) (by omega),IntKind.wrap_u64,Int.emod_eq_of_lt (by omega) (by omega)]
 have:shrW .u64 (i+j) 1=(i+j) / 2:=by
  simp only[shrW,IntKind.bits]
  rw[show min (1:Int).toNat 64=1 by rfl,Int.fdiv_eq_ediv_of_nonneg _ (by decide)]
  rfl
 rw[this]
 exact u5 (by omega) (by omega)
theorem less_eq(a b:Int):S5 a b=some (decide (a<b)):=by simp[S5,D8]
theorem bsearch_eq{xs:Li}(hs:Inc xs)(hl:xs.length≤500000)(t:Int):∃i,o7 xs t=some (i,dec (t ∈ xs))∧0≤i∧i≤xs.length∧(∀k a,0≤k→k<i→ix xs k=some a→a<t)∧(∀k a,i≤k→ix xs k=some a→t≤a):=by
 unfold o7
 obtain⟨i,h1,h2,h3,h4,h5⟩:=M6 (body:=y5 xs t) (fun p=>(0≤p.1∧p.1≤p.2∧p.2≤xs.length)∧(∀k a,0≤k→k<p.1→ix xs k=some a→a<t)∧(∀k a,p.2≤k→ix xs k=some a→t≤a))
  (fun i=>0≤i∧i≤xs.length∧(∀k a,0≤k→k<i→ix xs k=some a→a<t)∧(∀k a,i≤k→ix xs k=some a→t≤a)) (fun p=>(p.2 - p.1).toNat) (s:=(0,(xs.length:Int)))
  ⟨⟨by simp,by simp,by simp⟩,fun k a h1 h2=>by simp at h2;omega,fun k a h1 h2=>by have:=(v8 h2).2.1;simp at h1;omega⟩ (fun⟨i,j⟩ ⟨⟨g1,g2,g3⟩,g4,g5⟩=>by
  dsimp only at g1 g2 g3 g4 g5 ⊢
  unfold y5
  dsimp only
  by_cases c:i<j
  ·rw[if_pos c,half_eq g1 g2 (by omega)]
   obtain⟨a,ha,ga⟩:=j8 (l:=xs) (i:=(i+j) / 2) (by omega) (by omega)
   rw[ha]
   simp only[oB,less_eq,decide_eq_true_eq]
   by_cases c2:a<t
   ·rw[if_pos c2,u5 (by omega) (by omega)]
    refine .inl ⟨_,rfl,⟨⟨by dsimp only;omega,by dsimp only;omega,g3⟩,fun k b k0 k1 hb=> ?_,g5⟩,by dsimp only;omega⟩
    dsimp only at k1
    obtain⟨_,_,gb⟩:=v8 hb
    by_cases e:k=(i+j) / 2
    ·subst e;rw[ha] at hb;cases hb;exact c2
    ·have:=hs.get gb ga (by omega);omega
   ·rw[if_neg c2]
    refine .inl ⟨_,rfl,⟨⟨g1,by dsimp only;omega,by dsimp only;omega⟩,g4,fun k b k0 hb=> ?_⟩,by dsimp only;omega⟩
    dsimp only at k0
    obtain⟨_,_,gb⟩:=v8 hb
    by_cases e:k=(i+j) / 2
    ·subst e;rw[ha] at hb;cases hb;omega
    ·have:=hs.get ga gb (by omega);omega
  ·rw[if_neg c]
   have:i=j:=by omega
   subst this
   exact .inr ⟨i,rfl,g1,g3,g4,g5⟩)
 rw[h1]
 simp only[oB]
 refine⟨i,?_,h2,h3,h4,h5⟩
 have nin:(∀a,ix xs i=some a→a ≠ t)→t ∉ xs:=fun hne hin=>by
  obtain⟨k,k0,k1,hk⟩:=w8 hin
  rcases Int.lt_trichotomy k i with c|c|c
  ·have:=h4 k t k0 c hk;omega
  ·subst c;exact hne t hk rfl
  ·obtain⟨b,hb,gb⟩:=j8 (l:=xs) (i:=i) (by omega) (by omega)
   obtain⟨_,_,gk⟩:=v8 hk
   have:=hs.get gb gk (by omega)
   have:=h5 i b (Int.le_refl _) hb
   omega
 by_cases c:i<xs.length
 ·obtain⟨a,ha,ga⟩:=j8 (l:=xs) (i:=i) (by omega) c
  rw[if_pos c,ha]
  simp only[oB]
  by_cases c2:a=t
  ·subst c2
   rw[if_pos rfl,p8 (r8 ha)]
   rfl
  ·rw[if_neg c2]
   simp only[I2,decide_true,Bool.not_true,Bool.false_eq_true,if_false,oB]
   rw[u3 (nin fun b hb=>by rw[ha] at hb;cases hb;exact c2)]
 ·rw[if_neg c]
  simp only[oB]
  rw[u3 (nin fun b hb=>by have:=(v8 hb).2.1;omega)]
theorem bsearch2{xs:Li}(hs:Inc xs)(hl:xs.length≤500000)(t:Int):∃i,o7 xs t=some (i,dec (t ∈ xs)):=
 let ⟨i,h,_⟩:=bsearch_eq hs hl t
 ⟨i,h⟩
theorem containsFunc_eq{l:Li}{f:Int→Option Bool}(p:Int→Prop)(hf:∀x ∈ l,f x=some (dec (p x))):o8 l f=some (dec (∃x ∈ l,p x)):=by
 unfold o8 D6
 rcases C5 (body:=A7 l f) (n:=(l.length:Int)) (fun j=>if dec (∀a,ix l j=some a→¬ p a)=true then none else some j) (by omega) (fun j h0 h1 _=>by
  obtain⟨a,ha,_⟩:=j8 (l:=l) h0 h1
  unfold A7
  rw[ha]
  simp only[oB,hf a (r8 ha)]
  by_cases c:p a
  ·rw[if_pos (p8 c),if_neg (by rw[o9];exact fun h=>h a rfl c)]
  ·rw[if_neg (by rw[u3 c];simp),if_pos (p8 fun b hb=>by cases hb;exact c)]) with⟨h1,h2⟩|⟨j,o,h0,h1,h2,_,h4⟩
 ·rw[h1]
  simp only[oB]
  rw[u3]
  ·rfl
  ·rintro ⟨x,hx,hp⟩
   obtain⟨i,g1,g2,g3⟩:=w8 hx
   have:=h2 i g1 g2
   split at this
   ·rename_i h;exact o9.1 h x g3 hp
   ·cases this
 ·rw[h4]
  split at h2
  ·cases h2
  ·rename_i h
   cases h2
   simp only[oB]
   rw[p8]
   ·simp[h0]
   ·simp only[o9] at h
    obtain⟨a,g1,_⟩:=j8 (l:=l) h0 h1
    refine⟨a,r8 g1,?_⟩
    rcases Classical.em (p a) with c|c
    ·exact c
    ·exact absurd (fun b hb=>by rw[g1] at hb;cases hb;exact c) h
theorem meets_eq{a b:Li}(hb:Inc b)(hl:b.length≤500000):R9 a b=some (dec (∃x ∈ a,x ∈ b)):=by
 unfold R9
 rw[containsFunc_eq (fun x=>x ∈ b) (fun x _=>by
  unfold S8
  obtain⟨i,h⟩:=bsearch2 hb hl x
  rw[h];rfl)]
 rfl
/-! ### Sorted, and equal neighbours made one -/
theorem compact_spec{l:Li}(hs:l.Pairwise (· ≤ ·)):Inc (U9 l)∧∀x,x ∈ U9 l↔x ∈ l:=by
 have key:∀m,m≤l.length→Inc (Go.Lib.compactUpTo l.toArray m)∧(∀x,x ∈ Go.Lib.compactUpTo l.toArray m↔x ∈ l.take m):=by
  intro m
  induction m with
  |zero=>intro _;simp[Go.Lib.compactUpTo]
  |succ m ih=>
   intro hm
   obtain⟨h1,h2⟩:=ih (by omega)
   have hlt:m<l.length:=by omega
   have hd:l.toArray[m]! =l[m]:=by simp[hlt]
   have ht:l.take (m+1)=l.take m++[l[m]]:=by rw[List.take_add_one];simp[hlt]
   rw[Go.Lib.compactUpTo_succ,ht]
   by_cases hk:Go.Lib.keeps l.toArray m=true
   ·rw[if_pos hk,hd]
    refine⟨List.pairwise_append.2 ⟨h1,by simp,fun a ha b hb=> ?_⟩,fun x=>by rw[List.mem_append,List.mem_append,h2]⟩
    simp only[List.mem_singleton] at hb
    subst hb
    have ha':=(h2 a).1 ha
    obtain⟨i,hi,rfl⟩:=List.mem_iff_getElem.1 ha'
    rw[List.length_take] at hi
    rw[List.getElem_take]
    simp only[Go.Lib.keeps,decide_eq_true_eq] at hk
    rcases hk with hk|hk
    ·omega
    ·have hm1:l.toArray[m - 1]! =l[m - 1]:=by simp[show m - 1<l.length by omega]
     rw[hd,hm1] at hk
     have e1:l[m - 1]≤l[m]:=List.pairwise_iff_getElem.1 hs (m - 1) m (by omega) hlt (by omega)
     have e2:l[i]≤l[m - 1]:=by
      rcases Nat.lt_or_ge i (m - 1) with c|c
      ·exact List.pairwise_iff_getElem.1 hs i (m - 1) (by omega) (by omega) c
      ·have:i=m - 1:=by omega
       subst this;exact Int.le_refl _
     omega
   ·rw[if_neg hk,List.append_nil]
    refine⟨h1,fun x=> ?_⟩
    rw[h2,List.mem_append]
    refine⟨.inl,fun h=> ?_⟩
    rcases h with h|h
    ·exact h
    ·simp only[List.mem_singleton] at h
     subst h
     have hm0:m ≠ 0:=fun e=>hk (by simp[Go.Lib.keeps,e])
     have hm1:l.toArray[m - 1]! =l[m - 1]:=by simp[show m - 1<l.length by omega]
     have he:l[m]=l[m - 1]:=by
      simp only[Go.Lib.keeps,decide_eq_true_eq,not_or] at hk
      have h3:l.toArray[m]! =l.toArray[m - 1]! :=Classical.not_not.1 (fun h=>hk.2 h)
      rw[hd,hm1] at h3;exact h3
     rw[he,List.mem_take_iff_getElem]
     exact⟨m - 1,by omega,rfl⟩
 obtain⟨h1,h2⟩:=key l.length (Nat.le_refl _)
 refine⟨?_,fun x=> ?_⟩
 ·simpa[U9,Go.Lib.compact] using h1
 ·have:=h2 x
  rw[List.take_length] at this
  simpa[U9,Go.Lib.compact] using this
theorem srt_spec(l:Li):(srt l).Pairwise (· ≤ ·)∧∀x,x ∈ srt l↔x ∈ l:=by
 refine⟨?_,fun x=>by simp[srt]⟩
 have:=List.pairwise_mergeSort (le:=fun x y:Int=>decide (x≤y)) (fun a b c h1 h2=>by simp at h1 h2 ⊢;omega) (fun a b=>by simp;omega) l
 refine this.imp fun h=>by simpa using h
theorem sortL_eq{l:Li}(h:l.length<4611686018427387904):sortL l=some (srt l):=by rw[sortL_srt,if_pos h]
theorem update_inc{s add del:Li}(hd:Inc del)(hl:del.length≤500000)(h1:s.length≤500000)(h2:add.length≤500000):
  ∃r,G3 s add del=some r∧Inc r∧∀x,x ∈ r↔(x ∈ s∧x ∉ del)∨x ∈ add:=by
 unfold G3
 rw[forR_filter (l:=s) (b:=8) (fun a=>a ∉ del) (fun j a c h=>by
  obtain⟨i,hi⟩:=bsearch2 hd hl a
  unfold V8
  rw[h]
  simp only[oB,hi,y6]
  refine⟨fun hq=> ?_,fun hq=> ?_⟩
  ·rw[if_pos (p8 hq)]
   cases app 8 c [a]<;>rfl
  ·rw[if_neg (by simpa using hq)];rfl) [] (by simp;omega)]
 simp only[oB,List.nil_append]
 have hle:(s.filter fun a=>dec (a ∉ del)).length≤s.length:=List.length_filter_le _ _
 rw[show app 8 (s.filter fun a=>dec (a ∉ del)) add=some ((s.filter fun a=>dec (a ∉ del))++add) by rw[app,if_pos];omega]
 simp only[oB]
 rw[sortL_eq (by rw[List.length_append];omega)]
 simp only[oB]
 obtain⟨e1,e2⟩:=srt_spec ((s.filter fun a=>dec (a ∉ del))++add)
 obtain⟨e3,e4⟩:=compact_spec e1
 refine⟨_,rfl,e3,fun x=> ?_⟩
 rw[e4,e2,List.mem_append,List.mem_filter,o9]
theorem update_eq{s add del:Li}{n:Int}(hn:n≤1000)(hd:Inc del)(hl:del.length≤500000)(hs:SetN s n)(ha:SetN add n):
  G3 s add del=some (setOf (fun x=>(x ∈ s∧x ∉ del)∨x ∈ add) n):=by
 have h1:=hs.len;have h2:=ha.len
 obtain⟨r,e1,e2,e3⟩:=update_inc (s:=s) (add:=add) hd hl (by omega) (by omega)
 rw[e1,SetN.eq_of (n:=n) ⟨e2,fun x hx=> ?_⟩ (fun x _ _=>e3 x)]
 rcases(e3 x).1 hx with h|h
 ·exact hs.2 x h.1
 ·exact ha.2 x h
end Ab
end
section
namespace Ab
open Go
def opSets(o:N8)(n:Int):Prop:=SetN o.pre n∧SetN o.add n∧SetN o.del n∧∀x ∈ o.add,x ∉ o.del
def opCost(o:N8):Prop:=0≤o.cost∧o.cost≤100
structure TaskOk(t:TTask):Prop where
 n0:0≤t.facts
 n1:t.facts≤24
 init:SetN t.init t.facts
 goal:SetN t.goal t.facts
 ops:t.operators.length≤40
 op:∀o ∈ t.operators,opSets o t.facts∧opCost o
theorem fault_no{f:i7}(h:f.code ≠ 0):(!((decide (f.code=0)) && (decide (f.index=0))))=true:=by simp[h]
/-! ### What operators and plans do -/
def noOp:N8:=⟨[],[],[],0⟩
def opAt(t:TTask)(op:Int):N8:=(t.operators[op.toNat]?).getD noOp
theorem ix_op{t:TTask}{op:Int}(h0:0≤op)(h1:op<t.operators.length):ix t.operators op=some (opAt t op):=by
 obtain⟨a,h2,h3⟩:=j8 h0 h1
 rw[h2,opAt,h3];rfl
theorem TaskOk.at{t:TTask}(h:TaskOk t){op:Int}(h0:0≤op)(h1:op<t.operators.length):opSets (opAt t op) t.facts∧opCost (opAt t op):=h.op _ (r8 (ix_op h0 h1))
def can(t:TTask)(s:Li)(op:Int):Prop:=∀x ∈ (opAt t op).pre,x ∈ s
theorem clone_eq{s:Li}(h:s.length≤1000000):q7 s=some s:=by
 rw[q7,app,if_pos (by simp;omega)];rfl
end Ab
end
section
namespace Ab
open Go
end Ab
end
section
namespace Ab
open Go
def llt:Li→Li→Prop
 |[],[]=>False
 |[],_::_=>True
 |_::_,[]=>False
 |a::l,b::m=>a<b∨a=b∧llt l m
theorem E9:∀l:Li,¬ llt l l
 |[]=>id
 |a::l=>fun h=>by
  rcases h with h|⟨_,h⟩
  ·omega
  ·exact E9 l h
theorem H6:∀{a b c:Li},llt a b→llt b c→llt a c
 |[],[],_,h,_=>h.elim
 |[],_::_,[],_,h=>h.elim
 |[],_::_,_::_,_,_=>trivial
 |_::_,[],_,h,_=>h.elim
 |_::_,_::_,[],_,h=>h.elim
 |x::a,y::b,z::c,h,g=>by
  rcases h with h|⟨rfl,h⟩<;>rcases g with g|⟨rfl,g⟩
  ·exact .inl (by omega)
  ·exact .inl h
  ·exact .inl g
  ·exact .inr ⟨rfl,H6 h g⟩
theorem N6:∀a b:Li,llt a b∨a=b∨llt b a
 |[],[]=>.inr (.inl rfl)
 |[],_::_=>.inl trivial
 |_::_,[]=>.inr (.inr trivial)
 |x::a,y::b=>by
  rcases Int.lt_trichotomy x y with h|rfl|h
  ·exact .inl (.inl h)
  ·rcases N6 a b with h|rfl|h
   ·exact .inl (.inr ⟨rfl,h⟩)
   ·exact .inr (.inl rfl)
   ·exact .inr (.inr (.inr ⟨rfl,h⟩))
  ·exact .inr (.inr (.inl h))
theorem ai2{a b:Li}(h:llt a b)(g:llt b a):False:=E9 a (H6 h g)
noncomputable def cmpL(a b:Li):Int:=if dec (llt a b)=true then -1 else if dec (a=b)=true then 0 else 1
theorem F9{a b:Li}:cmpL a b<0↔llt a b:=by
 unfold cmpL
 by_cases h:llt a b
 ·rw[ifP h];simp[h]
 ·rw[ifN h]
  split<;>simp[h]
theorem cmpL_eq{a b:Li}:cmpL a b=0↔a=b:=by
 unfold cmpL
 by_cases h:llt a b
 ·rw[ifP h]
  constructor
  ·intro e;omega
  ·rintro rfl;exact absurd h (E9 _)
 ·rw[ifN h]
  by_cases g:a=b
  ·rw[ifP g];simp[g]
  ·rw[ifN g];simp[g]
theorem cmpL_ge{a b:Li}:0≤cmpL a b↔¬ llt a b:=by rw[← F9];omega
theorem cmpInt_eq(x y:Int):L6 x y=some (if x<y then -1 else if y<x then 1 else 0):=by
 unfold L6 D8
 simp only[decide_true,Bool.not_true,oB,Bool.false_eq_true,if_false]
 split
 ·rfl
 ·split<;>rfl
theorem am6:∀{a b:Li} (k:Nat),k≤a.length→k≤b.length→a.take k=b.take k→(llt a b↔llt (a.drop k) (b.drop k))
 |_,_,0,_,_,_=>by simp
 |[],_,k+1,h,_,_=>by simp at h
 |_::_,[],k+1,_,h,_=>by simp at h
 |x::a,y::b,k+1,h1,h2,h3=>by
  simp only[List.take_succ_cons,List.cons.injEq] at h3
  obtain⟨rfl,h3⟩:=h3
  simp only[List.drop_succ_cons]
  rw[← am6 k (by simpa using h1) (by simpa using h2) h3]
  simp[llt]
theorem ae1(a b:Li):slices_Compare_int_int a b=some (cmpL a b):=by
 unfold slices_Compare_int_int
 rcases aa5 (body:=C8 a b) (n:=(a.length:Int)) (s:=()) (fun j _=>j≤b.length∧a.take j.toNat=b.take j.toNat) (fun o=>o=cmpL a b) (by omega) ⟨by omega,by simp⟩ (fun j _ j0 j1 ⟨k1,k2⟩=>by
  obtain⟨x,hx,gx⟩:=j8 (l:=a) j0 j1
  have hxl:=(lG.1 gx).2
  unfold C8
  rw[hx]
  simp only[oB]
  have hd:=am6 (a:=a) (b:=b) j.toNat (by omega) (by omega) k2
  have da:a.drop j.toNat=x::a.drop (j.toNat+1):=by rw[← hxl];exact List.drop_eq_getElem_cons (by omega)
  by_cases c:(b.length:Int)≤j
  ·rw[if_pos c]
   refine .inr ⟨_,rfl,?_⟩
   have db:b.drop j.toNat=[]:=List.drop_of_length_le (by omega)
   rw[da,db] at hd
   unfold cmpL
   rw[ifN (fun h=>(hd.1 h).elim),ifN]
   rintro rfl;omega
  ·rw[if_neg c]
   obtain⟨y,hy,gy⟩:=j8 (l:=b) (i:=j) j0 (by omega)
   have hyl:=(lG.1 gy).2
   have db:b.drop j.toNat=y::b.drop (j.toNat+1):=by rw[← hyl];exact List.drop_eq_getElem_cons (by omega)
   rw[hy]
   simp only[oB,cmpInt_eq]
   rw[da,db] at hd
   have hne:x ≠ y→a ≠ b:=fun h e=>by subst e;rw[hx] at hy;cases hy;exact h rfl
   rcases Int.lt_trichotomy x y with h|rfl|h
   ·rw[if_pos h,if_neg (by decide)]
    refine .inr ⟨_,rfl,?_⟩
    unfold cmpL
    rw[ifP (hd.2 (.inl h))]
   ·simp only[Int.lt_irrefl,if_false,if_true]
    refine .inl ⟨(),Y,by omega,?_⟩
    rw[show(j+1).toNat=j.toNat+1 by omega,List.take_add_one,List.take_add_one,gx,gy,k2]
   ·rw[if_neg (show ¬ x<y by omega),if_pos h,if_neg (by decide)]
    refine .inr ⟨_,rfl,?_⟩
    unfold cmpL
    rw[ifN,ifN (hne (by omega))]
    intro g
    rcases hd.1 g with g|⟨g,_⟩<;>omega) with⟨_,r1,r2,r3⟩|⟨o,r1,rfl⟩
 ·rw[r1]
  simp only[oB]
  have hd:=am6 (a:=a) (b:=b) a.length (Nat.le_refl _) (by omega) (by simpa using r3)
  have da:a.drop a.length=[]:=by simp
  rw[da] at hd
  have e3:a=b.take a.length:=by simpa using r3
  by_cases c:(a.length:Int)<b.length
  ·rw[if_pos c]
   have:b.drop a.length ≠ []:=by simp;omega
   unfold cmpL
   rw[ifP]
   rw[hd]
   cases h:b.drop a.length with
   |nil=>exact absurd h this
   |cons x l=>trivial
  ·rw[if_neg c]
   have:a=b:=by rw[e3,List.take_of_length_le (by omega)]
   rw[cmpL_eq.2 this]
 ·rw[r1];rfl
theorem cmp_ok:CmpOk slices_Compare_int_int cmpL:=by
 refine⟨ae1,⟨fun x=> ?_,fun x y z h1 h2=> ?_,fun x y z h1 h2=> ?_⟩,fun a b h1 h2=> ?_⟩
 ·simp only[Go.Proofs.ltOf,decide_eq_false_iff_not,F9]
  exact E9 x
 ·simp only[Go.Proofs.ltOf,decide_eq_true_eq,F9] at h1 h2 ⊢
  exact H6 h1 h2
 ·simp only[Go.Proofs.ltOf,decide_eq_false_iff_not,F9] at h1 h2 ⊢
  intro h
  rcases N6 x y with g|rfl|g
  ·exact h1 g
  ·exact h2 h
  ·exact h2 (H6 g h)
 ·rw[F9] at h1 h2
  rcases N6 a b with g|g|g
  ·exact absurd g h1
  ·exact g
  ·exact absurd g h2
theorem lltB_iff:∀{a b:Li},lltB a b=true↔llt a b
 |[],[]=>by simp[lltB,llt]
 |[],_::_=>by simp[lltB,llt]
 |_::_,[]=>by simp[lltB,llt]
 |x::l,y::m=>by
  simp only[lltB,llt]
  by_cases h:x<y
  ·simp[h]
  ·by_cases e:x=y
   ·simp[h,e,lltB_iff]
   ·simp[h,e]
theorem W1{a b:Li}:lltB a b=false↔¬ llt a b:=by rw[← lltB_iff];simp
theorem sortLL_ms{l:LL}(h:l.length<4611686018427387904):sortLL l=some (l.mergeSort fun x y=>decide (¬ cmpL y x<0)):=by
 have tr:∀a b c:Li,lltB b a=false→lltB c b=false→lltB c a=false:=fun a b c h1 h2=>by
  rw[W1] at h1 h2 ⊢
  intro h
  rcases N6 b a with g|g|g
  ·exact h1 g
  ·subst g;exact h2 h
  ·exact h2 (H6 h g)
 rw[sortLL,if_pos h,srtB_eq (m:=l.mergeSort fun x y=>decide (¬ cmpL y x<0)) tr (fun a b h=>W1.2 fun g=>ai2 (lltB_iff.1 h) g) (fun a b h1 h2=>by
  rcases N6 a b with g|g|g
  ·exact absurd g (W1.1 h1)
  ·exact g
  ·exact absurd g (W1.1 h2)) (List.mergeSort_perm ..)]
 have:=List.pairwise_mergeSort (le:=fun x y:Li=>decide (¬ cmpL y x<0)) (fun a b c h1 h2=>by
  simp only[decide_eq_true_eq,F9] at h1 h2 ⊢
  exact W1.1 (tr a b c (W1.2 h1) (W1.2 h2))) (fun a b=>by
  simp only[Bool.or_eq_true,decide_eq_true_eq,F9]
  by_cases h:llt b a
  ·exact .inr fun g=>ai2 h g
  ·exact .inl h) l
 exact this.imp fun h=>by simpa[F9,W1] using h
theorem sortLL_fl{l l':LL}(h:sortLL l=some l'):sortFL slices_Compare_int_int l=some l':=by
 have hl:l.length<4611686018427387904:=by
  unfold sortLL at h
  split at h
  ·assumption
  ·cases h
 rw[sortFL_eq hl cmp_ok,← sortLL_ms hl,h]
end Ab
end
