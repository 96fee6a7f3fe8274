/-
  Texts that the proof stands on.
-/
import Derived.Test.YtfnfejfohioppaaGreatDoorKRwChLeast2
import Derived.Shelf.SlSortCmp.Whole1
import Derived.Laws.CopyRow
import Derived.Laws.Cover3
import Derived.WalkSmall
import Derived.Shelf.RegionOpenPlain
import Derived.Lib.Walk
import Derived.Lib.SliceRun
import Derived.Lib.JoinLaws
import Derived.Lib.AppendZerosOnto
import Derived.Lib.Overlaps
import Derived.Laws.Externs
import Derived.Laws.IdiomCopy
import Derived.Laws.NewBlocks
import Derived.Shelf.Small.Bits
import Derived.Shelf.Strconv.Itoa0
import Derived.Shelf.Sort.Plain
import Derived.Shelf.Bits.Mul64
import Derived.Shelf.Slices.Equal
import Derived.Ground.Names2Prog
import Derived.Shelf.Slices.Clone
import Derived.Shelf.Slices.SearchI
import Derived.Shelf.Slices.Cells
import Derived.Shelf.Slices.In.SortNone
import Derived.Shelf.Slices.Empties
import Derived.Shelf.Slices.Empties2
import Derived.Ground.SlsfProg
import Derived.Shelf.SlSortCmp.Insertion
import Derived.Shelf.SlSortCmp.SiftDown1
import Derived.Shelf.SlSortCmp.HeapSort1
import Derived.Shelf.SlSortCmp.Insertion1
import Derived.Shelf.SlSortCmp.Median1
import Derived.Shelf.SlSortCmp.Pivot1
import Derived.Shelf.SlSortCmp.ReverseRange1
import Derived.Shelf.SlSortCmp.PartialInsertion1
import Derived.Shelf.SlSortCmp.PartitionEqual1
import Derived.Shelf.SlSortCmp.Partition1
import Derived.Shelf.SlSortCmp.Pdq1
import Derived.Shelf.SlSortCmp.NoneTotal
import Derived.Test.YtfnfejfohioppaaGreatDoorProg
set_option linter.all false
section
namespace Ab
open Go Go.Sort
theorem putCellsG_size{α:Type}[Inhabited α]{enc:α→Vl}{off:Nat}{d:Array α}{arr:Array Vl}:(putCells enc off d arr).size=arr.size:=by simp[putCells]
theorem putCellsG_get{α:Type}[Inhabited α]{enc:α→Vl}{off:Nat}{d:List α}{arr:Array Vl}(h:off+d.length≤arr.size){j:Nat}{x:α}(hj:d[j]? =some x):(putCells enc off d.toArray arr)[off+j]? =some (enc x):=by
 have hjl:=(lG.1 hj).1
 have hx:=(lG.1 hj).2
 simp only[putCells,Array.getElem?_mapIdx]
 rw[Array.getElem?_eq_getElem (by omega)]
 simp only[Option.map_some,List.size_toArray]
 rw[if_pos (by omega)]
 simp[hjl,hx]
theorem putRowG_setRow{α:Type}[Inhabited α]{enc:α→Vl}{w:World}{b off:Nat}{arr:Array Vl}{ety:Ti}{fr:Nat×Nat}{d:Array α}(hb:w.heap[b]? =some (.cells arr ety fr)):
  putRow enc w b off d=w.setRow b (putCells enc off d arr):=by
 unfold putRow mapBlock World.setRow
 congr 1
 apply Array.ext_getElem?
 intro k
 simp only[Array.getElem?_modify]
 by_cases hk:b=k
 ·subst hk;simp only[if_true,hb,Option.map_some,onCells]
 ·simp[hk]
theorem putRowG_ahead{α:Type}[Inhabited α](enc:α→Vl)(w:World)(n b off:Nat)(d:Array α):putRow enc (Go.Sort.ahead w n) b off d=Go.Sort.ahead (putRow enc w b off d) n:=rfl
theorem putRow_other{α:Type}[Inhabited α](enc:α→Vl)(w:World)(b off:Nat)(d:Array α){k:Nat}(hk:k ≠ b):(putRow enc w b off d).heap[k]? =w.heap[k]? :=by
 unfold putRow mapBlock
 simp only[Array.getElem?_modify]
 rw[if_neg (fun e=>hk e.symm)]
theorem putRow_size{α:Type}[Inhabited α](enc:α→Vl)(w:World)(b off:Nat)(d:Array α):(putRow enc w b off d).heap.size=w.heap.size:=by simp[putRow,mapBlock]
theorem grow_of{W W':World}(h1:W'.os=W.os)(h2:W'.tape=W.tape)(h3:W.drawn≤W'.drawn)(h4:W'.output=W.output)(h5:W.heap.size≤W'.heap.size)(h6:∀k,k<W.heap.size→W'.heap[k]? =W.heap[k]?):∃q os,W'=Go.Sort.grow (W.drewN q) os:=by
 refine⟨W'.drawn - W.drawn,W'.heap.extract W.heap.size W'.heap.size,?_⟩
 have hh:W'.heap=W.heap++W'.heap.extract W.heap.size W'.heap.size:=by
  apply Array.ext_getElem?
  intro k
  rw[Array.getElem?_append]
  split
  ·exact h6 k ‹_›
  ·rw[Array.getElem?_extract]
   split
   ·congr 1;omega
   ·rw[Array.getElem?_eq_none (by omega)]
 obtain⟨heap,tape,drawn,os,output⟩:=W
 obtain⟨heap',tape',drawn',os',output'⟩:=W'
 dsimp only at h1 h2 h3 h4 hh
 subst h1 h2 h4
 unfold Go.Sort.grow World.drewN
 dsimp only
 rw[← hh]
 congr 1
 omega
section
variable {α:Type}
abbrev Shw(w:World)(A:Nat→Prop)(g0:α→I):={x:Vl×α // RelI w A (g0 x.2) x.1}
theorem perm_unique{le:α→α→Bool}(hanti:∀a b,le a b=true→le b a=true→a=b):∀{l m:List α},l.Pairwise (fun a b=>le a b=true)→m.Pairwise (fun a b=>le a b=true)→l.Perm m→l=m
 |[],m,_,_,hp=>(List.nil_perm.1 hp).symm
 |a::l,[],_,_,hp=>absurd hp.length_eq (by simp)
 |a::l,b::m,hl,hm,hp=>by
  obtain⟨l1,l2⟩:=List.pairwise_cons.1 hl
  obtain⟨m1,m2⟩:=List.pairwise_cons.1 hm
  have hab:a=b:=by
   rcases List.mem_cons.1 (hp.subset (List.mem_cons_self ..)) with e|e
   ·exact e
   ·rcases List.mem_cons.1 (hp.symm.subset (List.mem_cons_self ..)) with e'|e'
    ·exact e'.symm
    ·exact hanti a b (l1 b e') (m1 a e)
  subst hab
  rw[perm_unique hanti l2 m2 ((List.perm_cons a).1 hp)]
theorem sortF_fn{P:Program}{f g:FuncId}(hf:Y3 P f)(hgn:Y3 P g){g0:α→I}{cf:α→α→Int}(hO:SWO (Go.Proofs.ltOf cf))(hT:∀a b,¬ cf a b<0→¬ cf b a<0→a=b)
  (hg:∀a b,e9 P g [.c (.imm (g0 a)),.c (.imm (g0 b))] (.c (int (cf a b))))
  (hC:∀(β:Type) [Inhabited β] (enc:β→Vl),Go.Proofs.OneCell enc→∀(cf:β→β→Int),SWO (Go.Proofs.ltOf cf)→∀(g:Nat) (cb:Array Vl) (blk off cap:Nat) (d:Array β) (w:World),(∀args w,(callFunc g args).run P w=.ok (.enter g args) w)→Go.Proofs.CmpLays1 P g cb enc cf blk off d.size w→Holds enc w blk off d→blk<w.heap.size→d.size<4611686018427387904→
   Calls P f #[.slice (some ⟨blk,off,none⟩) d.size cap,.func (.func g) #[] cb] w fun e w'=>e=.returned (.tuple #[])∧∃d' n os,PermIn 0 d.size d d'∧SortedIn (Go.Proofs.ltOf cf) 0 d.size d'∧w'=Go.Proofs.sortWorld enc w blk off n d' os)
  (hC0:∀(p:Option Addr) (cap:Nat) (fv:Vl) (w:World),Calls P f #[.slice p 0 cap,fv] w fun e w'=>e=.returned (.tuple #[])∧w'=w)
  {σ:b6} {id:Id} {l:List α} (hσ:σ[id]? =some (some (vec 1 (fun a=>[g0 a]) l))) (hl:l.length<4611686018427387904):
  FnOk P f [.c (.own id 0 l.length),.c (.fn g [])] σ fun r σ'=>r=.tup []∧σ'.length=σ.length∧∀i:Id,σ'[i]? =(σ.put id (some (vec 1 (fun a=>[g0 a]) (l.mergeSort fun x y=>decide (¬ cf y x<0)))))[i]? :=by
 refine⟨hf,fun Γ vs hΓ hG hlen hrel=> ?_⟩
 subst hΓ
 match vs,hlen with
 |[u,fv],_=>
 have hu:=E3 (hrel 0 _ u rfl rfl) hσ
 have hfv:fv=.func (.func g) #[] #[]:=by
  have h:=hrel 1 _ fv rfl rfl
  cases h with|c h=>cases h with|fn us hr=>rfl
 subst hfv
 have tupR:∀{w φ σ A},RelT w φ σ A (.tup []) (.tuple #[]):=fun {w φ σ A}=>RelT.tup (ts:=[]) (fun _=>undef) fun i t h=>by simp at h
 have vlen:∀{m:List α},((m.map fun a=>[g0 a]).map (·.map C.imm)).length=m.length:=by simp
 rw[vlen] at hu
 have empty:∀(p:Option Addr) (cap:Nat),l=[]→Calls P f #[.slice p 0 cap,.func (.func g) #[] #[]] Γ.w0 fun e w'=>∃v r σ' φ',e=.returned v∧(r=.tup []∧σ'.length=Γ.σ0.length∧∀i:Id,σ'[i]? =(Γ.σ0.put id (some (vec 1 (fun a=>[g0 a]) (l.mergeSort fun x y=>decide (¬ cf y x<0)))))[i]?)∧RelT w' φ' σ' (Al Γ.N φ' σ') r v∧Rs Γ σ' φ' w':=fun p cap he=>by
  refine(hC0 p cap _ Γ.w0).mono ?_
  rintro e w' ⟨rfl,rfl⟩
  refine⟨_,.tup [],Γ.σ0,Γ.φ0,rfl,⟨rfl,rfl,fun i=> ?_⟩,tupR,Rs.refl hG⟩
  have:(l.mergeSort fun x y=>decide (¬ cf y x<0))=l:=by rw[he];simp
  rw[this]
  by_cases hi:i=id
  ·rw[hi,b6.get_put_eq hσ,hσ]
  ·rw[b6.get_put_ne hi]
 rcases hu with⟨_,hv,_,h0⟩|⟨b,base,cap,arr,ety,a,hp,hv,ha,hcap,hmax,hjn,hbk,hsz⟩
 ·have he:l=[]:=List.eq_nil_of_length_eq_zero (by omega)
  rw[hv]
  exact empty none 0 he
 ·rw[hv]
  by_cases hc0:0<cap
  ·have:=ha hc0
   subst this
   simp only[Nat.zero_mul,Nat.add_zero]
   have hR:=Rs.refl hG
   rcases hR.st.blk _ _ hσ with⟨h1,_⟩|⟨b',base',arr2,ety2,h1,h2,h3,h4,h5⟩
   ·rw[hp] at h1;cases h1
   ·rw[hp] at h1;cases h1
    rw[hbk] at h2;cases h2
    rw[vlen] at h3
    have hblk:=(Array.getElem?_eq_some_iff.1 hbk).1
    have hAne:∀k,Al Γ.N Γ.φ0 Γ.σ0 k→k ≠ b:=fun k hk e=>by subst e;exact hk.2 id _ base hσ hp
    -- the elements
    obtain⟨ds,d1,d2⟩:=ex_list (p:=fun j (x:Shw Γ.w0 (Al Γ.N Γ.φ0 Γ.σ0) g0)=>arr[base+j]? =some x.1.1∧l[j]? =some x.1.2) l.length fun j hj=>by
     obtain⟨u,hu1,hu2⟩:=h5 j _ 0 (.imm (g0 l[j])) (by simp[hj];rfl) rfl
     cases hu2 with|imm hu2=>exact⟨⟨(u,l[j]),hu2⟩,by simpa using hu1,by simp[hj]⟩
    have dl:ds.map (fun x=>x.1.2)=l:=by
     refine List.ext_getElem? fun j=> ?_
     rw[lM]
     by_cases hj:j<l.length
     ·obtain⟨x,hx⟩:∃x,ds[j]? =some x:=⟨ds[j],by simp[d1,hj]⟩
      rw[hx,(d2 j x hx).2];rfl
     ·rw[List.getElem?_eq_none (by omega),List.getElem?_eq_none (by omega)];rfl
    by_cases hl0:l=[]
    ·have hl1:l.length=0:=by rw[hl0];rfl
     rw[hl1]
     exact empty _ cap hl0
    ·obtain⟨x0,hx0⟩:∃x,ds[0]? =some x:=by
      have:0<ds.length:=by rw[d1];exact List.length_pos_iff.2 hl0
      exact⟨ds[0],by simp[this]⟩
     letI:Inhabited (Shw Γ.w0 (Al Γ.N Γ.φ0 Γ.σ0) g0):=⟨x0⟩
     have hH:Holds (fun x:Shw Γ.w0 (Al Γ.N Γ.φ0 Γ.σ0) g0=>x.1.1) Γ.w0 b base ds.toArray:=by
      intro j hj
      have hjl:j<ds.length:=by simpa using hj
      refine⟨?_,by simp[World.frozen?,hbk]⟩
      rw[World.cell?]
      simp only[hbk]
      rw[(d2 j ds[j] (by simp[hjl])).1]
      simp[hjl]
     have hcmp:Go.Proofs.CmpLays1 P g #[] (fun x:Shw Γ.w0 (Al Γ.N Γ.φ0 Γ.σ0) g0=>x.1.1) (fun x y=>cf x.1.2 y.1.2) b base ds.toArray.size Γ.w0:=by
      intro m os dk hdk x y
      have hW:∀k,Al Γ.N Γ.φ0 Γ.σ0 k→k<Γ.w0.heap.size→(Go.Proofs.sortWorld (fun x:Shw Γ.w0 (Al Γ.N Γ.φ0 Γ.σ0) g0=>x.1.1) Γ.w0 b base m dk os).heap[k]? =Γ.w0.heap[k]? :=fun k hk hlt=>by
       unfold Go.Proofs.sortWorld
       rw[heap_grow_old _ os (by rw[putRow_size];exact hlt),putRow_other _ _ _ _ _ (hAne k hk)];rfl
      have gd:∀W:World,Good ⟨W,fun _=>False,fun _=>none,[]⟩:=fun W=>⟨⟨fun i b h=>by simp at h,fun i j bi bj p q h=>by simp at h⟩,fun b h=>h.elim,fun i blk b base h=>by simp at h⟩
      have rel:∀z:Shw Γ.w0 (Al Γ.N Γ.φ0 Γ.σ0) g0,RelT (Go.Proofs.sortWorld (fun x:Shw Γ.w0 (Al Γ.N Γ.φ0 Γ.σ0) g0=>x.1.1) Γ.w0 b base m dk os) (fun _=>none) [] (Al (fun _=>False) (fun _=>none) []) (.c (.imm (g0 z.1.2))) z.1.1:=fun z=>
       .c (.imm (z.2.mono hW fun k _ _=>⟨_root_.id,fun i blk base h=>by simp at h⟩))
      refine((hg x.1.2 y.1.2).run ⟨Go.Proofs.sortWorld (fun x:Shw Γ.w0 (Al Γ.N Γ.φ0 Γ.σ0) g0=>x.1.1) Γ.w0 b base m dk os,fun _=>False,fun _=>none,[]⟩ [x.1.1,y.1.1] rfl (gd _) rfl (fun i t v hi hv=> ?_)).mono ?_
      ·match i with
       |0=>cases hi;cases hv;exact rel x
       |1=>cases hi;cases hv;exact rel y
       |i+2=>simp at hi
      ·rintro e w' ⟨v,r,σ',φ',rfl,rfl,hr,hs⟩
       refine⟨?_,grow_of hs.os hs.tape hs.drawn hs.output hs.size fun k hk=>hs.block k ⟨hk,fun i blk base h=>by simp at h⟩⟩
       cases hr with|c hr=>cases hr with|imm hr=>cases hr with|val=>rfl
     obtain⟨gf,gf1,gf2,gf3⟩:=hgn
     have hszd:ds.toArray.size=l.length:=by simp[d1]
     have key:=hC _ (fun x:Shw Γ.w0 (Al Γ.N Γ.φ0 Γ.σ0) g0=>x.1.1) (fun x=>x.2.one) (fun x y=>cf x.1.2 y.1.2) ⟨fun x=>hO.irrefl x.1.2,fun x y z=>hO.trans x.1.2 y.1.2 z.1.2,fun x y z=>hO.ntrans x.1.2 y.1.2 z.1.2⟩ g #[] b base cap ds.toArray Γ.w0 (fun args w=>by
      have h2':¬ gf.name= "runtime.NumGoroutine" :=by simpa using gf2
      have h3':¬ gf.body=none:=fun e=>by rw[e] at gf3;cases gf3
      simp[callFunc,gf1,h2',h3']) hcmp hH hblk (by rw[hszd];exact hl)
     rw[hszd] at key
     refine key.mono ?_
     rintro e w' ⟨rfl,d',n,os,hperm,hsort,rfl⟩
     obtain⟨p1,_,p3⟩:=hperm
     have dsz:d'.size=l.length:=by rw[p1];simp[d1]
     have e1:d'.toList.Perm ds:=by
      have a1:d'.extract 0 l.length=d':=by rw[← dsz];simp
      have a2:ds.toArray.extract 0 l.length=ds.toArray:=by rw[← hszd];simp
      rw[a1,a2] at p3
      simpa using p3
     have e2:(d'.toList.map fun x=>x.1.2)=l.mergeSort fun x y=>decide (¬ cf y x<0):=by
      refine perm_unique (le:=fun x y=>decide (¬ cf y x<0)) (fun a b h1 h2=> ?_) ?_ ?_ ?_
      ·simp only[decide_eq_true_eq] at h1 h2
       exact hT a b h2 h1
      ·rw[List.pairwise_map,List.pairwise_iff_getElem]
       intro i j hi hj hij
       have hj':j<d'.size:=by simpa using hj
       have:=hsort i j (by omega) hij (by rw[← dsz];exact hj')
       rw[getElem!_pos d' j hj',getElem!_pos d' i (by omega)] at this
       simpa[Go.Proofs.ltOf] using this
      ·refine List.pairwise_mergeSort (fun a b c h1 h2=> ?_) (fun a b=> ?_) l
       ·simp only[decide_eq_true_eq] at h1 h2 ⊢
        have:=hO.ntrans c b a (by simpa[Go.Proofs.ltOf] using h2) (by simpa[Go.Proofs.ltOf] using h1)
        simpa[Go.Proofs.ltOf] using this
       ·simp only[Bool.or_eq_true,decide_eq_true_eq]
        rcases Int.lt_or_le (cf b a) 0 with h|h
        ·right
         intro h'
         have:=hO.trans a b a (by simpa[Go.Proofs.ltOf] using h') (by simpa[Go.Proofs.ltOf] using h)
         rw[hO.irrefl] at this;cases this
        ·left;omega
      ·exact((e1.map _).trans (by rw[dl])).trans (List.mergeSort_perm ..).symm
     rw[← e2]
     have hW:=Rs.write (k:=1) (es':=((d'.toList.map fun x=>x.1.2).map fun a=>[g0 a]).map (·.map C.imm)) (arr':=putCells (fun x:Shw Γ.w0 (Al Γ.N Γ.φ0 Γ.σ0) g0=>x.1.1) base d' arr) hR hσ hp hbk (by rw[vlen,vlen];simp[dsz]) putCellsG_size (fun j e he=>by
       simp only[List.map_map,lM,oM] at he
       obtain⟨a,_,rfl⟩:=he;rfl) (by rw[vlen];omega) (fun j e o x he hx=>by
       simp only[List.map_map,lM,oM] at he
       obtain⟨z,hz,rfl⟩:=he
       match o with
       |0=>
        cases hx
        have:=putCellsG_get (enc:=fun x:Shw Γ.w0 (Al Γ.N Γ.φ0 Γ.σ0) g0=>x.1.1) (off:=base) (d:=d'.toList) (arr:=arr) (by simp[dsz];omega) hz
        exact⟨_,by simpa using this,.imm z.2⟩
       |o+1=>simp at hx)
     unfold Go.Proofs.sortWorld
     rw[putRowG_ahead,putRowG_setRow hbk]
     refine⟨_,.tup [],_,Γ.φ0,rfl,⟨rfl,?_,fun i=>rfl⟩,tupR,(hW.2.ahead n).grow os⟩
     rw[b6.length_put]
  ·have he:l=[]:=List.eq_nil_of_length_eq_zero (by omega)
   have hl0:l.length=0:=by rw[he];rfl
   rw[hl0]
   exact empty (some a) cap he
end
end Ab
end
section
namespace Ab
open Go
def vw{α:Type}(l:List α)(off len:Int):Option Unit:=if 0≤off∧0≤len∧off+len≤l.length then some () else none
def cutV(len lo hi:Int):Option Unit:=if 0≤lo∧lo≤hi∧hi≤len then some () else none
def ixV{α:Type}(l:List α)(off len i:Int):Option α:=if 0≤off∧0≤i∧i<len∧off+len≤l.length then ix l (off+i) else none
def u5{α:Type}(l:List α)(off len:Int):List α:=(l.drop off.toNat).take len.toNat
def clrL{α:Type}(l:List α)(off len:Int)(z:α):List α:=l.take off.toNat++List.replicate len.toNat z++l.drop (off.toNat+len.toNat)
theorem X7{α:Type}{l:List α}{off len:Int}{u:Unit}(h:vw l off len=some u):0≤off∧0≤len∧off+len≤l.length:=by
 unfold vw at h
 split at h
 ·assumption
 ·cases h
theorem am1{len lo hi:Int}{u:Unit}(h:cutV len lo hi=some u):0≤lo∧lo≤hi∧hi≤len:=by
 unfold cutV at h
 split at h
 ·assumption
 ·cases h
theorem ixV_get{α:Type}{l:List α}{off len i:Int}{a:α}(h:ixV l off len i=some a):(0≤off∧0≤i∧i<len∧off+len≤l.length)∧ix l (off+i)=some a:=by
 unfold ixV at h
 split at h
 ·exact⟨‹_›,h⟩
 ·cases h
theorem ixV_ix{α:Type}{l:List α}{off len i:Int}{a:α}(h:ixV l off len i=some a):ix l (off+i)=some a:=(ixV_get h).2
theorem viewL_len{α:Type}{l:List α}{off len:Int}{u:Unit}(h:vw l off len=some u):(u5 l off len).length=len.toNat:=by
 have:=X7 h
 simp[u5];omega
section
variable {α:Type}{f:α→List I}{l:List α}{P:Program}{σ0:b6}{sz:Nat}{Q:Post}{env env':Env}{σv σ':b6}{ops:Array Oper}{rest:List Oper}{dst:Option Nat}{ty:Ti}{pos:String}{after:Array Edge}{id:Id}{k:Nat}
theorem S.lenV{x:Od}{t e:Ti}{n:Int}{j:Nat}[ht:TyD P t (.slice e)](hn:0≤n)(hx:ev env x=some (.c (.own id j n.toNat)))(hσ:σv[id]? =some (some (vec k f l)))(hd:f9 sz dst=true)
  (h:n≤9223372036854775807→AOps P σ0 sz ops Q rest (St.mk (putE env dst (.c (int n))) σv)):AOps P σ0 sz ops Q (⟨dst,.call ⟨.builtin .len,#[x],#[t]⟩,ty,pos,after,none⟩::rest) (St.mk env σv):=
 AOps.lenOwnB hx hσ hd fun hb=>by
  have e1:((n.toNat:Nat):Int)=n:=by omega
  rw[e1]
  exact h (by omega)
theorem S.idxV{x y:Od}{t e:Ti}{bytes:Nat}{z:Vl}{kk:IntKind}{off len i:Int}{a:α}[ht:TyD P t (.slice e)][hs:TyS P e k bytes z]
  (he:ixV l off len i=some a) (hx:ev env x=some (.c (.own id off.toNat len.toNat))) (hσ:σv[id]? =some (some (vec k f l))) (hy:ev env y=some (.c (.imm (.val (.int kk i))))) (hd:f9 sz dst=true)
  (h:AOps P σ0 sz ops Q rest (St.mk (putE env dst (.c (.ptr id (off+i).toNat 0))) σv)):AOps P σ0 sz ops Q (⟨dst,.indexAddr t x y,ty,pos,after,none⟩::rest) (St.mk env σv):=by
 obtain⟨⟨h1,h2,h3,h4⟩,_⟩:=ixV_get he
 refine .indexAddrOwn hx hσ hy (by omega) hd ?_
 rw[show off.toNat+i.toNat=(off+i).toNat by omega]
 exact h
theorem S.vFrom{x y:Od}{t e:Ti}{bytes:Nat}{z:Vl}{kk:IntKind}{off len lo:Int}{j n:Nat}{u u':Unit}[ht:TyD P t (.slice e)][hs:TyS P e k bytes z]
  (hv:vw l off len=some u) (hc:cutV len lo len=some u') (hx:ev env x=some (.c (.own id j n))) (hj:j=off.toNat) (hn:n=len.toNat) (hσ:σv[id]? =some (some (vec k f l))) (hy:ev env y=some (.c (.imm (.val (.int kk lo))))) (hd:f9 sz dst=true)
  (h:AOps P σ0 sz ops Q rest (St.mk (putE env dst (.c (.own id (off+lo).toNat (len - lo).toNat))) σv)):AOps P σ0 sz ops Q (⟨dst,.slice t x (some y) none none,ty,pos,after,none⟩::rest) (St.mk env σv):=by
 have h1:=X7 hv;have h2:=am1 hc
 subst hj hn
 have e1:lo=((lo.toNat:Nat):Int):=by omega
 rw[e1] at hy
 refine AOps.sliceOwnFrom hx hσ hy (by omega) hd ?_
 rw[show off.toNat+lo.toNat=(off+lo).toNat by omega,show len.toNat - lo.toNat=(len - lo).toNat by omega]
 exact h
theorem S.vTo{x y:Od}{t e:Ti}{bytes:Nat}{z:Vl}{kk:IntKind}{off len hi:Int}{j n:Nat}{u u':Unit}[ht:TyD P t (.slice e)][hs:TyS P e k bytes z]
  (hv:vw l off len=some u) (hc:cutV len 0 hi=some u') (hx:ev env x=some (.c (.own id j n))) (hj:j=off.toNat) (hn:n=len.toNat) (hσ:σv[id]? =some (some (vec k f l))) (hy:ev env y=some (.c (.imm (.val (.int kk hi))))) (hd:f9 sz dst=true)
  (h:AOps P σ0 sz ops Q rest (St.mk (putE env dst (.c (.own id off.toNat hi.toNat))) σv)):AOps P σ0 sz ops Q (⟨dst,.slice t x none (some y) none,ty,pos,after,none⟩::rest) (St.mk env σv):=by
 have h1:=X7 hv;have h2:=am1 hc
 subst hj hn
 have e1:hi=((hi.toNat:Nat):Int):=by omega
 rw[e1] at hy
 exact AOps.sliceOwnTo hx hσ hy (by omega) hd h
theorem S.v3{x y y':Od}{t e:Ti}{bytes:Nat}{z:Vl}{kk kk':IntKind}{off len lo hi:Int}{j n:Nat}{u u':Unit}[ht:TyD P t (.slice e)][hs:TyS P e k bytes z]
  (hv:vw l off len=some u) (hc:cutV len lo hi=some u') (hx:ev env x=some (.c (.own id j n))) (hj:j=off.toNat) (hn:n=len.toNat) (hσ:σv[id]? =some (some (vec k f l))) (hy:ev env y=some (.c (.imm (.val (.int kk lo))))) (hy':ev env y'=some (.c (.imm (.val (.int kk' hi))))) (hd:f9 sz dst=true)
  (h:AOps P σ0 sz ops Q rest (St.mk (putE env dst (.c (.own id (off+lo).toNat (hi - lo).toNat))) σv)):AOps P σ0 sz ops Q (⟨dst,.slice t x (some y) (some y') none,ty,pos,after,none⟩::rest) (St.mk env σv):=by
 have h1:=X7 hv;have h2:=am1 hc
 subst hj hn
 refine AOps.sliceOwn hx hσ hy hy' (by omega) hd ?_
 rw[show off.toNat+lo.toNat=(off+lo).toNat by omega,show hi.toNat - lo.toNat=(hi - lo).toNat by omega]
 exact h
def ReE(env:Env)(t:Nat)(c':C):Env→Prop
 |[]=>True
 |(t',v)::r=>(t'=t∧v=.c c'∨lookup t' env=some v)∧ReE env t c' r
theorem ReE.get{t:Nat}{c':C}:∀{env':Env},ReE env t c' env'→∀t' v,lookup t' env'=some v→t'=t∧v=.c c'∨lookup t' env=some v
 |[],_,t,v,h=>by simp[lookup] at h
 |(k,x)::r,⟨h1,h2⟩,t',v,h=>by
  simp only[lookup] at h
  split at h
  ·cases h
   rename_i e
   have:k=t':=by simpa using e
   subst this
   exact h1
  ·exact ReE.get h2 t' v h
theorem Sub.reown{off len:Int}{j n:Nat}{n':Id}{σ1:b6}{u:Unit}(t:Nat)(hv:vw l off len=some u)(hx:lookup t env=some (.c (.own id j n)))(hj:j=off.toNat)(hn:n=len.toNat)(hσ:σv[id]? =some (some (vec k f l)))(h0:Nat.ble σ0.length id.1=true)(hid:newF σv=some n')
  (h1:putF σv id none=some σ1) (hσ':w5 σ1 (.one (vec k f (u5 l off len)))=some σ') (henv:ReE env t (.own n' 0 (u5 l off len).length) env'):Sub σ0 ⟨env,σv⟩ ⟨env',σ'⟩:=fun Γ sz φ a w hΓ hR=>by
 have h2:=E1 h1
 have h3:=C0 hid;have h4:=s6 hσ'
 have hvl:=viewL_len hv
 have hvg:=X7 hv
 subst hj hn h2 h3 h4
 have hidl:=b6.lt_of hσ
 have at_new:(σv.put id none++[.one (vec k f (u5 l off len))])[((σv.length,[]):Id)]? =some (some (vec k f (u5 l off len))):=by
  rw[b6.get_right (by simp)];simp;rfl
 obtain⟨u0,hu0,hrel⟩:=hR.env t _ hx
 have ho:=E3 hrel hσ
 have fin:∀(φ':Phi) (hk:Kept w w φ φ' σv (σv.put id none++[.one (vec k f (u5 l off len))]) (Al Γ.N φ σv) (Al Γ.N φ' (σv.put id none++[.one (vec k f (u5 l off len))]))) (hs:Rs Γ (σv.put id none++[.one (vec k f (u5 l off len))]) φ' w) (hview:V1 w (φ' (σv.length,[])) k (u5 l off len).length 0 (u5 l off len).length u0),
   R Γ sz ⟨env',σv.put id none++[.one (vec k f (u5 l off len))]⟩ φ' a w:=fun φ' hk hs hview=>by
  have hR1:=hR.of hk hs
  refine {toRs:=hs,defers:=hR1.defers,asize:=hR.asize,env:=fun t' v' ht'=> ?_}
  rcases henv.get t' v' ht' with⟨rfl,rfl⟩|h
  ·refine⟨u0,hu0,.c (.own (by simp) (by cases hrel with|c g2=>exact g2.one) fun k' es' he=> ?_)⟩
   rw[at_new] at he
   cases he
   simpa using hview
  ·obtain⟨u1,g1,g2⟩:=hR1.env t' v' h
   exact⟨u1,g1,g2⟩
 rcases ho with⟨p1,p2,p3,p4⟩|⟨b,base,cap,arr,ety,ad,hp,hvv,had,hcap,hmax,hjn,hbk,hsz⟩
 ·have hnil:u5 l off len=[]:=List.eq_nil_of_length_eq_zero (by rw[hvl,p4])
  have hK:=hR.toRs.kill id
  have hV:=hK.2.virt k
  have e1:σv.put id none++[.one (vec k f (u5 l off len))]=σv.put id none++[.one (.cells k [])]:=by rw[hnil];rfl
  rw[b6.length_put] at hV
  refine⟨fun i=>if i=(σv.length,[]) then none else φ i,?_⟩
  have:=fin (fun i=>if i=(σv.length,[]) then none else φ i) (by rw[e1];exact Kept.trans (Nat.le_refl _) hK.1 hV.1) (by rw[e1];exact hV.2) (.inl ⟨by simp,p2,rfl,by rw[hnil];rfl⟩)
  exact this
 ·obtain⟨arr2,ety2,q1,q2,q3,q4⟩:=I9 hR hσ hp
  rw[hbk] at q1;cases q1
  have hO:=Rs.reown (k:=k) (base':=base+off.toNat * k) (es':=((u5 l off len).map f).map (·.map C.imm)) (arr':=arr) hR.toRs hσ hp hbk (fun j e he=>by
    have:((u5 l off len).map f).map (·.map C.imm)=((((l.map f).map (·.map C.imm)).drop off.toNat).take len.toNat):=by simp[u5,List.map_drop,List.map_take]
    rw[this,List.getElem?_take] at he
    split at he
    ·rw[List.getElem?_drop] at he
     exact q3 _ e he
    ·cases he) (by
    simp only[List.length_map,hvl]
    have:(off.toNat+cap) * k=off.toNat * k+cap * k:=Nat.add_mul ..
    have:len.toNat * k≤cap * k:=Nat.mul_le_mul_right k hcap
    omega) (fun j e o x he hx=>by
    have:((u5 l off len).map f).map (·.map C.imm)=((((l.map f).map (·.map C.imm)).drop off.toNat).take len.toNat):=by simp[u5,List.map_drop,List.map_take]
    rw[this,List.getElem?_take] at he
    split at he
    ·rw[List.getElem?_drop] at he
     obtain⟨u2,g1,g2⟩:=q4 _ e o x he hx
     refine⟨u2,?_,g2⟩
     rw[← g1,Nat.add_mul]
     congr 1;omega
    ·cases he)
  rw[Go.setRow_self w b arr ety (0,0) hbk] at hO
  refine⟨fun i=>if i=(σv.length,[]) then some (b,base+off.toNat * k) else φ i,?_⟩
  refine fin _ hO.1 hO.2 (.inr ⟨b,base+off.toNat * k,cap,arr,ety,ad,by simp,?_,fun hc=> ?_,?_,hmax,by omega,hbk,?_⟩)
  ·rw[hvv,hvl]
  ·rw[had hc,Nat.zero_mul,Nat.add_zero]
  ·rw[hvl];exact hcap
  ·have:(off.toNat+cap) * k=off.toNat * k+cap * k:=Nat.add_mul ..
   rw[Nat.zero_add];omega
theorem AWP.reown{c:Code}{off len:Int}{j n:Nat}{n':Id}{σ1:b6}{u:Unit}(t:Nat)(hv:vw l off len=some u)(hx:lookup t env=some (.c (.own id j n)))(hj:j=off.toNat)(hn:n=len.toNat)(hσ:σv[id]? =some (some (vec k f l)))(h0:Nat.ble σ0.length id.1=true)(hid:newF σv=some n')
  (h1:putF σv id none=some σ1) (hσ':w5 σ1 (.one (vec k f (u5 l off len)))=some σ') (henv:ReE env t (.own n' 0 (u5 l off len).length) env') (h:AWP P σ0 sz c Q ⟨env',σ'⟩):AWP P σ0 sz c Q ⟨env,σv⟩:=
 AWP.sub (Sub.reown t hv hx hj hn hσ h0 hid h1 hσ' henv) h
theorem zeroCells_one{v:Vl}(n:Nat):(Builtin.zeroCells #[v] n).toList=List.replicate n v:=by
 refine List.ext_getElem? fun i=> ?_
 simp only[Builtin.zeroCells,Array.toList_map,lM,List.getElem?_replicate]
 by_cases h:i<n
 ·have:(Array.range (n * (#[v]:Array Vl).size)).toList[i]? =some i:=by simp[h]
  rw[this,if_pos h]
  simp[Nat.mod_one]
 ·have:(Array.range (n * (#[v]:Array Vl).size)).toList[i]? =none:=by simp;omega
  rw[this,if_neg h];rfl
theorem S.clear{x:Od}{t e:Ti}{bytes:Nat}{z:Vl}{off len:Int}{j n:Nat}{u:Unit}{a0:α}{c0:C}[ht:TyD P t (.slice e)][hs:TyS P e 1 bytes z](hz1:z.cells=#[z])(hzc:z.oneCell'=true)
  (hf:(f a0).map C.imm=[c0]) (hrel:∀w φ σ A,RelC w φ σ A c0 z)
  (hv:vw l off len=some u) (hx:ev env x=some (.c (.own id j n))) (hj:j=off.toNat) (hn:n=len.toNat) (hσ:σv[id]? =some (some (vec 1 f l))) (hσ':putF σv id (some (vec 1 f (clrL l off len a0)))=some σ')
  (h:AOps P σ0 sz ops Q rest (St.mk env σ')):AOps P σ0 sz ops Q (⟨none,.call ⟨.builtin .clear,#[x],#[t]⟩,ty,pos,after,none⟩::rest) (St.mk env σv):=by
 have hvg:=X7 hv
 have h2:=E1 hσ'
 subst hj hn h2
 refine .valueW rfl rfl (.tup []) (σv.put id (some (vec 1 f (clrL l off len a0)))) (fun Γ φ a w hR=> ?_) h
 have tupR:∀{w φ σ A},RelT w φ σ A (.tup []) (.tuple #[]):=fun {w φ σ A}=>RelT.tup (ts:=[]) (fun _=>undef) fun i t h=>by simp at h
 have ho:=E3 (k7 hR hx) hσ
 have clen:(clrL l off len a0).length=l.length:=by simp[clrL];omega
 have nothing:len.toNat=0→clrL l off len a0=l:=fun e=>by simp[clrL,e]
 have same:len.toNat=0→(execOp a.eval ⟨none,.call ⟨.builtin .clear,#[x],#[t]⟩,ty,pos,after,none⟩).run P w=.ok (.value (.tuple #[])) w→∃u w' φ',(execOp a.eval ⟨none,.call ⟨.builtin .clear,#[x],#[t]⟩,ty,pos,after,none⟩).run P w=.ok (.value u) w'∧RelT w' φ' (σv.put id (some (vec 1 f (clrL l off len a0)))) (Al Γ.N φ' (σv.put id (some (vec 1 f (clrL l off len a0))))) (.tup []) u∧R Γ sz ⟨env,σv.put id (some (vec 1 f (clrL l off len a0)))⟩ φ' a w':=fun e0 hrun=>by
  rw[nothing e0]
  have hsub:=Sub.blk (σ0:=Γ.σ0) (env:=env) (id:=id) (k:=1) (es:=(l.map f).map (·.map C.imm)) (es':=(l.map f).map (·.map C.imm)) hσ rfl (fun i e' he=>by
   rcases hR.st.blk _ _ hσ with⟨_,g2⟩|⟨_,_,_,_,_,_,_,g4,_⟩
   ·rw[g2] at he;simp at he
   ·exact g4 i e' he) (fun i e' o x' he hx'=>⟨e',x',he,hx',fun _ _ _ _ _ hr=>hr⟩)
  obtain⟨φ',hR'⟩:=hsub Γ sz φ a w rfl hR
  exact⟨_,w,φ',hrun,tupR,hR'⟩
 rcases ho with⟨p1,p2,p3,p4⟩|⟨b,base,cap,arr,ety,ad,hp,hvv,had,hcap,hmax,hjn,hbk,hsz⟩
 ·exact same p4 (by simp[execOp,resolve,invoke,builtin,p2,Builtin.clear_,run_underlying ht.h])
 ·by_cases e0:len.toNat=0
  ·refine same e0 ?_
   rw[e0] at hvv
   simp[execOp,resolve,invoke,builtin,hvv,Builtin.clear_,run_underlying ht.h]
  ·have hc0:0<cap:=by omega
   have:=had hc0
   subst this
   obtain⟨arr2,ety2,q1,q2,q3,q4⟩:=I9 hR hσ hp
   rw[hbk] at q1;cases q1
   simp only[List.length_map] at q2 hjn
   have hst:=run_storeCells_at P b (base+off.toNat * 1) ety (List.replicate len.toNat z) 0 arr w hbk (by simp;omega) (fun v hv=>by rw[List.eq_of_mem_replicate hv];exact hzc)
   simp only[Nat.add_zero,Nat.mul_one,List.length_replicate] at hst
   have hl1:∀b:α,((f b).map C.imm).length=(f b).length:=fun b=>by simp
   have hW:=Rs.write (k:=1) (es':=((clrL l off len a0).map f).map (·.map C.imm)) (arr':=(arr.toList.take (base+off.toNat)++List.replicate len.toNat z++arr.toList.drop (base+off.toNat+len.toNat)).toArray) hR.toRs hσ hp hbk (by simp[clen]) (by simp;omega) (fun i e' he=>by
     simp only[List.map_map,lM,oM] at he
     obtain⟨y,hy,rfl⟩:=he
     by_cases hyl:y ∈ l
     ·obtain⟨i',hi'⟩:=List.getElem?_of_mem hyl
      exact q3 i' _ (by simp[hi'])
     ·have hy:=List.mem_of_getElem? hy
      simp only[clrL,List.mem_append] at hy
      rcases hy with(hy|hy)|hy
      ·exact absurd (List.mem_of_mem_take hy) hyl
      ·rw[List.eq_of_mem_replicate hy]
       simp only[Function.comp_apply,hf];rfl
      ·exact absurd (List.mem_of_mem_drop hy) hyl) (by simp;omega) (fun i e' o x' he hx'=>by
     simp only[List.map_map,lM,oM,Function.comp_apply] at he
     obtain⟨y,hy,rfl⟩:=he
     simp only[List.getElem?_toArray]
     have hsp:=z8 arr.toList (List.replicate len.toNat z) (base+off.toNat) (base+(i * 1+o)) (by simp;omega)
     simp only[List.length_replicate] at hsp
     rw[hsp]
     have hy':(clrL l off len a0)[i]? =if off.toNat≤i∧i<off.toNat+len.toNat then some a0 else l[i]? :=by
      have:=z8 l (List.replicate len.toNat a0) off.toNat i (by simp;omega)
      simp only[List.length_replicate] at this
      rw[clrL,this]
      split
      ·rw[List.getElem?_replicate,if_pos (by omega)]
      ·rfl
     rw[hy'] at hy
     split at hy
     ·rename_i hi
      cases hy
      rw[hf] at hx'
      match o with
      |0=>
       cases hx'
       rw[if_pos (by omega),List.getElem?_replicate,if_pos (by omega)]
       exact⟨z,rfl,hrel _ _ _ _⟩
      |o+1=>simp at hx'
     ·rename_i hi
      have ho:o=0:=by
       have h1:=q3 i ((f y).map C.imm) (by simp[hy])
       have:=(lG.1 hx').1
       omega
      subst ho
      rw[if_neg (by omega)]
      obtain⟨u2,g1,g2⟩:=q4 i ((f y).map C.imm) 0 x' (by simp[hy]) hx'
      exact⟨u2,by simpa using g1,g2⟩)
   have hz:=ac7 (P:=P) (t:=e) w
   refine⟨.tuple #[],_,φ,?_,tupR,hR.of hW.1 hW.2⟩
   have hne:¬ (len.toNat=0):=e0
   simp[execOp,resolve,invoke,builtin,hvv,Builtin.clear_,run_underlying ht.h,hz,hz1,zeroCells_one,hst]
end
end Ab
end
section
namespace Ab
open Go Go.Sort
def CmpOk{α:Type}(cmp:α→α→Option Int)(cf:α→α→Int):Prop:=(∀a b,cmp a b=some (cf a b))∧SWO (Go.Proofs.ltOf cf)∧∀a b,¬ cf a b<0→¬ cf b a<0→a=b
noncomputable def sortFL{α:Type}(cmp:α→α→Option Int)(l:List α):Option (List α):=open Classical in
 if h:l.length<4611686018427387904∧∃cf,CmpOk cmp cf then some (l.mergeSort fun x y=>decide (¬ h.2.choose y x<0)) else none
theorem sortFL_eq{α:Type}{cmp:α→α→Option Int}{cf:α→α→Int}{l:List α}(h:l.length<4611686018427387904)(hc:CmpOk cmp cf):sortFL cmp l=some (l.mergeSort fun x y=>decide (¬ cf y x<0)):=by
 unfold sortFL
 have hx:l.length<4611686018427387904∧∃cf,CmpOk cmp cf:=⟨h,cf,hc⟩
 rw[dif_pos hx]
 have e:hx.2.choose=cf:=by
  funext a b
  have:=hx.2.choose_spec.1 a b
  rw[hc.1 a b] at this
  exact(Option.some.inj this).symm
 rw[e]
theorem sortFL_len{α:Type}{cmp:α→α→Option Int}{l l':List α}(h:sortFL cmp l=some l'):l.length=l'.length:=by
 unfold sortFL at h
 split at h
 ·cases h;simp
 ·cases h
def SortFOk(P:Program)(f:FuncId):Prop:=∀{α:Type} {g:FuncId} {g0:α→I} {cf:α→α→Int},Y3 P g→SWO (Go.Proofs.ltOf cf)→(∀a b,¬ cf a b<0→¬ cf b a<0→a=b)→(∀a b,e9 P g [.c (.imm (g0 a)),.c (.imm (g0 b))] (.c (int (cf a b))))→
 ∀{σ:b6} {id:Id} {l:List α},σ[id]? =some (some (vec 1 (fun a=>[g0 a]) l))→l.length<4611686018427387904→
  FnOk P f [.c (.own id 0 l.length),.c (.fn g [])] σ fun r σ'=>r=.tup []∧σ'.length=σ.length∧∀i:Id,σ'[i]? =(σ.put id (some (vec 1 (fun a=>[g0 a]) (l.mergeSort fun x y=>decide (¬ cf y x<0)))))[i]?
section
variable {P:Program}{σ0:b6}{sz:Nat}{Q:Post}{env:Env}{σv σ':b6}{ops:Array Oper}{rest:List Oper}{dst:Option Nat}{ty:Ti}{pos:String}{after:Array Edge}
theorem S.sortF{α:Type}{f:α→List I}(g0:α→I){cmp:α→α→Option Int}{x:Od}{al:List Od}{ats:Array Ti}{fs g:FuncId}{id:Id}{n:Nat}{l l':List α}(hs:sortFL cmp l=some l')(hfg:f=fun a=>[g0 a])
  (hcmp:∀{a b r},cmp a b=some r→e9 P g [.c (.imm (g0 a)),.c (.imm (g0 b))] (.c (int r))) (hf:SortFOk P fs) (hgn:Y3 P g) (hx:ev env x=some (.c (.fn fs []))) (ha:evs env al=some [.c (.own id 0 n),.c (.fn g [])]) (hn:n=l.length) (hσ:σv[id]? =some (some (vec 1 f l)))
  (hd:f9 sz dst=true) (hσ':putF σv id (some (vec 1 f l'))=some σ') (h:AOps P σ0 sz ops Q rest (St.mk (putE env dst (.tup [])) σ')):
  AOps P σ0 sz ops Q (⟨dst,.call ⟨.value x,al.toArray,ats⟩,ty,pos,after,none⟩::rest) (St.mk env σv):=by
 have h2:=E1 hσ'
 subst h2 hn hfg
 unfold sortFL at hs
 split at hs
 ·rename_i hx0
  cases hs
  obtain⟨c1,c2,c3⟩:=hx0.2.choose_spec
  refine AOps.callS hx ha hd (hf hgn c2 c3 (fun a b=>hcmp (c1 a b)) hσ hx0.1) ?_
  rintro r σ2 ⟨rfl,hl,he⟩
  refine AOps.sub (s':=⟨putE env dst (.tup []),σv.put id (some (vec 1 (fun a=>[g0 a]) (l.mergeSort fun x y=>decide (¬ hx0.2.choose y x<0))))⟩) ?_ h
  have:=Sub.same (σ0:=σ0) (env:=putE env dst (.tup [])) (σ1:=σ2) (σ2:=σv.put id (some (vec 1 (fun a=>[g0 a]) (l.mergeSort fun x y=>decide (¬ hx0.2.choose y x<0))))) (by rw[b6.length_put,hl]) he
  cases dst<;>exact this
 ·cases hs
end
/-! ### Views in chains -/
theorem E4{α:Type}(l:List α):vw l 0 (l.length:Int)=some ():=by unfold vw;rw[if_pos];omega
theorem ah9{α:Type}{l:List α}{off len lo hi:Int}{u u':Unit}(h:vw l off len=some u)(hc:cutV len lo hi=some u'):vw l (off+lo) (hi - lo)=some ():=by
 have:=X7 h;have:=am1 hc
 unfold vw;rw[if_pos];omega
theorem vw_to{α:Type}{l:List α}{off len hi:Int}{u u':Unit}(h:vw l off len=some u)(hc:cutV len 0 hi=some u'):vw l off hi=some ():=by
 have:=X7 h;have:=am1 hc
 unfold vw;rw[if_pos];omega
theorem clrL_len{α:Type}{l:List α}{off len:Int}{u:Unit}{z:α}(h:vw l off len=some u):(clrL l off len z).length=l.length:=by
 have:=X7 h
 simp[clrL];omega
end Ab
end
section
namespace Ab
open Go
def shlW(k:IntKind)(a b:Int):Int:=k.wrap (a * 2 ^ (min b.toNat k.bits))
def chk0(b:Int):Option Unit:=if b<0 then none else some ()
def chkN(b:Int):Option Unit:=if b=0 then none else some ()
theorem chkN_get{b:Int}{u:Unit}(h:chkN b=some u):b ≠ 0:=by
 unfold chkN at h
 split at h
 ·cases h
 ·assumption
section
variable {P:Program}{σ0:b6}{sz:Nat}{Q:Post}{env:Env}{σv:b6}{ops:Array Oper}{rest:List Oper}{dst:Option Nat}{ty:Ti}{pos:String}{after:Array Edge}
theorem S.quo{t t':Ti}{x y:Od}{k:IntKind}{a b:Int}{u:Unit}(hb:chkN b=some u)(hx:ev env x=some (.c (.imm (.val (.int k a)))))(hy:ev env y=some (.c (.imm (.val (.int k b)))))(hd:f9 sz dst=true)
  (h:AOps P σ0 sz ops Q rest (St.mk (putE env dst (.c (.imm (.val (.int k (k.wrap (a.tdiv b))))))) σv)):AOps P σ0 sz ops Q (⟨dst,.binOp .quo t x y t',ty,pos,after,none⟩::rest) (St.mk env σv):=.quoW hx hy hd (chkN_get hb) h
theorem S.rem{t t':Ti}{x y:Od}{k:IntKind}{a b:Int}{u:Unit}(hb:chkN b=some u)(hx:ev env x=some (.c (.imm (.val (.int k a)))))(hy:ev env y=some (.c (.imm (.val (.int k b)))))(hd:f9 sz dst=true)
  (h:AOps P σ0 sz ops Q rest (St.mk (putE env dst (.c (.imm (.val (.int k (a.tmod b)))))) σv)):AOps P σ0 sz ops Q (⟨dst,.binOp .rem t x y t',ty,pos,after,none⟩::rest) (St.mk env σv):=.remW hx hy hd (chkN_get hb) h
end
section
variable {P:Program}{σ0:b6}{sz:Nat}{Q:Post}{env env':Env}{σv σ':b6}
theorem Sub.virtB{α:Type}(k:Nat)(f:α→List I){b n:Id}{kb o:Nat}{cs cs':List C}{σ1:b6}(hb:σv[b]? =some (some (.cells kb [cs])))(hc:cs[o]? =some (.imm (.val (.slice none 0 0))))(hn:newF σv=some n)(h1:w5 σv (.one (vec k f []))=some σ1)
  (hs:setF cs o (.own n 0 ([]:List α).length)=some cs') (hσ':putF σ1 b (some (.cells kb [cs']))=some σ'):Sub σ0 ⟨env,σv⟩ ⟨env,σ'⟩:=fun Γ sz φ a w hΓ hR=>by
 have g1:=C0 hn;have g2:=s6 h1;have g3:=O5 hs;have g4:=E1 hσ'
 obtain⟨g3,g3'⟩:=g3
 subst g1 g2 g3 g4
 have hbl:=b6.lt_of hb
 have hV:=hR.toRs.virt k
 have hb':(σv++[.one (vec k f [])])[b]? =some (some (.cells kb [cs])):=by rw[b6.get_left hbl];exact hb
 have e0:(σv++[.one (.cells k [])]:b6)=σv++[.one (vec k f [])]:=rfl
 rw[e0] at hV
 generalize hφ:(fun i=>if i=((σv.length,[]):Id) then none else φ i)=φ' at hV
 have φn:φ' (σv.length,[])=none:=by rw[← hφ];simp
 rcases hV.2.st.blk _ _ hb' with⟨_,g⟩|⟨b0,base,arr,ety,q1,q2,q3,q4,q5⟩
 ·cases g
 ·have hW:=Rs.write (k:=kb) (es':=[cs.set o (.own (σv.length,[]) 0 ([]:List α).length)]) (arr':=arr) hV.2 hb' q1 q2 rfl rfl (fun j e he=>by
   match j with
   |0=>
    cases he
    rw[lS]
    exact q4 0 cs rfl
   |j+1=>simp at he) (by simpa using q3) (fun j e i x he hx=>by
   match j with
   |0=>
    cases he
    rw[List.getElem?_set] at hx
    split at hx
    ·rename_i e
     subst e
     cases hx
     obtain⟨u,hu,hr⟩:=q5 0 cs o _ rfl hc
     refine⟨u,hu,?_⟩
     cases hr with|imm hr=>cases hr with|val h=>
      exact .own (by simp) rfl fun k' es' _=>.inl ⟨φn,rfl,rfl,rfl⟩
    ·exact q5 0 cs i x rfl hx
   |j+1=>simp at he)
  rw[Go.setRow_self w b0 arr ety (0,0) q2] at hW
  exact⟨φ',(hR.of hV.1 hV.2).of hW.1 hW.2⟩
theorem AWP.virtB{α:Type}{c:Code}(k:Nat)(f:α→List I){b n:Id}{kb o:Nat}{cs cs':List C}{σ1:b6}(hb:σv[b]? =some (some (.cells kb [cs])))(hc:cs[o]? =some (.imm (.val (.slice none 0 0))))(hn:newF σv=some n)(h1:w5 σv (.one (vec k f []))=some σ1)
  (hs:setF cs o (.own n 0 ([]:List α).length)=some cs') (hσ':putF σ1 b (some (.cells kb [cs']))=some σ') (h:AWP P σ0 sz c Q ⟨env,σ'⟩):AWP P σ0 sz c Q ⟨env,σv⟩:=AWP.sub (Sub.virtB k f hb hc hn h1 hs hσ') h
def NilB:List C→List C→Prop
 |[],[]=>True
 |c::r,c'::r'=>(c'=c∨c=.imm (.val (.slice none 0 0))∧∃k,c'=.imm (.sl k []))∧NilB r r'
 |_,_=>False
theorem NilB.len:∀{l l':List C},NilB l l'→l'.length=l.length
 |[],[],_=>rfl
 |_::r,_::r',⟨_,h⟩=>by simp[NilB.len h]
 |[],_::_,h=>h.elim
 |_::_,[],h=>h.elim
theorem NilB.get:∀{l l':List C},NilB l l'→∀(o:Nat) (x:C),l'[o]? =some x→∃x0,l[o]? =some x0∧(x=x0∨x0=.imm (.val (.slice none 0 0))∧∃k,x=.imm (.sl k []))
 |[],[],_,o,x,h=>by simp at h
 |c::r,c'::r',⟨h1,h2⟩,o,x,h=>by
  match o with
  |0=>cases h;exact⟨c,rfl,h1⟩
  |o+1=>simpa using NilB.get h2 o x (by simpa using h)
 |[],_::_,h,_,_,_=>h.elim
 |_::_,[],h,_,_,_=>h.elim
theorem Sub.nilB{b:Id}{kb:Nat}{cs:List C}(cs':List C)(hb:σv[b]? =some (some (.cells kb [cs])))(h:NilB cs cs')(hlen:cs.length=kb)(hσ':putF σv b (some (.cells kb [cs']))=some σ'):Sub σ0 ⟨env,σv⟩ ⟨env,σ'⟩:=by
 have g:=E1 hσ'
 subst g
 refine Sub.blk hb rfl (fun j e he=> ?_) (fun j e o x he hx=> ?_)
 ·match j with
  |0=>cases he;rw[h.len,hlen]
  |j+1=>simp at he
 ·match j with
  |0=>
   cases he
   obtain⟨x0,h1,h2⟩:=h.get o x hx
   refine⟨cs,x0,rfl,h1,fun w φ σ A u hr=> ?_⟩
   rcases h2 with rfl|⟨rfl,k,rfl⟩
   ·exact hr
   ·cases hr with|imm hr=>cases hr with|val=>exact .imm .slNil
  |j+1=>simp at he
theorem AWP.nilB{c:Code}{b:Id}{kb:Nat}{cs:List C}(cs':List C)(hb:σv[b]? =some (some (.cells kb [cs])))(h:NilB cs cs')(hlen:cs.length=kb)(hσ':putF σv b (some (.cells kb [cs']))=some σ')(hn:AWP P σ0 sz c Q ⟨env,σ'⟩):AWP P σ0 sz c Q ⟨env,σv⟩:=AWP.sub (Sub.nilB cs' hb h hlen hσ') hn
end
end Ab
end
section
namespace Ab
open Go
section
variable {P:Program}{σ0:b6}{sz:Nat}{Q:Post}{env env':Env}{σv σ':b6}{α:Type}{f:α→List I}{k:Nat}{l:List α}{id:Id}
end
end Ab
end
section
namespace Ab
open Go
section
variable {α:Type}{f:α→List I}{l:List α}{p m:Nat}{n id:Id}
abbrev vecS(f:α→List I)(l:List α)(p:Nat)(n:Id)(m:Nat):Blk:=.cells 1 (((l.map f).map (·.map C.imm)).set p [.own n 0 m])
theorem mem_set{β:Type}{x a:β}:∀{l:List β} {p:Nat},x ∈ l.set p a→x ∈ l∨x=a
 |[],_,h=>by simp at h
 |b::l,0,h=>by
  rcases List.mem_cons.1 h with h|h
  ·exact .inr h
  ·exact .inl (List.mem_cons_of_mem _ h)
 |b::l,p+1,h=>by
  rcases List.mem_cons.1 h with h|h
  ·exact .inl (h ▸ List.mem_cons_self ..)
  ·rcases mem_set h with h|h
   ·exact .inl (List.mem_cons_of_mem _ h)
   ·exact .inr h
theorem vs_ok{N:Nat}(h:Nat.blt n.1 N=true):(vecS f l p n m).ok N=true:=by
 simp only[Blk.ok,List.all_eq_true]
 intro e he
 rcases mem_set he with h1|rfl
 ·have:=Q5 (n:=N) (g:=f) (l:=l) (k:=1)
  simp only[vec,Blk.im,Blk.ok,List.all_eq_true] at this
  exact this e h1
 ·simpa[C.okL,C.ok] using h
theorem vs_no(h:idb n id=false):(vecS f l p n m).no id=true:=by
 simp only[Blk.no,List.all_eq_true]
 intro e he
 rcases mem_set he with h1|rfl
 ·have:=Blk.im_no id 1 (l.map f)
  simp only[Blk.im,Blk.no,List.all_eq_true] at this
  exact this e h1
 ·simp[C.noL,C.no,h]
theorem vs_rl{r s:Nat}(q:Nat):(vecS f l p (s,[]) m).no (r,[q])=true:=vs_no (by simp[idb,lbeq])
theorem vs_frz{β:Type}{g:β→List I}{M:List β}{k:Nat}(hm:m=M.length){a:α}(hf:f a=[.sl k (M.map g)]):Blk.frz n k (M.map g) (vecS f l p n m)=vec 1 f (l.set p a):=by
 have h:Blk.frz n k (M.map g) (vec 1 f l)=vec 1 f l:=Blk.frz_no _ (Blk.im_no _ _ _)
 subst hm
 simp only[vec,Blk.im,Blk.frz,Blk.cells.injEq,true_and] at h ⊢
 rw[List.map_set,h,List.map_set,List.map_set,hf]
 congr 1
 simp[C.frzL,C.frz,T2.2 rfl,List.take_of_length_le]
theorem FrzB.vs{X:C→C→Prop}(h:idb n id=false):FrzB id X (.one (vecS f l p n m)) (.one (vecS f l p n m)):=by
 have hno:=vs_no (f:=f) (l:=l) (p:=p) (m:=m) h
 have imm:∀e ∈ ((l.map f).map (·.map C.imm)).set p [.own n 0 m],FrzL id X e e:=fun e he=>by
  rcases mem_set he with h1|rfl
  ·simp only[List.map_map,List.mem_map,Function.comp_apply] at h1
   obtain⟨a,_,rfl⟩:=h1
   exact FrzL.imm _
  ·exact⟨.inl ⟨rfl,by simp[C.no,h]⟩,Y⟩
 unfold FrzB
 split
 ·rename_i h1 _;cases h1
 ·rename_i k1 e k2 e' h1 h2
  simp only[Ent.one.injEq,Blk.cells.injEq] at h1 h2
  obtain⟨rfl,h1⟩:=h1
  obtain⟨rfl,h2⟩:=h2
  have:e=e':=by rw[h1] at h2;simpa using h2
  subst this
  exact⟨rfl,imm e (by rw[h1];simp)⟩
 ·rename_i h1 h2
  cases h1;cases h2
  exact⟨rfl,hno⟩
 ·rename_i h1;cases h1
 ·rename_i h1 h2 h3 h4
  first|exact(h3 _ _ rfl rfl).elim|exact(h4 _ _ rfl rfl).elim|exact(h2 _ _ rfl rfl).elim
end
section
variable {P:Program}{σ0:b6}{sz:Nat}{Q:Post}{env:Env}{σv σ':b6}{ops:Array Oper}{rest:List Oper}{dst:Option Nat}{ty:Ti}{pos:String}{after:Array Edge}
variable {α β:Type}{f:α→List I}{l:List α}{p m:Nat}{n id:Id}
inductive FrzE(id:Id)(k:Nat)(es:List (List I))(X:C→C→Prop):Ent→Ent→Prop
 |old {e e':Ent} (h:FrzB id X e e'):FrzE id k es X e e'
 |vs {α:Type} {f:α→List I} {l:List α} {p m:Nat} {b:Blk} (h:Blk.frz id k es (vecS f l p id m)=b):FrzE id k es X (.one (vecS f l p id m)) (.one b)
 |any {e e':Ent} (h:∀p,(e.sub p).map (Blk.frz id k es)=e'.sub p):FrzE id k es X e e'
def FrzS2(id:Id)(k:Nat)(es:List (List I))(X:C→C→Prop):b6→b6→Prop
 |[],[]=>True
 |b::r,b'::r'=>FrzE id k es X b b'∧FrzS2 id k es X r r'
 |_,_=>False
theorem FrzE.get{k:Nat}{es:List (List I)}{X:C→C→Prop}(hX:∀c c',X c c'→c.frz id k es=c'){e e':Ent}(h:FrzE id k es X e e')(p:List Nat):(e.sub p).map (Blk.frz id k es)=e'.sub p:=by
 cases h with
 |old h=>exact FrzB.get hX h p
 |any h=>exact h p
 |vs h=>
  cases p with
  |nil=>simp only[Ent.sub,Option.map_some,h]
  |cons=>rfl
theorem FrzS2.get{k:Nat}{es:List (List I)}{X:C→C→Prop}(hX:∀c c',X c c'→c.frz id k es=c'):∀{σ σ2:b6},FrzS2 id k es X σ σ2→∀i:Id,(σ[i]?).map (Option.map (Blk.frz id k es))=σ2[i]?
 |[],[],_,i=>rfl
 |[],_::_,h,_=>h.elim
 |_::_,[],h,_=>h.elim
 |e::r,e'::r',h,(0,p)=>by
  rw[b6.at_eq,b6.at_eq]
  simp only[b6.at,List.getElem?_cons_zero,Option.map_some,FrzE.get hX h.1 p]
 |e::r,e'::r',h,(i+1,p)=>by
  have:=FrzS2.get hX h.2 (i,p)
  rw[b6.at_eq,b6.at_eq] at this ⊢
  simpa[b6.at] using this
theorem FrzS2.len{k:Nat}{es:List (List I)}{X:C→C→Prop}:∀{σ σ2:b6},FrzS2 id k es X σ σ2→σ2.length=σ.length
 |[],[],_=>rfl
 |[],_::_,h=>h.elim
 |_::_,[],h=>h.elim
 |e::r,e'::r',h=>by simp[FrzS2.len h.2]
theorem Sub.frzW{g:β→List I}{M:List β}{k:Nat}{env2:Env}{σ1 σ2:b6}(hid:Nat.ble σ0.length id.1=true)(hσ:σv[id]? =some (some (vec k g M)))(henv:U4 id (XRow id M.length (row k g M)) env env2)(h1:putF σv id none=some σ1)(hst:FrzS2 id k (M.map g) (XRow id M.length (row k g M)) σ1 σ2):Sub σ0 ⟨env,σv⟩ ⟨env2,σ2⟩:=by
 have h2:=E1 h1
 subst h2
 have hX:=XRow.eq (f:=g) (l:=M) (id:=id) (k:=k)
 have hf:=Sub.frz (σ0:=σ0) (s:=⟨env,σv⟩) id k (M.map g) (Nat.le_of_ble_eq_true hid) hσ
 have hs:Sub σ0 (St.frz ⟨env,σv⟩ id k (M.map g)) ⟨env.map fun p=>(p.1,p.2.frz id k (M.map g)),σ2⟩:=Sub.same (by rw[hst.len];simp[St.frz]) (fun i=>by rw[← FrzS2.get hX hst i,b6.get_map])
 refine(hf.trans hs).trans (fun _ _ φ _ _ _ hR=>⟨φ,{toRs:=hR.toRs,defers:=hR.defers,asize:=hR.asize,env:=fun t v ht=>hR.env t v ?_}⟩)
 show lookup t (env.map fun p=>(p.1,p.2.frz id k (M.map g)))=some v
 rw[af2 (fun v=>v.frz id k (M.map g))]
 exact U4.get hX henv t v ht
theorem S.storeS{x y:Od}{t:Ti}{bytes:Nat}{z:Vl}[hs:TyS P t 1 bytes z](hp:p<l.length)(hf:∀a,∃u,f a=[u])(hx:ev env x=some (.c (.ptr id p 0)))(hy:ev env y=some (.c (.own n 0 m)))
  (hσ:σv[id]? =some (some (vec 1 f l))) (hσ':putF σv id (some (vecS f l p n m))=some σ') (h:AOps P σ0 sz ops Q rest (St.mk env σ')):AOps P σ0 sz ops Q (⟨none,.store t x y,ty,pos,after,none⟩::rest) (St.mk env σv):=by
 have h2:=E1 hσ'
 subst h2
 obtain⟨u,hu⟩:=hf l[p]
 refine AOps.store (e:=[.imm u]) hx hy hσ ?_ (by simp) ?_
 ·simp[hp,hu]
 ·exact h
theorem S.loadS{x:Od}{t:Ti}{d:TypeDesc}[ht:TyD P t d](ha:A9 d=false)(hp:p<l.length)(hx:ev env x=some (.c (.ptr id p 0)))(hσ:σv[id]? =some (some (vecS f l p n m)))(hd:f9 sz dst=true)
  (h:AOps P σ0 sz ops Q rest (St.mk (putE env dst (.c (.own n 0 m))) σv)):AOps P σ0 sz ops Q (⟨dst,.load t x,ty,pos,after,none⟩::rest) (St.mk env σv):=
 AOps.load (e:=[.own n 0 m]) ha hx hσ (by simp[hp]) rfl hd h
theorem S.idxS{x y:Od}{t e:Ti}{bytes q:Nat}{z:Vl}{kk:IntKind}{i:Int}[ht:TyD P t (.slice e)][hs:TyS P e 1 bytes z]
  (hp:p<l.length) (hi:0≤i∧i.toNat=p) (hx:ev env x=some (.c (.own id 0 q))) (hn:q=l.length) (hσ:σv[id]? =some (some (vecS f l p n m))) (hy:ev env y=some (.c (.imm (.val (.int kk i))))) (hd:f9 sz dst=true)
  (h:AOps P σ0 sz ops Q rest (St.mk (putE env dst (.c (.ptr id p 0))) σv)):AOps P σ0 sz ops Q (⟨dst,.indexAddr t x y,ty,pos,after,none⟩::rest) (St.mk env σv):=
 .indexAddrOwn hx hσ hy (by obtain⟨h0,h1⟩:=hi;subst hn;omega) hd (by obtain⟨h0,h1⟩:=hi;rw[Nat.zero_add,h1];exact h)
theorem ix_pos{l:List α}{i:Int}{a:α}(h:ix l i=some a):0≤i∧i.toNat=i.toNat:=⟨(M2 h).1,rfl⟩
end
end Ab
end
section
namespace Ab
open Go
/-! ### What the slots hold that rounds read -/
section
variable {w:World}{φ:Phi}{σ:b6}{A:Nat→Prop}
end
section
variable {P:Program}{σ0:b6}{sz:Nat}{Q:Post}{env env':Env}{σv σ' σb:b6}{ops:Array Oper}{rest:List Oper}{dst:Option Nat}{ty:Ti}{pos:String}{after:Array Edge}
variable {szc:Nat}{ps:List Nat}{asg body:Code}{sh:List (Nat×Option Nat)}{cs:List C}
end
end Ab
end
section
namespace Ab
open Go
def DatL:List C→List I→Prop
 |[],[]=>True
 |c::r,x::s=>(c=.imm x∨c=.imm (.val (.slice none 0 0))∧∃k,x=.sl k [])∧DatL r s
 |_,_=>False
def DatLL:List (List C)→List (List I)→Prop
 |[],[]=>True
 |c::r,x::s=>DatL c x∧DatLL r s
 |_,_=>False
theorem DatL.get:∀{l:List C} {m:List I},DatL l m→l.length=m.length∧∀(i:Nat) (x:I),m[i]? =some x→∃c,l[i]? =some c∧∀{w:World} {φ:Phi} {σ:b6} {A:Nat→Prop} {u:Vl},RelC w φ σ A c u→RelI w A x u
 |[],[],_=>⟨rfl,fun i x h=>by simp at h⟩
 |[],_::_,h=>h.elim
 |_::_,[],h=>h.elim
 |c::r,x::s,⟨h1,h2⟩=>by
  obtain⟨g1,g2⟩:=DatL.get h2
  refine⟨by simp[g1],fun i y hy=> ?_⟩
  cases i with
  |zero=>
   simp only[List.getElem?_cons_zero,Option.some.injEq] at hy
   subst hy
   refine⟨c,rfl,fun {w φ σ A u} hr=> ?_⟩
   rcases h1 with rfl|⟨rfl,k,rfl⟩
   ·cases hr with|imm h=>exact h
   ·cases hr with|imm h=>cases h with|val=>exact .slNil
  |succ i=>simpa using g2 i y (by simpa using hy)
theorem DatLL.get:∀{l:List (List C)} {m:List (List I)},DatLL l m→l.length=m.length∧∀(i:Nat) (x:List I),m[i]? =some x→∃c,l[i]? =some c∧DatL c x
 |[],[],_=>⟨rfl,fun i x h=>by simp at h⟩
 |[],_::_,h=>h.elim
 |_::_,[],h=>h.elim
 |c::r,x::s,⟨h1,h2⟩=>by
  obtain⟨g1,g2⟩:=DatLL.get h2
  refine⟨by simp[g1],fun i y hy=> ?_⟩
  cases i with
  |zero=>simp only[List.getElem?_cons_zero,Option.some.injEq] at hy;subst hy;exact⟨c,rfl,h1⟩
  |succ i=>simpa using g2 i y (by simpa using hy)
section
variable {P:Program}{σ0:b6}{sz:Nat}{Q:Post}{env env':Env}{σv σ':b6}{ops:Array Oper}{rest:List Oper}{dst:Option Nat}{ty:Ti}{pos:String}{after:Array Edge}
end
end Ab
end
section
namespace Ab
open Go
section
variable {P:Program}{σ0:b6}{sz:Nat}{Q:Post}{env:Env}{σv:b6}{ops:Array Oper}{rest:List Oper}{dst:Option Nat}{ty:Ti}{pos:String}{after:Array Edge}
theorem AOps.max3{x y z:Od}{ts:Array Ti}{k:IntKind}{a1 a2 a3:Int}(h1:ev env x=some (.c (.imm (.val (.int k a1)))))(h2:ev env y=some (.c (.imm (.val (.int k a2)))))(h3:ev env z=some (.c (.imm (.val (.int k a3)))))(hd:f9 sz dst=true)
  (h:AOps P σ0 sz ops Q rest (St.mk (putE env dst (.c (.imm (.val (.int k (max (max a1 a2) a3)))))) σv)):AOps P σ0 sz ops Q (⟨dst,.call ⟨.builtin .max,#[x,y,z],ts⟩,ty,pos,after,none⟩::rest) (St.mk env σv):=
 .value rfl hd _ (fun _ _ a w hR=>⟨.int k (max (max a1 a2) a3),by
  simp[execOp,x6 hR h1,x6 hR h2,x6 hR h3,resolve,invoke,builtin,Builtin.max_,Builtin.max2]
  repeat' split
  all_goals omega,.c (.imm (.val rfl))⟩) h
end
end Ab
end
section
namespace Ab
open Go
section
variable {P:Program}{σ0:b6}{sz:Nat}{Q:Post}{env:Env}{σv:b6}{ops:Array Oper}{rest:List Oper}{dst:Option Nat}{ty:Ti}{pos:String}{after:Array Edge}
theorem AOps.makeFuncB{f:FuncId}{l:List Od}{cs:List C}(hl:evC env l=some cs)(hd:f9 sz dst=true)
  (h:AOps P σ0 sz ops Q rest (St.mk (putE env dst (.c (.fnb f cs))) σv)):AOps P σ0 sz ops Q (⟨dst,.makeFunc (.func f) l.toArray #[],ty,pos,after,none⟩::rest) (St.mk env σv):=
 .value rfl hd _ (fun Γ φ a w hR=>by
  obtain⟨g1,g2⟩:=evC_rel hR hl
  refine⟨.func (.func f) ((List.range cs.length).map fun i=>((l.map a.eval)[i]?).getD Go.undef).toArray #[],?_,.c (.fnb _ fun i c hi=> ?_)⟩
  ·have:(List.range cs.length).map (fun i=>((l.map a.eval)[i]?).getD Go.undef)=l.map a.eval:=by
    apply List.ext_getElem?
    intro i
    by_cases hi:i<l.length
    ·simp[g1,hi]
    ·simp[g1,hi]
   rw[this]
   simp[execOp,Instr.makeFunc]
  ·obtain⟨v,hv,hr⟩:=g2 i c hi
   rw[hv];exact hr) h
theorem fnb_inv{w:World}{φ:Phi}{σ:b6}{A:Nat→Prop}{f:FuncId}{caps:List C}{u:Vl}(h:RelT w φ σ A (.c (.fnb f caps)) u):∃vs:List Vl,u=.func (.func f) vs.toArray #[]∧vs.length=caps.length∧∀(i:Nat) (c:C) (v:Vl),caps[i]? =some c→vs[i]? =some v→RelC w φ σ A c v:=by
 cases h with|c h=>cases h with|fnb us hr=>
  refine⟨_,rfl,by simp,fun i c v hi hv=> ?_⟩
  rw[lM,oM] at hv
  obtain⟨j,hj,rfl⟩:=hv
  obtain⟨_,rfl⟩:=K6 hj
  exact hr i c hi
theorem call_enterB{Γ:Cx}{φ:Phi}{a:Act}{w:World}(hR:R Γ sz (St.mk env σv) φ a w){x:Od}{as':List Od}{ats:Array Ti}{f:FuncId}{caps:List C}{ts:List T}(hx:ev env x=some (.c (.fnb f caps)))(ha:evs env as'=some ts)
  (hfn : ∃ fn, P.funcs[f]? = some fn ∧ (fn.name == "runtime.NumGoroutine")=false∧fn.body.isNone=false):
  ∃vs:List Vl,(execOp a.eval ⟨dst,.call ⟨.value x,as'.toArray,ats⟩,ty,pos,after,none⟩).run P w=.ok (.enter f vs.toArray) w∧(caps.map T.c++ts).length=vs.length∧
   ∀(i:Nat) (t:T) (u:Vl),(caps.map T.c++ts)[i]? =some t→vs[i]? =some u→RelT w φ σv (Al Γ.N φ σv) t u:=by
 obtain⟨fn,h1,h2,h3⟩:=hfn
 obtain⟨cv,g1,g2,g3⟩:=fnb_inv (k7 hR hx)
 obtain⟨k1,k2⟩:=evs_rel hR ha
 refine⟨cv++as'.map a.eval,?_,by simp[k1,g2],fun i t u hi hu=> ?_⟩
 ·have h2':¬ fn.name= "runtime.NumGoroutine" :=by simpa using h2
  have h3':¬ fn.body=none:=fun e=>by rw[e] at h3;cases h3
  simp[execOp,resolve,g1,Deferred.ofValue,invoke,callFunc,h1,h2',h3']
 ·rw[List.getElem?_append] at hi hu
  by_cases hlt:i<caps.length
  ·rw[if_pos (by simpa using hlt)] at hi
   rw[if_pos (by omega)] at hu
   rw[lM,oM] at hi
   obtain⟨c,hc,rfl⟩:=hi
   exact .c (g3 i c u hc hu)
  ·rw[if_neg (by simpa using hlt)] at hi
   rw[if_neg (by omega)] at hu
   simp only[List.length_map] at hi
   rw[g2] at hu
   exact k2 _ t u hi hu
theorem AOps.callFB{x:Od}{as':List Od}{ats:Array Ti}{f:FuncId}{caps:List C}{ts:List T}{r2:T}{σ'':b6}(hx:ev env x=some (.c (.fnb f caps)))(ha:evs env as'=some ts)(hd:f9 sz dst=true)
  (hf:FnOk P f (caps.map T.c++ts) σv fun r s=>r=r2∧s=σ'') (h:AOps P σ0 sz ops Q rest (St.mk (putE env dst r2) σ'')):
  AOps P σ0 sz ops Q (⟨dst,.call ⟨.value x,as'.toArray,ats⟩,ty,pos,after,none⟩::rest) (St.mk env σv):=fun Γ φ a w hΓ hR ro=>by
  obtain⟨vs,h1,h2,h3⟩:=call_enterB (P:=P) (dst:=dst) (ty:=ty) (pos:=pos) (after:=after) (ats:=ats) hR hx ha hf.fn
  refine V2 rfl (an1 h1 ?_)
  refine(hf.run ⟨w,Γ.N,φ,σv⟩ vs rfl hR.toRs.down h2 h3).mono ?_
  rintro e w' ⟨v,r,σ',φ',rfl,⟨rfl,rfl⟩,hr,hs⟩
  exact h Γ φ' _ w' hΓ ((hR.of hs.kept (hR.toRs.up hs)).put hd hr) ro
end
/-! ### Maps whose values are structs of plain cells -/
section
variable {P:Program}{σ0:b6}{sz:Nat}{Q:Post}{env:Env}{σv σ':b6}{ops:Array Oper}{rest:List Oper}{dst:Option Nat}{ty:Ti}{pos:String}{after:Array Edge}
variable {K V:Type}[DecidableEq K]{d:TypeDesc}{fk:K→Vl}{gv:V→List Vl}
end
end Ab
end
section
namespace Ab
open Go
theorem Rs.adopt{Γ:Cx}{σ:b6}{φ:Phi}{w w':World}(h:Rs Γ σ φ w)(hos:w'.os=w.os)(ht:w'.tape=w.tape)(hdr:w.drawn≤w'.drawn)(ho:w'.output=w.output)(hs:w.heap.size≤w'.heap.size)(hold:∀b,b<w.heap.size→w'.heap[b]? =w.heap[b]?)
  {k:Nat} {es:List (List C)} {q:Option (Nat×Nat)} (hq:∀b base,q=some (b,base)→w.heap.size≤b) (hblk:∀φ σ A,BlkR w' φ σ A q (.cells k es)):
  Kept w w' φ (fun i=>if i=(σ.length,[]) then q else φ i) σ (σ++[.one (.cells k es)]) (Al Γ.N φ σ) (Al Γ.N (fun i=>if i=(σ.length,[]) then q else φ i) (σ++[.one (.cells k es)]))∧
  Rs Γ (σ++[.one (.cells k es)]) (fun i=>if i=(σ.length,[]) then q else φ i) w':=by
 generalize hφ:(fun i=>if i=(σ.length,[]) then q else φ i)=φ'
 have plo:∀i:Id,i.1<σ.length→φ' i=φ i:=fun i hi=>by
  have:i ≠ (σ.length,[]):=fun e=>by rw[e] at hi;exact Nat.lt_irrefl _ hi
  rw[← hφ];simp[this]
 have pnew:φ' (σ.length,[])=q:=by rw[← hφ];simp
 have cases2:∀(i:Id) blk,(σ++[.one (.cells k es)])[i]? =some (some blk)→(i.1<σ.length∧σ[i]? =some (some blk))∨(i=(σ.length,[])∧blk=.cells k es):=fun i blk hi=>b6.get_new hi
 have A1:∀b,Al Γ.N φ σ b→b<w.heap.size→Al Γ.N φ' (σ++[.one (.cells k es)]) b:=fun b hb hl=>⟨hb.1,fun i blk base hi hp=>by
  rcases cases2 i blk hi with⟨h1,h2⟩|⟨rfl,rfl⟩
  ·rw[plo i h1] at hp;exact hb.2 i blk base h2 hp
  ·rw[pnew] at hp;have:=hq b base hp;omega⟩
 have hK:Kept w w' φ φ' σ (σ++[.one (.cells k es)]) (Al Γ.N φ σ) (Al Γ.N φ' (σ++[.one (.cells k es)])):=
  {imm:=fun b _ hl=>hold b hl,all:=A1,len:=by simp,
   cells:=fun i kk es' hi he=>by
    rw[b6.get_left hi] at he
    exact⟨es',he,rfl,plo i hi,fun b base arr ety hp hb=>⟨arr,(hold b (Al.own_lt h.st he hp)).trans hb,rfl⟩⟩,
   obj:=fun i p' cs' hi he=>by
    rw[b6.get_left hi] at he
    exact⟨plo i hi,p',cs',he⟩}
 refine⟨hK,?_⟩
 exact {
  good:=h.good
  st:=⟨fun i b hi=>by
    rcases cases2 i b hi with⟨h1,h2⟩|⟨rfl,rfl⟩
    ·rw[plo i h1]
     exact(h.st.blk i b h2).mono hK fun g base hp=>hold g (Al.own_lt h.st h2 hp)
    ·rw[pnew]
     exact hblk _ _ _,
   fun i j bi bj p1 q1 hi hj hp hq1 he=>by
    obtain⟨pb,po⟩:=p1
    obtain⟨qb,qo⟩:=q1
    dsimp only at he
    subst he
    rcases cases2 i bi hi with⟨h1,h2⟩|⟨rfl,rfl⟩<;>rcases cases2 j bj hj with⟨g1,g2⟩|⟨rfl,rfl⟩
    ·rw[plo i h1] at hp;rw[plo j g1] at hq1
     exact h.st.inj i j bi bj _ _ h2 g2 hp hq1 rfl
    ·rw[plo i h1] at hp;rw[pnew] at hq1
     have:=Al.own_lt h.st h2 hp;have:=hq _ _ hq1;omega
    ·rw[plo j g1] at hq1;rw[pnew] at hp
     have:=Al.own_lt h.st g2 hq1;have:=hq _ _ hp;omega
    ·rfl⟩
  keep:=fun i blk b base hi hp hKb=>by
   rcases cases2 i blk hi with⟨h1,h2⟩|⟨rfl,rfl⟩
   ·rw[plo i h1] at hp;exact h.keep i blk b base h2 hp hKb
   ·rw[pnew] at hp
    have:=hq _ _ hp
    have:=hKb.1;have:=h.size;omega
  os:=hos.trans h.os
  tape:=ht.trans h.tape
  drawn:=Nat.le_trans h.drawn hdr
  output:=ho.trans h.output
  size:=Nat.le_trans h.size hs
  block:=fun b hKb=>(hold b (Nat.lt_of_lt_of_le hKb.1 h.size)).trans (h.block b hKb)
  kept:=Kept.trans h.size h.kept hK}
section
variable {P:Program}{σ0:b6}{sz:Nat}{Q:Post}{env:Env}{σv σ':b6}{ops:Array Oper}{rest:List Oper}{dst:Option Nat}{ty:Ti}{pos:String}{after:Array Edge}
theorem S.freshL{α:Type}{g:α→List I}{l:List α}{x:Od}{as':List Od}{ats:Array Ti}{f:FuncId}{caps:List C}{ts ts':List T}{k:Nat}{n:Id}(hg:∀a,((g a).map C.imm).all C.scal=true)(hx:ev env x=some (.c (.fn f caps)))(ha:evs env as'=some ts)(hl:ae7 σv (ts++caps.map T.c) ts')(hd:f9 sz dst=true)
  (hf:s7 P f ts' k (l.map g)) (hn:newF σv=some n) (hσ:w5 σv (.one (vec k g l))=some σ') (h:AOps P σ0 sz ops Q rest (St.mk (putE env dst (.c (.own n 0 l.length))) σ')):
  AOps P σ0 sz ops Q (⟨dst,.call ⟨.value x,as'.toArray,ats⟩,ty,pos,after,none⟩::rest) (St.mk env σv):=by
 have h1:=C0 hn;have h2:=s6 hσ
 subst h1 h2
 intro Γ φ a w hΓ hR ro
 obtain⟨vs,h1,h2,h3⟩:=ak6 (P:=P) (dst:=dst) (ty:=ty) (pos:=pos) (after:=after) (ats:=ats) hR hx ha hf.fn
 obtain⟨l1,l2⟩:=hl.get
 refine V2 rfl (an1 h1 ?_)
 refine(hf.run (Cx.open w) vs rfl (good_open w) (by rw[l1];exact h2) (fun i t u hi hu=> ?_)).mono ?_
 ·obtain⟨t0,ht0,hlend⟩:=l2 i t hi
  exact hlend.rel hR (al_open w) (h3 i t0 u ht0 hu)
 ·rintro e w' ⟨v,r',σ2,φ',rfl,⟨id',rfl,hid⟩,hrel,hs⟩
  have hview:=E3 hrel hid
  have hb:=hs.st.blk _ _ hid
  have hnew:∀b base,φ' id'=some (b,base)→w.heap.size≤b:=fun b base hp=>by
   have:=hs.keep id' _ b base hid hp
   rcases Nat.lt_or_ge b w.heap.size with c|c
   ·exact absurd ⟨c,fun i blk base hi=>by simp[Cx.open] at hi⟩ this
   ·exact c
  have scal:∀(j:Nat) (e:List C) (o:Nat) (y:C),((l.map g).map (·.map C.imm))[j]? =some e→e[o]? =some y→y.scal=true:=fun j e o y he hy=>by
   simp only[List.map_map,lM,oM,Function.comp_apply] at he
   obtain⟨z,_,rfl⟩:=he
   have:=List.all_eq_true.1 (hg z)
   exact this y (List.mem_of_getElem? hy)
  obtain⟨hK1,hR1⟩:=hR.toRs.adopt (w':=w') hs.os hs.tape hs.drawn hs.output hs.size (fun b hb=>hs.block b ⟨hb,fun i blk base hi=>by simp[Cx.open] at hi⟩) (k:=k) (es:=(l.map g).map (·.map C.imm)) (q:=φ' id') hnew (fun φ σ A=>by
   rcases hb with h|⟨b,base,arr,ety,p1,p2,p3,p4,p5⟩
   ·exact .inl h
   ·refine .inr ⟨b,base,arr,ety,p1,p2,p3,p4,fun j e o y he hy=> ?_⟩
    obtain⟨u,hu,hr⟩:=p5 j e o y he hy
    exact⟨u,hu,C.scal_rel (scal j e o y he hy) hr⟩)
  have hlen:(l.map g).length=l.length:=List.length_map ..
  refine h Γ _ _ w' hΓ ((hR.of hK1 hR1).put hd ?_) ro
  refine H7 (k:=k) (es:=(l.map g).map (·.map C.imm)) (b6.get_last _ _) (by cases hrel with|c hr=>exact hr.one) ?_
  rw[hlen] at hview
  simpa using hview
end
end Ab
end
section
namespace Ab
open Go
def mvr(r n:Nat)(i:Id):Id:=((match Nat.beq i.1 r with|true=>n|false=>i.1),i.2)
theorem ar5{r n:Nat}{i:Id}(h:i.1=r):mvr r n i=(n,i.2):=by
 have:Nat.beq i.1 r=true:=by rw[h];exact Nat.beq_refl r
 simp only[mvr,this]
theorem mvr_ne{r n:Nat}{i:Id}(h:i.1 ≠ r):mvr r n i=i:=by
 have:Nat.beq i.1 r=false:=af1 h
 simp only[mvr,this]
section
variable {P:Program}{σ0:b6}{sz:Nat}{Q:Post}{env env':Env}{σv σ':b6}{ops:Array Oper}{rest:List Oper}{dst:Option Nat}{ty:Ti}{pos:String}{after:Array Edge}
inductive EntR(r n:Nat)(σ:b6)(m i:Nat):Ent→Prop
 |dead:EntR r n σ m i .dead
 |one {b:Blk} (h1:b.ok m=true) (h2:σ[mvr r n (i,[])]? =some (some (b.ren (mvr r n)))):EntR r n σ m i (.one b)
 |vec {α:Type} {k:Nat} {f:α→List I} {l:List α} (h2:σ[mvr r n (i,[])]? =some (some (vec k f l))):EntR r n σ m i (.one (vec k f l))
 |mat {α:Type} {k j:Nat} {f:α→List I} {M:List (List α)} (hj:(mvr r n (i,[])).1=j) (hi:Nat.blt i m=true) (h:σ[j]? =some (mat (j,[]) k f M)):EntR r n σ m i (mat (i,[]) k f M)
 |any {e:Ent} (h:∀p b,e.sub p=some b→b.ok m=true∧σ[mvr r n (i,p)]? =some (some (b.ren (mvr r n)))):EntR r n σ m i e
def StR_(r n:Nat)(σ:b6)(m:Nat):Nat→b6→Prop
 |_,[]=>True
 |i,e::l=>EntR r n σ m i e∧StR_ r n σ m (i+1) l
theorem EntR.get{r n:Nat}{σ:b6}{m i:Nat}{e:Ent}(h:EntR r n σ m i e){p:List Nat}{b:Blk}(hb:e.sub p=some b):b.ok m=true∧σ[mvr r n (i,p)]? =some (some (b.ren (mvr r n))):=by
 cases h with
 |dead=>cases p<;>cases hb
 |one h1 h2=>cases p with
  |nil=>cases hb;exact⟨h1,h2⟩
  |cons=>cases hb
 |vec h2=>cases p with
  |nil=>cases hb;exact⟨Q5,by rw[Blk.im_ren];exact h2⟩
  |cons=>cases hb
 |@mat α k j f M hj hi h=>
  have hi':i<m:=by simpa using hi
  have e:∀q,mvr r n (i,q)=(j,q):=fun q=>by rw[← hj];rfl
  rw[e,s9 h]
  cases p with
  |nil=>
   cases hb
   refine⟨hdr_ok hi' _,?_⟩
   rw[mat_main]
   congr 2
   simp only[Blk.ren]
   congr 1
   apply List.ext_getElem?
   intro q
   rw[lM]
   simp only[hdr,List.getElem?_mapIdx,Option.map_map]
   cases M[q]? with
   |none=>rfl
   |some row=>simp[C.renL,C.ren,e]
  |cons a q=>
   rw[J4] at hb ⊢
   split at hb
   ·rename_i row hrow
    cases q with
    |cons b q=>cases hb
    |nil=>cases hb;exact⟨Q5,by rw[Blk.im_ren]⟩
   ·cases hb
 |any h=>exact h p b hb
theorem StR_.get{r n m:Nat}{σ:b6}:∀{i:Nat} {σ':b6},StR_ r n σ m i σ'→∀(j:Nat) (p:List Nat) (b:Blk),σ'[((j,p):Id)]? =some (some b)→b.ok m=true∧σ[mvr r n (i+j,p)]? =some (some (b.ren (mvr r n)))
 |_,[],_,j,p,b,h=>by simp at h
 |i,e::l,h,0,p,b,hb=>by
  rw[b6.at_eq] at hb
  simp only[b6.at,List.getElem?_cons_zero,Option.some.injEq] at hb
  exact h.1.get hb
 |i,e::l,h,j+1,p,b,hb=>by
  have:=StR_.get (i:=i+1) h.2 j p b (by
   rw[b6.at_eq] at hb ⊢
   simpa[b6.at] using hb)
  rwa [show i+1+j=i+(j+1) by omega] at this
def EnvR(r n:Nat)(env:Env):Env→Prop
 |[]=>True
 |(t,v)::l=>lookup t env=some (v.ren (mvr r n))∧EnvR r n env l
theorem EnvR.get{r n:Nat}:∀{env':Env},EnvR r n env env'→∀t v,lookup t env'=some v→lookup t env=some (v.ren (mvr r n))
 |[],_,t,v,h=>by simp[lookup] at h
 |(k,x)::l,⟨h1,h2⟩,t,v,h=>by
  simp only[lookup] at h
  split at h
  ·rename_i he;cases h;rw[← Nat.eq_of_beq_eq_true he];exact h1
  ·exact EnvR.get h2 t v h
def deadR(σ:b6)(n:Nat):Bool:=match σ[n]? with
 |some .dead=>true
 |some _=>false
 |none=>true
theorem Sub.moveM(r n:Nat)(h0:Nat.ble σ0.length r=true)(hl:Nat.ble σ0.length σ'.length=true)(hn:deadR σ' n=true)(henv:EnvR r n env env')(he:V9 σ'.length env'=true)(hst:StR_ r n σv σ'.length 0 σ'):Sub σ0 ⟨env,σv⟩ ⟨env',σ'⟩:=by
 have h0':=Nat.le_of_ble_eq_true h0
 have hd:∀(p:List Nat) b,σ'[((n,p):Id)]? ≠ some (some b):=fun p b hb=>by
  rw[b6.at_eq] at hb
  simp only[b6.at] at hb
  simp only[deadR] at hn
  split at hb
  ·rename_i e hx
   rw[hx] at hn
   cases e with
   |dead=>cases p<;>cases hb
   |one=>cases hn
   |node=>cases hn
  ·cases hb
 refine Sub.mk (mvr r n) (fun i hi=>mvr_ne (fun e=>by omega)) (Nat.le_of_ble_eq_true hl) (fun i j b b' hi hj h=> ?_) (fun i b hi=> ?_) (fun t v ht=>⟨ad4 he t v ht,henv.get t v ht⟩)
 ·by_cases h1:i.1=r<;>by_cases h2:j.1=r
  ·rw[ar5 h1,ar5 h2] at h
   exact Prod.ext (h1.trans h2.symm) (Prod.mk.inj h).2
  ·rw[ar5 h1,mvr_ne h2] at h
   subst h;exact absurd hj (hd _ _)
  ·rw[ar5 h2,mvr_ne h1] at h
   subst h;exact absurd hi (hd _ _)
  ·rwa [mvr_ne h1,mvr_ne h2] at h
 ·have:=hst.get i.1 i.2 b hi
  rwa [Nat.zero_add] at this
theorem AWP.moveM{c:Code}(r n:Nat)(h0:Nat.ble σ0.length r=true)(hl:Nat.ble σ0.length σ'.length=true)(hn:deadR σ' n=true)(henv:EnvR r n env env')(he:V9 σ'.length env'=true)(hst:StR_ r n σv σ'.length 0 σ')(h:AWP P σ0 sz c Q (St.mk env' σ')):AWP P σ0 sz c Q (St.mk env σv):=
 AWP.sub (Sub.moveM r n h0 hl hn henv he hst) h
/-! ### A row of nothing appended to rows -/
end
end Ab
end
section
namespace Ab
open Go
section
variable {P:Program}{σ0:b6}{sz:Nat}{Q:Post}{env env':Env}{σv σ':b6}
theorem Sub.virtBM{α:Type}(k:Nat)(f:α→List I){b:Id}{n kb o:Nat}{cs cs':List C}{σ1 σ3 σ4:b6}(hb:σv[b]? =some (some (.cells kb [cs])))(hc:cs[o]? =some (.imm (.val (.slice none 0 0))))(hn:newF σv=some (n,[]))(h1:w5 σv (mat (n,[]) k f [])=some σ1)
  (hs:setF cs o (.own (n,[]) 0 ([]:List (List α)).length)=some cs') (hσ':putF σ1 b (some (.cells kb [cs']))=some σ') (h3:w5 σv (.one (vec 1 (fun _:α=>([]:List I)) ([]:List α)))=some σ3) (h4:putF σ3 b (some (.cells kb [cs']))=some σ4):Sub σ0 ⟨env,σv⟩ ⟨env,σ'⟩:=by
 have g1:=C0 hn;have g2:=s6 h1;have g4:=E1 hσ'
 cases g1
 subst g2 g4
 have e3:=s6 h3;have e4:=E1 h4
 subst e3 e4
 have hbl:=b6.lt_of hb
 have hb3:(σv++[.one (vec 1 (fun _:α=>([]:List I)) ([]:List α))])[b]? =some (some (.cells kb [cs])):=by rw[b6.get_left hbl];exact hb
 refine(Sub.virtB (α:=α) 1 (fun _=>[]) hb hc hn h3 hs h4).trans (Sub.same (by simp) fun i=> ?_)
 have hbm:(σv++[mat (σv.length,[]) k f ([]:List (List α))])[b]? =some (some (.cells kb [cs])):=by rw[b6.get_left hbl];exact hb
 by_cases hi:i=b
 ·subst hi
  rw[b6.get_put_eq hb3,b6.get_put_eq hbm]
 ·rw[b6.get_put_ne hi,b6.get_put_ne hi]
  rcases Nat.lt_or_ge i.1 σv.length with hl|hl
  ·rw[b6.get_left hl,b6.get_left hl]
  ·rw[b6.get_right hl,b6.get_right hl]
   obtain⟨i1,q⟩:=i
   rw[b6.at_eq,b6.at_eq]
   simp only[b6.at]
   cases i1 - σv.length with
   |zero=>cases q<;>rfl
   |succ m=>rfl
theorem AWP.virtBM{α:Type}{c:Code}(k:Nat)(f:α→List I){b:Id}{n kb o:Nat}{cs cs':List C}{σ1 σ3 σ4:b6}(hb:σv[b]? =some (some (.cells kb [cs])))(hc:cs[o]? =some (.imm (.val (.slice none 0 0))))(hn:newF σv=some (n,[]))(h1:w5 σv (mat (n,[]) k f [])=some σ1)
  (hs:setF cs o (.own (n,[]) 0 ([]:List (List α)).length)=some cs') (hσ':putF σ1 b (some (.cells kb [cs']))=some σ') (h3:w5 σv (.one (vec 1 (fun _:α=>([]:List I)) ([]:List α)))=some σ3) (h4:putF σ3 b (some (.cells kb [cs']))=some σ4) (h:AWP P σ0 sz c Q ⟨env,σ'⟩):AWP P σ0 sz c Q ⟨env,σv⟩:=AWP.sub (Sub.virtBM k f hb hc hn h1 hs hσ' h3 h4) h
end
end Ab
end
section
namespace Ab
open Go
section
variable {P:Program}{σ0:b6}{sz:Nat}{Q:Post}{env env':Env}{σv σ':b6}{ops:Array Oper}{rest:List Oper}{dst:Option Nat}{ty:Ti}{pos:String}{after:Array Edge}
/-! ### Calls through an interface -/
class MethF (P:Program) (t:Ti) (name:String) (f:outParam FuncId) (b:outParam Bool):Prop where
 h:((P.info? t).bind fun i=>(i.methods.find? (·.name==name)).map fun m=>(m.path.toList,m.func))=some ([],some (f,b))
theorem MethF.get{t:Ti}{name:String}{f:FuncId}{b:Bool}[h:MethF P t name f b]:∃i m,P.info? t=some i∧i.methods.find? (·.name==name)=some m∧m.path=#[]∧m.func=some (f,b):=by
 obtain⟨i,h1,h2⟩:=Option.bind_eq_some_iff.1 h.h
 obtain⟨m,h3,h4⟩:=oM.1 h2
 simp only[Prod.mk.injEq] at h4
 exact⟨i,m,h1,h3,by simpa using h4.1,h4.2⟩
/-! ### Maps: how many keys -/
/-! ### Maps whose values are nothing (sets) -/
end
/-! ### A struct without fields -/
/-! ### Contracts with two kinds of ends -/
end Ab
end
section
namespace Ab
open Go
section
variable {α:Type}
/-! ### Rows and maps of pointers among other blocks -/
section
variable {K:Type}{fk:K→Vl}{r:Nat}{m:List (K×Int)}
end
end
section
variable {P:Program}{σ0:b6}{sz:Nat}{Q:Post}{env env':Env}{σv σ':b6}{ops:Array Oper}{rest:List Oper}{dst:Option Nat}{ty:Ti}{pos:String}{after:Array Edge}
/-! ### Rows of pointers -/
/-! ### Entries -/
/-! ### Maps of pointers -/
section
variable {K:Type}[DecidableEq K]{V:Type}{fk:K→Vl}{d:TypeDesc}
end
/-! ### A view becomes a row of its own -/
/-! ### Places told by their bounds alone -/
end
end Ab
end
section
namespace Ab
open Go
section
variable {K α:Type}[DecidableEq K]
variable {fk:K→Vl}{f:α→List I}{m:List (K×List α)}{r k:Nat}
end
section
variable {P:Program}{σ0:b6}{sz:Nat}{Q:Post}{env env':Env}{σv σ':b6}{ops:Array Oper}{rest:List Oper}{dst:Option Nat}{ty:Ti}{pos:String}{after:Array Edge}
variable {K α:Type}[DecidableEq K]{fk:K→Vl}{d:TypeDesc}{f:α→List I}{m:List (K×List α)}{r k:Nat}
end
end Ab
end
section
namespace Ab
open Go
section
variable {P:Program}{σ0:b6}{sz:Nat}{Q:Post}{env:Env}{σv σ':b6}{ops:Array Oper}{rest:List Oper}{dst:Option Nat}{ty:Ti}{pos:String}{after:Array Edge}
theorem AOps.eqlNil{x y:Od}{t t' e:Ti}{k:Nat}{es:List (List I)}[ht:TyD P t (.slice e)](hx:ev env x=some (.c (.imm (.sl k es))))(hy:ev env y=some (.c (.imm (.val (.slice none 0 0)))))(hd:f9 sz dst=true)
  (h1:es=[]→AOps P σ0 sz ops Q rest (St.mk (putE env dst (.c (bool true))) σv)) (h2:AOps P σ0 sz ops Q rest (St.mk (putE env dst (.c (bool false))) σv)):
  AOps P σ0 sz ops Q (⟨dst,.binOp .eql t x y t',ty,pos,after,none⟩::rest) (St.mk env σv):=fun Γ φ a w hΓ hR ro=>by
  have hrel:=k7 hR hx
  have hyv:=x6 hR hy
  generalize hu:a.eval x=u at hrel
  cases hrel with|c hrel=>cases hrel with|imm hrel=>
  cases hrel with
  |slNil=>
   have hg:(eqGuard .eql t x y (.slice none 0 0) (.slice none 0 0)).run P w=.ok () w:=rfl
   have hr:(binOp .eql t (.slice none 0 0) (.slice none 0 0)).run P w=.ok (.bool true) w:=by
    show(do pure (Value.bool (← Op.equal t (.slice none 0 0) (.slice none 0 0)))).run P w=_
    simp[run_equal_slice_nil w t e none 0 0 ht.h]
   have hrun:(execOp a.eval ⟨dst,.binOp .eql t x y t',ty,pos,after,none⟩).run P w=.ok (.value (.bool true)) w:=by
    simp[execOp,hu,hyv,hg,hr]
   exact V2 rfl (val_in hrun (h1 rfl Γ φ _ w hΓ (hR.put hd (.c (.imm (.val rfl)))) ro))
  |@sl _ _ ad cap us _ _ _ _ _=>
   have hg:(eqGuard .eql t x y (.slice (some ad) es.length cap) (.slice none 0 0)).run P w=.ok () w:=rfl
   have hr:(binOp .eql t (.slice (some ad) es.length cap) (.slice none 0 0)).run P w=.ok (.bool false) w:=by
    show(do pure (Value.bool (← Op.equal t (.slice (some ad) es.length cap) (.slice none 0 0)))).run P w=_
    simp[run_equal_slice_nil w t e (some ad) es.length cap ht.h]
   have hrun:(execOp a.eval ⟨dst,.binOp .eql t x y t',ty,pos,after,none⟩).run P w=.ok (.value (.bool false)) w:=by
    simp[execOp,hu,hyv,hg,hr]
   exact V2 rfl (val_in hrun (h2 Γ φ _ w hΓ (hR.put hd (.c (.imm (.val rfl)))) ro))
end
end Ab
end
section
namespace Ab
open Go Go.Proofs
open Tryz
def w3(s:Li):Option Li:=app 8 [] s
theorem D9{s r:Li}(h:w3 s=some r):s7 prog 76 [.c (row 1 intI s)] 1 (List.map intI r):=by
 unfold w3 at h
 unfold s7
 refine FnOk.enter (rs:=[.t 2]) func76 rfl ntmps76 results76 rfl ⟨Y,Y⟩ (by kernel_rfl) rfl ?_
 refine AWP.e ?_
 refine AWP.J ?_
 refine AOps.z rfl rfl ?_
 refine AOps.nil ?_
 refine b5 ?_
 refine AWP.e ?_
 refine AWP.e ?_
 refine AWP.J ?_
 refine AOps.u rfl rfl ?_
 refine AOps.eqlNil rfl rfl rfl (fun he=> ?_) ?_
 ·have hs:s=[]:=by simpa using he
  subst hs
  have hr:r=[]:=by
   have:=al3 h
   simpa using this.2
  subst hr
  refine AOps.nil ?_
  refine b5 ?_
  refine AWP.condT rfl ?_
  refine AWP.e ?_
  refine AWP.J ?_
  refine AOps.z rfl rfl ?_
  refine AOps.nil ?_
  refine b5 ?_
  refine AWP.virtV 1 intI 2 rfl rfl rfl ?_
  refine AWP.ret ?_
  refine e8 ?_
  exact Done.ret rfl (Fresh.mk rfl rfl)
 ·refine AOps.nil ?_
  refine b5 ?_
  refine AWP.condF rfl ?_
  refine AWP.skip ?_
  refine b5 ?_
  refine AWP.e ?_
  refine AWP.J ?_
  refine S.lit (f:=intI) (l:=[]) (ess:=[]) rfl rfl rfl rfl rfl rfl rfl Y rfl rfl rfl ?_
  refine AOps.u rfl rfl ?_
  refine S.append (f:=intI) h rfl rfl rfl rfl rfl rfl .row rfl rfl rfl rfl ?_
  refine AOps.z rfl rfl ?_
  refine AOps.nil ?_
  refine b5 ?_
  refine AWP.ret ?_
  exact Done.ret rfl (Fresh.mk rfl rfl)
end Ab
end
section
namespace Ab
open Go Go.Proofs
open Tryz
abbrev rowI(l:Li):List I:=[.sl 1 (l.map intI)]
def z6(s:LL):Option (LL):=app 24 [] s
theorem M0{s r:LL}(h:z6 s=some r):s7 prog 38 [.c (row 1 rowI s)] 1 (List.map rowI r):=by
 unfold z6 at h
 unfold s7
 refine FnOk.enter (rs:=[.t 2]) func38 rfl ntmps38 results38 rfl ⟨Y,Y⟩ (by kernel_rfl) rfl ?_
 refine AWP.e ?_
 refine AWP.J ?_
 refine AOps.z rfl rfl ?_
 refine AOps.nil ?_
 refine b5 ?_
 refine AWP.e ?_
 refine AWP.e ?_
 refine AWP.J ?_
 refine AOps.u rfl rfl ?_
 refine AOps.eqlNil rfl rfl rfl (fun he=> ?_) ?_
 ·have hs:s=[]:=by simpa using he
  subst hs
  have hr:r=[]:=by
   have:=al3 h
   simpa using this.2
  subst hr
  refine AOps.nil ?_
  refine b5 ?_
  refine AWP.condT rfl ?_
  refine AWP.e ?_
  refine AWP.J ?_
  refine AOps.z rfl rfl ?_
  refine AOps.nil ?_
  refine b5 ?_
  refine AWP.virtV 1 rowI 2 rfl rfl rfl ?_
  refine AWP.ret ?_
  refine e8 ?_
  exact Done.ret rfl (Fresh.mk rfl rfl)
 ·refine AOps.nil ?_
  refine b5 ?_
  refine AWP.condF rfl ?_
  refine AWP.skip ?_
  refine b5 ?_
  refine AWP.e ?_
  refine AWP.J ?_
  refine S.lit (f:=rowI) (l:=[]) (ess:=[]) rfl rfl rfl rfl rfl rfl rfl Y rfl rfl rfl ?_
  refine AOps.u rfl rfl ?_
  refine S.append (f:=rowI) h rfl rfl rfl rfl rfl rfl .row rfl rfl rfl rfl ?_
  refine AOps.z rfl rfl ?_
  refine AOps.nil ?_
  refine b5 ?_
  refine AWP.ret ?_
  exact Done.ret rfl (Fresh.mk rfl rfl)
end Ab
end
section
namespace Ab
open Go Go.Proofs
open Tryz
set_option maxHeartbeats 4000000
attribute [local irreducible] AWP AOps thn inB Done e9 s7 Sub
abbrev u64(n:Int):C:=.imm (.val (.int .u64 n))
theorem and32(n:Nat)(hn:n≤4294967295):Go.bits .and .u64 (n:Int) 4294967295=n:=by
 have h:=bits_and_u64_nat n 4294967295 (by omega) (by omega)
 rw[show(4294967295:Nat)=2 ^ 32 - 1 from rfl,Nat.and_two_pow_sub_one_eq_mod] at h
 rw[show((4294967295:Int))=((2 ^ 32 - 1:Nat):Int) from rfl,h]
 omega
theorem small_facts(n:Nat)(hn:n≤4294967295):Go.bits .and .u64 (n:Int) 4294967295=n∧Int.fdiv (n:Int) (2 ^ (min (32:Int).toNat (IntKind.bits .u64)))=0∧IntKind.u64.wrap (1 * (n:Int))=n∧IntKind.u64.wrap (0 * (n:Int))=0:=by
 refine⟨and32 n hn,?_,?_,?_⟩
 ·show Int.fdiv (n:Int) 4294967296=0
  rw[Int.fdiv_eq_ediv_of_nonneg _ (by omega)];omega
 ·simp only[IntKind.wrap,IntKind.bits,IntKind.signed,Bool.false_and];simp;omega
 ·simp[IntKind.wrap,IntKind.bits,IntKind.signed]
theorem am0(n:Nat)(hn:n≤4294967295):e9 prog 143 [.c (u64 1),.c (u64 n)] (.tup [.c (u64 0),.c (u64 n)]):=by
 obtain⟨f1,f2,f3,f4⟩:=small_facts n hn
 unfold e9
 refine FnOk.enter (rs:=[.t 4,.t 5]) func143 rfl ntmps143 results143 rfl ⟨Y,Y,Y⟩ (by kernel_rfl) rfl ?_
 repeat (first|refine AOps.u rfl rfl ?_|refine AOps.z rfl rfl ?_|refine AOps.nil ?_|refine AWP.e ?_|refine AWP.J ?_|refine b5 ?_|refine AOps.andE (c:=(n:Int)) rfl rfl rfl f1 ?_|refine AOps.andE (c:=1) rfl rfl rfl (by decide) ?_|refine AOps.andE (c:=0) rfl rfl rfl (by decide) ?_|refine AOps.shr (c:=0) rfl rfl rfl (by decide) (by first|exact f2|decide) ?_|refine AOps.mulE (c:=(n:Int)) rfl rfl rfl f3 ?_|refine AOps.mulE (c:=0) rfl rfl rfl (by first|exact f4|decide) ?_|refine AOps.addE (c:=0) rfl rfl rfl (by decide) ?_)
 repeat (first|refine AWP.e ?_|refine AWP.ret ?_|refine e8 ?_|refine h9 ?_|refine AWP.skip ?_|refine b5 ?_|refine d9 ?_|refine AWP.exit ?_|refine j3 ?_|refine g7 ?_|refine ah6 rfl ?_)
 exact Done.ret rfl rfl
theorem mul_ok(n:Nat)(hn:n≤4294967295):e9 prog 120 [.c (u64 1),.c (u64 n)] (.tup [.c (u64 0),.c (u64 n)]):=by
 unfold e9
 refine FnOk.enter (rs:=[.t 4,.t 5]) func120 rfl ntmps120 results120 rfl ⟨Y,Y,Y⟩ (by kernel_rfl) rfl ?_
 repeat (first|refine AWP.e ?_|refine AWP.j ?_|refine AWP.skip ?_|refine b5 ?_|refine d9 ?_|refine AWP.condT rfl ?_|refine AWP.condF rfl ?_)
 refine AWP.J ?_
 refine AOps.z rfl rfl ?_
 refine AOps.z rfl rfl ?_
 refine AOps.nil ?_
 repeat (first|refine b5 ?_|refine d9 ?_)
 repeat (first|refine AWP.e ?_|refine AWP.j ?_|refine AWP.skip ?_|refine b5 ?_|refine d9 ?_|refine AWP.condT rfl ?_|refine AWP.condF rfl ?_)
 refine AWP.J ?_
 refine AOps.u rfl rfl ?_
 refine AOps.u rfl rfl ?_
 first|refine AOps.q rfl rfl rfl rfl (am0 n hn) rfl ?_|refine AOps.q rfl rfl rfl rfl (am0 n hn) rfl ?_|refine AOps.q rfl rfl rfl rfl (am0 n hn) rfl ?_|refine AOps.q rfl rfl rfl rfl (am0 n hn) rfl ?_|refine AOps.q rfl rfl rfl rfl (am0 n hn) rfl ?_
 refine AOps.u rfl rfl ?_
 refine AOps.extract rfl rfl rfl ?_
 refine AOps.extract rfl rfl rfl ?_
 refine AOps.z rfl rfl ?_
 refine AOps.z rfl rfl ?_
 refine AOps.nil ?_
 repeat (first|refine b5 ?_|refine d9 ?_)
 repeat (first|refine AWP.e ?_|refine AWP.j ?_|refine AWP.skip ?_|refine b5 ?_|refine d9 ?_|refine AWP.condT rfl ?_|refine AWP.condF rfl ?_)
 refine AWP.J ?_
 refine AOps.u rfl rfl ?_
 refine AOps.u rfl rfl ?_
 refine AOps.z rfl rfl ?_
 refine AOps.z rfl rfl ?_
 refine AOps.nil ?_
 repeat (first|refine b5 ?_|refine d9 ?_)
 repeat (first|refine AWP.e ?_|refine AWP.ret ?_|refine e8 ?_|refine h9 ?_|refine AWP.skip ?_|refine b5 ?_|refine d9 ?_|refine AWP.exit ?_|refine j3 ?_|refine g7 ?_|refine ah6 rfl ?_)
 exact Done.ret rfl rfl
theorem wrap_facts(n:Nat)(hn:n≤4294967295):IntKind.u64.wrap (n:Int)=n∧IntKind.i64.wrap (n:Int)=n:=by
 refine⟨?_,wrap_i64 (by omega)⟩
 simp only[IntKind.wrap,IntKind.bits,IntKind.signed,Bool.false_and];simp;omega
def repC(c:Int)(n i:Nat):List (List C):=(List.range n).map fun j=>[int (if j<i then c else 0)]
theorem rep_first{c:Int}{n:Nat}(h:1≤n):(List.replicate n [C.imm (.val (.int .i64 0))]).take 0++(([c]:Li).map intI|>.map (·.map C.imm)).take 1++(List.replicate n [C.imm (.val (.int .i64 0))]).drop (0+1)=repC c n 1:=by
 apply List.ext_getElem?
 intro j
 simp only[repC,lM]
 match j with
 |0=>simp[show 0<n by omega]
 |j+1=>
  simp only[List.take_zero,List.nil_append,List.map_cons,List.map_nil,List.take_succ_cons,List.take_nil,List.cons_append,List.getElem?_cons_succ,List.getElem?_drop,List.getElem?_replicate]
  by_cases hj:j+1<n
  ·rw[if_pos (by omega),List.getElem?_range hj];simp
  ·rw[if_neg (by omega),List.getElem?_eq_none (by simp;omega)];rfl
theorem rep_more{c:Int}{n i m:Nat}(h1:m≤i)(h2:i+m≤n):(repC c n i).take (0+i)++(((repC c n i).drop 0).take i).take m++(repC c n i).drop (0+i+m)=repC c n (i+m):=by
 apply List.ext_getElem?
 intro j
 have len:(repC c n i).length=n:=by simp[repC]
 have hg:∀k j,(repC c n k)[j]? =if j<n then some [int (if j<k then c else 0)] else none:=fun k j=>by
  simp only[repC,lM]
  by_cases hj:j<n
  ·rw[List.getElem?_range hj,if_pos hj];rfl
  ·rw[List.getElem?_eq_none (by simp;omega),if_neg hj];rfl
 rw[Nat.zero_add,List.drop_zero,hg]
 rcases Nat.lt_or_ge j i with hl|hl
 ·rw[List.append_assoc,List.getElem?_append_left (by simp[len];omega),List.getElem?_take,if_pos hl,hg]
  simp[show j<n by omega,hl,show j<i+m by omega]
 ·rcases Nat.lt_or_ge j (i+m) with hl2|hl2
  ·rw[List.getElem?_append_left (by simp[len];omega),List.getElem?_append_right (by simp[len];omega),List.getElem?_take,if_pos (by simp[len];omega),List.getElem?_take,if_pos (by simp[len];omega),hg]
   have e:(List.take i (repC c n i)).length=i:=by simp[len];omega
   rw[e,if_pos (by omega),if_pos (by omega),if_pos (by omega),if_pos (by omega)]
  ·rw[List.getElem?_append_right (by simp[len];omega),List.getElem?_drop,hg]
   have e:(List.take i (repC c n i)++List.take m (List.take i (repC c n i))).length=i+m:=by simp[len];omega
   rw[e,show i+m+(j - (i+m))=j by omega]
   split
   ·rw[if_neg (by omega),if_neg (by omega)]
   ·rfl
theorem rep_full(c:Int)(n:Nat):Blk.cells 1 (repC c n n)=Blk.im 1 (List.replicate n [.val (.int .i64 c)]):=by
 rw[Blk.im,repC]
 congr 1
 apply List.ext_getElem?
 intro j
 simp only[lM,List.getElem?_replicate]
 by_cases hj:j<n
 ·rw[List.getElem?_range hj,if_pos hj];simp[hj]
 ·rw[List.getElem?_eq_none (by simp;omega),if_neg hj];rfl
theorem repeat_ok(c:Int)(n:Nat)(h1:1≤n)(hn:n≤4294967295):s7 prog 83 [.c (ints [c]),.c (int n)] 1 (List.replicate n [.val (.int .i64 c)]):=by
 obtain⟨w1,w2⟩:=wrap_facts n hn
 unfold s7
 refine FnOk.enter (rs:=[.t 4]) func83 rfl ntmps83 results83 rfl ⟨Y,Y⟩ (by kernel_rfl) rfl ?_
 repeat (first|refine AWP.e ?_|refine AWP.j ?_|refine AWP.skip ?_|refine b5 ?_|refine d9 ?_|refine AWP.condT rfl ?_|refine AWP.condF rfl ?_)
 refine AWP.J ?_
 refine AOps.z rfl rfl ?_
 refine AOps.nil ?_
 repeat (first|refine b5 ?_|refine d9 ?_)
 have hd:decide ((n:Int)<0)=false:=decide_eq_false (by omega)
 repeat (first|refine AWP.e ?_|refine AWP.j ?_|refine AWP.skip ?_|refine b5 ?_|refine d9 ?_|refine AWP.condT rfl ?_|refine AWP.condF rfl ?_)
 refine AWP.J ?_
 refine AOps.u rfl rfl ?_
 refine AOps.lss rfl rfl rfl ?_
 refine AOps.nil ?_
 repeat (first|refine b5 ?_|refine d9 ?_)
 (repeat (refine AWP.e ?_));first|refine AWP.condD rfl (fun hc=> ?_) (fun hc=> ?_)|refine AWP.condN rfl (fun hc=> ?_) (fun hc=> ?_)|refine AWP.condE rfl (fun hc=> ?_) (fun hc hc'=> ?_)|refine AWP.condB rfl (fun hc=> ?_) (fun hc=> ?_)|refine AWP.cond rfl (fun hc=> ?_) (fun hc=> ?_)
 ·omega
 repeat (first|refine AWP.skip ?_|refine b5 ?_|refine d9 ?_|refine AWP.condT rfl ?_|refine AWP.condF rfl ?_)
 repeat (first|refine AWP.e ?_|refine AWP.j ?_|refine AWP.skip ?_|refine b5 ?_|refine d9 ?_|refine AWP.condT rfl ?_|refine AWP.condF rfl ?_)
 refine AWP.J ?_
 refine AOps.u rfl rfl ?_
 first|refine AOps.lenB rfl rfl (fun _=> ?_)|refine AOps.lenOwnB rfl rfl rfl (fun _=> ?_)|refine AOps.lenNil rfl rfl ?_
 refine AOps.convE (c:=1) rfl rfl (show IntKind.u64.wrap ((1:Nat):Int)=1 by decide) ?_
 refine AOps.u rfl rfl ?_
 refine AOps.convE (c:=(n:Int)) rfl rfl w1 ?_
 first|refine AOps.q rfl rfl rfl rfl (mul_ok n hn) rfl ?_|refine AOps.q rfl rfl rfl rfl (mul_ok n hn) rfl ?_|refine AOps.q rfl rfl rfl rfl (mul_ok n hn) rfl ?_|refine AOps.q rfl rfl rfl rfl (mul_ok n hn) rfl ?_|refine AOps.q rfl rfl rfl rfl (mul_ok n hn) rfl ?_
 refine AOps.u rfl rfl ?_
 refine AOps.extract rfl rfl rfl ?_
 refine AOps.extract rfl rfl rfl ?_
 refine AOps.z rfl rfl ?_
 refine AOps.z rfl rfl ?_
 refine AOps.nil ?_
 repeat (first|refine b5 ?_|refine d9 ?_)
 have hd2:decide ((0:Int)<0)=false:=by decide
 repeat (first|refine AWP.e ?_|refine AWP.j ?_|refine AWP.skip ?_|refine b5 ?_|refine d9 ?_|refine AWP.condT rfl ?_|refine AWP.condF rfl ?_)
 refine AWP.J ?_
 refine AOps.u rfl rfl ?_
 refine AOps.gtr rfl rfl rfl ?_
 refine AOps.u rfl rfl ?_
 first|(refine AOps.guardF rfl rfl rfl (by assumption) ?_)|(refine AOps.guardSkip rfl rfl rfl ?_)|(refine AOps.F rfl rfl rfl (by assumption) ?_;refine AOps.u rfl rfl ?_)
 first|(refine AOps.guardF rfl rfl rfl (by assumption) ?_)|(refine AOps.guardSkip rfl rfl rfl ?_)|(refine AOps.F rfl rfl rfl (by assumption) ?_;refine AOps.gtr rfl rfl rfl ?_)
 first|refine AOps.pickT rfl (by assumption) rfl rfl ?_|refine AOps.pickF rfl (by assumption) rfl rfl ?_
 refine AOps.nil ?_
 repeat (first|refine b5 ?_|refine d9 ?_)
 (repeat (refine AWP.e ?_));first|refine AWP.condD rfl (fun hc=> ?_) (fun hc=> ?_)|refine AWP.condN rfl (fun hc=> ?_) (fun hc=> ?_)|refine AWP.condE rfl (fun hc=> ?_) (fun hc hc'=> ?_)|refine AWP.condB rfl (fun hc=> ?_) (fun hc=> ?_)|refine AWP.cond rfl (fun hc=> ?_) (fun hc=> ?_)
 ·omega
 repeat (first|refine AWP.skip ?_|refine b5 ?_|refine d9 ?_|refine AWP.condT rfl ?_|refine AWP.condF rfl ?_)
 repeat (first|refine AWP.e ?_|refine AWP.j ?_|refine AWP.skip ?_|refine b5 ?_|refine d9 ?_|refine AWP.condT rfl ?_|refine AWP.condF rfl ?_)
 refine AWP.J ?_
 refine AOps.u rfl rfl ?_
 refine AOps.convE (c:=(n:Int)) rfl rfl w2 ?_
 refine W.make rfl rfl rfl (by omega) (by omega) rfl rfl rfl ?_
 refine AOps.z rfl rfl ?_
 refine AOps.nil ?_
 repeat (first|refine b5 ?_|refine d9 ?_)
 repeat (first|refine AWP.e ?_|refine AWP.j ?_|refine AWP.skip ?_|refine b5 ?_|refine d9 ?_|refine AWP.condT rfl ?_|refine AWP.condF rfl ?_)
 refine AWP.J ?_
 refine AOps.u rfl rfl ?_
 refine AOps.u rfl rfl ?_
 refine AOps.copyE (m:=1) (es':=repC c n 1) rfl rfl (by omega) rfl .imm rfl (Nat.min_eq_left h1) (rep_first h1) rfl ?_
 refine AOps.z rfl rfl ?_
 refine AOps.nil ?_
 repeat (first|refine b5 ?_|refine d9 ?_)
 refine AWP.e ?_
 refine AWP.j ?_
 refine AWP.loop (X:=Nat) (fun i=>⟨[(7,.c (.own 0 0 n)),(8,.c (int i))],[.one (.cells 1 (repC c n i))]⟩) (fun i=>1≤i∧i≤n) (fun i=>n - i) 1 (Sub.env ⟨rfl,rfl,Y⟩) ⟨Nat.le_refl _,h1⟩ ?_
 rintro i ⟨i1,i2⟩
 repeat (first|refine AWP.e ?_|refine AWP.j ?_|refine AWP.skip ?_|refine b5 ?_|refine d9 ?_|refine AWP.condT rfl ?_|refine AWP.condF rfl ?_)
 refine AWP.J ?_
 refine AOps.u rfl rfl ?_
 refine AOps.u rfl rfl ?_
 first|refine AOps.lenB rfl rfl (fun _=> ?_)|refine AOps.lenOwnB rfl rfl rfl (fun _=> ?_)|refine AOps.lenNil rfl rfl ?_
 refine AOps.lss rfl rfl rfl ?_
 refine AOps.nil ?_
 repeat (first|refine b5 ?_|refine d9 ?_)
 (repeat (refine AWP.e ?_));first|refine AWP.condD rfl (fun hc=> ?_) (fun hc=> ?_)|refine AWP.condN rfl (fun hc=> ?_) (fun hc=> ?_)|refine AWP.condE rfl (fun hc=> ?_) (fun hc hc'=> ?_)|refine AWP.condB rfl (fun hc=> ?_) (fun hc=> ?_)|refine AWP.cond rfl (fun hc=> ?_) (fun hc=> ?_)
 ·have hi:i<n:=by omega
  obtain⟨m,hm⟩:∃m,m=Nat.min i (n - i):=⟨_,rfl⟩
  have hm1:1≤m:=by rw[hm];exact Nat.le_min.2 ⟨i1,by omega⟩
  have hm2:m≤i∧i+m≤n:=by
   have:=Nat.min_le_left i (n - i)
   have:=Nat.min_le_right i (n - i)
   change m=min i (n - i) at hm
   omega
  have hcm:Nat.min (((repC c n i).drop 0).take i).length (n - i)=m:=by
   rw[hm]
   congr 1
   simp[repC];omega
  have hce:(repC c n i).take (0+i)++(((repC c n i).drop 0).take i).take m++(repC c n i).drop (0+i+m)=repC c n (i+m):=rep_more hm2.1 hm2.2
  repeat (first|refine AWP.skip ?_|refine b5 ?_|refine d9 ?_|refine AWP.condT rfl ?_|refine AWP.condF rfl ?_)
  repeat (first|refine AWP.e ?_|refine AWP.j ?_|refine AWP.skip ?_|refine b5 ?_|refine d9 ?_|refine AWP.condT rfl ?_|refine AWP.condF rfl ?_)
  refine AWP.drawEI [7] mixed rfl rfl rfl ?_
  apply b8.consN;exact rfl;exact rfl;intro E
  refine AOps.u rfl rfl ?_
  exact AOps.nil ⟨rfl,rfl⟩
  exact rfl
  apply b8.consN;exact rfl;exact rfl;intro E
  refine AOps.u rfl rfl ?_
  exact AOps.nil ⟨rfl,rfl⟩
  exact rfl
  apply b8.consN;exact rfl;exact rfl;intro E
  refine AOps.u rfl rfl ?_
  exact AOps.nil ⟨rfl,rfl⟩
  exact rfl
  apply b8.consN;exact rfl;exact rfl;intro E
  first|refine AOps.sliceArrI rfl (Nat.le_of_ble_eq_true rfl) rfl rfl ?_|refine AOps.sliceOwnTo rfl rfl rfl (by omega) rfl ?_|refine AOps.sliceOwnFrom rfl rfl rfl (by omega) rfl ?_
  exact AOps.nil ⟨rfl,rfl⟩
  exact rfl
  apply b8.consN;exact rfl;exact rfl;intro E
  refine AOps.u rfl rfl ?_
  exact AOps.nil ⟨rfl,rfl⟩
  exact rfl
  apply b8.consN;exact rfl;exact rfl;intro E
  refine AOps.u rfl rfl ?_
  exact AOps.nil ⟨rfl,rfl⟩
  exact rfl
  apply b8.consN;exact rfl;exact rfl;intro E
  first|refine AOps.sliceArrI rfl (Nat.le_of_ble_eq_true rfl) rfl rfl ?_|refine AOps.sliceOwnTo rfl rfl rfl (by omega) rfl ?_|refine AOps.sliceOwnFrom rfl rfl rfl (by omega) rfl ?_
  exact AOps.nil ⟨rfl,rfl⟩
  exact rfl
  apply b8.consE;exact rfl;exact rfl;intro E
  refine AOps.copyE rfl rfl (by omega) rfl (Src.own rfl) rfl hcm hce rfl ?_
  exact AOps.nil ⟨rfl,rfl⟩
  exact rfl
  exact rfl
  apply b8.consN;exact rfl;exact rfl;intro E
  refine AOps.add rfl rfl rfl (by omega) ?_
  exact AOps.nil ⟨rfl,rfl⟩
  exact rfl
  apply b8.consN;exact rfl;exact rfl;intro E
  refine AOps.z rfl rfl ?_
  exact AOps.nil ⟨rfl,rfl⟩
  exact rfl
  refine b8.done rfl ?_ ?_
  ·apply e7.cons;exact rfl;exact rfl
   first|refine i5.skip rfl ?_|(apply i5.go;exact rfl;exact rfl;intro E;(refine AOps.u rfl rfl ?_);exact AOps.nil ⟨rfl,rfl⟩)
   first|refine i5.skip rfl ?_|(apply i5.go;exact rfl;exact rfl;intro E;(refine AOps.u rfl rfl ?_);exact AOps.nil ⟨rfl,rfl⟩)
   exact i5.nil
   apply e7.cons;exact rfl;exact rfl
   first|refine i5.skip rfl ?_|(apply i5.go;exact rfl;exact rfl;intro E;(refine AOps.u rfl rfl ?_);exact AOps.nil ⟨rfl,rfl⟩)
   first|refine i5.skip rfl ?_|(apply i5.go;exact rfl;exact rfl;intro E;(refine AOps.u rfl rfl ?_);exact AOps.nil ⟨rfl,rfl⟩)
   exact i5.nil
   apply e7.cons;exact rfl;exact rfl
   first|refine i5.skip rfl ?_|(apply i5.go;exact rfl;exact rfl;intro E;(refine AOps.u rfl rfl ?_);exact AOps.nil ⟨rfl,rfl⟩)
   first|refine i5.skip rfl ?_|(apply i5.go;exact rfl;exact rfl;intro E;(refine AOps.u rfl rfl ?_);exact AOps.nil ⟨rfl,rfl⟩)
   exact i5.nil
   apply e7.cons;exact rfl;exact rfl
   first|refine i5.skip rfl ?_|(apply i5.go;exact rfl;exact rfl;intro E;(first|refine AOps.sliceArrI rfl (Nat.le_of_ble_eq_true rfl) rfl rfl ?_|refine AOps.sliceOwnTo rfl rfl rfl (by omega) rfl ?_|refine AOps.sliceOwnFrom rfl rfl rfl (by omega) rfl ?_);exact AOps.nil ⟨rfl,rfl⟩)
   first|refine i5.skip rfl ?_|(apply i5.go;exact rfl;exact rfl;intro E;(first|refine AOps.sliceArrI rfl (Nat.le_of_ble_eq_true rfl) rfl rfl ?_|refine AOps.sliceOwnTo rfl rfl rfl (by omega) rfl ?_|refine AOps.sliceOwnFrom rfl rfl rfl (by omega) rfl ?_);exact AOps.nil ⟨rfl,rfl⟩)
   exact i5.nil
   apply e7.cons;exact rfl;exact rfl
   first|refine i5.skip rfl ?_|(apply i5.go;exact rfl;exact rfl;intro E;(refine AOps.u rfl rfl ?_);exact AOps.nil ⟨rfl,rfl⟩)
   first|refine i5.skip rfl ?_|(apply i5.go;exact rfl;exact rfl;intro E;(refine AOps.u rfl rfl ?_);exact AOps.nil ⟨rfl,rfl⟩)
   exact i5.nil
   apply e7.cons;exact rfl;exact rfl
   first|refine i5.skip rfl ?_|(apply i5.go;exact rfl;exact rfl;intro E;(refine AOps.u rfl rfl ?_);exact AOps.nil ⟨rfl,rfl⟩)
   first|refine i5.skip rfl ?_|(apply i5.go;exact rfl;exact rfl;intro E;(refine AOps.u rfl rfl ?_);exact AOps.nil ⟨rfl,rfl⟩)
   exact i5.nil
   apply e7.cons;exact rfl;exact rfl
   first|refine i5.skip rfl ?_|(apply i5.go;exact rfl;exact rfl;intro E;(first|refine AOps.sliceArrI rfl (Nat.le_of_ble_eq_true rfl) rfl rfl ?_|refine AOps.sliceOwnTo rfl rfl rfl (by omega) rfl ?_|refine AOps.sliceOwnFrom rfl rfl rfl (by omega) rfl ?_);exact AOps.nil ⟨rfl,rfl⟩)
   first|refine i5.skip rfl ?_|(apply i5.go;exact rfl;exact rfl;intro E;(first|refine AOps.sliceArrI rfl (Nat.le_of_ble_eq_true rfl) rfl rfl ?_|refine AOps.sliceOwnTo rfl rfl rfl (by omega) rfl ?_|refine AOps.sliceOwnFrom rfl rfl rfl (by omega) rfl ?_);exact AOps.nil ⟨rfl,rfl⟩)
   exact i5.nil
   refine e7.skip rfl ?_
   apply e7.cons;exact rfl;exact rfl
   first|refine i5.skip rfl ?_|(apply i5.go;exact rfl;exact rfl;intro E;(refine AOps.add rfl rfl rfl (by omega) ?_);exact AOps.nil ⟨rfl,rfl⟩)
   first|refine i5.skip rfl ?_|(apply i5.go;exact rfl;exact rfl;intro E;(refine AOps.add rfl rfl rfl (by omega) ?_);exact AOps.nil ⟨rfl,rfl⟩)
   exact i5.nil
   apply e7.cons;exact rfl;exact rfl
   first|refine i5.skip rfl ?_|(apply i5.go;exact rfl;exact rfl;intro E;(refine AOps.z rfl rfl ?_);exact AOps.nil ⟨rfl,rfl⟩)
   first|refine i5.skip rfl ?_|(apply i5.go;exact rfl;exact rfl;intro E;(refine AOps.z rfl rfl ?_);exact AOps.nil ⟨rfl,rfl⟩)
   exact i5.nil
   exact e7.nil
  dsimp only[i9]
  repeat (first|refine b5 ?_|refine d9 ?_)
  exact⟨i+m,Sub.env ⟨rfl,rfl,Y⟩,⟨by omega,by omega⟩,by omega⟩
 repeat (first|refine AWP.e ?_|refine AWP.ret ?_|refine e8 ?_|refine h9 ?_|refine AWP.skip ?_|refine b5 ?_|refine d9 ?_|refine AWP.exit ?_|refine j3 ?_|refine g7 ?_|refine ah6 rfl ?_)
 repeat (first|refine AWP.e ?_|refine AWP.j ?_|refine AWP.skip ?_|refine b5 ?_|refine d9 ?_|refine AWP.condT rfl ?_|refine AWP.condF rfl ?_)
 refine AWP.J ?_
 refine AOps.u rfl rfl ?_
 refine AOps.z rfl rfl ?_
 refine AOps.nil ?_
 repeat (first|refine b5 ?_|refine d9 ?_)
 repeat (first|refine AWP.e ?_|refine AWP.ret ?_|refine e8 ?_|refine h9 ?_|refine AWP.skip ?_|refine b5 ?_|refine d9 ?_|refine AWP.exit ?_|refine j3 ?_|refine g7 ?_|refine ah6 rfl ?_)
 have hin:i=n:=by omega
 subst hin
 refine Done.ret rfl ⟨0,by simp,?_⟩
 show some (some (Blk.cells 1 (repC c i i)))=_
 rw[rep_full]
def C4(x:Li)(n:Int):Option Li:=match x with
 |[c]=>if 1≤n∧n≤4294967295 then some (List.replicate n.toNat c) else none
 |_=>none
theorem X8{x:Li}{n:Int}{r:Li}(h:C4 x n=some r):s7 prog 83 [.c (row 1 intI x),.c (int n)] 1 (List.map intI r):=by
 unfold C4 at h
 split at h
 ·rename_i c
  split at h
  ·rename_i hn
   cases h
   have:=repeat_ok c n.toNat (by omega) (by omega)
   rw[Int.toNat_of_nonneg (by omega)] at this
   rwa [List.map_replicate]
  ·cases h
 ·cases h
end Ab
end
section
set_option linter.all false
namespace Ab
open Go Go.Proofs Go.RowKit Go.Lib
open Tryz
def spl(arr:Array Vl)(o:Nat)(cs:List Vl):Array Vl:=(arr.toList.take o++cs++arr.toList.drop (o+cs.length)).toArray
theorem ag1{arr:Array Vl}{o:Nat}{cs:List Vl}(h:o+cs.length≤arr.size):(spl arr o cs).size=arr.size:=by simp[spl];omega
theorem spl_get{arr:Array Vl}{o:Nat}{cs:List Vl}(h:o+cs.length≤arr.size)(i:Nat):(spl arr o cs)[i]? =if o≤i∧i<o+cs.length then cs[i - o]? else arr[i]? :=by
 have:=z8 arr.toList cs o i (by simpa using h)
 simpa[spl] using this
theorem ao6{P:Program}{dT sT ty e:Ti}{k bytes:Nat}{z:Vl}[ht:TyD P dT (.slice e)][hs:TyS P e k bytes z](w:World)(g o dLen dCap:Nat)(a:Addr)(sLen sCap m:Nat)(cur:Array Vl)(t:Ti)(cs:List Vl)
  (hm:Nat.min sLen dLen=m) (hg:w.heap[g]? =some (.cells cur t (0,0))) (hn:cs.length=m * k) (hsrc:∀j v,cs[j]? =some v→w.cell? (a.add j)=some v) (hfit:o+cs.length≤cur.size) (h1:∀v ∈ cs,v.oneCell'=true):
  (Builtin.copy_ #[dT,sT] ty #[.slice (some ⟨g,o,none⟩) dLen dCap,.slice (some a) sLen sCap]).run P w=.ok (goInt m) (w.setRow g (spl cur o cs)):=by
 have hf:(Builtin.firstCells k m (.slice (some a) sLen sCap)).run P w=.ok cs.toArray w:=run_firstCells_some w k m a sLen sCap cs hn hsrc
 have hst:=run_storeCells_at P g o t cs 0 cur w hg (by simpa using hfit) h1
 have hz:=p9 (P:=P) (t:=e) w
 simp[Builtin.copy_,run_underlying ht.h,hz,Builtin.lenOf,hm,hf,hst,spl]
theorem setRow_alloc(w:World)(r r':Array Vl)(e:Ti):(w.alloc (.cells r e)).setRow w.heap.size r'=w.alloc (.cells r' e):=by
 unfold World.setRow World.alloc
 congr 1
 apply Array.ext_getElem?
 intro i
 simp only[Array.getElem?_modify,Array.getElem?_push]
 by_cases h:w.heap.size=i
 ·subst h;simp
 ·rw[if_neg h,if_neg (fun e=>h e.symm),if_neg (fun e=>h e.symm)]
section
variable {P:Program}
theorem wpL_copy(w:World){ops:Array Oper}{rest:List Oper}{o:Oper}{a:Act}{Q:Exit→Act→World→Prop}(hgd:o.guard=none)(d s:Od)(t t':Ti)
  (ho:o.op=.call {callee:=.builtin .copy,args:=#[d,s],argTypes:=#[t,t']}) {v u v':Vl} {w':World} (hd:a.eval d=v) (hs:a.eval s=u) (hr:(Builtin.copy_ #[t,t'] o.type #[v,u]).run P w=.ok v' w')
  (h:wpList P ops Q rest (a.put o.dst v') w'):wpList P ops Q (o::rest) a w:=
 wpList_plain hgd fun K hK=>by
  have:(execOp a.eval o).run P w=.ok (.value v') w':=by
   simp[execOp,ho,resolve,invoke,builtin,hd,hs,hr,Result.andThen]
  unfold Oper.wp
  rw[this]
  exact hK _ _ h
theorem wpS_copy{ops:Array Oper}{o:Oper}{a:Act}{w:World}{K:Act→World→Prop}{Q:Exit→Act→World→Prop}{E:Prop}(hgd:o.guard=none)(d s:Od)(t t':Ti)
  (ho:o.op=.call {callee:=.builtin .copy,args:=#[d,s],argTypes:=#[t,t']}) {v u v':Vl} {w':World} (hd:a.eval d=v) (hs:a.eval s=u) (hr:(Builtin.copy_ #[t,t'] o.type #[v,u]).run P w=.ok v' w')
  (hK:K (a.put o.dst v') w'):if Region.wanted o (yielded ops a.tmps)=true then Oper.wp P o a w K Q else E:=by
 have hw:Region.wanted o (yielded ops a.tmps)=true:=by simp[Region.wanted,hgd]
 have:(execOp a.eval o).run P w=.ok (.value v') w':=by
  simp[execOp,ho,resolve,invoke,builtin,hd,hs,hr,Result.andThen]
 rw[if_pos hw]
 unfold Oper.wp
 rw[this]
 exact hK
end
section
set_option maxHeartbeats 4000000
set_option maxRecDepth 100000
abbrev insF:Nat:=97
abbrev choT:Nat:=102
abbrev F5:Nat:=26
theorem ins_shift(b off n c i vb voff vc:Nat)(arr varr:Array Vl)(ety vety:Ti)(cs vs:List Vl)(w:World)(hi:i<n)(hroom:n+1≤c)(hc63:c≤9223372036854775807)(hvb:vb ≠ b)
  (hb:w.heap[b]? =some (.cells arr ety (0,0))) (hv:w.heap[vb]? =some (.cells varr vety (0,0))) (hfit:off+(n+1) * 2≤arr.size)
  (hcl:cs.length=(n - i) * 2) (hvl:vs.length=1 * 2) (hcs:∀j v,cs[j]? =some v→w.cell? (⟨b,off+i * 2+j,none⟩)=some v) (hvs:∀j v,vs[j]? =some v→w.cell? ⟨vb,voff+j,none⟩=some v) (h1c:∀v ∈ cs,v.oneCell'=true) (h1v:∀v ∈ vs,v.oneCell'=true):
  Calls prog insF #[.slice (some ⟨b,off,none⟩) n c,.int .i64 i,.slice (some ⟨vb,voff,none⟩) 1 vc] w fun e w'=>
   e=.returned (.slice (some ⟨b,off,none⟩) (n+1) c)∧w'=w.drew.setRow b (spl (spl arr (off+(i+1) * 2) cs) (off+i * 2) vs):=by
 have hz2:¬ ((i:Int)=(n:Int)):=by omega
 have hov:∀lb cb,(callFunc 127 #[.slice (some ⟨vb,voff,none⟩) 1 vc,.slice (some ⟨b,off+(i+1) * 2,none⟩) lb cb]).run prog w=.ok (.value (.bool false)) w:=fun lb cb=>by
  rw[run_callFunc_extern func127 (by kernel_rfl) (by kernel_rfl) (by kernel_rfl) (e:=Extern.SlicesOverlaps.overlaps #[F5,F5] #[4]) (by kernel_rfl),
   Lib.run_overlaps_apart w F5 4 choT underlying26 2 (fun w=>p9 w) ⟨vb,voff,none⟩ ⟨b,off+(i+1) * 2,none⟩ 1 vc lb cb hvb vety ety varr.size arr.size (by simp[World.shape?,hv]) (by simp[World.shape?,hb]) (by omega) (by simp[World.frozen?,hv]) (by simp[World.frozen?,hv])]
  rfl
 have mixed:prog.follows .mixedOrders=true:=by kernel_rfl
 have u26:=run_underlying underlying26
 have hw1:IntKind.i64.wrap ((i:Int)+(1:Int))=(i:Int)+(1:Int):=by rw[IntKind.wrap_i64];omega
 have hb1:(0:Int)≤(i:Int)+(1:Int):=by omega
 have hin:i≤n:=by omega
 have htn:((i:Int)+(1:Int)).toNat=i+1:=by omega
 have hb2:¬ (c=i+1):=by omega
 have hb3:(i:Int)≤(n:Int)+(1:Int):=by omega
 have hb4:¬ (c=i):=by omega
 have hcp1:∀ty dc sc,(Builtin.copy_ #[F5,F5] ty #[.slice (some ⟨b,off+(i+1) * 2,none⟩) (n - i) dc,.slice (some ⟨b,off+i * 2,none⟩) (n+1 - i) sc]).run prog w.drew=.ok (goInt (n - i:Nat)) (w.drew.setRow b (spl arr (off+(i+1) * 2) cs)):=fun ty dc sc=>
  ao6 (e:=choT) w.drew _ _ _ _ _ _ _ _ arr ety cs (by simp only[Nat.min_def];split<;>omega) hb hcl (fun j v hj=>by rw[Addr.add_lit];exact hcs j v hj) (by omega) h1c
 have hcp2:∀ty dc,(Builtin.copy_ #[F5,F5] ty #[.slice (some ⟨b,off+i * 2,none⟩) (n+1 - i) dc,.slice (some ⟨vb,voff,none⟩) 1 vc]).run prog (w.drew.setRow b (spl arr (off+(i+1) * 2) cs))=.ok (goInt 1) ((w.drew.setRow b (spl arr (off+(i+1) * 2) cs)).setRow b (spl (spl arr (off+(i+1) * 2) cs) (off+i * 2) vs)):=fun ty dc=>
  ao6 (e:=choT) _ _ _ _ _ _ _ _ _ _ ety vs (by simp only[Nat.min_def];split<;>omega) (setRow_heap w.drew b arr _ ety (0,0) hb) hvl (fun j v hj=>by
   rw[Addr.add_lit,World.cell?_of_block (setRow_other w.drew b vb _ hvb)];exact hvs j v hj) (by rw[ag1 (by omega)];omega) h1v
 go_enter func97,ntmps97
 go_wp2_with (simp only[hov])
 go_region_law_o (refine wpS_copy rfl _ _ F5 F5 rfl (by simp[Act.eval,Act.put]) (by simp[Act.eval,Act.put]) (hcp1 _ _ _) ?_)
 go_wp2_with (at_builtin;refine wpL_copy _ rfl _ _ F5 F5 rfl rfl rfl (hcp2 _ _) ?_)
 go_ret
 exact⟨rfl,by rw[setRow_setRow]⟩
theorem ins_grow(b off n c i vb voff vc:Nat)(os cs vs:List Vl)(w:World)(hi:i<n)(hnc:n≤c)(hroom:c<n+1)(hbig:(n+1) * 32≤140737488355328)(hbw:b<w.heap.size)(hvw:vb<w.heap.size)
  (hol:os.length=i * 2) (hcl:cs.length=(n - i) * 2) (hvl:vs.length=1 * 2)
  (hos:∀j v,os[j]? =some v→w.cell? (⟨b,off+j,none⟩)=some v) (hcs:∀j v,cs[j]? =some v→w.cell? (⟨b,off+i * 2+j,none⟩)=some v) (hvs:∀j v,vs[j]? =some v→w.cell? ⟨vb,voff+j,none⟩=some v)
  (h1c:∀v ∈ cs,v.oneCell'=true) (h1v:∀v ∈ vs,v.oneCell'=true):
  Calls prog insF #[.slice (some ⟨b,off,none⟩) n c,.int .i64 i,.slice (some ⟨vb,voff,none⟩) 1 vc] w fun e w'=>
   ∃(G:Nat) (ROW:Array Vl),n+1≤G∧G≤maxLen∧ROW.size=G * 2∧(∀(j:Nat) v,os[j]? =some v→ROW[j]? =some v)∧
   e=.returned (.slice (some ⟨w.heap.size,0,none⟩) (n+1) G)∧w'=w.drew.drew.alloc (.cells (spl (spl ROW (i * 2) vs) ((i+1) * 2) cs) choT):=by
 have hz2:¬ ((i:Int)=(n:Int)):=by omega
 have hz3:(c:Int)<(n:Int)+(1:Int):=by omega
 have mixed:prog.follows .mixedOrders=true:=by kernel_rfl
 have u26:=run_underlying underlying26
 obtain⟨inf,hi1,hi2,hi3,hi4⟩:=(inferInstance:TyS prog choT 2 32 _).h
 have hkk:(n:Int)+(1:Int) - (i:Int)=((n+1 - i:Nat):Int):=by omega
 have hik:i+(n+1 - i)=n+1:=by omega
 have hold:(Builtin.firstCells inf.size i (.slice (some ⟨b,off,none⟩) i c)).run prog w.drew=.ok os.toArray w.drew:=by
  rw[hi2]
  exact run_firstCells_some w.drew 2 i ⟨b,off,none⟩ i c os hol (fun j v hj=>by
   rw[Addr.add_lit]
   exact hos j v hj)
 obtain⟨G,hG⟩:∃G,G=grownCap w (n+1) c choT:=⟨_,rfl⟩
 obtain⟨ROW,hROW⟩:∃ROW:Array Vl,ROW=os.toArray++Builtin.zeroCells (Value.agg #[.slice none 0 0,.int .i64 0]).cells (n+1 - i)++Builtin.zeroCells (Value.agg #[.slice none 0 0,.int .i64 0]).cells (G - (n+1)):=⟨_,rfl⟩
 have hGn:n+1≤G:=by rw[hG];exact grownCap_ge w _ _ _
 have hGm:G≤maxLen:=by
  rw[hG]
  exact grownCap_le_maxLen w (n+1) c choT (by unfold maxLen;omega)
 have hG63:G≤9223372036854775807:=hGm
 have hRl:ROW.size=G * 2:=by
  rw[hROW]
  simp[Builtin.zeroCells,Value.cells,hol]
  omega
 have hRo:∀(j:Nat) v,os[j]? =some v→ROW[j]? =some v:=fun j v hj=>by
  rw[hROW,Array.append_assoc,Array.getElem?_append_left (by simpa using(lG.1 hj).1)]
  simpa using hj
 have hrz:∀ty,(Builtin.append_ #[F5,3] ty #[.slice (some ⟨b,off,none⟩) i c,.int .i64 ((n:Int)+(1:Int) - (i:Int))]).run prog w=
   .ok (.slice (some ⟨w.heap.size,0,none⟩) (n+1) G) (w.drew.alloc (.cells ROW choT)):=fun ty=>by
  have h:=Lib.run_append_grow_zeros w F5 3 ty choT inf _ .i64 .i64 underlying26 underlying3 hi1 hi4 (some ⟨b,off,none⟩) i c os hold (n+1 - i) (by omega) (by omega) (by omega) (by omega) (by rw[hi3];omega) (by rw[hi3,hik];exact growslice_fits hroom hbig)
  rw[hik,← hG] at h
  rw[hkk,hROW]
  exact h
 have hci:¬ (c=i):=by omega
 have hGi:¬ (G=i):=by omega
 have hGim:¬ (G=i+1):=by omega
 have hw1:IntKind.i64.wrap ((i:Int)+(1:Int))=(i:Int)+(1:Int):=by rw[IntKind.wrap_i64];omega
 have hb1:(0:Int)≤(i:Int)+(1:Int):=by omega
 have hin:i≤n:=by omega
 have htn:((i:Int)+(1:Int)).toNat=i+1:=by omega
 have hb3:(i:Int)≤(n:Int):=by omega
 have hcpA:∀ty dc,(Builtin.copy_ #[F5,F5] ty #[.slice (some ⟨w.heap.size,i * 2,none⟩) (n+1 - i) dc,.slice (some ⟨vb,voff,none⟩) 1 vc]).run prog (w.alloc (.cells ROW choT)).drew=.ok (goInt 1) ((w.alloc (.cells ROW choT)).drew.setRow w.heap.size (spl ROW (i * 2) vs)):=fun ty dc=>
  ao6 (e:=choT) _ _ _ _ _ _ _ _ _ ROW choT vs (by simp only[Nat.min_def];split<;>omega) (heap_alloc_new w.drew _) hvl (fun j v hj=>by
   rw[Addr.add_lit,World.cell?_of_block (show(w.alloc (.cells ROW choT)).drew.heap[vb]? =w.heap[vb]? from by first|exact heap_alloc_old w.drew _ hvw|exact heap_alloc_old w.drew _ _ hvw)];exact hvs j v hj) (by omega) h1v
 have hcpB:∀ty dc sc,(Builtin.copy_ #[F5,F5] ty #[.slice (some ⟨w.heap.size,(i+1) * 2,none⟩) (n - i) dc,.slice (some ⟨b,off+i * 2,none⟩) (n - i) sc]).run prog ((w.alloc (.cells ROW choT)).drew.setRow w.heap.size (spl ROW (i * 2) vs)).drew=.ok (goInt (n - i:Nat)) (((w.alloc (.cells ROW choT)).drew.setRow w.heap.size (spl ROW (i * 2) vs)).drew.setRow w.heap.size (spl (spl ROW (i * 2) vs) ((i+1) * 2) cs)):=fun ty dc sc=>
  ao6 (e:=choT) _ _ _ _ _ _ _ _ _ (spl ROW (i * 2) vs) choT cs (by simp only[Nat.min_def];split<;>omega) (setRow_heap _ _ ROW _ choT (0,0) (heap_alloc_new w.drew _)) hcl (fun j v hj=>by
   rw[Addr.add_lit,World.cell?_of_block (show((w.drew.alloc (.cells ROW choT)).setRow w.heap.size (spl ROW (i * 2) vs)).drew.heap[b]? =w.heap[b]? from(setRow_other _ w.heap.size b _ (by omega)).trans (by first|exact heap_alloc_old w.drew _ hbw|exact heap_alloc_old w.drew _ _ hbw))];exact hcs j v hj) (by rw[ag1 (by omega)];omega) h1c
 clear hkk hik hold hG hROW
 go_enter func97,ntmps97
 go_wp2_with (first
  |(at_builtin;refine Lib.wpList_append_run _ rfl _ _ _ _ rfl _ _ rfl rfl _ _ (hrz _) ?_)
  |(at_builtin;refine wpL_copy _ rfl _ _ F5 F5 rfl rfl rfl (hcpA _ _) ?_))
 go_region_law_o (refine wpS_copy rfl _ _ F5 F5 rfl (by simp[Act.eval,Act.put]) (by simp[Act.eval,Act.put]) (hcpB _ _ _) ?_)
 go_wp2
 go_ret
 refine⟨G,ROW,hGn,hGm,hRl,hRo,rfl,?_⟩
 exact(setRow_setRow (w.alloc (.cells ROW choT)).drew.drew w.heap.size (spl ROW (i * 2) vs) (spl (spl ROW (i * 2) vs) ((i+1) * 2) cs)).trans (setRow_alloc w.drew.drew ROW (spl (spl ROW (i * 2) vs) ((i+1) * 2) cs) choT)
theorem ins_end(base:Option Addr)(n c:Nat)(vv r:Vl)(w w':World)(hvv:∃b cv,vv=.slice b 1 cv)(hrun:∀ty,(Builtin.append_ #[F5,F5] ty #[.slice base n c,vv]).run prog w=.ok r w')(hnc:n≤c):
  Calls prog insF #[.slice base n c,.int .i64 n,vv] w fun e w2=>e=.returned r∧w2=w':=by
 obtain⟨vb,vc,rfl⟩:=hvv
 have mixed:prog.follows .mixedOrders=true:=by kernel_rfl
 have u26:=run_underlying underlying26
 go_enter func97,ntmps97
 cases base with
 |none=>
  go_wp2_with (at_builtin;refine Lib.wpList_append_run _ rfl _ _ _ _ rfl _ _ rfl rfl _ _ (hrun _) ?_)
  all_goals (go_ret;exact⟨rfl,rfl⟩)
 |some a=>
  obtain⟨ab,ao,asp⟩:=a
  go_wp2_with (at_builtin;refine Lib.wpList_append_run _ rfl _ _ _ _ rfl _ _ rfl rfl _ _ (hrun _) ?_)
  all_goals (go_ret;exact⟨rfl,rfl⟩)
end
structure Rw(w:World)(φ:Phi)(σ:b6)(A:Nat→Prop)(k:Nat)(es:List (List C))(us:List Vl):Prop where
 len:us.length=es.length * k
 hk:∀(j:Nat) (e:List C),es[j]? =some e→e.length=k
 rel:∀(j:Nat) (e:List C) (o:Nat) (x:C),es[j]? =some e→e[o]? =some x→∃u,us[j * k+o]? =some u∧RelC w φ σ A x u
theorem ab8.rw{w:World}{φ:Phi}{σ:b6}{A:Nat→Prop}{k:Nat}{es:List (List C)}{b:Option Addr}{us:List Vl}(h:ab8 w φ σ A k es b us):Rw w φ σ A k es us:=⟨h.len,h.hk,h.rel⟩
section
variable {w:World}{φ:Phi}{σ:b6}{A:Nat→Prop}{k:Nat}{es es2:List (List C)}{us us2:List Vl}
theorem Rw.append(h:Rw w φ σ A k es us)(g:Rw w φ σ A k es2 us2):Rw w φ σ A k (es++es2) (us++us2):=by
 refine⟨by rw[List.length_append,List.length_append,h.len,g.len,Nat.add_mul],fun j e he=> ?_,fun j e o x he hx=> ?_⟩
 ·rw[List.getElem?_append] at he
  split at he
  ·exact h.hk j e he
  ·exact g.hk _ e he
 ·rw[List.getElem?_append] at he
  split at he
  ·obtain⟨u,hu,hr⟩:=h.rel j e o x he hx
   exact⟨u,by rw[List.getElem?_append_left (lG.1 hu).1];exact hu,hr⟩
  ·rename_i hj
   obtain⟨u,hu,hr⟩:=g.rel _ e o x he hx
   have hl:=h.len
   have hm:es.length * k≤j * k:=Nat.mul_le_mul_right k (by omega)
   refine⟨u,?_,hr⟩
   rw[List.getElem?_append_right (by omega),hl]
   rw[Nat.sub_mul] at hu
   rw[← hu];congr 1;omega
theorem Rw.take(h:Rw w φ σ A k es us)(i:Nat)(hi:i≤es.length):Rw w φ σ A k (es.take i) (us.take (i * k)):=by
 have hl:=h.len
 have hm:i * k≤es.length * k:=Nat.mul_le_mul_right k hi
 refine⟨by rw[List.length_take,List.length_take,Nat.min_eq_left hi,Nat.min_eq_left (by omega)],fun j e he=> ?_,fun j e o x he hx=> ?_⟩
 ·rw[List.getElem?_take] at he
  split at he
  ·exact h.hk j e he
  ·cases he
 ·rw[List.getElem?_take] at he
  split at he
  ·rename_i hj
   obtain⟨u,hu,hr⟩:=h.rel j e o x he hx
   have:=h.hk j e he
   have:=(lG.1 hx).1
   have hm2:(j+1) * k≤i * k:=Nat.mul_le_mul_right k hj
   rw[Nat.add_mul] at hm2
   exact⟨u,by rw[List.getElem?_take,if_pos (by omega)];exact hu,hr⟩
  ·cases he
theorem Rw.drop(h:Rw w φ σ A k es us)(i:Nat)(hi:i≤es.length):Rw w φ σ A k (es.drop i) (us.drop (i * k)):=by
 have hl:=h.len
 refine⟨by rw[List.length_drop,List.length_drop,hl,Nat.sub_mul],fun j e he=> ?_,fun j e o x he hx=> ?_⟩
 ·rw[List.getElem?_drop] at he
  exact h.hk _ e he
 ·rw[List.getElem?_drop] at he
  obtain⟨u,hu,hr⟩:=h.rel _ e o x he hx
  refine⟨u,?_,hr⟩
  rw[List.getElem?_drop,← hu,Nat.add_mul,Nat.add_assoc]
theorem Rw.mono{w':World}{φ':Phi}{σ':b6}{A':Nat→Prop}(H:Kept w w' φ φ' σ σ' A A')(h:Rw w φ σ A k es us):Rw w' φ' σ' A' k es us:=
 ⟨h.len,h.hk,fun j e o x he hx=>let ⟨u,hu,hr⟩:=h.rel j e o x he hx; ⟨u,hu,hr.mono H⟩⟩
end
theorem ins_lists{α:Type}{f:α→List I}{l:List α}{x:α}{i:Nat}:(((l.map f).map (·.map C.imm)).take i++(([x].map f).map (·.map C.imm))++((l.map f).map (·.map C.imm)).drop i)=((l.take i++x::l.drop i).map f).map (·.map C.imm):=by
 simp[List.map_take,List.map_drop]
set_option maxRecDepth 100000 in
theorem ins_fn{α:Type}{f:α→List I}{σ:b6}{id id2:Id}{l:List α}{x:α}{i:Int}(hσ:σ[id]? =some (some (vec 2 f l)))(hσ2:σ[id2]? =some (some (vec 2 f [x])))(hne:id2 ≠ id)(hb:(l.length+1) * 32≤140737488355328)(h0:0≤i)(h1:i≤l.length):
  FnOk prog insF [.c (.own id 0 l.length),.c (int i),.c (.own id2 0 1)] σ fun r σ'=>r=.c (.own (σ.length,[]) 0 (l.take i.toNat++x::l.drop i.toNat).length)∧σ'=σ.put id none++[.one (vec 2 f (l.take i.toNat++x::l.drop i.toNat))]:=by
 refine⟨⟨_,func97,rfl,rfl⟩,fun Γ vs hΓ hG hlen hrel=> ?_⟩
 subst hΓ
 match vs,hlen with
 |[u,iv,v],_=>
 have hu:=E3 (hrel 0 _ u rfl rfl) hσ
 have hv:=E3 (hrel 2 _ v rfl rfl) hσ2
 have hiv:iv=.int .i64 i:=by
  have h:=hrel 1 _ iv rfl rfl
  cases h with|c h=>cases h with|imm h=>cases h with|val=>rfl
 subst hiv
 obtain⟨ni,rfl⟩:∃ni:Nat,i=ni:=⟨i.toNat,by omega⟩
 have hR:R Γ 3 ⟨[(0,.c (.own id 0 l.length)),(1,.c (int ni)),(2,.c (.own id2 0 1))],Γ.σ0⟩ Γ.φ0 ⟨#[u,.int .i64 ni,v],[]⟩ Γ.w0:=
  {toRs:=Rs.refl hG,defers:=.nil,asize:=rfl,env:=fun t x hx=>by
    simp only[lookup] at hx
    split at hx
    ·rename_i e;cases hx
     have:=Nat.eq_of_beq_eq_true e;subst this
     exact⟨u,rfl,hrel 0 _ u rfl rfl⟩
    ·split at hx
     ·rename_i e;cases hx
      have:=Nat.eq_of_beq_eq_true e;subst this
      exact⟨_,rfl,hrel 1 _ _ rfl rfl⟩
     ·split at hx
      ·rename_i e;cases hx
       have:=Nat.eq_of_beq_eq_true e;subst this
       exact⟨v,rfl,hrel 2 _ v rfl rfl⟩
      ·cases hx}
 have vlen:∀{m:List α},((m.map f).map (·.map C.imm)).length=m.length:=by simp
 have nlen:(l.take ni++x::l.drop ni).length=l.length+1:=by simp;omega
 simp only[Int.toNat_natCast] at *
 rw[nlen]
 by_cases hend:ni=l.length
 · -- at the end
  subst hend
  obtain⟨v',w',φ',g1,g2,g3⟩:=append_R (P:=prog) (t:=F5) (e:=choT) (ty:=0) (x:=.tmp 0) (y:=.tmp 2) (new:=([x].map f).map (·.map C.imm)) rfl rfl rfl hσ rfl (by
   have h:=Src.own (j:=0) (n:=1) hσ2
   rwa [List.drop_zero,List.take_of_length_le (by simp)] at h) (by simpa using hb) hR
  obtain⟨b0,cap0,us0,hx1,_,_⟩:=Q3 hR hσ hu
  obtain⟨b2,cap2,us2,hy1,_,_⟩:=Q3 hR hσ2 hv
  have hnc:l.length≤cap0:=by
   rcases hu with⟨_,h2,_,h4⟩|⟨_,_,cap,_,_,_,_,h2,_,h3,_⟩
   ·rw[hx1] at h2;injection h2 with q1 q2 q3;omega
   ·rw[hx1] at h2;injection h2 with q1 q2 q3;omega
  have e1:(⟨#[u,.int .i64 (l.length:Int),v],[]⟩:Act).eval (.tmp 0)=u:=rfl
  have e2:(⟨#[u,.int .i64 (l.length:Int),v],[]⟩:Act).eval (.tmp 2)=v:=rfl
  rw[e1,e2,hx1] at g1
  have hc:=ins_end b0 l.length cap0 v v' Γ.w0 w' ⟨b2,cap2,hy1⟩ (fun _=>g1) hnc
  rw[hx1]
  refine hc.mono ?_
  rintro e w2 ⟨rfl,rfl⟩
  have e3:=ins_lists (f:=f) (l:=l) (x:=x) (i:=l.length)
  have e4:((((l.map f).map (·.map C.imm)).drop 0).take l.length++([x].map f).map (·.map C.imm))=((l.take l.length++x::l.drop l.length).map f).map (·.map C.imm):=by
   rw[← e3,List.drop_zero,List.drop_of_length_le (by simp),List.append_nil]
  have e5:l.length+(([x].map f).map (·.map C.imm)).length=l.length+1:=by simp
  rw[e4] at g2 g3
  rw[e5] at g2
  exact⟨v',.c (.own (Γ.σ0.length,[]) 0 (l.length+1)),_,φ',rfl,⟨rfl,rfl⟩,g2,g3.toRs⟩
 ·have hi:ni<l.length:=by omega
  obtain⟨b0,cap0,us0,hx1,hx2,hx3⟩:=Q3 hR hσ hu
  obtain⟨b2,cap2,us2,hy1,hy2,hy3⟩:=Q3 hR hσ2 hv
  rcases hu with⟨_,_,_,h4⟩|⟨b,base,cap,arr,ety,ad,hp,hvv,had,hcap,hmax,hjn,hbk,hsz⟩
  ·omega
  rcases hv with⟨_,_,_,h4⟩|⟨c2,base2,cap2',arr2,ety2,ad2,hp2,hvv2,had2,hcap2,hmax2,hjn2,hbk2,hsz2⟩
  ·omega
  rw[hx1] at hvv;cases hvv
  rw[hy1] at hvv2;cases hvv2
  have:=had (by omega);subst this
  have:=had2 (by omega);subst this
  simp only[Nat.zero_mul,Nat.add_zero,Nat.zero_add,vlen,List.drop_zero] at *
  have hvb:c2 ≠ b:=fun e=>hne (hR.st.inj id2 id _ _ _ _ hσ2 hσ hp2 hp (by simpa using e))
  have r1:Rw Γ.w0 Γ.φ0 Γ.σ0 (Al Γ.N Γ.φ0 Γ.σ0) 2 ((l.map f).map (·.map C.imm)) us0:=by
   have:=hx3.rw
   rwa [List.take_of_length_le (by simp)] at this
  have r2:Rw Γ.w0 Γ.φ0 Γ.σ0 (Al Γ.N Γ.φ0 Γ.σ0) 2 (([x].map f).map (·.map C.imm)) us2:=by
   have:=hy3.rw
   rwa [List.take_of_length_le (by simp)] at this
  have r3:=((r1.take ni (by simp;omega)).append r2).append (r1.drop ni (by simp;omega))
  rw[ins_lists] at r3
  have u0l:us0.length=l.length * 2:=by rw[r1.len];simp
  have u2l:us2.length=1 * 2:=by rw[r2.len];simp
  have cellA:∀j v,us0[j]? =some v→Γ.w0.cell? ⟨b,base+j,none⟩=some v:=fun j v hj=>by
   have:=hx3.cell _ rfl j v hj
   rwa [Addr.add_lit] at this
  have cellB:∀j v,us2[j]? =some v→Γ.w0.cell? ⟨c2,base2+j,none⟩=some v:=fun j v hj=>by
   have:=hy3.cell _ rfl j v hj
   rwa [Addr.add_lit] at this
  have one1:∀v ∈ us0,v.oneCell'=true:=hx3.one
  have one2:∀v ∈ us2,v.oneCell'=true:=hy3.one
  have hdl:(us0.drop (ni * 2)).length=(l.length - ni) * 2:=by rw[List.length_drop,u0l,Nat.sub_mul]
  have htl:(us0.take (ni * 2)).length=ni * 2:=by rw[List.length_take];omega
  have cellD:∀j v,(us0.drop (ni * 2))[j]? =some v→Γ.w0.cell? ⟨b,base+ni * 2+j,none⟩=some v:=fun j v hj=>by
   rw[List.getElem?_drop] at hj
   rw[Nat.add_assoc];exact cellA _ v hj
  have hids:id.1<Γ.σ0.length:=b6.lt_of hσ
  rw[hx1,hy1]
  by_cases hroom:l.length+1≤cap0
  · -- room
   have hc:=ins_shift b base l.length cap0 ni c2 base2 cap2 arr arr2 ety ety2 (us0.drop (ni * 2)) us2 Γ.w0 hi hroom (by unfold maxLen at hmax;omega) hvb hbk hbk2 (by omega) hdl u2l cellD cellB (fun v hv=>one1 v (List.mem_of_mem_drop hv)) one2
   refine hc.mono ?_
   rintro e w2 ⟨rfl,rfl⟩
   have hK0:=Kept.drew Γ.w0 Γ.φ0 Γ.σ0 (Al Γ.N Γ.φ0 Γ.σ0)
   have s1:(spl arr (base+(ni+1) * 2) (us0.drop (ni * 2))).size=arr.size:=ag1 (by omega)
   have s2:(spl (spl arr (base+(ni+1) * 2) (us0.drop (ni * 2))) (base+ni * 2) us2).size=arr.size:=by rw[ag1 (by omega),s1]
   have hO:=Rs.reown (k:=2) (base':=base) (es':=((l.take ni++x::l.drop ni).map f).map (·.map C.imm)) (arr':=spl (spl arr (base+(ni+1) * 2) (us0.drop (ni * 2))) (base+ni * 2) us2) hR.toRs.drew hσ hp hbk (r3.hk) (by rw[s2];simp only[List.length_map,nlen];omega) (fun j e o y he hy=>by
    obtain⟨uu,hu,hr⟩:=r3.rel j e o y he hy
    refine⟨uu,?_,hr.mono hK0⟩
    have hlt:=(lG.1 hu).1
    simp only[List.length_append,htl,hdl,u2l] at hlt
    rw[spl_get (by omega),spl_get (by omega)]
    by_cases c1:j * 2+o<ni * 2
    ·rw[if_neg (by omega),if_neg (by omega)]
     rw[List.append_assoc,List.getElem?_append_left (by omega),List.getElem?_take,if_pos c1] at hu
     have:=cellA _ _ hu
     rw[O9 hbk] at this
     simpa using this
    ·by_cases c2:j * 2+o<ni * 2+2
     ·rw[if_pos (by omega)]
      rw[List.append_assoc,List.getElem?_append_right (by omega),List.getElem?_append_left (by omega),htl] at hu
      rw[← hu];congr 1;omega
     ·rw[if_neg (by omega),if_pos (by omega)]
      rw[List.getElem?_append_right (by simp[htl,u2l];omega)] at hu
      rw[← hu]
      simp only[List.length_append,htl,u2l]
      congr 1;omega)
   refine⟨_,_,_,_,rfl,⟨rfl,rfl⟩,?_,hO.2⟩
   refine H7 (k:=2) (es:=((l.take ni++x::l.drop ni).map f).map (·.map C.imm)) (by rw[← b6.length_put Γ.σ0 id none];exact b6.get_last _ _) rfl (.inr ⟨b,base,cap0,_,ety,⟨b,base,none⟩,by simp,rfl,fun _=>by simp,hroom,hmax,by simp only[List.length_map,nlen];omega,setRow_heap Γ.w0.drew b arr _ ety (0,0) hbk,by rw[s2];omega⟩)
  ·have hc:=ins_grow b base l.length cap0 ni c2 base2 cap2 (us0.take (ni * 2)) (us0.drop (ni * 2)) us2 Γ.w0 hi hcap (by omega) hb (hR.toRs.blk_lt hσ hp) (hR.toRs.blk_lt hσ2 hp2) htl hdl u2l (fun j v hj=>by
    rw[List.getElem?_take] at hj
    split at hj
    ·exact cellA _ v hj
    ·cases hj) cellD cellB (fun v hv=>one1 v (List.mem_of_mem_drop hv)) one2
   refine hc.mono ?_
   rintro e w2 ⟨G,ROW,g1,g2,g3,g4,rfl,rfl⟩
   obtain⟨hK1,hR1⟩:=hR.toRs.drew.drew.kill id
   have hK0:Kept Γ.w0 Γ.w0.drew.drew Γ.φ0 Γ.φ0 Γ.σ0 Γ.σ0 (Al Γ.N Γ.φ0 Γ.σ0) (Al Γ.N Γ.φ0 Γ.σ0):=Kept.trans (show Γ.w0.heap.size≤Γ.w0.drew.heap.size from Nat.le_refl _) (Kept.drew Γ.w0 Γ.φ0 Γ.σ0 _) (Kept.drew Γ.w0.drew Γ.φ0 Γ.σ0 _)
   have hK01:=Kept.trans (show Γ.w0.heap.size≤Γ.w0.drew.drew.heap.size from Nat.le_refl _) hK0 hK1
   have s1:(spl ROW (ni * 2) us2).size=G * 2:=by rw[ag1 (by omega)];exact g3
   have s2:(spl (spl ROW (ni * 2) us2) ((ni+1) * 2) (us0.drop (ni * 2))).size=G * 2:=by rw[ag1 (by omega),s1]
   have hA:=Rs.alloc (k:=2) (es:=((l.take ni++x::l.drop ni).map f).map (·.map C.imm)) (arr:=spl (spl ROW (ni * 2) us2) ((ni+1) * 2) (us0.drop (ni * 2))) (ety:=choT) hR1 r3.hk (by rw[s2];simp only[List.length_map,nlen];omega) (fun j e o y he hy=>by
    obtain⟨uu,hu,hr⟩:=r3.rel j e o y he hy
    refine⟨uu,?_,hr.mono hK01⟩
    have hlt:=(lG.1 hu).1
    simp only[List.length_append,htl,hdl,u2l] at hlt
    rw[spl_get (by omega),spl_get (by omega)]
    by_cases c1:j * 2+o<ni * 2
    ·rw[if_neg (by omega),if_neg (by omega)]
     rw[List.append_assoc,List.getElem?_append_left (by omega)] at hu
     exact g4 _ _ hu
    ·by_cases c2:j * 2+o<ni * 2+2
     ·rw[if_neg (by omega),if_pos (by omega)]
      rw[List.append_assoc,List.getElem?_append_right (by omega),List.getElem?_append_left (by omega),htl] at hu
      exact hu
     ·rw[if_pos (by omega)]
      rw[List.getElem?_append_right (by simp[htl,u2l];omega)] at hu
      rw[← hu]
      simp only[List.length_append,htl,u2l]
      congr 1;omega)
   rw[b6.length_put] at hA
   refine⟨_,_,_,_,rfl,⟨rfl,rfl⟩,?_,hA.2⟩
   refine H7 (k:=2) (es:=((l.take ni++x::l.drop ni).map f).map (·.map C.imm)) (by rw[← b6.length_put Γ.σ0 id none];exact b6.get_last _ _) rfl (.inr ⟨Γ.w0.heap.size,0,G,_,choT,⟨Γ.w0.heap.size,0,none⟩,by simp[o9],rfl,fun _=>by simp,g1,g2,by simp only[List.length_map,nlen];omega,heap_alloc_new Γ.w0.drew.drew _,by rw[s2];omega⟩)
end Ab
end
section
namespace Ab
open Go Go.Proofs
open Tryz
def insL{α:Type}(l:List α)(i:Int)(x:α):Option (List α):=if 0≤i∧i≤l.length∧(l.length+1) * 32≤140737488355328 then some (l.take i.toNat++x::l.drop i.toNat) else none
section
variable {σ0:b6}{sz:Nat}{Q:Post}{env:Env}{σv σ':b6}{ops:Array Oper}{rest:List Oper}{dst:Option Nat}{ty:Ti}{pos:String}{after:Array Edge}
theorem S.insert{α:Type}{f:α→List I}{x:Od}{al:List Od}{ats:Array Ti}{id id2 n':Id}{n m:Nat}{i:Int}{l l':List α}{y:α}{σ1:b6}(hl:insL l i y=some l')(hx:ev env x=some (.c (.fn insF [])))
  (ha:evs env al=some [.c (.own id 0 n),.c (int i),.c (.own id2 0 m)]) (hn:n=l.length) (hm:m=1) (hne:(id2.1==id.1)=false) (hσ:σv[id]? =some (some (vec 2 f l))) (hσ2:σv[id2]? =some (some (vec 2 f [y])))
  (hd:f9 sz dst=true) (hid:newF σv=some n') (h1:putF σv id none=some σ1) (hσ':w5 σ1 (.one (vec 2 f l'))=some σ') (h:AOps prog σ0 sz ops Q rest (St.mk (putE env dst (.c (.own n' 0 l'.length))) σ')):
  AOps prog σ0 sz ops Q (⟨dst,.call ⟨.value x,al.toArray,ats⟩,ty,pos,after,none⟩::rest) (St.mk env σv):=by
 have h2:=E1 h1
 have h3:=C0 hid;have h4:=s6 hσ'
 subst hn hm h2 h3 h4
 unfold insL at hl
 split at hl
 ·rename_i c
  cases hl
  refine AOps.callS hx ha hd (ins_fn hσ hσ2 (fun e=>by rw[e] at hne;simp at hne) c.2.2 c.1 c.2.1) ?_
  rintro r σ2 ⟨rfl,rfl⟩
  cases dst<;>exact h
 ·cases hl
end
end Ab
end
section
namespace Ab
open Go Go.Sort
section
variable {P:Program}{σ0:b6}{sz:Nat}{Q:Post}{env:Env}{σv σ':b6}{ops:Array Oper}{rest:List Oper}{dst:Option Nat}{ty:Ti}{pos:String}{after:Array Edge}
end
end Ab
end
section
namespace Ab
open Go
section
variable {α β:Type}{pre post:α→List I}{g:α→List β}{kb k r:Nat}{fb:β→List I}{M:List α}
def oc(pre post:α→List I)(c:C)(a:α):List C:=(pre a).map .imm++c::(post a).map .imm
def ohdr(pre post:α→List I)(g:α→List β)(r:Nat)(M:List α):List (List C):=M.mapIdx fun i a=>oc pre post (.own (r,[i]) 0 (g a).length) a
def omat(r k:Nat)(pre post:α→List I)(g:α→List β)(kb:Nat)(fb:β→List I)(M:List α):Ent:=.node (some (.cells k (ohdr pre post g r M))) (M.map fun a=>.one (vec kb fb (g a)))
theorem oc_ren{π:Id→Id}{c:C}{a:α}:C.renL π (oc pre post c a)=oc pre post (c.ren π) a:=by
 have h:∀l:List I,C.renL π (l.map .imm)=l.map .imm:=fun l=>by
  induction l with
  |nil=>rfl
  |cons x l ih=>simp[C.renL,C.ren,ih]
 have h2:∀(l:List I) (m:List C),C.renL π (l.map .imm++m)=l.map .imm++C.renL π m:=fun l m=>by
  induction l with
  |nil=>rfl
  |cons x l ih=>simp[C.renL,C.ren,ih]
 simp only[oc,h2,C.renL,h]
theorem oc_all(p:C→Bool)(hp:∀x:I,p (.imm x)=true){c:C}{a:α}:(oc pre post c a).all p=p c:=by
 have h:∀l:List I,(l.map C.imm).all p=true:=fun l=>by simp[List.all_eq_true,hp]
 simp only[oc,List.all_append,List.all_cons,h,Bool.true_and,Bool.and_true]
theorem oc_ok{n:Nat}{c:C}{a:α}:C.okL n (oc pre post c a)=c.ok n:=by
 rw[J1];exact oc_all _ (fun _=>rfl)
theorem oc_no{id:Id}{c:C}{a:α}:C.noL id (oc pre post c a)=c.no id:=by
 rw[noL_eq];exact oc_all _ (fun _=>rfl)
theorem ohdr_len:(ohdr pre post g r M).length=M.length:=by simp[ohdr]
theorem ohdr_get{i:Nat}{e:List C}(h:(ohdr pre post g r M)[i]? =some e):∃a,M[i]? =some a∧e=oc pre post (.own (r,[i]) 0 (g a).length) a:=by
 simp only[ohdr,List.getElem?_mapIdx,oM] at h
 obtain⟨a,h1,h2⟩:=h
 exact⟨a,h1,h2.symm⟩
theorem om_sub{q:List Nat}{b:Blk}(h:(omat r k pre post g kb fb M).sub q=some b):(q=[]∧b=.cells k (ohdr pre post g r M))∨∃i a,q=[i]∧M[i]? =some a∧b=vec kb fb (g a):=by
 cases q with
 |nil=>exact .inl ⟨rfl,by simpa[omat,Ent.sub] using h.symm⟩
 |cons i q=>
  simp only[omat,Ent.sub,lM] at h
  cases hi:M[i]? with
  |none=>simp[hi] at h
  |some p=>
   rw[hi] at h
   cases q with
   |nil=>simp only[Option.map_some,Ent.sub,Option.some.injEq] at h;exact .inr ⟨i,p,rfl,hi,h.symm⟩
   |cons=>simp[Ent.sub] at h
theorem om_main:(omat r k pre post g kb fb M).sub []=some (.cells k (ohdr pre post g r M)):=rfl
theorem om_row{i:Nat}{a:α}(h:M[i]? =some a):(omat r k pre post g kb fb M).sub [i]=some (vec kb fb (g a)):=by simp[omat,Ent.sub,h]
theorem om_ok{n:Nat}(h:Nat.blt r n=true):∀q b,(omat r k pre post g kb fb M).sub q=some b→b.ok n=true:=fun q b hb=>by
 rcases om_sub hb with⟨_,rfl⟩|⟨i,p,_,_,rfl⟩
 ·simp only[Blk.ok,List.all_eq_true]
  intro e he
  obtain⟨i,hi⟩:=List.getElem?_of_mem he
  obtain⟨a,_,rfl⟩:=ohdr_get hi
  rw[oc_ok];simpa[C.ok] using h
 ·exact Q5
theorem om_no{id:Id}(h:id.1 ≠ r):∀q b,(omat r k pre post g kb fb M).sub q=some b→b.no id=true:=fun q b hb=>by
 rcases om_sub hb with⟨_,rfl⟩|⟨i,p,_,_,rfl⟩
 ·simp only[Blk.no,List.all_eq_true]
  intro e he
  obtain⟨i,hi⟩:=List.getElem?_of_mem he
  obtain⟨a,_,rfl⟩:=ohdr_get hi
  have:idb ((r,[i]):Id) id=false:=ai4 (fun e=>h (by rw[← e]))
  rw[oc_no];simp[C.no,this]
 ·exact Blk.im_no _ _ _
theorem ohdr_ren{π:Id→Id}{r':Nat}(h:∀q,π (r,q)=(r',q)):(Blk.cells k (ohdr pre post g r M)).ren π=.cells k (ohdr pre post g r' M):=by
 simp only[Blk.ren]
 congr 1
 apply List.ext_getElem?
 intro j
 simp only[ohdr,lM,List.getElem?_mapIdx]
 cases M[j]? with
 |none=>rfl
 |some a=>simp[oc_ren,C.ren,h]
theorem EntMv.omat{id n:Id}{mx:Nat}{σ:b6}(h:Nat.beq id.1 r=false)(hr:Nat.blt r mx=true)(hσ:σ[r]? =some (Ab.omat r k pre post g kb fb M)):EntMv id n σ mx r (Ab.omat r k pre post g kb fb M):=by
 have hne:id.1 ≠ r:=fun e=>by simp[e] at h
 show ∀(p:List Nat) (b:Blk),(Ab.omat r k pre post g kb fb M).sub p=some b→_
 intro p b hb
 have hm:mv id n (r,p)=(r,p):=by
  have:(r,p) ≠ id:=fun e=>hne (by rw[← e])
  simp[mv,ai4 this]
 rw[hm,s9 hσ,hb]
 exact⟨om_ok hr p b hb,by rw[Blk.ren_no _ (om_no hne p b hb)]⟩
theorem EntR.omat{r0 n mx i j:Nat}{σ:b6}(hj:(mvr r0 n (i,[])).1=j)(hr:Nat.blt i mx=true)(hσ:σ[j]? =some (Ab.omat j k pre post g kb fb M)):EntR r0 n σ mx i (Ab.omat i k pre post g kb fb M):=.any fun p b hb=>by
 have e:∀q,mvr r0 n (i,q)=(j,q):=fun q=>by rw[← hj];rfl
 rw[e,s9 hσ]
 refine⟨om_ok hr p b hb,?_⟩
 rcases om_sub hb with⟨rfl,rfl⟩|⟨q,p',rfl,hq,rfl⟩
 ·rw[om_main,ohdr_ren e]
 ·rw[om_row hq,ad3]
theorem RenE.omat{r':Nat}{π:Id→Id}(h:∀q,π (r,q)=(r',q)):RenE π r (Ab.omat r k pre post g kb fb M) r' (Ab.omat r' k pre post g kb fb M):=.any (fun p b hb=>by
  rcases om_sub hb with⟨rfl,rfl⟩|⟨q,p',rfl,hq,rfl⟩
  ·rw[om_main,ohdr_ren h]
  ·rw[om_row hq,ad3]) (fun p b hb=>by
  rcases om_sub hb with⟨rfl,rfl⟩|⟨q,p',rfl,hq,rfl⟩
  ·exact⟨_,om_main,(ohdr_ren h).symm⟩
  ·exact⟨_,om_row hq,ad3.symm⟩)
theorem FrzB.omat{id:Id}{X:C→C→Prop}(h:Nat.beq id.1 r=false):FrzB id X (Ab.omat r k pre post g kb fb M) (Ab.omat r k pre post g kb fb M):=by
 have hne:id.1 ≠ r:=fun e=>by simp[e] at h
 show _=_∧_
 exact⟨rfl,fun p b h=>om_no hne p b h⟩
end
section
variable {P:Program}{σ0:b6}{sz:Nat}{Q:Post}{env env':Env}{σv σ':b6}{ops:Array Oper}{rest:List Oper}{dst:Option Nat}{ty:Ti}{pos:String}{after:Array Edge}
variable {α β:Type}{pre post:α→List I}{g:α→List β}{kb k r:Nat}{fb:β→List I}{M:List α}
theorem om_head(h:σv[r]? =some (omat r k pre post g kb fb M)):σv[((r,[]):Id)]? =some (some (.cells k (ohdr pre post g r M))):=by rw[s9 h];rfl
theorem S.appendO{x y:Od}{t e:Ti}{bytes m n s t0 q:Nat}{z:Vl}{a:α}{M':List α}{σ1 σ2:b6}[ht:TyD P t (.slice e)][hts:TyS P e k bytes z]
  (ha:app bytes M [a]=some M') (hzk:(z.cells.size==k)=true) (hbp:Nat.blt 0 bytes=true) (hx:ev env x=some (.c (.own (r,[]) 0 m))) (hm:m=M.length) (hσ:σv[r]? =some (omat r k pre post g kb fb M))
  (hy:ev env y=some (.c (.own (t0,[]) 0 1))) (ht0:σv[((t0,[]):Id)]? =some (some (.cells k [oc pre post (.own (s,[]) 0 q) a]))) (hq:q=(g a).length) (hs:σv[((s,[]):Id)]? =some (some (vec kb fb (g a)))) (hsr:Nat.beq s r=false)
  (hn:newF σv=some (n,[])) (h1:setF σv r .dead=some σ1) (h2:setF σ1 s .dead=some σ2) (hσ':w5 σ2 (omat n k pre post g kb fb M')=some σ') (hd:f9 sz dst=true) (h0:Nat.ble σ0.length n=true)
  (h:AOps P σ0 sz ops Q rest (St.mk (putE env dst (.c (.own (n,[]) 0 M'.length))) σ')):
  AOps P σ0 sz ops Q (⟨dst,.call ⟨.builtin .append,#[x,y],#[t,t]⟩,ty,pos,after,none⟩::rest) (St.mk env σv):=by
 have h2':=(O5 h1).1;have h2s:=(O5 h2).1;have h3:=C0 hn;have h4:=s6 hσ'
 cases h3
 subst h2' h2s h4 hm hq
 obtain⟨hb,rfl⟩:=al3 ha
 have hsr':s ≠ r:=fun e=>by simp[e] at hsr
 have hrl:=(lG.1 hσ).1
 have hsl:s<σv.length:=b6.lt_of hs
 have h0':=Nat.le_of_ble_eq_true h0
 intro Γ0 φ0 a0 w0 hΓ0 hR0
 have hsrc:Src σv k (.c (.own (t0,[]) 0 1)) [oc pre post (.own (s,[]) 0 (g a).length) a]:=.own (j:=0) (n:=1) ht0
 refine AOps.append hzk hbp hx (om_head hσ) hy hsrc (by simpa using hb) hd ?_ Γ0 φ0 a0 w0 hΓ0 hR0
 have e1:((ohdr pre post g r M).drop 0).take M.length=ohdr pre post g r M:=by rw[List.drop_zero,List.take_of_length_le (by simp[ohdr_len])]
 rw[e1]
 generalize hX:σv.put (r,[]) none++[Ent.one (.cells k (ohdr pre post g r M++[oc pre post (.own (s,[]) 0 (g a).length) a]))]=σX
 have e5:(St.mk env σX).put dst (.c (.own (σv.length,[]) 0 (M.length+[oc pre post (.own (s,[]) 0 (g a).length) a].length)))=⟨putE env dst (.c (.own (σv.length,[]) 0 (M++[a]).length)),σX⟩:=by
  rw[show M.length+[oc pre post (.own (s,[]) 0 (g a).length) a].length=(M++[a]).length by simp]
  cases dst<;>rfl
 rw[e5]
 have xn:σX[((σv.length,[]):Id)]? =some (some (.cells k (ohdr pre post g r M++[oc pre post (.own (s,[]) 0 (g a).length) a]))):=by
  rw[← hX,b6.get_right (by simp)];simp[b6.at_eq,b6.at,Ent.sub]
 have xo:∀i:Id,i.1<σv.length→i ≠ (r,[])→σX[i]? =σv[i]? :=fun i hi hne=>by
  rw[← hX,b6.get_left (by simpa using hi),b6.get_put_ne hne]
 generalize hπ:(fun i:Id=>if i.1=σv.length then(if i.2=[] then(σv.length,[]) else if i.2=[M.length] then(s,[]) else(r,i.2)) else i)=π
 have π0:∀i:Id,i.1 ≠ σv.length→π i=i:=fun i hi=>by rw[← hπ];simp[hi]
 have πn:π (σv.length,[])=(σv.length,[]):=by rw[← hπ];simp
 have πv:π (σv.length,[M.length])=(s,[]):=by rw[← hπ];simp
 have πr:∀q,q<M.length→π (σv.length,[q])=(r,[q]):=fun q hq=>by rw[← hπ];simp;omega
 have hMlen:(M++[a]).length=M.length+1:=by simp
 have dead:∀(i:Id) b,((σv.set r .dead).set s .dead)[i]? =some (some b)→i.1 ≠ r∧i.1 ≠ s∧σv[i]? =some (some b):=fun i b hi=>by
  obtain⟨i1,q⟩:=i
  rw[b6.at_eq] at hi
  simp only[b6.at,List.getElem?_set,lS] at hi
  by_cases e1:s=i1
  ·subst e1;simp[hsl,Ent.sub] at hi
  ·rw[if_neg e1] at hi
   by_cases e2:r=i1
   ·subst e2;simp[hrl,Ent.sub] at hi
   ·rw[if_neg e2] at hi
    exact⟨fun e=>e2 e.symm,fun e=>e1 e.symm,by rw[b6.at_eq];exact hi⟩
 have cases3:∀(i:Id) b,((σv.set r .dead).set s .dead++[omat σv.length k pre post g kb fb (M++[a])])[i]? =some (some b)→
   (i.1<σv.length∧i.1 ≠ r∧i.1 ≠ s∧σv[i]? =some (some b))∨(i=(σv.length,[])∧b=.cells k (ohdr pre post g σv.length (M++[a])))∨(∃q c,i=(σv.length,[q])∧(M++[a])[q]? =some c∧b=vec kb fb (g c)):=fun i b hi=>by
  rcases Nat.lt_or_ge i.1 σv.length with hl|hl
  ·rw[b6.get_left (by simpa using hl)] at hi
   obtain⟨g1,g2,g3⟩:=dead i b hi
   exact .inl ⟨hl,g1,g2,g3⟩
  ·rw[b6.get_right (by simpa using hl)] at hi
   obtain⟨i1,q⟩:=i
   simp only[lS] at hi hl
   have hz:i1=σv.length:=by
    have:=b6.lt_of hi
    simp at this;simp at hl;omega
   subst hz
   rw[Nat.sub_self,s9 (e:=omat σv.length k pre post g kb fb (M++[a])) rfl] at hi
   simp only[Option.some.injEq] at hi
   rcases om_sub hi with⟨rfl,rfl⟩|⟨q',c,rfl,hc,rfl⟩
   ·exact .inr (.inl ⟨rfl,rfl⟩)
   ·exact .inr (.inr ⟨q',c,rfl,hc,rfl⟩)
 refine AOps.sub (s':=⟨putE env dst (.c (.own (σv.length,[]) 0 (M++[a]).length)),(σv.set r .dead).set s .dead++[omat σv.length k pre post g kb fb (M++[a])]⟩) ?_ h
 have hlen':((σv.set r .dead).set s .dead++[omat σv.length k pre post g kb fb (M++[a])]).length=σv.length+1:=by simp
 have hqb:∀{q:Nat} {c:α},(M++[a])[q]? =some c→q<M.length+1:=fun hc=>by rw[← hMlen];exact(lG.1 hc).1
 refine Sub.mk π (fun i hi=>π0 i (by omega)) (by rw[hlen'];omega) (fun i j b b' hi hj he=> ?_) (fun i b hi=> ?_) (fun t v ht=> ?_)
 ·rcases cases3 i b hi with⟨g1,g2,g2s,_⟩|⟨rfl,_⟩|⟨q,row,rfl,g1,_⟩<;>rcases cases3 j b' hj with⟨k1,k2,k2s,_⟩|⟨rfl,_⟩|⟨q',row',rfl,k1,_⟩
  ·rwa [π0 i (by omega),π0 j (by omega)] at he
  ·rw[π0 i (by omega),πn] at he;subst he;simp at g1
  ·rw[π0 i (by omega)] at he
   have hq:=hqb k1
   by_cases e:q'=M.length
   ·subst e;rw[πv] at he;subst he;exact absurd rfl g2s
   ·rw[πr q' (by omega)] at he;subst he;exact absurd rfl g2
  ·rw[π0 j (by omega),πn] at he;subst he;simp at k1
  ·rfl
  ·have hq:=hqb k1
   by_cases e:q'=M.length
   ·subst e;rw[πn,πv] at he;simp at he;omega
   ·rw[πn,πr q' (by omega)] at he;simp at he
  ·rw[π0 j (by omega)] at he
   have hq:=hqb g1
   by_cases e:q=M.length
   ·subst e;rw[πv] at he;subst he;exact absurd rfl k2s
   ·rw[πr q (by omega)] at he;subst he;exact absurd rfl k2
  ·have hq:=hqb g1
   by_cases e:q=M.length
   ·subst e;rw[πn,πv] at he;simp at he;omega
   ·rw[πn,πr q (by omega)] at he;simp at he
  ·have hq:=hqb g1
   have hq':=hqb k1
   by_cases e:q=M.length<;>by_cases e':q'=M.length
   ·rw[e,e']
   ·rw[e,πv,πr q' (by omega)] at he;simp at he
   ·rw[e',πv,πr q (by omega)] at he;simp at he
   ·rw[πr q (by omega),πr q' (by omega)] at he
    simp at he;rw[he]
 ·dsimp only
  rw[hlen']
  rcases cases3 i b hi with⟨g1,g2,g2s,g3⟩|⟨rfl,rfl⟩|⟨q,c,rfl,g1,rfl⟩
  ·have hok:=hR0.st.okB g3
   have hren:b.ren π=b:=Blk.ren_ok (m:=σv.length) (fun i hi=>π0 i (by omega)) b hok
   refine⟨Blk.ok_mono (Nat.le_succ _) b hok,?_⟩
   rw[π0 i (by omega),hren,xo i g1 (fun e=>g2 (by rw[e]))]
   exact g3
  ·refine⟨om_ok (r:=σv.length) (kb:=kb) (fb:=fb) (by simp) [] _ om_main,?_⟩
   rw[πn,xn]
   congr 2
   simp only[Blk.ren]
   congr 1
   apply List.ext_getElem?
   intro q
   rw[lM]
   simp only[ohdr,List.getElem?_mapIdx,Option.map_map,List.getElem?_append,List.length_mapIdx]
   by_cases hq:q<M.length
   ·rw[if_pos hq,if_pos hq]
    cases hM:M[q]? with
    |none=>rfl
    |some row=>simp[oc_ren,C.ren,πr q hq]
   ·rw[if_neg hq,if_neg hq]
    by_cases hq2:q=M.length
    ·subst hq2;simp[oc_ren,C.ren,πv]
    ·cases hz:q - M.length with
     |zero=>omega
     |succ x=>simp
  ·have hq:=hqb g1
   refine⟨Q5,?_⟩
   rw[ad3]
   by_cases e:q=M.length
   ·subst e
    rw[πv,xo (s,[]) hsl (fun e=>hsr' (by cases e;rfl)),hs]
    rw[List.getElem?_append_right (Nat.le_refl _),Nat.sub_self] at g1
    cases g1;rfl
   ·rw[πr q (by omega),xo (r,[q]) hrl (by simp)]
    rw[List.getElem?_append_left (by omega)] at g1
    rw[s9 hσ,om_row g1]
 ·dsimp only at ht ⊢
  rw[hlen']
  have old:∀v,lookup t env=some v→v.ok (σv.length+1)=true∧lookup t env=some (v.ren π):=fun v hv=>by
   obtain⟨u,_,hr⟩:=hR0.env t v hv
   have hok:=hr.ok
   exact⟨T.ok_mono (Nat.le_succ _) v hok,by rw[T.ren_ok (m:=σv.length) (fun i hi=>π0 i (by omega)) v hok];exact hv⟩
  cases hdst:dst with
  |none=>rw[hdst] at ht;exact old v ht
  |some d=>
   rw[hdst] at ht
   simp only[putE,lookup] at ht ⊢
   split at ht
   ·cases ht
    refine⟨by simp[T.ok,C.ok],?_⟩
    simp[T.ren,C.ren,πn]
   ·exact old v ht
/-! ### Rows cease to change -/
theorem ag2.set{e:Ent}(h:ag2 r σv):ag2 r (σv.set r e):=fun i b hi hb q=>by
 refine h i b hi ?_ q
 obtain⟨i1,l⟩:=i
 rw[b6.at_eq] at hb ⊢
 simp only[b6.at,List.getElem?_set] at hb ⊢
 rwa [if_neg (fun e=>hi e.symm)] at hb
/-! ### The block with one cell owned elsewhere: looked at, written -/
end
end Ab
end
section
namespace Ab
open Go
section
variable {P:Program}{σ0:b6}{sz:Nat}{Q:Post}{env:Env}{σv σ':b6}{ops:Array Oper}{rest:List Oper}{dst:Option Nat}{ty:Ti}{pos:String}{after:Array Edge}
variable {β:Type}{k r:Nat}{f:β→List I}{M:List (List β)}
theorem S.appendMR{x y:Od}{t e:Ti}{bytes m n s t0 q:Nat}{z:Vl}{a:List β}{M':List (List β)}{σ1 σ2:b6}[ht:TyD P t (.slice e)][hts:TyS P e 1 bytes z]
  (ha:app bytes M [a]=some M') (hzk:(z.cells.size==1)=true) (hbp:Nat.blt 0 bytes=true) (hx:ev env x=some (.c (.own (r,[]) 0 m))) (hm:m=M.length) (hσ:σv[r]? =some (mat (r,[]) k f M))
  (hy:ev env y=some (.c (.own (t0,[]) 0 1))) (ht0:σv[((t0,[]):Id)]? =some (some (.cells 1 [[.own (s,[]) 0 q]]))) (hq:q=a.length) (hs:σv[((s,[]):Id)]? =some (some (vec k f a))) (hsr:Nat.beq s r=false)
  (hn:newF σv=some (n,[])) (h1:setF σv r .dead=some σ1) (h2:setF σ1 s .dead=some σ2) (hσ':w5 σ2 (mat (n,[]) k f M')=some σ') (hd:f9 sz dst=true) (h0:Nat.ble σ0.length n=true)
  (h:AOps P σ0 sz ops Q rest (St.mk (putE env dst (.c (.own (n,[]) 0 M'.length))) σ')):
  AOps P σ0 sz ops Q (⟨dst,.call ⟨.builtin .append,#[x,y],#[t,t]⟩,ty,pos,after,none⟩::rest) (St.mk env σv):=
 S.appendO (pre:=fun _=>[]) (post:=fun _=>[]) (g:=fun a=>a) (kb:=k) (fb:=f) (k:=1) ha hzk hbp hx hm hσ hy ht0 hq hs hsr hn h1 h2 hσ' hd h0 h
theorem S.storeHS{x y:Od}{t:Ti}{bytes:Nat}{z:Vl}{i:Int}{row:List β}[hs:TyS P t 1 bytes z](he:ix M i=some row)(hx:ev env x=some (.c (.ptr (r,[]) i.toNat 0)))(hy:ev env y=some (.c (.own (r,[i.toNat]) 0 row.length)))
  (hσ:σv[r]? =some (mat (r,[]) k f M)) (h:AOps P σ0 sz ops Q rest (St.mk env σv)):AOps P σ0 sz ops Q (⟨none,.store t x y,ty,pos,after,none⟩::rest) (St.mk env σv):=by
 have he:=(M2 he).2
 refine AOps.store hx hy (am6 hσ) (hdr_get he) (by simp) ?_
 refine AOps.sub (Sub.same (by simp) fun j=> ?_) h
 have e:(hdr (r,[]) M).set i.toNat [.own (r,[i.toNat]) 0 row.length]=hdr (r,[]) M:=(hdr_set (id:=(r,[]))).symm.trans (hdr_same he rfl)
 by_cases hj:j=(r,[])
 ·subst hj
  rw[b6.get_put_eq (am6 hσ),am6 hσ]
  exact congrArg (fun l=>some (some (Blk.cells 1 l))) e
 ·rw[b6.get_put_ne hj]
end
end Ab
end
section
namespace Ab
open Go Go.Proofs
set_option linter.all false
abbrev b9(l:Li):List I:=[.sl 1 (l.map intI)]
structure j8 where
  add:Li
  del:Li
  weight:Int
abbrev y6(v:j8):List I:=[.sl 1 (List.map intI v.add),.sl 1 (List.map intI v.del),.val (.int .i64 v.weight)]
structure f8 where
  pre:Li
  outcomes:List j8
  cost:Int
abbrev d7(v:f8):List I:=[.sl 1 (List.map intI v.pre),.sl 3 (List.map y6 v.outcomes),.val (.int .i64 v.cost)]
structure b7 where
  facts:Int
  init:Li
  goal:Li
  operators:List f8
abbrev eTOpenTask(v:b7):List I:=[.val (.int .i64 v.facts),.sl 1 (List.map intI v.init),.sl 1 (List.map intI v.goal),.sl 3 (List.map d7 v.operators)]
structure j9 where
  code:Int
  index:Int
abbrev E6(l:LL):List I:=[.sl 1 (l.map b9)]
structure aj7 where
  fx:Int
  fy:Int
  signed:Bool
  code:Int
structure Truntime_boundsError where
  fx:Int
  fy:Int
  signed:Bool
  code:Int
structure Tmsg_string_addr_uintptr where
  msg:ByteArray
  addr:Int
structure Truntime_errorAddressString where
  msg:ByteArray
  addr:Int
structure ah5 where
  facts:Int
  init:Li
  goal:Li
  operators:List f8
structure d8 where
  state:Li
  operator:Int
abbrev f7(v:d8):List I:=[.sl 1 (List.map intI v.state),.val (.int .i64 v.operator)]
abbrev eLTChoice(l:List d8):List I:=[.sl 2 (l.map f7)]
structure TNum_int_Den_int where
  num:Int
  den:Int
structure r8 where
  num:Int
  den:Int
structure TCode_int_Index_int where
  code:Int
  index:Int
structure as8 where
  pre:Li
  outcomes:List j8
  cost:Int
structure T7 where
  pre:Li
  add:Li
  del:Li
  cost:Int
structure aj6 where
  facts:Int
  init:Li
  goal:Li
  operators:List T7
structure TTask where
  facts:Int
  init:Li
  goal:Li
  operators:List T7
structure ak1 where
  fo:b7
  states:LL
  ops:Li
  num:Li
  den:Int
structure Tchance_chooser where
  fo:b7
  states:LL
  ops:Li
  num:Li
  den:Int
structure Tstates_int_rows_int where
  states:LL
  rows:LL
structure Tchance_system where
  states:LL
  rows:LL
structure TAdd_int_Del_int_Weight_int where
  add:Li
  del:Li
  weight:Int
structure TState_int_Operator_int where
  state:Li
  operator:Int
structure av2 where
  pre:Li
  add:Li
  del:Li
  cost:Int
structure Tspace_arc where
  ffrom:Int
  cost:Int
structure Tspace_Step_uint32 where
  op:Int
  cost:Int
  to:Int
structure TOp_int_Cost_int_To_uint32 where
  op:Int
  cost:Int
  to:Int
structure Tfrom_uint32_cost_int where
  ffrom:Int
  cost:Int
structure at3 where
  pre:Int
  add:Int
  del:Int
  cost:Int
structure aq4 where
  start:Int
  goal:Int
  ops:List at3
structure Tspace_Words where
  start:Int
  goal:Int
  ops:List at3
structure ap9 where
  pre:Int
  add:Int
  del:Int
  cost:Int
structure au0 where
  item:Int
  key:Int
  time:Int
  fat:Int
structure Topenlist_entry_uint32 where
  item:Int
  key:Int
  time:Int
  fat:Int
def W4(l:Li)(nv:Int):Int→Unit→Option (Unit⊕Bool):=fun t3 _=>Option.bind (ix l t3) fun a12=>Option.bind (if a12<0 then some true else if nv≤a12 then some true else if 0<t3 then Option.bind (ix l (t3 - 1)) fun a29=>some (decide (a12≤a29)) else some false) fun t4=>if t4=true then some (.inr false) else some (.inl ())
def E8(l:Li)(nv:Int):Option Bool:=(Option.bind (rngX 0 (l.length:Int) (W4 l nv) ()) fun| .inl _=>some true| .inr x=>some x)
def G8(xv:Int):Option Bool:=some (!(decide (xv=xv)))
def Y1(xv:Int)(yv:Int):Option Bool:=Option.bind (Option.bind (G8 xv) fun a6=>if a6=true then Option.bind (G8 yv) fun a9=>if(!a9)=true then some true else some (decide (xv<yv)) else some (decide (xv<yv))) fun t3=>some t3
def L9(xv:Int):Option Bool:=some (!(decide (xv=xv)))
def B9(xv:Li)(target:Int):(Int×Int)→Option ((Int×Int)⊕Int):=fun(iv3,j4)=>if iv3<j4 then Option.bind (ix xv (w64 (shrW .u64 ((IntKind.u64).wrap (w64 (iv3+j4))) 1))) fun a24=>Option.bind (Y1 a24 target) fun a27=>if a27=true then some (.inl (w64 ((w64 (shrW .u64 ((IntKind.u64).wrap (w64 (iv3+j4))) 1))+1),j4)) else some (.inl (iv3,w64 (shrW .u64 ((IntKind.u64).wrap (w64 (iv3+j4))) 1))) else some (.inr iv3)
noncomputable def v6(xv:Li)(target:Int):Option (Int×Bool):=Option.bind (Loop (B9 xv target) (0,(xv.length:Int))) fun iv5=>Option.bind (if iv5<(xv.length:Int) then Option.bind (ix xv iv5) fun a38=>if a38=target then some true else Option.bind (ix xv iv5) fun a45=>Option.bind (L9 a45) fun a47=>if a47=true then Option.bind (L9 target) fun a50=>some a50 else some false else some false) fun t8=>some (iv5,t8)
noncomputable def Y5(xv:Int)(c2:Li):Option Bool:=Option.bind (v6 c2 xv) fun a9=>some a9.2
def x4(sv:Li)(fv:Int→Option Bool):Int→Unit→Option (Unit⊕Int):=fun t3 _=>Option.bind (ix sv t3) fun a14=>Option.bind (fv a14) fun a16=>if a16=true then some (.inr t3) else some (.inl ())
def D1(sv:Li)(fv:Int→Option Bool):Option Int:=(Option.bind (rngX 0 (sv.length:Int) (x4 sv fv) ()) fun| .inl _=>some (-1)| .inr x=>some x)
def n8(sv:Li)(fv:Int→Option Bool):Option Bool:=Option.bind (D1 sv fv) fun a7=>some (decide (0≤a7))
noncomputable def X4(av:Li)(bv:Li):Option Bool:=Option.bind (n8 av (fun y1=>Y5 y1 bv)) fun a7=>some a7
noncomputable def G4(ov:f8)(facts:Int):Int→Unit→Option (Unit⊕Int):=fun t6 _=>Option.bind (ix ov.outcomes t6) fun a38=>Option.bind (Option.bind (E8 a38.add facts) fun a44=>if(!a44)=true then some true else Option.bind (E8 a38.del facts) fun a50=>if(!a50)=true then some true else Option.bind (X4 a38.add a38.del) fun a58=>some a58) fun t7=>if t7=true then some (.inr 5) else if((decide (a38.weight<1))||(decide (6<a38.weight)))=true then some (.inr 3) else some (.inl ())
noncomputable def K2(ov:f8)(facts:Int):Option Int:=Option.bind (E8 ov.pre facts) fun a11=>if(!a11)=true then some 5 else if((decide (ov.cost<0))||(decide (100<ov.cost)))=true then some 3 else if((decide ((ov.outcomes.length:Int)=0))||(decide (4<(ov.outcomes.length:Int))))=true then some 9 else(Option.bind (rngX 0 (ov.outcomes.length:Int) (G4 ov facts) ()) fun| .inl _=>some 0| .inr x=>some x)
noncomputable def M7(ov:b7):Int→Unit→Option (Unit⊕j9):=fun t6 _=>Option.bind (ix ov.operators t6) fun a44=>Option.bind (K2 a44 ov.facts) fun a49=>if a49=0 then some (.inl ()) else some (.inr (⟨a49,t6⟩:j9))
noncomputable def G6(ov:b7):Option j9:=if((decide (ov.facts<0))||(decide (24<ov.facts)))=true then some (⟨3, -1⟩:j9) else Option.bind (E8 ov.init ov.facts) fun a21=>if(!a21)=true then some (⟨5, -2⟩:j9) else Option.bind (E8 ov.goal ov.facts) fun a29=>if(!a29)=true then some (⟨5, -3⟩:j9) else if 40<(ov.operators.length:Int) then some (⟨2, -1⟩:j9) else(Option.bind (rngX 0 (ov.operators.length:Int) (M7 ov) ()) fun| .inl _=>some (⟨0,0⟩:j9)| .inr x=>some x)
def I5(iv:Int):Option ByteArray:=if iv<10 then Option.bind (subS (⟨#[48,49,50,51,52,53,54,55,56,57,97,98,99,100,101,102,103,104,105,106,107,108,109,110,111,112,113,114,115,116,117,118,119,120,121,122]⟩:ByteArray) iv (w64 (iv+1))) fun a8=>some a8 else Option.bind (subS (⟨#[48,48,48,49,48,50,48,51,48,52,48,53,48,54,48,55,48,56,48,57,49,48,49,49,49,50,49,51,49,52,49,53,49,54,49,55,49,56,49,57,50,48,50,49,50,50,50,51,50,52,50,53,50,54,50,55,50,56,50,57,51,48,51,49,51,50,51,51,51,52,51,53,51,54,51,55,51,56,51,57,52,48,52,49,52,50,52,51,52,52,52,53,52,54,52,55,52,56,52,57,53,48,53,49,53,50,53,51,53,52,53,53,53,54,53,55,53,56,53,57,54,48,54,49,54,50,54,51,54,52,54,53,54,54,54,55,54,56,54,57,55,48,55,49,55,50,55,51,55,52,55,53,55,54,55,55,55,56,55,57,56,48,56,49,56,50,56,51,56,52,56,53,56,54,56,55,56,56,56,57,57,48,57,49,57,50,57,51,57,52,57,53,57,54,57,55,57,56,57,57]⟩:ByteArray) (w64 (iv * 2)) (w64 ((w64 (iv * 2))+2))) fun a14=>some a14
abbrev ab3(iv:Int)(base:Int)(l:Li):b6:=[.one (vec 1 eU8 l)]
def B8(iv:Int)(base:Int)(l:Li):Option Li:=if base=10 then if iv<100 then Option.bind (I5 (w64 iv)) fun a16=>Option.bind (app 1 l (strL a16)) fun a17=>some a17 else none else none
abbrev ac1(iv:Int)(base:Int)(l:Li):b6:=[.one (vec 1 eU8 l)]
def C5(iv:Int)(base:Int)(l:Li):Option Li:=Option.bind (if iv<0 then none else some ()) fun _=>Option.bind (B8 ((IntKind.u64).wrap iv) base l) fun a20=>some a20
abbrev an5(iv:Int)(base:Int)(l:Li):b6:=[.one (vec 1 eU8 l)]
def D7(iv:Int)(base:Int)(l:Li):Option Li:=Option.bind (C5 iv base l) fun a10=>some a10
def aj2(a12:Li):Int→Li→Option Li:=fun t5 c4=>Option.bind (ix a12 t5) fun a18=>Option.bind (D7 a18 10 c4) fun a22=>Option.bind (app 1 a22 [44]) fun a24=>some a24
def aj4(l:LL):Int→Li→Option Li:=fun t3 c2=>Option.bind (ix l t3) fun a12=>(Option.bind (forR 0 (a12.length:Int) (aj2 a12) c2) fun c4=>Option.bind (app 1 c4 [59]) fun a28=>some a28)
def U2(l:LL):Option ByteArray:=(Option.bind (forR 0 (l.length:Int) (aj4 l) []) fun c2=>some (strB c2))
def J0(sv:Li)(a12:Int):Int→Option (Int⊕Int):=fun iv5=>Option.bind (if iv5<(sv.length:Int) then Option.bind (ix sv iv5) fun a21=>some (decide (a21<a12)) else some false) fun t7=>if t7=true then some (.inl (w64 (iv5+1))) else some (.inr iv5)
noncomputable def P6(sv:Li)(part:Li):Int→Int→Option (Int⊕Bool):=fun t4 iv3=>Option.bind (ix part t4) fun a12=>Option.bind (Loop (J0 sv a12) iv3) fun iv6=>Option.bind (if iv6=(sv.length:Int) then some true else Option.bind (ix sv iv6) fun a35=>some (!(decide (a35=a12)))) fun t11=>if t11=true then some (.inr false) else some (.inl iv6)
noncomputable def k9(sv:Li)(part:Li):Option Bool:=(Option.bind (rngX 0 (part.length:Int) (P6 sv part) 0) fun| .inl iv3=>some true| .inr x=>some x)
noncomputable def R1(ov:b7)(sv:Li)(op:Int):Option Bool:=Option.bind (ix ov.operators op) fun a11=>Option.bind (k9 sv a11.pre) fun a14=>some a14
noncomputable def ad0(sv:Li)(del:Li):Int→Li→Option Li:=fun t5 c4=>Option.bind (Option.bind (ix sv t5) fun a16=>Option.bind (v6 del a16) fun a21=>if(!a21.2)=true then Option.bind (app 8 c4 [a16]) fun a29=>some a29 else some c4) fun c6=>some c6
noncomputable def K0(sv:Li)(add:Li)(del:Li):Option Li:=(Option.bind (forR 0 (sv.length:Int) (ad0 sv del) []) fun c4=>Option.bind (app 8 c4 add) fun a33=>Option.bind (sortL a33) fun a35=>some (ac0 a35))
def P8(xv:Int)(yv:Int):Option Int:=Option.bind (G8 xv) fun a8=>Option.bind (G8 yv) fun a10=>if a8=true then if a10=true then some 0 else some (-1) else if a10=true then some 1 else if xv<yv then some (-1) else if yv<xv then some 1 else some 0
def F6(s11:Li)(s22:Li):Int→Unit→Option (Unit⊕Int):=fun t3 _=>Option.bind (ix s11 t3) fun a14=>if(s22.length:Int)≤t3 then some (.inr 1) else Option.bind (ix s22 t3) fun a22=>Option.bind (P8 a14 a22) fun a26=>if a26=0 then some (.inl ()) else some (.inr a26)
def slices_Compare_int_int(s11:Li)(s22:Li):Option Int:=(Option.bind (rngX 0 (s11.length:Int) (F6 s11 s22) ()) fun| .inl _=>if(s11.length:Int)<(s22.length:Int) then some (-1) else some 0| .inr x=>some x)
def N9(s11:Li)(s22:Li):Int→Unit→Option (Unit⊕Bool):=fun t4 _=>Option.bind (ix s11 t4) fun a18=>Option.bind (ix s22 t4) fun a22=>if a18=a22 then some (.inl ()) else some (.inr false)
def A7(s11:Li)(s22:Li):Option Bool:=if(s11.length:Int)=(s22.length:Int) then(Option.bind (rngX 0 (s11.length:Int) (N9 s11 s22) ()) fun| .inl _=>some true| .inr x=>some x) else some false
def H3(xv:LL)(target:Li)(cmp:Li→Li→Option Int):(Int×Int)→Option ((Int×Int)⊕Int):=fun(iv4,j5)=>if iv4<j5 then Option.bind (ix xv (w64 (shrW .u64 ((IntKind.u64).wrap (w64 (iv4+j5))) 1))) fun a27=>Option.bind (cmp a27 target) fun a30=>if a30<0 then some (.inl (w64 ((w64 (shrW .u64 ((IntKind.u64).wrap (w64 (iv4+j5))) 1))+1),j5)) else some (.inl (iv4,w64 (shrW .u64 ((IntKind.u64).wrap (w64 (iv4+j5))) 1))) else some (.inr iv4)
noncomputable def m8(xv:LL)(target:Li)(cmp:Li→Li→Option Int):Option (Int×Bool):=Option.bind (Loop (H3 xv target cmp) (0,(xv.length:Int))) fun iv6=>Option.bind (if iv6<(xv.length:Int) then Option.bind (ix xv iv6) fun a43=>Option.bind (cmp a43 target) fun a46=>some (decide (a46=0)) else some false) fun t9=>some (iv6,t9)
abbrev F9(l:LL):b6:=[.one (vec 1 b9 l)]
def x7(l:LL)(kv54:Int):Int→((LL)×Int)→Option ((LL)×Int):=fun k258 (c56,kv57)=>Option.bind (Option.bind (ixV c56 (0+kv54) ((l.length:Int) - kv54) k258) fun a41=>Option.bind (ixV c56 (0+kv54) ((l.length:Int) - kv54) (k258 - 1)) fun a46=>Option.bind (A7 a41 a46) fun a48=>if(!a48)=true then Option.bind (ixV c56 (0+kv54) ((l.length:Int) - kv54) k258) fun a54=>Option.bind (ix c56 kv57) fun a56=>some (c56.set kv57.toNat a54,w64 (kv57+1)) else some (c56,kv57)) fun⟨c59,kv60⟩=>some (c59,kv60)
def u7(l:LL):Int→Unit→Option (Unit⊕(LL)):=fun kv54 _=>Option.bind (ix l kv54) fun a21=>Option.bind (ix l (kv54 - 1)) fun a26=>Option.bind (A7 a21 a26) fun a28=>if a28=true then Option.bind (cutV (l.length:Int) kv54 (l.length:Int)) fun u31=>(Option.bind (forR 1 ((l.length:Int) - kv54) (x7 l kv54) (l,kv54)) fun⟨c56,kv57⟩=>Option.bind (cutV (c56.length:Int) kv57 (c56.length:Int)) fun u61=>Option.bind (cutV ((clrL c56 (0+kv57) ((c56.length:Int) - kv57) []).length:Int) 0 kv57) fun u64=>some (.inr (u5 (clrL c56 (0+kv57) ((c56.length:Int) - kv57) []) 0 kv57))) else some (.inl ())
def z7(l:LL):Option (LL):=if(l.length:Int)<2 then some l else(Option.bind (rngX 1 (l.length:Int) (u7 l) ()) fun| .inl _=>some l| .inr x=>some x)
abbrev at4(l:LL):b6:=[.one (vec 1 b9 l)]
noncomputable def G5(l:LL):Option (LL):=Option.bind (sortFL slices_Compare_int_int l) fun a4=>Option.bind (z7 a4) fun a6=>some a6
noncomputable def P9(sv:Li)(a20:f8):Int→(LL)→Option (LL):=fun t5 c4=>Option.bind (ix a20.outcomes t5) fun a26=>Option.bind (K0 sv a26.add a26.del) fun a34=>Option.bind (app 24 c4 [a34]) fun a36=>some a36
noncomputable def w8(c4:LL)(a40:(LL))(a47:f8):Int→Li→Option Li:=fun t7 c6=>Option.bind (ix a47.outcomes t7) fun a54=>Option.bind (ix c4 t7) fun a60=>Option.bind (m8 a40 a60 slices_Compare_int_int) fun a62=>Option.bind (ix c6 a62.1) fun a67=>Option.bind (ix c6 a62.1) fun a72=>some (c6.set a62.1.toNat (w64 (a67+a54.weight)))
noncomputable def o8(ov:b7)(sv:Li)(op:Int):Option ((LL)×Li):=Option.bind (ix ov.operators op) fun a20=>(Option.bind (forR 0 (a20.outcomes.length:Int) (P9 sv a20) []) fun c4=>Option.bind (z6 c4) fun a39=>Option.bind (G5 a39) fun a40=>Option.bind (mkL 8 (a40.length:Int) 0) fun a43=>Option.bind (ix ov.operators op) fun a47=>(Option.bind (forR 0 (a47.outcomes.length:Int) (w8 c4 a40 a47) a43) fun c6=>some (a40,c6)))
def ab9:((LL)×(List (ByteArray×Int)))→Option (((LL)×(List (ByteArray×Int)))⊕((LL)×Bool)):=fun(c10,c11)=>some (.inl (c10,c11))
def J9:((LL)×(List (ByteArray×Int)))→Option (((LL)×(List (ByteArray×Int)))⊕((LL)×Bool)):=fun(c16,c17)=>some (.inl (c16,c17))
def z2(a48:(LL)×Li):Int→((LL)×(List (ByteArray×Int)))→Option (((LL)×(List (ByteArray×Int)))⊕((LL)×Bool)):=fun t15 (c13,c14)=>Option.bind (ix a48.1 t15) fun a55=>Option.bind (U2 [a55]) fun a59=>if 0<Option.getD (mget c14 a59) 0 then J9 (c13,c14) else if(c13.length:Int)=2000 then some (.inr ([],false)) else Option.bind (app 24 c13 [a55]) fun a72=>J9 (a72,mset c14 a59 1)
noncomputable def B3(ov:b7)(atv4:Int):Int→((LL)×(List (ByteArray×Int)))→Option (((LL)×(List (ByteArray×Int)))⊕((LL)×Bool)):=fun t9 (c7,c8)=>Option.bind (ix c7 atv4) fun a36=>Option.bind (R1 ov a36 t9) fun a39=>if(!a39)=true then ab9 (c7,c8) else Option.bind (ix c7 atv4) fun a45=>Option.bind (o8 ov a45 t9) fun a48=>(Option.bind (rngX 0 (a48.1.length:Int) (z2 a48) (c7,c8)) fun| .inl (c13,c14)=>ab9 (c13,c14)| .inr x=>some (.inr x))
noncomputable def y9(ov:b7):((LL)×(List (ByteArray×Int))×Int)→Option (((LL)×(List (ByteArray×Int))×Int)⊕((LL)⊕((LL)×Bool))):=fun(c2,c3,atv4)=>if atv4<(c2.length:Int) then(Option.bind (rngX 0 (ov.operators.length:Int) (B3 ov atv4) (c2,c3)) fun| .inl (c7,c8)=>some (.inl (c7,c8,w64 (atv4+1)))| .inr x=>some (.inr (.inr x))) else some (.inr (.inl c2))
noncomputable def A6(ov:b7):Option ((LL)×Bool):=Option.bind (w3 ov.init) fun a15=>Option.bind (U2 [a15]) fun a19=>Option.bind (Loop (y9 ov) ([a15],mset ([]:List (ByteArray×Int)) a19 1,0)) fun| .inl c5=>Option.bind (G5 c5) fun a76=>some (a76,true)| .inr x=>some x
noncomputable def I7(ov:b7):Option ((LL)×j9):=Option.bind (G6 ov) fun a8=>if(!((decide (a8.code=0)) && (decide (a8.index=0))))=true then some ([],a8) else Option.bind (A6 ov) fun a15=>if(!a15.2)=true then some ([],(⟨10, -7⟩:j9)) else some (a15.1,(⟨0,0⟩:j9))
def n9(sv:List f8)(fv:f8→Option Bool):Int→Unit→Option (Unit⊕Int):=fun t3 _=>Option.bind (ix sv t3) fun a14=>Option.bind (fv a14) fun a16=>if a16=true then some (.inr t3) else some (.inl ())
def p8(sv:List f8)(fv:f8→Option Bool):Option Int:=(Option.bind (rngX 0 (sv.length:Int) (n9 sv fv) ()) fun| .inl _=>some (-1)| .inr x=>some x)
def m5(sv:List f8)(fv:f8→Option Bool):Option Bool:=Option.bind (p8 sv fv) fun a7=>some (decide (0≤a7))
def O3(xv:f8):Option Bool:=some (decide (xv.cost=0))
noncomputable def y8(all:LL)(sv:Li):Option Int:=Option.bind (m8 all sv slices_Compare_int_int) fun a10=>some a10.1
noncomputable def Y9(all:LL)(t6:Int)(a45:(LL)×Li):Int→(LL)→Option (LL):=fun t11 c10=>Option.bind (ix a45.1 t11) fun a52=>Option.bind (ix c10 t6) fun a64=>Option.bind (y8 all a52) fun a68=>Option.bind (app 8 a64 [a68]) fun a70=>Option.bind (ix c10 t6) fun a71=>some (c10.set t6.toNat a70)
noncomputable def Y4(ov:b7)(all:LL)(a21:Li):Int→(LL)→Option (LL):=fun t6 c5=>Option.bind (Option.bind (R1 ov a21 t6) fun a39=>if(!a39)=true then some c5 else Option.bind (o8 ov a21 t6) fun a45=>(Option.bind (forR 0 (a45.1.length:Int) (Y9 all t6 a45) c5) fun c10=>some c10)) fun c7=>some c7
noncomputable def aa0(ov:b7)(all:LL):Int→(List (LL))→Option (List (LL)):=fun t4 c3=>Option.bind (ix all t4) fun a21=>Option.bind (mkL 24 (ov.operators.length:Int) ([]:Li)) fun a28=>Option.bind (ix c3 t4) fun a29=>(Option.bind (forR 0 (ov.operators.length:Int) (Y4 ov all a21) a28) fun c5=>some (c3.set t4.toNat c5))
noncomputable def ab4(ov:b7)(all:LL):Option (List (LL)):=Option.bind (mkL 24 (all.length:Int) []) fun a15=>(Option.bind (forR 0 (all.length:Int) (aa0 ov all) a15) fun c3=>some c3)
def V5(iv:Int)(c2:Li):Option Bool:=Option.bind (ix c2 iv) fun a6=>some (decide (a6=0))
def U5(l:Li)(safe:Li):Option Bool:=Option.bind (if 0<(l.length:Int) then Option.bind (n8 l (fun y1=>V5 y1 safe)) fun a11=>some (!a11) else some false) fun t3=>some t3
def P2(kv:Int)(c2:Li)(c3:Int):Option Bool:=Option.bind (ix c2 kv) fun a7=>some (decide (a7=w64 (c3 - 1)))
def H4(l:Li)(c2:Li)(c3:Li)(c4:Int):Option Bool:=Option.bind (Option.bind (U5 l c2) fun a8=>if a8=true then Option.bind (n8 l (fun y1=>P2 y1 c3 c4)) fun a12=>some a12 else some false) fun t2=>some t2
def r9(sv:LL)(fv:Li→Option Bool):Int→Unit→Option (Unit⊕Int):=fun t3 _=>Option.bind (ix sv t3) fun a14=>Option.bind (fv a14) fun a16=>if a16=true then some (.inr t3) else some (.inl ())
def u4(sv:LL)(fv:Li→Option Bool):Option Int:=(Option.bind (rngX 0 (sv.length:Int) (r9 sv fv) ()) fun| .inl _=>some (-1)| .inr x=>some x)
def q6(sv:LL)(fv:Li→Option Bool):Option Bool:=Option.bind (u4 sv fv) fun a7=>some (decide (0≤a7))
noncomputable def R6(ov:b7)(all:LL):Int→Li→Option Li:=fun t6 c5=>Option.bind (Option.bind (ix all t6) fun a23=>Option.bind (k9 a23 ov.goal) fun a28=>if a28=true then Option.bind (ix c5 t6) fun a31=>some (c5.set t6.toNat 0) else some c5) fun c7=>some c7
def R4(nextv:List (LL))(safe:Li)(c11:Int):Int→Li→Option Li:=fun t15 c14=>Option.bind (Option.bind (Option.bind (ix c14 t15) fun a46=>if 0≤a46 then some true else Option.bind (ix safe t15) fun a52=>some (decide (a52=0))) fun t18=>if t18=true then some c14 else Option.bind (ix nextv t15) fun a58=>Option.bind (q6 a58 (fun y1=>H4 y1 safe c14 c11)) fun a61=>if a61=true then Option.bind (ix c14 t15) fun a65=>some (c14.set t15.toNat c11) else some c14) fun c16=>some c16
def S0(all:LL)(nextv:List (LL))(safe:Li):(Li×Int)→Option ((Li×Int)⊕Li):=fun(c10,c11)=>if c11≤(all.length:Int) then(Option.bind (forR 0 (all.length:Int) (R4 nextv safe c11) c10) fun c14=>some (.inl (c14,w64 (c11+1)))) else some (.inr c10)
noncomputable def S9(ov:b7)(all:LL)(nextv:List (LL))(safe:Li):Option Li:=Option.bind (C4 [-1] (all.length:Int)) fun a17=>(Option.bind (forR 0 (all.length:Int) (R6 ov all) a17) fun c5=>Option.bind (Loop (S0 all nextv safe) (c5,1)) fun c12=>some c12)
def N3(a21:Li):Int→(Li×Bool)→Option (Li×Bool):=fun t6 (c4,same5)=>Option.bind (if same5=true then Option.bind (ix a21 t6) fun a31=>Option.bind (ix c4 t6) fun a36=>some (decide ((decide (0≤a31))=(decide (0<a36)))) else some false) fun same7=>Option.bind (ix a21 t6) fun a45=>Option.bind (ix c4 t6) fun a49=>some (c4.set t6.toNat (min 1 (w64 (a45+1))),same7)
noncomputable def N1(ov:b7)(all:LL)(a12:(List (LL))):Li→Option (Li⊕Li):=fun c3=>Option.bind (S9 ov all a12 c3) fun a21=>(Option.bind (forR 0 (a21.length:Int) (N3 a21) (c3,true)) fun⟨c4,same5⟩=>if same5=true then some (.inr a21) else some (.inl c4))
noncomputable def I0(ov:b7)(all:LL):Option Li:=Option.bind (ab4 ov all) fun a12=>Option.bind (C4 [1] (all.length:Int)) fun a16=>Option.bind (Loop (N1 ov all a12) a16) fun x=>some x
noncomputable def O7(sv:Li)(c2:Li)(c3:LL):Option Bool:=Option.bind (y8 c3 sv) fun a8=>Option.bind (ix c2 a8) fun a9=>some (decide (a9<0))
noncomputable def I1(sv:Li)(c2:b7):Option Bool:=Option.bind (k9 sv c2.goal) fun a7=>some a7
def I8:Unit→Option (Unit⊕Int):=fun _=>some (.inl ())
noncomputable def Q2(c2:Li)(c3:LL)(a19:Int)(a36:(LL)×Li):Int→(Bool×Bool)→Option (Bool×Bool):=fun t6 (sure4,near5)=>Option.bind (Option.bind (ix a36.1 t6) fun a43=>Option.bind (y8 c3 a43) fun a48=>Option.bind (ix c2 a48) fun a49=>if sure4=true then if near5=true then some (decide (0≤a49),true) else some (decide (0≤a49),decide (a49=w64 (a19 - 1))) else if near5=true then some (false,true) else some (false,decide (a49=w64 (a19 - 1)))) fun⟨sure7,near8⟩=>some (sure7,near8)
noncomputable def I6(sv:Li)(c2:Li)(c3:LL)(c4:b7)(a19:Int):Int→Unit→Option (Unit⊕Int):=fun t2 _=>Option.bind (R1 c4 sv t2) fun a30=>if(!a30)=true then I8 () else Option.bind (o8 c4 sv t2) fun a36=>(Option.bind (forR 0 (a36.1.length:Int) (Q2 c2 c3 a19 a36) (true,false)) fun⟨sure4,near5⟩=>if(sure4 && near5)=true then some (.inr t2) else I8 ())
noncomputable def q9(sv:Li)(c2:Li)(c3:LL)(c4:b7):Option Int:=Option.bind (y8 c3 sv) fun a18=>Option.bind (ix c2 a18) fun a19=>(Option.bind (rngX 0 (c4.operators.length:Int) (I6 sv c2 c3 c4 a19) ()) fun| .inl _=>some (-1)| .inr x=>some x)
def A8(xv:List d8)(target:Li)(cmp:d8→Li→Option Int):(Int×Int)→Option ((Int×Int)⊕Int):=fun(iv4,j5)=>if iv4<j5 then Option.bind (ix xv (w64 (shrW .u64 ((IntKind.u64).wrap (w64 (iv4+j5))) 1))) fun a27=>Option.bind (cmp a27 target) fun a30=>if a30<0 then some (.inl (w64 ((w64 (shrW .u64 ((IntKind.u64).wrap (w64 (iv4+j5))) 1))+1),j5)) else some (.inl (iv4,w64 (shrW .u64 ((IntKind.u64).wrap (w64 (iv4+j5))) 1))) else some (.inr iv4)
noncomputable def j6(xv:List d8)(target:Li)(cmp:d8→Li→Option Int):Option (Int×Bool):=Option.bind (Loop (A8 xv target cmp) (0,(xv.length:Int))) fun iv6=>Option.bind (if iv6<(xv.length:Int) then Option.bind (ix xv iv6) fun a43=>Option.bind (cmp a43 target) fun a46=>some (decide (a46=0)) else some false) fun t9=>some (iv6,t9)
def open_Chosen_1(c:d8)(sv:Li):Option Int:=Option.bind (slices_Compare_int_int c.state sv) fun a8=>some a8
noncomputable def D5(policy:List d8)(sv:Li):Option Int:=Option.bind (j6 policy sv open_Chosen_1) fun a10=>if(!a10.2)=true then some (-1) else Option.bind (ix policy a10.1) fun a17=>some a17.operator
def H5(c:d8)(sv:Li):Option Int:=Option.bind (slices_Compare_int_int c.state sv) fun a8=>some a8
def J6(atv5:Int):((LL)×(List d8))→Option (((LL)×(List d8)×Int)⊕((List d8)⊕((List d8)×Bool))):=fun(c8,c9)=>some (.inl (c8,c9,w64 (atv5+1)))
noncomputable def W2(ov:b7)(choose:Li→Option Int):((LL)×(List d8)×Int)→Option (((LL)×(List d8)×Int)⊕((List d8)⊕((List d8)×Bool))):=fun(c3,c4,atv5)=>if atv5<(c3.length:Int) then Option.bind (ix c3 atv5) fun a26=>Option.bind (Option.bind (k9 a26 ov.goal) fun a31=>if a31=true then some true else Option.bind (D5 c4 a26) fun a35=>some (decide (0≤a35))) fun t10=>if t10=true then(J6 atv5) (c3,c4) else if(c4.length:Int)=200 then some (.inr (.inr ([],false))) else Option.bind (choose a26) fun a43=>Option.bind (j6 c4 a26 H5) fun a47=>Option.bind (w3 a26) fun a53=>Option.bind (insL c4 a47.1 (⟨a53,a43⟩:d8)) fun a57=>Option.bind (o8 ov a26 a43) fun a62=>Option.bind (app 24 c3 a62.1) fun a67=>(J6 atv5) (a67,a57) else some (.inr (.inl c4))
noncomputable def S4(ov:b7)(choose:Li→Option Int):Option ((List d8)×Bool):=Option.bind (Loop (W2 ov choose) ([ov.init],[],0)) fun| .inl c6=>some (c6,true)| .inr x=>some x
noncomputable def D3(ov:b7):Option ((List d8)×Bool×j9):=Option.bind (I7 ov) fun a12=>if(!((decide (a12.2.code=0)) && (decide (a12.2.index=0))))=true then some ([],false,a12.2) else Option.bind (I0 ov a12.1) fun a21=>Option.bind (y8 a12.1 ov.init) fun a26=>Option.bind (ix a21 a26) fun a27=>if a27<0 then some ([],false,(⟨0,0⟩:j9)) else Option.bind (S4 ov (fun y1=>q9 y1 a21 a12.1 ov)) fun a34=>if(!a34.2)=true then some ([],false,(⟨10, -8⟩:j9)) else some (a34.1,true,(⟨0,0⟩:j9))
noncomputable def N5(ov:b7)(states:LL)(t5:Int)(a31:Int)(a36:(LL)×Li):Int→Li→Option Li:=fun t7 c6=>Option.bind (Option.bind (ix a36.1 t7) fun a44=>Option.bind (ix c6 t5) fun a48=>Option.bind (ix a36.2 t7) fun a52=>Option.bind (ix c6 t5) fun a55=>Option.bind (ix (c6.set t5.toNat (w64 (a48+a52))) (states.length:Int)) fun a59=>Option.bind (ix a36.2 t7) fun a63=>Option.bind (ix ov.operators a31) fun a68=>Option.bind (ix (c6.set t5.toNat (w64 (a48+a52))) (states.length:Int)) fun a73=>Option.bind (k9 a44 ov.goal) fun a77=>if(!a77)=true then Option.bind (y8 states a44) fun a82=>Option.bind (ix ((c6.set t5.toNat (w64 (a48+a52))).set ((states.length:Int).toNat) (w64 (a59+(w64 (a63 * a68.cost))))) a82) fun a83=>Option.bind (ix a36.2 t7) fun a87=>Option.bind (ix ((c6.set t5.toNat (w64 (a48+a52))).set ((states.length:Int).toNat) (w64 (a59+(w64 (a63 * a68.cost))))) a82) fun a90=>some (((c6.set t5.toNat (w64 (a48+a52))).set ((states.length:Int).toNat) (w64 (a59+(w64 (a63 * a68.cost))))).set a82.toNat (w64 (a83 - a87))) else some ((c6.set t5.toNat (w64 (a48+a52))).set ((states.length:Int).toNat) (w64 (a59+(w64 (a63 * a68.cost)))))) fun c8=>some c8
noncomputable def B6(ov:b7)(states:LL)(choose:Li→Option Int):Int→(LL)→Option (LL):=fun t5 c4=>Option.bind (ix states t5) fun a23=>Option.bind (mkL 8 (w64 ((states.length:Int)+1)) 0) fun a28=>Option.bind (choose a23) fun a31=>Option.bind (o8 ov a23 a31) fun a36=>(Option.bind (forR 0 (a36.1.length:Int) (N5 ov states t5 a31 a36) a28) fun c6=>Option.bind (app 24 c4 [c6]) fun a96=>some a96)
def M5:(Int×Int)→Option ((Int×Int)⊕Int):=fun(av7,bv8)=>if 0<bv8 then Option.bind (chkN bv8) fun u25=>some (.inl (bv8,(av7).tmod bv8)) else some (.inr av7)
noncomputable def D6(num:Int)(den:Int):Option (r8×Bool):=Option.bind (if den<0 then some (w64 (0 - num),w64 (0 - den)) else some (num,den)) fun⟨num3,den4⟩=>Option.bind (Loop M5 (max num3 (w64 (0 - num3)),den4)) fun av9=>Option.bind (chkN av9) fun u28=>Option.bind (chkN av9) fun u31=>some ((⟨w64 ((num3).tdiv av9),w64 ((den4).tdiv av9)⟩:r8),decide (max (max (w64 ((num3).tdiv av9)) (w64 (0 - (w64 ((num3).tdiv av9))))) (w64 ((den4).tdiv av9))≤1000000000))
noncomputable def O4(num:Int)(den:Int):Option (r8×j9):=Option.bind (D6 num den) fun a11=>if(!a11.2)=true then some ((⟨0,0⟩:r8),(⟨10, -2⟩:j9)) else some (a11.1,(⟨0,0⟩:j9))
abbrev Q4(l:LL)(c:LL)(l3:Li):b6:=[.one (vec 1 b9 l),.one (.cells 1 [[.own 3 0 l3.length]]),.one (.cells 1 [[row 1 b9 c]]),.one (vec 1 intI l3)]
noncomputable def P5(c:LL)(l3:Li):((LL)×Int×Int)→Option (((LL)×Int×Int)⊕((LL)×Int)):=fun(c56,iv57,j58)=>if j58<(c56.length:Int) then Option.bind (Option.bind (ix c56 j58) fun a24=>Option.bind (O7 a24 l3 c) fun a28=>if(!a28)=true then Option.bind (ix c56 iv57) fun a33=>some (c56.set iv57.toNat a24,w64 (iv57+1)) else some (c56,iv57)) fun⟨c62,iv63⟩=>some (.inl (c62,iv63,w64 (j58+1))) else some (.inr (c56,iv57))
noncomputable def A4(l:LL)(c:LL)(l3:Li):Option (LL):=Option.bind (u4 l (fun y1=>O7 y1 l3 c)) fun a10=>if a10=(-1) then some l else Option.bind (Loop (P5 c l3) (l,a10,w64 (a10+1))) fun⟨c59,iv60⟩=>Option.bind (cutV (c59.length:Int) iv60 (c59.length:Int)) fun u38=>Option.bind (cutV ((clrL c59 (0+iv60) ((c59.length:Int) - iv60) []).length:Int) 0 iv60) fun u41=>some (u5 (clrL c59 (0+iv60) ((c59.length:Int) - iv60) []) 0 iv60)
abbrev N7(l:LL)(Facts:Int)(Init:Li)(Goal:Li)(Operators:List f8):b6:=[.one (vec 1 b9 l),.one (.cells 4 [[int Facts,row 1 intI Init,row 1 intI Goal,row 3 d7 Operators]])]
noncomputable def N8(Facts:Int)(Init:Li)(Goal:Li)(Operators:List f8):((LL)×Int×Int)→Option (((LL)×Int×Int)⊕((LL)×Int)):=fun(c58,iv59,j60)=>if j60<(c58.length:Int) then Option.bind (Option.bind (ix c58 j60) fun a24=>Option.bind (I1 a24 (⟨Facts,Init,Goal,Operators⟩:b7)) fun a28=>if(!a28)=true then Option.bind (ix c58 iv59) fun a33=>some (c58.set iv59.toNat a24,w64 (iv59+1)) else some (c58,iv59)) fun⟨c64,iv65⟩=>some (.inl (c64,iv65,w64 (j60+1))) else some (.inr (c58,iv59))
noncomputable def H6(l:LL)(Facts:Int)(Init:Li)(Goal:Li)(Operators:List f8):Option (LL):=Option.bind (u4 l (fun y1=>I1 y1 (⟨Facts,Init,Goal,Operators⟩:b7))) fun a10=>if a10=(-1) then some l else Option.bind (Loop (N8 Facts Init Goal Operators) (l,a10,w64 (a10+1))) fun⟨c61,iv62⟩=>Option.bind (cutV (c61.length:Int) iv62 (c61.length:Int)) fun u38=>Option.bind (cutV ((clrL c61 (0+iv62) ((c61.length:Int) - iv62) []).length:Int) 0 iv62) fun u41=>some (u5 (clrL c61 (0+iv62) ((c61.length:Int) - iv62) []) 0 iv62)
abbrev as9(ov:b7)(l:LL):b6:=[.one (vec 1 b9 l)]
noncomputable def F3(ov:b7)(l:LL):Option (LL):=Option.bind (H6 l ov.facts ov.init ov.goal ov.operators) fun a7=>some a7
abbrev M9(states:LL)(l:LL):b6:=[mat (0,[]) 1 intI l]
def D0(l:LL)(t57:Int)(c55:LL):Unit→Option (Unit⊕Unit):=fun _=>Option.bind (if t57<(l.length:Int) - 1 then Option.bind (ix c55 t57) fun a30=>Option.bind (ix a30 t57) fun a33=>some (decide (a33=0)) else some false) fun t58=>if t58=true then none else some (.inr ())
def C8(t57:Int)(last56:Int)(t63:Int):((LL)×Int)→Option (((LL)×Int)⊕(LL)):=fun(c67,j68)=>if 0≤j68 then Option.bind (if j68=t57 then some c67 else Option.bind (ix c67 t63) fun a70=>Option.bind (ix c67 t57) fun a75=>Option.bind (ix a75 t57) fun a78=>Option.bind (ix c67 t63) fun a82=>Option.bind (ix a82 j68) fun a85=>Option.bind (ix c67 t63) fun a90=>Option.bind (ix a90 t57) fun a93=>Option.bind (ix c67 t57) fun a97=>Option.bind (ix a97 j68) fun a100=>Option.bind (chkN last56) fun u105=>Option.bind (ix a70 j68) fun a106=>some (c67.set t63.toNat (a70.set j68.toNat (w64 ((w64 ((w64 (a78 * a85)) - (w64 (a93 * a100)))).tdiv last56))))) fun c71=>some (.inl (c71,w64 (j68 - 1))) else some (.inr c67)
noncomputable def D2(l:LL)(t57:Int)(last56:Int):Int→(LL)→Option (LL):=fun t63 c62=>Option.bind (if t63=t57 then some c62 else Option.bind (Loop (C8 t57 last56 t63) (c62,(l.length:Int))) fun c69=>Option.bind (ix c69 t63) fun a109=>Option.bind (ix a109 t57) fun a112=>some (c69.set t63.toNat (a109.set t57.toNat 0))) fun c64=>some c64
noncomputable def C7(l:LL):Int→((LL)×Int)→Option ((LL)×Int):=fun t57 (c55,last56)=>Option.bind (Loop (D0 l t57 c55) ()) fun _=>Option.bind (ix c55 t57) fun a45=>Option.bind (ix c55 t57) fun a49=>Option.bind (ix c55 t57) fun a51=>Option.bind (ix c55 t57) fun a52=>(Option.bind (forR 0 (l.length:Int) (D2 l t57 last56) c55) fun c62=>Option.bind (ix c62 t57) fun a116=>Option.bind (ix a116 t57) fun a119=>some (c62,a119))
def G2(l:LL)(c55:LL):Int→Li→Option Li:=fun t75 c74=>Option.bind (ix c55 t75) fun a133=>Option.bind (ix a133 (l.length:Int)) fun a136=>Option.bind (ix c74 t75) fun a138=>some (c74.set t75.toNat a136)
noncomputable def x5(states:LL)(l:LL):Option (Li×Int):=(Option.bind (forR 0 (l.length:Int) (C7 l) (l,1)) fun⟨c55,last56⟩=>Option.bind (mkL 8 (l.length:Int) 0) fun a123=>(Option.bind (forR 0 (a123.length:Int) (G2 l c55) a123) fun c74=>some (c74,last56)))
abbrev V8(sv:Li)(op:Int)(ov:b7)(states:LL)(den:Int)(l:Li)(l7:Li):b6:=[.one (.cells 8 [[int ov.facts,row 1 intI ov.init,row 1 intI ov.goal,row 3 d7 ov.operators,row 1 b9 states,.own 1 0 l.length,.own 2 0 l7.length,int den]]),.one (vec 1 intI l),.one (vec 1 intI l7)]
def y4:(Int×Int)→Option ((Int×Int)⊕(Int×Int×Bool)):=fun(sum64,all65)=>some (.inl (sum64,all65))
noncomputable def F7(ov:b7)(states:LL)(l7:Li)(a24:(LL)×Li):Int→(Int×Int)→Option ((Int×Int)⊕(Int×Int×Bool)):=fun t63 (sum61,all62)=>Option.bind (ix a24.1 t63) fun a32=>Option.bind (ix a24.2 t63) fun a37=>Option.bind (k9 a32 ov.goal) fun a46=>if a46=true then y4 (sum61,w64 (all62+a37)) else Option.bind (m8 states a32 slices_Compare_int_int) fun a53=>if(!a53.2)=true then some (.inr (0,0,false)) else Option.bind (ix a24.2 t63) fun a61=>Option.bind (ix l7 a53.1) fun a68=>y4 (w64 (sum61+(w64 (a61 * a68))),w64 (all62+a37))
noncomputable def B5(sv:Li)(op:Int)(ov:b7)(states:LL)(den:Int)(l:Li)(l7:Li):Option (Int×Int×Bool):=Option.bind (o8 ov sv op) fun a24=>(Option.bind (rngX 0 (a24.1.length:Int) (F7 ov states l7 a24) (0,0)) fun| .inl (sum61,all62)=>Option.bind (ix ov.operators op) fun a81=>some (w64 (sum61+(w64 ((w64 (all62 * a81.cost)) * den))),all62,true)| .inr x=>some x)
abbrev ai0(ov:b7)(states:LL)(den:Int)(l:Li)(l5:Li):b6:=[.one (.cells 8 [[int ov.facts,row 1 intI ov.init,row 1 intI ov.goal,row 3 d7 ov.operators,row 1 b9 states,.own 1 0 l.length,.own 2 0 l5.length,int den]]),.one (vec 1 intI l),.one (vec 1 intI l5)]
noncomputable def A5(ov:b7)(states:LL)(den:Int)(l:Li)(l5:Li)(a27:Li):Int→(Int×Int×Int)→Option (Int×Int×Int):=fun t64 (found61,num62,den63)=>Option.bind (Option.bind (R1 ov a27 t64) fun a44=>if(!a44)=true then some (found61,num62,den63) else Option.bind (B5 a27 t64 ov states den l l5) fun a50=>if(a50.2.2 && ((decide (found61<0))||(decide (w64 (a50.1 * den63)<w64 (num62 * a50.2.1)))))=true then some (t64,a50.1,a50.2.1) else some (found61,num62,den63)) fun⟨found65,num66,den67⟩=>some (found65,num66,den67)
noncomputable def E2(ov:b7)(states:LL)(den:Int)(l:Li)(l5:Li):Int→(Li×Bool)→Option (Li×Bool):=fun t60 (c58,better59)=>Option.bind (ix states t60) fun a27=>(Option.bind (forR 0 (ov.operators.length:Int) (A5 ov states den l l5 a27) (-1,0,1)) fun⟨found61,num62,den63⟩=>Option.bind (if better59=true then some true else Option.bind (ix l5 t60) fun a80=>some (decide (num62<w64 (a80 * den63)))) fun better71=>Option.bind (ix c58 t60) fun a89=>some (c58.set t60.toNat found61,better71))
noncomputable def C9(ov:b7)(states:LL)(den:Int)(l:Li)(l5:Li):Option (Li×Bool):=Option.bind (w3 l) fun a18=>(Option.bind (forR 0 (states.length:Int) (E2 ov states den l l5) (a18,false)) fun⟨c58,better59⟩=>some (c58,better59))
abbrev an4(sv:Li)(ov:b7)(states:LL)(den:Int)(l:Li)(l6:Li):b6:=[.one (.cells 8 [[int ov.facts,row 1 intI ov.init,row 1 intI ov.goal,row 3 d7 ov.operators,row 1 b9 states,.own 1 0 l.length,.own 2 0 l6.length,int den]]),.one (vec 1 intI l),.one (vec 1 intI l6)]
noncomputable def u3(sv:Li)(ov:b7)(states:LL)(den:Int)(l:Li)(l6:Li):Option Int:=Option.bind (y8 states sv) fun a14=>Option.bind (ix l a14) fun a15=>some a15
abbrev ap3(ov:b7)(states:LL)(ov3:b7)(states4:LL)(den:Int)(l:Li)(l7:Li):b6:=[.one (.cells 8 [[int ov3.facts,row 1 intI ov3.init,row 1 intI ov3.goal,row 3 d7 ov3.operators,row 1 b9 states4,.own 1 0 l.length,.own 2 0 l7.length,int den]]),.one (vec 1 intI l),.one (vec 1 intI l7)]
noncomputable def ab5(ov:b7)(states:LL)(t60:Int)(a31:Int)(a36:(LL)×Li):Int→Li→Option Li:=fun t62 c61=>Option.bind (Option.bind (ix a36.1 t62) fun a44=>Option.bind (ix c61 t60) fun a48=>Option.bind (ix a36.2 t62) fun a52=>Option.bind (ix c61 t60) fun a55=>Option.bind (ix (c61.set t60.toNat (w64 (a48+a52))) (states.length:Int)) fun a59=>Option.bind (ix a36.2 t62) fun a63=>Option.bind (ix ov.operators a31) fun a68=>Option.bind (ix (c61.set t60.toNat (w64 (a48+a52))) (states.length:Int)) fun a73=>Option.bind (k9 a44 ov.goal) fun a77=>if(!a77)=true then Option.bind (y8 states a44) fun a82=>Option.bind (ix ((c61.set t60.toNat (w64 (a48+a52))).set ((states.length:Int).toNat) (w64 (a59+(w64 (a63 * a68.cost))))) a82) fun a83=>Option.bind (ix a36.2 t62) fun a87=>Option.bind (ix ((c61.set t60.toNat (w64 (a48+a52))).set ((states.length:Int).toNat) (w64 (a59+(w64 (a63 * a68.cost))))) a82) fun a90=>some (((c61.set t60.toNat (w64 (a48+a52))).set ((states.length:Int).toNat) (w64 (a59+(w64 (a63 * a68.cost))))).set a82.toNat (w64 (a83 - a87))) else some ((c61.set t60.toNat (w64 (a48+a52))).set ((states.length:Int).toNat) (w64 (a59+(w64 (a63 * a68.cost)))))) fun c63=>some c63
noncomputable def aa8(ov:b7)(states:LL)(ov3:b7)(states4:LL)(den:Int)(l:Li)(l7:Li):Int→(LL)→Option (LL):=fun t60 c59=>Option.bind (ix states t60) fun a23=>Option.bind (mkL 8 (w64 ((states.length:Int)+1)) 0) fun a28=>Option.bind (u3 a23 ov3 states4 den l l7) fun a31=>Option.bind (o8 ov a23 a31) fun a36=>(Option.bind (forR 0 (a36.1.length:Int) (ab5 ov states t60 a31 a36) a28) fun c61=>Option.bind (app 24 c59 [c61]) fun a96=>some a96)
noncomputable def H0(ov:b7)(states:LL)(ov3:b7)(states4:LL)(den:Int)(l:Li)(l7:Li):Option (LL):=(Option.bind (forR 0 (states.length:Int) (aa8 ov states ov3 states4 den l l7) ([]:LL)) fun c59=>some c59)
abbrev aa3(ov:b7)(ov2:b7)(states:LL)(den:Int)(l:Li)(l6:Li):b6:=[.one (.cells 8 [[int ov2.facts,row 1 intI ov2.init,row 1 intI ov2.goal,row 3 d7 ov2.operators,row 1 b9 states,.own 1 0 l.length,.own 2 0 l6.length,int den]]),.one (vec 1 intI l),.one (vec 1 intI l6)]
def R8(atv61:Int):((LL)×(List d8))→Option (((LL)×(List d8)×Int)⊕((List d8)⊕((List d8)×Bool))):=fun(c64,c65)=>some (.inl (c64,c65,w64 (atv61+1)))
noncomputable def aj8(ov:b7)(ov2:b7)(states:LL)(den:Int)(l:Li)(l6:Li):((LL)×(List d8)×Int)→Option (((LL)×(List d8)×Int)⊕((List d8)⊕((List d8)×Bool))):=fun(c59,c60,atv61)=>if atv61<(c59.length:Int) then Option.bind (ix c59 atv61) fun a26=>Option.bind (Option.bind (k9 a26 ov.goal) fun a31=>if a31=true then some true else Option.bind (D5 c60 a26) fun a35=>some (decide (0≤a35))) fun t66=>if t66=true then(R8 atv61) (c59,c60) else if(c60.length:Int)=200 then some (.inr (.inr ([],false))) else Option.bind (u3 a26 ov2 states den l l6) fun a43=>Option.bind (j6 c60 a26 H5) fun a47=>Option.bind (w3 a26) fun a53=>Option.bind (insL c60 a47.1 (⟨a53,a43⟩:d8)) fun a57=>Option.bind (o8 ov a26 a43) fun a62=>Option.bind (app 24 c59 a62.1) fun a67=>(R8 atv61) (a67,a57) else some (.inr (.inl c60))
noncomputable def T1(ov:b7)(ov2:b7)(states:LL)(den:Int)(l:Li)(l6:Li):Option ((List d8)×Bool):=Option.bind (Loop (aj8 ov ov2 states den l l6) ([ov.init],[],0)) fun| .inl c62=>some (c62,true)| .inr x=>some x
noncomputable def T4(ov:b7)(a47:(LL)):Int→Li→Option Li:=fun t8 c7=>Option.bind (ix a47 t8) fun a85=>Option.bind (D3 (⟨ov.facts,a85,ov.goal,ov.operators⟩:b7)) fun a92=>Option.bind (D5 a92.1 a85) fun a103=>Option.bind (app 8 c7 [a103]) fun a105=>some a105
def S3:Int→Li→Option Li:=fun t22 c21=>Option.bind (ix c21 t22) fun a159=>Option.bind (ix c21 t22) fun a162=>some (c21.set t22.toNat (w64 (0 - a159)))
noncomputable def L4(ov:b7)(a47:(LL)):(Int×Li×Li×Bool)→Option ((Int×Li×Li×Bool)⊕(Int×Li×Li)):=fun(c9,c10,c11,again12)=>if again12=true then Option.bind (H0 ov a47 ov a47 c9 c10 c11) fun a120=>Option.bind (x5 a47 a120) fun a121=>Option.bind (if a121.2<0 then(Option.bind (forR 0 (a121.1.length:Int) S3 a121.1) fun c21=>some (w64 (0 - a121.2),c21)) else some (a121.2,a121.1)) fun⟨c17,c18⟩=>Option.bind (C9 ov a47 c17 c10 c18) fun a165=>some (.inl (c17,a165.1,c18,a165.2)) else some (.inr (c9,c10,c11))
noncomputable def q7(ov:b7):Option ((List d8)×r8×Bool×j9):=Option.bind (I7 ov) fun a24=>if(!((decide (a24.2.code=0)) && (decide (a24.2.index=0))))=true then some ([],(⟨0,0⟩:r8),false,a24.2) else Option.bind (m5 ov.operators O3) fun a34=>if a34=true then some ([],(⟨0,0⟩:r8),false,(⟨3, -5⟩:j9)) else Option.bind (I0 ov a24.1) fun a39=>Option.bind (z6 a24.1) fun a41=>Option.bind (A4 a41 a24.1 a39) fun a43=>Option.bind (F3 ov a43) fun a47=>Option.bind (z6 a24.1) fun a53=>Option.bind (F3 ov a53) fun a54=>if 5<(a54.length:Int) then some ([],(⟨0,0⟩:r8),false,(⟨10, -7⟩:j9)) else Option.bind (y8 a24.1 ov.init) fun a64=>Option.bind (ix a39 a64) fun a65=>if a65<0 then some ([],(⟨0,0⟩:r8),false,(⟨0,0⟩:j9)) else Option.bind (k9 ov.init ov.goal) fun a75=>if a75=true then some ([],(⟨0,1⟩:r8),true,(⟨0,0⟩:j9)) else(Option.bind (forR 0 (a47.length:Int) (T4 ov a47) []) fun c7=>Option.bind (Loop (L4 ov a47) (0,c7,[],true)) fun⟨c13,c14,c15⟩=>Option.bind (y8 a47 ov.init) fun a177=>Option.bind (ix c15 a177) fun a178=>Option.bind (O4 a178 c13) fun a184=>if(!((decide (a184.2.code=0)) && (decide (a184.2.index=0))))=true then some ([],(⟨0,0⟩:r8),false,a184.2) else Option.bind (T1 ov ov a47 c13 c14 c15) fun a196=>some (a196.1,a184.1,true,(⟨0,0⟩:j9)))
def ad5(nv:Int)(low:Int)(high:Int):Option Bool:=some ((decide (low≤nv)) && (decide (nv≤high)))
def U9(code:Int)(index:Int):Option j9:=some (⟨code,index⟩:j9)
def aj3(l:Li)(nv:Int):Int→Unit→Option (Unit⊕Bool):=fun iv3 _=>Option.bind (Option.bind (ix l iv3) fun a14=>Option.bind (ad5 a14 0 (w64 (nv - 1))) fun a18=>if(!a18)=true then some true else if 0<iv3 then Option.bind (ix l iv3) fun a26=>Option.bind (ix l (iv3 - 1)) fun a31=>some (decide (a26≤a31)) else some false) fun t4=>if t4=true then some (.inr false) else some (.inl ())
def Q7(l:Li)(nv:Int):Option Bool:=(Option.bind (rngX 0 (l.length:Int) (aj3 l nv) ()) fun| .inl _=>some true| .inr x=>some x)
def ref1_Has_l1(l:Li)(nv:Int):Int→Unit→Option (Unit⊕Bool):=fun iv3 _=>Option.bind (ix l iv3) fun a14=>if a14=nv then some (.inr true) else some (.inl ())
def X6(l:Li)(nv:Int):Option Bool:=(Option.bind (rngX 0 (l.length:Int) (ref1_Has_l1 l nv) ()) fun| .inl _=>some false| .inr x=>some x)
def am7(av:Li)(bv:Li):Int→Unit→Option (Unit⊕Bool):=fun iv3 _=>Option.bind (ix av iv3) fun a15=>Option.bind (X6 bv a15) fun a17=>if a17=true then some (.inr false) else some (.inl ())
def ai6(av:Li)(bv:Li):Option Bool:=(Option.bind (rngX 0 (av.length:Int) (am7 av bv) ()) fun| .inl _=>some true| .inr x=>some x)
def E0(ov:b7)(a42:f8):(Int×Int)→Option ((Int×Int)⊕Int):=fun(ev12,kv13)=>if((decide (kv13<(a42.outcomes.length:Int))) && (decide (ev12=0)))=true then Option.bind (Option.bind (ix a42.outcomes kv13) fun a73=>Option.bind (Option.bind (Q7 a73.add ov.facts) fun a79=>if(!a79)=true then some true else Option.bind (Q7 a73.del ov.facts) fun a86=>if(!a86)=true then some true else Option.bind (ai6 a73.add a73.del) fun a94=>some (!a94)) fun t18=>if t18=true then some 5 else Option.bind (ad5 a73.weight 1 6) fun a99=>if(!a99)=true then some 3 else some ev12) fun ev16=>some (.inl (ev16,w64 (kv13+1))) else some (.inr ev12)
noncomputable def K3(ov:b7):Int→Unit→Option (Unit⊕j9):=fun iv6 _=>Option.bind (ix ov.operators iv6) fun a42=>Option.bind (Option.bind (Q7 a42.pre ov.facts) fun a48=>if(!a48)=true then some 5 else Option.bind (ad5 a42.cost 0 100) fun a52=>if(!a52)=true then some 3 else Option.bind (ad5 (a42.outcomes.length:Int) 1 4) fun a57=>if(!a57)=true then some 9 else some 0) fun ev7=>Option.bind (Loop (E0 ov a42) (ev7,0)) fun ev14=>if ev14=0 then some (.inl ()) else Option.bind (U9 ev14 iv6) fun a105=>some (.inr a105)
noncomputable def ag8(ov:b7):Option j9:=Option.bind (ad5 ov.facts 0 24) fun a10=>if(!a10)=true then Option.bind (U9 3 (-1)) fun a12=>some a12 else Option.bind (Q7 ov.init ov.facts) fun a17=>if(!a17)=true then Option.bind (U9 5 (-2)) fun a19=>some a19 else Option.bind (Q7 ov.goal ov.facts) fun a24=>if(!a24)=true then Option.bind (U9 5 (-3)) fun a26=>some a26 else if 40<(ov.operators.length:Int) then Option.bind (U9 2 (-1)) fun a31=>some a31 else(Option.bind (rngX 0 (ov.operators.length:Int) (K3 ov) ()) fun| .inl _=>some (⟨0,0⟩:j9)| .inr x=>some x)
def am4(sv:Li):Int→Int→Option Int:=fun iv3 w2=>Option.bind (ix sv iv3) fun a14=>Option.bind (chk0 ((IntKind.u64).wrap a14)) fun u17=>some (w64 (w2+(shlW .i64 1 ((IntKind.u64).wrap a14))))
def ah8(sv:Li):Option Int:=(Option.bind (forR 0 (sv.length:Int) (am4 sv) 0) fun w2=>some w2)
def ap7(part:Li)(l:Li):Int→Unit→Option (Unit⊕Bool):=fun iv3 _=>Option.bind (ix part iv3) fun a15=>Option.bind (X6 l a15) fun a17=>if(!a17)=true then some (.inr false) else some (.inl ())
def ap0(part:Li)(l:Li):Option Bool:=(Option.bind (rngX 0 (part.length:Int) (ap7 part l) ()) fun| .inl _=>some true| .inr x=>some x)
def af3(ov:b7)(sv:Li)(op:Int):Option Bool:=Option.bind (ix ov.operators op) fun a10=>Option.bind (ap0 a10.pre sv) fun a14=>some a14
def aq1(sv:Li)(xv:j8):Int→Li→Option Li:=fun p5 c4=>Option.bind (Option.bind (Option.bind (X6 xv.add p5) fun a18=>if a18=true then some true else Option.bind (X6 sv p5) fun a22=>if a22=true then Option.bind (X6 xv.del p5) fun a27=>some (!a27) else some false) fun t8=>if t8=true then Option.bind (app 8 c4 [p5]) fun a34=>some a34 else some c4) fun c6=>some c6
def ah3(ov:b7)(sv:Li)(xv:j8):Option Li:=if ov.facts≤9223372036854775807 then(Option.bind (forR 0 ov.facts (aq1 sv xv) []) fun c4=>some c4) else none
def ag9(av:Li)(bv:Li):Int→Option (Int⊕(Unit⊕Bool)):=fun iv3=>if((decide (iv3<(av.length:Int))) && (decide (iv3<(bv.length:Int))))=true then Option.bind (ix av iv3) fun a20=>Option.bind (ix bv iv3) fun a24=>if a20=a24 then some (.inl (w64 (iv3+1))) else Option.bind (ix av iv3) fun a29=>Option.bind (ix bv iv3) fun a33=>some (.inr (.inr (decide (a29<a33)))) else some (.inr (.inl ()))
noncomputable def ab0(av:Li)(bv:Li):Option Bool:=Option.bind (Loop (ag9 av bv) 0) fun| .inl _=>some (decide ((av.length:Int)<(bv.length:Int)))| .inr x=>some x
def an2(av:Li)(bv:Li):Int→Unit→Option (Unit⊕Bool):=fun iv4 _=>Option.bind (ix av iv4) fun a19=>Option.bind (ix bv iv4) fun a23=>if a19=a23 then some (.inl ()) else some (.inr false)
def K9(av:Li)(bv:Li):Option Bool:=if(av.length:Int)=(bv.length:Int) then(Option.bind (rngX 0 (av.length:Int) (an2 av bv) ()) fun| .inl _=>some true| .inr x=>some x) else some false
noncomputable def ag3(l:LL)(sv:Li):Int→Option (Int⊕Int):=fun kv3=>Option.bind (if kv3<(l.length:Int) then Option.bind (ix l kv3) fun a13=>Option.bind (ab0 a13 sv) fun a16=>some a16 else some false) fun t5=>if t5=true then some (.inl (w64 (kv3+1))) else some (.inr kv3)
noncomputable def ah4(l:LL)(sv:Li):Option (LL):=Option.bind (Loop (ag3 l sv) 0) fun kv4=>Option.bind (if kv4<(l.length:Int) then Option.bind (ix l kv4) fun a27=>Option.bind (K9 a27 sv) fun a30=>some a30 else some false) fun t9=>if t9=true then some l else Option.bind (subL l 0 kv4) fun a36=>Option.bind (app 24 ([]:LL) a36) fun a37=>Option.bind (app 24 a37 [sv]) fun a40=>Option.bind (subL l kv4 (l.length:Int)) fun a43=>Option.bind (app 24 a40 a43) fun a44=>some a44
def ai8(l:LL)(sv:Li):Int→Unit→Option (Unit⊕Int):=fun iv3 _=>Option.bind (ix l iv3) fun a14=>Option.bind (K9 a14 sv) fun a17=>if a17=true then some (.inr iv3) else some (.inl ())
def ar8(l:LL)(sv:Li):Option Int:=(Option.bind (rngX 0 (l.length:Int) (ai8 l sv) ()) fun| .inl _=>some (-1)| .inr x=>some x)
noncomputable def aj0(ov:b7)(sv:Li)(a17:f8):Int→(LL)→Option (LL):=fun kv5 states4=>Option.bind (ix a17.outcomes kv5) fun a31=>Option.bind (ah3 ov sv a31) fun a33=>Option.bind (ah4 states4 a33) fun a34=>some a34
def ai9(ov:b7)(sv:Li)(a17:f8)(states4:LL):Int→Li→Option Li:=fun kv7 c6=>Option.bind (ix a17.outcomes kv7) fun a49=>Option.bind (ah3 ov sv a49) fun a51=>Option.bind (ar8 states4 a51) fun a52=>Option.bind (ix c6 a52) fun a57=>Option.bind (ix a17.outcomes kv7) fun a61=>Option.bind (ix c6 a52) fun a65=>some (c6.set a52.toNat (w64 (a57+a61.weight)))
noncomputable def ar9(ov:b7)(sv:Li)(op:Int):Option ((LL)×Li):=Option.bind (ix ov.operators op) fun a17=>(Option.bind (forR 0 (a17.outcomes.length:Int) (aj0 ov sv a17) []) fun states4=>Option.bind (mkL 8 (states4.length:Int) 0) fun a37=>(Option.bind (forR 0 (a17.outcomes.length:Int) (ai9 ov sv a17 states4) a37) fun c6=>some (states4,c6)))
def ao2:((LL)×Li)→Option (((LL)×Li)⊕((LL)×Bool)):=fun(c11,c12)=>some (.inl (c11,c12))
def ao4:((LL)×Li)→Option (((LL)×Li)⊕((LL)×Bool)):=fun(c17,c18)=>some (.inl (c17,c18))
def Q6(most:Int)(a52:(LL)×Li):Int→((LL)×Li)→Option (((LL)×Li)⊕((LL)×Bool)):=fun kv16 (c14,c15)=>Option.bind (ix a52.1 kv16) fun a64=>Option.bind (ah8 a64) fun a66=>Option.bind (X6 c15 a66) fun a67=>if a67=true then ao4 (c14,c15) else if most≤(c14.length:Int) then some (.inr ([],false)) else Option.bind (ix a52.1 kv16) fun a75=>Option.bind (app 24 c14 [a75]) fun a78=>Option.bind (ix a52.1 kv16) fun a82=>Option.bind (ah8 a82) fun a84=>Option.bind (app 8 c15 [a84]) fun a86=>ao4 (a78,a86)
noncomputable def P4(ov:b7)(most:Int)(iv5:Int):Int→((LL)×Li)→Option (((LL)×Li)⊕((LL)×Bool)):=fun op10 (c8,c9)=>Option.bind (ix c8 iv5) fun a40=>Option.bind (af3 ov a40 op10) fun a43=>if(!a43)=true then ao2 (c8,c9) else Option.bind (ix c8 iv5) fun a49=>Option.bind (ar9 ov a49 op10) fun a52=>(Option.bind (rngX 0 (a52.1.length:Int) (Q6 most a52) (c8,c9)) fun| .inl (c14,c15)=>ao2 (c14,c15)| .inr x=>some (.inr x))
noncomputable def W0(ov:b7)(most:Int):((LL)×Li×Int)→Option (((LL)×Li×Int)⊕((LL)⊕((LL)×Bool))):=fun(c3,c4,iv5)=>if iv5<(c3.length:Int) then(Option.bind (rngX 0 (ov.operators.length:Int) (P4 ov most iv5) (c3,c4)) fun| .inl (c8,c9)=>some (.inl (c8,c9,w64 (iv5+1)))| .inr x=>some (.inr (.inr x))) else some (.inr (.inl c3))
noncomputable def af4(c6:LL):Int→(LL)→Option (LL):=fun iv22 out21=>Option.bind (ix c6 iv22) fun a96=>Option.bind (ah4 out21 a96) fun a98=>some a98
noncomputable def L7(ov:b7)(most:Int):Option ((LL)×Bool):=Option.bind (ah8 ov.init) fun a21=>Option.bind (app 8 [] [a21]) fun a23=>Option.bind (Loop (W0 ov most) ([ov.init],a23,0)) fun| .inl c6=>(Option.bind (forR 0 (c6.length:Int) (af4 c6) []) fun out21=>some (out21,true))| .inr x=>some x
def ao0:Option b7:=some (⟨1,[],[0],[(⟨[],[(⟨[0],[],1⟩:j8),(⟨[],[],2⟩:j8)],1⟩:f8)]⟩:b7)
def ae5(av:List d8)(bv:List d8):Int→Unit→Option (Unit⊕Bool):=fun iv4 _=>Option.bind (Option.bind (ix av iv4) fun a19=>Option.bind (ix bv iv4) fun a24=>if(!(decide (a19.operator=a24.operator)))=true then some true else Option.bind (ix av iv4) fun a31=>Option.bind (ix bv iv4) fun a36=>Option.bind (K9 a31.state a36.state) fun a39=>some (!a39)) fun t5=>if t5=true then some (.inr false) else some (.inl ())
def W7(av:List d8)(bv:List d8):Option Bool:=if(av.length:Int)=(bv.length:Int) then(Option.bind (rngX 0 (av.length:Int) (ae5 av bv) ()) fun| .inl _=>some true| .inr x=>some x) else some false
noncomputable def B2:Option Bool:=Option.bind (ao0) fun a6=>Option.bind (q7 a6) fun a7=>Option.bind (if a7.2.2.2.code=0 then if a7.2.2.1=true then if((decide (a7.2.1.num=3)) && (decide (a7.2.1.den=1)))=true then Option.bind (W7 a7.1 ([(⟨[],0⟩:d8)])) fun a27=>some a27 else some false else some false else some false) fun t1=>some t1
def ag4(p:List d8)(sv:Li):Int→Unit→Option (Unit⊕Int):=fun iv3 _=>Option.bind (ix p iv3) fun a14=>Option.bind (K9 a14.state sv) fun a18=>if a18=true then Option.bind (ix p iv3) fun a21=>some (.inr a21.operator) else some (.inl ())
def ah1(p:List d8)(sv:Li):Option Int:=(Option.bind (rngX 0 (p.length:Int) (ag4 p sv) ()) fun| .inl _=>some (-1)| .inr x=>some x)
noncomputable def E7(ov:b7)(policy:List d8):Int→Unit→Option (Unit⊕j9):=fun t5 _=>Option.bind (ix policy t5) fun a24=>Option.bind (Option.bind (Option.bind (E8 a24.state ov.facts) fun a31=>if(!a31)=true then some true else if 0<t5 then Option.bind (ix policy (t5 - 1)) fun a40=>Option.bind (slices_Compare_int_int a40.state a24.state) fun a45=>some (decide (0≤a45)) else some false) fun t8=>if t8=true then some 5 else if((decide (a24.operator<0))||(decide ((ov.operators.length:Int)≤a24.operator)))=true then some 3 else Option.bind (R1 ov a24.state a24.operator) fun a67=>if(!a67)=true then some 11 else some 0) fun ev6=>if ev6=0 then some (.inl ()) else some (.inr (⟨ev6,w64 ((-9) - t5)⟩:j9))
noncomputable def E5(ov:b7)(policy:List d8):Option j9:=Option.bind (G6 ov) fun a10=>if(!((decide (a10.code=0)) && (decide (a10.index=0))))=true then some a10 else if 200<(policy.length:Int) then some (⟨2, -8⟩:j9) else(Option.bind (rngX 0 (policy.length:Int) (E7 ov policy) ()) fun| .inl _=>some (⟨0,0⟩:j9)| .inr x=>some x)
def L6(xv:Li)(c2:Li):Option Bool:=Option.bind (A7 xv c2) fun a6=>some a6
def P1(a46:(LL)×Li):Int→(LL)→Option (LL):=fun t14 c13=>Option.bind (Option.bind (ix a46.1 t14) fun a53=>Option.bind (q6 c13 (fun y1=>L6 y1 a53)) fun a57=>if(!a57)=true then Option.bind (app 24 c13 [a53]) fun a62=>some a62 else some c13) fun c15=>some c15
noncomputable def W1(ov:b7)(policy:List d8):((LL)×Int)→Option (((LL)×Int)⊕(LL)):=fun(c3,atv4)=>if atv4<(c3.length:Int) then Option.bind (Option.bind (ix c3 atv4) fun a25=>Option.bind (D5 policy a25) fun a27=>Option.bind (if a27<0 then some true else Option.bind (ix c3 atv4) fun a33=>Option.bind (k9 a33 ov.goal) fun a37=>some a37) fun t9=>if t9=true then some c3 else Option.bind (ix c3 atv4) fun a43=>Option.bind (o8 ov a43 a27) fun a46=>(Option.bind (forR 0 (a46.1.length:Int) (P1 a46) c3) fun c13=>some c13)) fun c7=>some (.inl (c7,w64 (atv4+1))) else some (.inr c3)
noncomputable def S6(ov:b7)(policy:List d8):Option (LL):=Option.bind (w3 ov.init) fun a14=>Option.bind (Loop (W1 ov policy) ([a14],0)) fun c5=>Option.bind (G5 c5) fun a65=>some a65
def G9(sv:Li)(v:Int):Int→Unit→Option (Unit⊕Int):=fun t3 _=>Option.bind (ix sv t3) fun a14=>if v=a14 then some (.inr t3) else some (.inl ())
def K4(sv:Li)(v:Int):Option Int:=(Option.bind (rngX 0 (sv.length:Int) (G9 sv v) ()) fun| .inl _=>some (-1)| .inr x=>some x)
def D8(sv:Li)(v:Int):Option Bool:=Option.bind (K4 sv v) fun a7=>some (decide (0≤a7))
def Q0:Li→Option (Li⊕Bool):=fun c7=>some (.inl c7)
noncomputable def W3(a16:(LL))(t6:Int)(a47:(LL)×Li):Int→Li→Option Li:=fun t11 c10=>Option.bind (ix a47.1 t11) fun a54=>Option.bind (ix c10 t6) fun a60=>Option.bind (y8 a16 a54) fun a65=>Option.bind (ix c10 a65) fun a66=>Option.bind (ix c10 t6) fun a69=>some (c10.set t6.toNat (max a60 a66))
noncomputable def J3(ov:b7)(policy:List d8)(a16:(LL)):Int→Li→Option (Li⊕Bool):=fun t6 c5=>Option.bind (ix a16 t6) fun a29=>Option.bind (k9 a29 ov.goal) fun a34=>if a34=true then Option.bind (ix c5 t6) fun a37=>Q0 (c5.set t6.toNat 1) else Option.bind (D5 policy a29) fun a40=>if a40<0 then some (.inr false) else Option.bind (o8 ov a29 a40) fun a47=>(Option.bind (forR 0 (a47.1.length:Int) (W3 a16 t6 a47) c5) fun c10=>Q0 c10)
noncomputable def J8(ov:b7)(policy:List d8)(a16:(LL)):Int→Li→Option (Li⊕Bool):=fun t4 c3=>(Option.bind (rngX 0 (a16.length:Int) (J3 ov policy a16) c3) fun| .inl c5=>some (.inl c5)| .inr x=>some (.inr x))
noncomputable def X1(ov:b7)(policy:List d8):Option Bool:=Option.bind (S6 ov policy) fun a16=>Option.bind (mkL 8 (a16.length:Int) 0) fun a19=>(Option.bind (rngX 0 (a16.length:Int) (J8 ov policy a16) a19) fun| .inl c3=>Option.bind (D8 c3 0) fun a74=>some (!a74)| .inr x=>some x)
noncomputable def L3(sv:Li)(c2:List d8):Option Int:=Option.bind (D5 c2 sv) fun a6=>some a6
abbrev ap6(ov:b7)(states:LL)(c:List d8):b6:=[.one (.cells 1 [[row 2 f7 c]])]
noncomputable def aa9(ov:b7)(states:LL)(t56:Int)(a31:Int)(a36:(LL)×Li):Int→Li→Option Li:=fun t58 c57=>Option.bind (Option.bind (ix a36.1 t58) fun a44=>Option.bind (ix c57 t56) fun a48=>Option.bind (ix a36.2 t58) fun a52=>Option.bind (ix c57 t56) fun a55=>Option.bind (ix (c57.set t56.toNat (w64 (a48+a52))) (states.length:Int)) fun a59=>Option.bind (ix a36.2 t58) fun a63=>Option.bind (ix ov.operators a31) fun a68=>Option.bind (ix (c57.set t56.toNat (w64 (a48+a52))) (states.length:Int)) fun a73=>Option.bind (k9 a44 ov.goal) fun a77=>if(!a77)=true then Option.bind (y8 states a44) fun a82=>Option.bind (ix ((c57.set t56.toNat (w64 (a48+a52))).set ((states.length:Int).toNat) (w64 (a59+(w64 (a63 * a68.cost))))) a82) fun a83=>Option.bind (ix a36.2 t58) fun a87=>Option.bind (ix ((c57.set t56.toNat (w64 (a48+a52))).set ((states.length:Int).toNat) (w64 (a59+(w64 (a63 * a68.cost))))) a82) fun a90=>some (((c57.set t56.toNat (w64 (a48+a52))).set ((states.length:Int).toNat) (w64 (a59+(w64 (a63 * a68.cost))))).set a82.toNat (w64 (a83 - a87))) else some ((c57.set t56.toNat (w64 (a48+a52))).set ((states.length:Int).toNat) (w64 (a59+(w64 (a63 * a68.cost)))))) fun c59=>some c59
noncomputable def aa7(ov:b7)(states:LL)(c:List d8):Int→(LL)→Option (LL):=fun t56 c55=>Option.bind (ix states t56) fun a23=>Option.bind (mkL 8 (w64 ((states.length:Int)+1)) 0) fun a28=>Option.bind (L3 a23 c) fun a31=>Option.bind (o8 ov a23 a31) fun a36=>(Option.bind (forR 0 (a36.1.length:Int) (aa9 ov states t56 a31 a36) a28) fun c57=>Option.bind (app 24 c55 [c57]) fun a96=>some a96)
noncomputable def H1(ov:b7)(states:LL)(c:List d8):Option (LL):=(Option.bind (forR 0 (states.length:Int) (aa7 ov states c) ([]:LL)) fun c55=>some c55)
noncomputable def u9(ov:b7)(policy:List d8):Option (r8×j9):=Option.bind (E5 ov policy) fun a12=>if(!((decide (a12.code=0)) && (decide (a12.index=0))))=true then some ((⟨0,0⟩:r8),a12) else Option.bind (X1 ov policy) fun a20=>if(!a20)=true then some ((⟨0,0⟩:r8),(⟨15, -1⟩:j9)) else Option.bind (S6 ov policy) fun a27=>Option.bind (F3 ov a27) fun a28=>if 5<(a28.length:Int) then some ((⟨0,0⟩:r8),(⟨10, -7⟩:j9)) else Option.bind (k9 ov.init ov.goal) fun a38=>if a38=true then some ((⟨0,1⟩:r8),(⟨0,0⟩:j9)) else Option.bind (H1 ov a28 policy) fun a45=>Option.bind (x5 a28 a45) fun a46=>Option.bind (y8 a28 ov.init) fun a53=>Option.bind (ix a46.1 a53) fun a54=>Option.bind (O4 a54 a46.2) fun a57=>some (a57.1,a57.2)
noncomputable def H2(ov:b7)(p:List d8):Int→Unit→Option (Unit⊕j9):=fun iv5 _=>Option.bind (Option.bind (ix p iv5) fun a25=>Option.bind (Q7 a25.state ov.facts) fun a30=>if(!a30)=true then some true else if 0<iv5 then Option.bind (ix p (iv5 - 1)) fun a39=>Option.bind (ix p iv5) fun a44=>Option.bind (ab0 a39.state a44.state) fun a47=>some (!a47) else some false) fun t6=>if t6=true then Option.bind (U9 5 (w64 ((-9) - iv5))) fun a53=>some (.inr a53) else Option.bind (ix p iv5) fun a56=>Option.bind (ad5 a56.operator 0 (w64 ((ov.operators.length:Int) - 1))) fun a63=>if(!a63)=true then Option.bind (U9 3 (w64 ((-9) - iv5))) fun a67=>some (.inr a67) else Option.bind (ix p iv5) fun a71=>Option.bind (ix p iv5) fun a76=>Option.bind (af3 ov a71.state a76.operator) fun a79=>if(!a79)=true then Option.bind (U9 11 (w64 ((-9) - iv5))) fun a83=>some (.inr a83) else some (.inl ())
noncomputable def am9(ov:b7)(p:List d8):Option j9:=Option.bind (ag8 ov) fun a8=>if a8.code=0 then if 200<(p.length:Int) then Option.bind (U9 2 (-8)) fun a16=>some a16 else(Option.bind (rngX 0 (p.length:Int) (H2 ov p) ()) fun| .inl _=>some (⟨0,0⟩:j9)| .inr x=>some x) else some a8
noncomputable def I4(ov:b7)(p:List d8):Option Bool:=Option.bind (u9 ov p) fun a14=>Option.bind (q7 ov) fun a19=>if((!(decide (a14.2.code=0)))||(!(decide (a19.2.2.2.code=0))))=true then Option.bind (B2) fun a32=>some a32 else Option.bind (if a19.2.2.1=true then if w64 (a19.2.1.num * a14.1.den)≤w64 (a14.1.num * a19.2.1.den) then Option.bind (B2) fun a48=>some a48 else some false else some false) fun t4=>some t4
end Ab
end
section
namespace Ab
open Go
mutual
theorem C.no_ok0{id:Id}:∀c:C,c.ok 0=true→c.no id=true
 | .imm _,_=>rfl
 | .own _ _ _,h=>by simp[C.ok] at h
 | .ptr _ _ _,h=>by simp[C.ok] at h
 | .fn _ caps,h=>C.noL_ok0 caps h
 | .fnb _ caps,h=>C.noL_ok0 caps h
 | .ifc _ cs _,h=>C.noL_ok0 cs h
 | .map _,h=>by simp[C.ok] at h
theorem C.noL_ok0{id:Id}:∀l:List C,C.okL 0 l=true→C.noL id l=true
 |[],_=>rfl
 |c::r,h=>by
  simp only[C.okL,Bool.and_eq_true] at h
  simp only[C.noL,Bool.and_eq_true]
  exact⟨C.no_ok0 c h.1,C.noL_ok0 r h.2⟩
end
theorem fnNo{id:Id}{f:FuncId}{cv:List C}(h:C.okL 0 cv=true):(C.fn f cv).no id=true:=C.noL_ok0 cv h
theorem fnOk{n:Nat}{f:FuncId}{cv:List C}(h:C.okL 0 cv=true):(C.fn f cv).ok n=true:=C.okL_mono (Nat.zero_le n) cv h
theorem fnMv{π:Id→Id}{o:Option T}{f:FuncId}{cv:List C}(h:C.okL 0 cv=true)(e:o=some (.c (.fn f cv))):o=some ((T.c (.fn f cv)).ren π):=by
 rw[e]
 simp only[T.ren,C.ren]
 rw[C.renL_ok (m:=0) (fun i hi=>absurd hi (Nat.not_lt_zero _)) cv h]
theorem eOk1{n t:Nat}{v:T}{r:Env}(h:v.ok n=true)(hr:V9 n r=true):V9 n ((t,v)::r)=true:=by
 simp only[V9,h,hr,Bool.and_self]
section
open Go.Proofs
variable {P:Program}{σ0:b6}{sz:Nat}{Q:Post}{env:Env}{σv:b6}{ops:Array Oper}{rest:List Oper}
def XAny(id:Id)(k:Nat)(es:List (List I)):C→C→Prop:=fun c c'=>c.frz id k es=c'
theorem AOps.frzB{e:List I}{id:Id}{k:Nat}{env2:Env}{σ1 σ2:b6}(hid:Nat.ble σ0.length id.1=true)(hσ:σv[id]? =some (some (Blk.im k [e])))(henv:U4 id (XAny id k [e]) env env2)(h1:putF σv id none=some σ1)(hst:FrzS id (XAny id k [e]) σ1 σ2)
  (h:AOps P σ0 sz ops Q rest (St.mk env2 σ2)):AOps P σ0 sz ops Q rest (St.mk env σv):=AOps.sub (Sub.frzX (fun _ _ h=>h) hid hσ henv h1 hst) h
end
end Ab
end
section
namespace Go.Proofs
open Go.Shelf
open Tryz
def Tryz.lays189_ren:Go.Shelf.Ren:=⟨fun|189=>148|125=>136|257=>168|128=>161|129=>162|294=>184|295=>185|296=>186|297=>187|298=>188|299=>189|216=>166|300=>190|301=>191|328=>200|329=>179|330=>180|331=>201|332=>202|215=>146|343=>208|n=>n,fun|28=>22|3=>3|46=>141|0=>0|51=>122|53=>211|4=>4|183=>220|182=>219|131=>131|5=>5|9=>9|218=>241|222=>245|228=>255|229=>256|n=>n,fun|n=>n⟩
theorem Tryz.lays189:Go.Proofs.Lays.n189 prog Tryz.lays189_ren:={
 mixed:=by kernel_rfl
 f125:=func136.trans (congrArg some (by kernel_rfl))
 f128:=func161.trans (congrArg some (by kernel_rfl))
 f129:=func162.trans (congrArg some (by kernel_rfl))
 f189:=func148.trans (congrArg some (by kernel_rfl))
 f215:=func146.trans (congrArg some (by kernel_rfl))
 f216:=func166.trans (congrArg some (by kernel_rfl))
 f257:=func168.trans (congrArg some (by kernel_rfl))
 f294:=func184.trans (congrArg some (by kernel_rfl))
 f295:=func185.trans (congrArg some (by kernel_rfl))
 f296:=func186.trans (congrArg some (by kernel_rfl))
 f297:=func187.trans (congrArg some (by kernel_rfl))
 f298:=func188.trans (congrArg some (by kernel_rfl))
 f299:=func189.trans (congrArg some (by kernel_rfl))
 f300:=func190.trans (congrArg some (by kernel_rfl))
 f301:=func191.trans (congrArg some (by kernel_rfl))
 f328:=func200.trans (congrArg some (by kernel_rfl))
 f329:=func179.trans (congrArg some (by kernel_rfl))
 f330:=func180.trans (congrArg some (by kernel_rfl))
 f331:=func201.trans (congrArg some (by kernel_rfl))
 f332:=func202.trans (congrArg some (by kernel_rfl))
 f343:=func208.trans (congrArg some (by kernel_rfl))
 t0:=underlying0
 a0:=isAgg0
 z0:=sizeOf0
 v0:=zeroValue0
 t3:=underlying3
 a3:=isAgg3
 z3:=sizeOf3
 v3:=zeroValue3
 t4:=underlying4
 a4:=isAgg4
 z4:=sizeOf4
 v4:=zeroValue4
 t5:=underlying5
 a5:=isAgg5
 z5:=sizeOf5
 v5:=zeroValue5
 t9:=underlying9
 a9:=isAgg9
 z9:=sizeOf9
 v9:=zeroValue9
 t28:=underlying22
 a28:=isAgg22
 z28:=sizeOf22
 v28:=zeroValue22
 t46:=underlying141
 a46:=isAgg141
 z46:=sizeOf141
 v46:=zeroValue141
 t51:=underlying122
 a51:=isAgg122
 z51:=sizeOf122
 v51:=zeroValue122
 t53:=underlying211
 a53:=isAgg211
 z53:=sizeOf211
 v53:=zeroValue211
 t131:=underlying131
 a131:=isAgg131
 z131:=sizeOf131
 v131:=zeroValue131
 t182:=underlying219
 a182:=isAgg219
 z182:=sizeOf219
 v182:=zeroValue219
 t183:=underlying220
 a183:=isAgg220
 z183:=sizeOf220
 v183:=zeroValue220
 t218:=underlying241
 a218:=isAgg241
 z218:=sizeOf241
 v218:=zeroValue241
 t222:=underlying245
 a222:=isAgg245
 z222:=sizeOf245
 v222:=zeroValue245
 t228:=underlying255
 a228:=isAgg255
 z228:=sizeOf255
 v228:=zeroValue255
 t229:=underlying256
 a229:=isAgg256
 z229:=sizeOf256
 v229:=zeroValue256}
open Go.Sort Go.RowKit in
theorem Tryz.slices_Sort_int(blk off cap:Nat)(zs:List Int)(w:World)(hH:Holds (Value.int .i64) w blk off zs.toArray)(hblk:blk<w.heap.size)(hsz:zs.length<4611686018427387904):
  Calls prog 148 #[.slice (some ⟨blk,off,none⟩) zs.length cap] w fun e w'=>
   e=.returned (.tuple #[])∧∃n os,w'=grow (putRow (Value.int .i64) (Sort.ahead w n) blk off (zs.mergeSort fun x y=>decide (x≤y)).toArray) os:=Any.slices_Sort_int Tryz.lays189 blk off cap zs w hH hblk hsz
def Tryz.laysNm220_ren:Go.Shelf.Ren:=⟨fun|20=>149|n=>n,fun|22=>22|3=>3|4=>4|0=>0|n=>n,fun|n=>n⟩
theorem Tryz.laysNm220:Go.Proofs.Lays2.n20 prog Tryz.laysNm220_ren:={
 mixed:=by kernel_rfl
 f20:=func149.trans (congrArg some (by kernel_rfl))
 t0:=underlying0
 a0:=isAgg0
 z0:=sizeOf0
 v0:=zeroValue0
 t3:=underlying3
 a3:=isAgg3
 z3:=sizeOf3
 v3:=zeroValue3
 t4:=underlying4
 a4:=isAgg4
 z4:=sizeOf4
 v4:=zeroValue4
 t22:=underlying22
 a22:=isAgg22
 z22:=sizeOf22
 v22:=zeroValue22
 i3:=by kernel_rfl}
open Go.RowKit Go.Lib Go.Sort in
theorem Tryz.slices_Compact_int(blk off cap:Nat)(zs:List Int)(w:World)(hH:Holds (Value.int .i64) w blk off zs.toArray)(hsz:zs.length≤9223372036854775807)(hcap:zs.length≤cap):
  Calls prog 149 #[.slice (some ⟨blk,off,none⟩) zs.length cap] w fun e w'=>e=.returned (.slice (some ⟨blk,off,none⟩) (Lib.compact zs).length cap)∧∃q,w'=putRow (Value.int .i64) (Sort.ahead w q) blk off (Lib.compact zs++List.replicate (zs.length - (Lib.compact zs).length) 0).toArray:=Any.slices_Compact_int Tryz.laysNm220 blk off cap zs w hH hsz hcap
open Go.RowKit Go.Lib Go.Sort in
theorem Tryz.slices_Compact_int_empty(a:Option Addr)(cap:Nat)(w:World):
  Calls prog 149 #[.slice a 0 cap] w fun e w'=>e=.returned (.slice a 0 cap)∧w'=w:=Any.slices_Compact_int_empty Tryz.laysNm220 a cap w
open Go.RowKit Go.Sort in
theorem Tryz.slices_Sort_int_none(p:Option Addr)(cap:Nat)(w:World):
  Calls prog 148 #[.slice p 0 cap] w fun e w'=>e=.returned (.tuple #[])∧w'=w:=Any.slices_Sort_int_none Tryz.lays189 p cap w
def Tryz.laysSlF6_f130_ren:Go.Shelf.Ren:=⟨fun|6=>130|15=>136|14=>151|28=>161|29=>162|20=>170|21=>171|22=>172|23=>173|24=>174|25=>175|26=>176|27=>177|46=>192|47=>179|48=>180|49=>193|50=>194|57=>203|n=>n,fun|22=>34|24=>22|25=>133|3=>3|39=>141|0=>0|53=>122|55=>211|4=>4|46=>220|45=>219|50=>131|5=>5|9=>9|66=>241|70=>245|76=>255|77=>256|n=>n,fun|n=>n⟩
theorem Tryz.laysSlF6_f130:Go.Proofs.SlLaysF.n6 prog Tryz.laysSlF6_f130_ren:={
 mixed:=by kernel_rfl
 f6:=⟨Tryz.f130.name,by decide,func130.trans (congrArg some (by kernel_rfl))⟩
 f14:=⟨Tryz.f151.name,by decide,func151.trans (congrArg some (by kernel_rfl))⟩
 f15:=func136.trans (congrArg some (by kernel_rfl))
 f20:=⟨Tryz.f170.name,by decide,func170.trans (congrArg some (by kernel_rfl))⟩
 f21:=⟨Tryz.f171.name,by decide,func171.trans (congrArg some (by kernel_rfl))⟩
 f22:=⟨Tryz.f172.name,by decide,func172.trans (congrArg some (by kernel_rfl))⟩
 f23:=⟨Tryz.f173.name,by decide,func173.trans (congrArg some (by kernel_rfl))⟩
 f24:=⟨Tryz.f174.name,by decide,func174.trans (congrArg some (by kernel_rfl))⟩
 f25:=⟨Tryz.f175.name,by decide,func175.trans (congrArg some (by kernel_rfl))⟩
 f26:=⟨Tryz.f176.name,by decide,func176.trans (congrArg some (by kernel_rfl))⟩
 f27:=⟨Tryz.f177.name,by decide,func177.trans (congrArg some (by kernel_rfl))⟩
 f28:=func161.trans (congrArg some (by kernel_rfl))
 f29:=func162.trans (congrArg some (by kernel_rfl))
 f46:=⟨Tryz.f192.name,by decide,func192.trans (congrArg some (by kernel_rfl))⟩
 f47:=func179.trans (congrArg some (by kernel_rfl))
 f48:=func180.trans (congrArg some (by kernel_rfl))
 f49:=⟨Tryz.f193.name,by decide,func193.trans (congrArg some (by kernel_rfl))⟩
 f50:=⟨Tryz.f194.name,by decide,func194.trans (congrArg some (by kernel_rfl))⟩
 f57:=⟨Tryz.f203.name,by decide,func203.trans (congrArg some (by kernel_rfl))⟩
 t0:=underlying0
 a0:=isAgg0
 z0:=sizeOf0
 v0:=zeroValue0
 t3:=underlying3
 a3:=isAgg3
 z3:=sizeOf3
 v3:=zeroValue3
 t4:=underlying4
 a4:=isAgg4
 z4:=sizeOf4
 v4:=zeroValue4
 t5:=underlying5
 a5:=isAgg5
 z5:=sizeOf5
 v5:=zeroValue5
 t9:=underlying9
 a9:=isAgg9
 z9:=sizeOf9
 v9:=zeroValue9
 t22:=underlying34
 a22:=isAgg34
 z22:=sizeOf34
 v22:=zeroValue34
 a24:=isAgg22
 z24:=sizeOf22
 t25:=underlying133
 a25:=isAgg133
 z25:=sizeOf133
 v25:=zeroValue133
 t39:=underlying141
 a39:=isAgg141
 z39:=sizeOf141
 v39:=zeroValue141
 t45:=underlying219
 a45:=isAgg219
 z45:=sizeOf219
 v45:=zeroValue219
 t46:=underlying220
 a46:=isAgg220
 z46:=sizeOf220
 v46:=zeroValue220
 t50:=underlying131
 a50:=isAgg131
 z50:=sizeOf131
 v50:=zeroValue131
 t53:=underlying122
 a53:=isAgg122
 z53:=sizeOf122
 v53:=zeroValue122
 t55:=underlying211
 a55:=isAgg211
 z55:=sizeOf211
 v55:=zeroValue211
 t66:=underlying241
 a66:=isAgg241
 z66:=sizeOf241
 v66:=zeroValue241
 t70:=underlying245
 a70:=isAgg245
 z70:=sizeOf245
 v70:=zeroValue245
 t76:=underlying255
 a76:=isAgg255
 z76:=sizeOf255
 v76:=zeroValue255
 t77:=underlying256
 a77:=isAgg256
 z77:=sizeOf256
 v77:=zeroValue256}
open Go.RowKit Go.Lib Go.Sort in
theorem Tryz.slices_SortFunc_f130{α:Type}[Inhabited α](enc:α→Value)(h1:OneCell enc)(cf:α→α→Int)(hO:SWO (ltOf cf))(g:Nat)(cb:Array Value)(blk off cap:Nat)(d:Array α)(w:World)(eg:∀args w,(callFunc g args).run prog w=.ok (.enter g args) w)(hcmp:CmpLays1 prog g cb enc cf blk off d.size w)(hH:Holds enc w blk off d)(hblk:blk<w.heap.size)(hsz:d.size<4611686018427387904):
  Calls prog 130 #[.slice (some ⟨blk,off,none⟩) d.size cap,.func (.func g) #[] cb] w fun e w'=>
   e=.returned (.tuple #[])∧∃d' n os,PermIn 0 d.size d d'∧SortedIn (ltOf cf) 0 d.size d'∧w'=sortWorld enc w blk off n d' os:=Any.slices_SortFunc Tryz.laysSlF6_f130 enc h1 cf hO g cb blk off cap d w eg hcmp hH hblk hsz
def Tryz.laysSlF06_f130_ren:Go.Shelf.Ren:=⟨fun|6=>130|15=>136|14=>151|28=>161|29=>162|20=>170|21=>171|22=>172|23=>173|24=>174|25=>175|26=>176|27=>177|46=>192|47=>179|48=>180|49=>193|50=>194|57=>203|n=>n,fun|22=>34|24=>22|25=>133|3=>3|39=>141|0=>0|53=>122|55=>211|4=>4|46=>220|45=>219|50=>131|5=>5|9=>9|66=>241|70=>245|76=>255|77=>256|n=>n,fun|n=>n⟩
theorem Tryz.laysSlF06_f130:Go.Proofs.SlLaysF0.n6 prog Tryz.laysSlF06_f130_ren:={
 mixed:=by kernel_rfl
 f6:=⟨Tryz.f130.name,by decide,func130.trans (congrArg some (by kernel_rfl))⟩
 f14:=⟨Tryz.f151.name,by decide,func151.trans (congrArg some (by kernel_rfl))⟩
 f15:=func136.trans (congrArg some (by kernel_rfl))
 f20:=⟨Tryz.f170.name,by decide,func170.trans (congrArg some (by kernel_rfl))⟩
 f21:=⟨Tryz.f171.name,by decide,func171.trans (congrArg some (by kernel_rfl))⟩
 f22:=⟨Tryz.f172.name,by decide,func172.trans (congrArg some (by kernel_rfl))⟩
 f23:=⟨Tryz.f173.name,by decide,func173.trans (congrArg some (by kernel_rfl))⟩
 f24:=⟨Tryz.f174.name,by decide,func174.trans (congrArg some (by kernel_rfl))⟩
 f25:=⟨Tryz.f175.name,by decide,func175.trans (congrArg some (by kernel_rfl))⟩
 f26:=⟨Tryz.f176.name,by decide,func176.trans (congrArg some (by kernel_rfl))⟩
 f27:=⟨Tryz.f177.name,by decide,func177.trans (congrArg some (by kernel_rfl))⟩
 f28:=func161.trans (congrArg some (by kernel_rfl))
 f29:=func162.trans (congrArg some (by kernel_rfl))
 f46:=⟨Tryz.f192.name,by decide,func192.trans (congrArg some (by kernel_rfl))⟩
 f47:=func179.trans (congrArg some (by kernel_rfl))
 f48:=func180.trans (congrArg some (by kernel_rfl))
 f49:=⟨Tryz.f193.name,by decide,func193.trans (congrArg some (by kernel_rfl))⟩
 f50:=⟨Tryz.f194.name,by decide,func194.trans (congrArg some (by kernel_rfl))⟩
 f57:=⟨Tryz.f203.name,by decide,func203.trans (congrArg some (by kernel_rfl))⟩
 t0:=underlying0
 a0:=isAgg0
 z0:=sizeOf0
 v0:=zeroValue0
 t3:=underlying3
 a3:=isAgg3
 z3:=sizeOf3
 v3:=zeroValue3
 t4:=underlying4
 a4:=isAgg4
 z4:=sizeOf4
 v4:=zeroValue4
 t5:=underlying5
 a5:=isAgg5
 z5:=sizeOf5
 v5:=zeroValue5
 t9:=underlying9
 a9:=isAgg9
 z9:=sizeOf9
 v9:=zeroValue9
 t22:=underlying34
 a22:=isAgg34
 z22:=sizeOf34
 v22:=zeroValue34
 t25:=underlying133
 a25:=isAgg133
 z25:=sizeOf133
 v25:=zeroValue133
 t39:=underlying141
 a39:=isAgg141
 z39:=sizeOf141
 v39:=zeroValue141
 t45:=underlying219
 a45:=isAgg219
 z45:=sizeOf219
 v45:=zeroValue219
 t46:=underlying220
 a46:=isAgg220
 z46:=sizeOf220
 v46:=zeroValue220
 t50:=underlying131
 a50:=isAgg131
 z50:=sizeOf131
 v50:=zeroValue131
 t53:=underlying122
 a53:=isAgg122
 z53:=sizeOf122
 v53:=zeroValue122
 t55:=underlying211
 a55:=isAgg211
 z55:=sizeOf211
 v55:=zeroValue211
 t66:=underlying241
 a66:=isAgg241
 z66:=sizeOf241
 v66:=zeroValue241
 t70:=underlying245
 a70:=isAgg245
 z70:=sizeOf245
 v70:=zeroValue245
 t76:=underlying255
 a76:=isAgg255
 z76:=sizeOf255
 v76:=zeroValue255
 t77:=underlying256
 a77:=isAgg256
 z77:=sizeOf256
 v77:=zeroValue256}
open Go.RowKit Go.Lib Go.Sort in
theorem Tryz.slices_SortFunc_none_f130{α:Type}[Inhabited α](p:Option Addr)(cap:Nat)(fv:Value)(w:World):
  Calls prog 130 #[.slice p 0 cap,fv] w fun e w'=>e=.returned (.tuple #[])∧w'=w:=AnyF.slices_SortFunc_none Tryz.laysSlF06_f130 p cap fv w
end Go.Proofs
end
section
namespace Ab
open Go Go.Proofs
open Tryz
theorem sort_facts:Y3 prog 148:=⟨_,func148,rfl,rfl⟩
theorem compact_facts:Y3 prog 149:=⟨_,func149,rfl,rfl⟩
theorem sortL_ok:SortOk prog 148:=fun hσ hl=>sort_fn sort_facts (fun blk off cap zs w hH hb hs=>Tryz.slices_Sort_int blk off cap zs w hH hb hs) (fun p cap w=>Tryz.slices_Sort_int_none p cap w) hσ hl
theorem compactL_ok:CompactOk prog 149:=fun hσ=>compact_fn compact_facts (fun blk off cap zs w hH hs hc=>Tryz.slices_Compact_int blk off cap zs w hH hs hc) (fun a cap w=>Tryz.slices_Compact_int_empty a cap w) hσ
end Ab
end
section
namespace Ab
open Go Go.Proofs
open Tryz
theorem sortF_facts:Y3 prog 130:=⟨_,func130,rfl,rfl⟩
theorem sortF_LLi64_ok:SortFOk prog 130:=fun hgn hO hT hg _ _ _ hσ hl=>sortF_fn sortF_facts hgn hO hT hg (fun β _ enc h1 cf hO g cb blk off cap d w eg hcmp hH hblk hsz=>Tryz.slices_SortFunc_f130 enc h1 cf hO g cb blk off cap d w eg hcmp hH hblk hsz) (fun p cap fv w=>Tryz.slices_SortFunc_none_f130 (α:=Unit) p cap fv w) hσ hl
end Ab
end
section
namespace Ab
open Go Go.Proofs
end Ab
end
