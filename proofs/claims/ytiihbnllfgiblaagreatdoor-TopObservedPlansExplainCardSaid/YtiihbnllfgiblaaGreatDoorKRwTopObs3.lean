/-
  Texts that the proof stands on.
-/
import Derived.Test.YtiihbnllfgiblaaGreatDoorKRwTopObs2
import Derived.Shelf.SlSortCmp.Whole1
import Derived.Laws.CopyRow
import Derived.Laws.Cover3
import Derived.WalkSmall
set_option linter.all false
open List renaming getElem?_set->eA,ext_getElem?->eB,getElem?_mapIdx->eC,all_eq_true->eF,eq_nil_of_length_eq_zero->eJ,take_of_length_le->eK,replicate->eM,getElem?_take->eO,getElem?_drop->eP,getElem?_append_left->eQ,getElem?_cons_zero->eR,getElem?_eq_getElem->eT,getElem?_replicate->eV,length_map->eW,getElem?_append_right->eY,getElem?_eq_none->eZ,getElem?_append->fe,getElem?_of_mem->ff,getElem?_modify->fg,drop_zero->fi,map_map->fj,all_map->fm,range->fo,mem_of_getElem?->fz,map_set->fB,mem_cons->fD,map_take->fE,map_cons->fF,length_replicate->fH,mem_cons_of_mem->fK,getElem?_range->fM,mem_cons_self->fN,map_drop->fQ,eq_of_mem_replicate->fS,mem_map->fT,getElem?_cons_succ->fU,take->fW,length->fX,getElem?_eraseIdx->fY,pairwise_cons->gh,length_mapIdx->gp,ext_getElem->gw,length_cons->gB
open Option renaming map_some->eD,map_map->fu,getD_some->fG,isSome_none->gj,isSome_some->gm,getD_none->gA
open Nat renaming le_of_ble_eq_true->eE,beq->eG,blt->eH,eq_of_beq_eq_true->eI,ble->eU,lt_or_ge->eX,zero_add->fa,add_mul->fh,le_refl->fp,add_zero->fq,zero_mul->fI,mul_le_mul_right->fJ,lt_of_lt_of_le->fO,le_succ->fZ,le_trans->gi,sub_self->gq
open Function renaming comp_apply->eN
open Array renaming toList_modify->eS,toList_push->fC,getElem?_eq_some_iff->fP,getElem?_eq_getElem->fR,getElem?_modify->gc,ext_getElem?->gg,range->gu
open Bool renaming and_eq_true->fA,eq_iff_iff->fL,or_eq_true->fV,false_eq_true->gl,not_eq_true'->gr
section
namespace Ab
open Go Go.Sort
def putCellsG_size{α:Type}[Inhabited α]{enc:α->Vl}{off:Nat}{d:Array α}{arr:Array Vl}:(putCells enc off d arr).size=arr.size:=by simp[putCells]
def putCellsG_get{α:Type}[Inhabited α]{enc:α->Vl}{off:Nat}{d:List α}{arr:Array Vl}(h:off+fX d<=arr.size){j:Nat}{x:α}(hj:d[j]? =some x):(putCells enc off d.toArray arr)[off+j]? =some (enc x):=by have hjl:=(lG.1 hj).1;have hx:=(lG.1 hj).2;simp only[putCells,Array.getElem?_mapIdx];rw[fR (by omega)];simp only[eD,List.size_toArray];rw[if_pos (by omega)];simp[hjl,hx]
def putRowG_setRow{α:Type}[Inhabited α]{enc:α->Vl}{w:World}{b off:Nat}{arr:Array Vl}{ety:Ti}{fr:Nat×Nat}{d:Array α}(hb:w.heap[b]? =some (.cells arr ety fr)):
  putRow enc w b off d=w.setRow b (putCells enc off d arr):=by
 unfold putRow mapBlock World.setRow
 congr 1
 apply gg
 intro k
 simp only[gc]
 by_cases hk:b=k
 ·subst hk;simp only[if_true,hb,eD,onCells]
 ·simp[hk]
def putRowG_ahead{α:Type}[Inhabited α](enc:α->Vl)(w:World)(n b off:Nat)(d:Array α):putRow enc (Go.Sort.ahead w n) b off d=Go.Sort.ahead (putRow enc w b off d) n:=rfl
def putRow_other{α:Type}[Inhabited α](enc:α->Vl)(w:World)(b off:Nat)(d:Array α){k:Nat}(hk:k ≠ b):(putRow enc w b off d).heap[k]? =w.heap[k]? :=by unfold putRow mapBlock;simp only[gc];rw[if_neg (fun e=>hk e.symm)]
def putRow_size{α:Type}[Inhabited α](enc:α->Vl)(w:World)(b off:Nat)(d:Array α):(putRow enc w b off d).heap.size=w.heap.size:=by simp[putRow,mapBlock]
def grow_of{W c:World}(h1:c.os=W.os)(h2:c.tape=W.tape)(B:W.drawn<=c.drawn)(v:c.output=W.output)(J:W.heap.size<=c.heap.size)(E:∀k,k<W.heap.size->c.heap[k]? =W.heap[k]?):∃q os,c=Go.Sort.grow (W.drewN q) os:=by
 refine⟨c.drawn - W.drawn,c.heap.extract W.heap.size c.heap.size,?_⟩;have z:c.heap=W.heap++c.heap.extract W.heap.size c.heap.size:=by apply gg;intro k;rw[Array.getElem?_append];split;exact E k ‹_›;rw[Array.getElem?_extract];split;congr 1;omega;rw[Array.getElem?_eq_none (by omega)]
 obtain⟨heap,tape,drawn,os,output⟩:=W;obtain⟨j,u,h,F,e⟩:=c;dsimp only at h1 h2 B v z;subst h1 h2 v;unfold Go.Sort.grow World.drewN;dsimp only;rw[<- z];congr 1;omega
section
variable {α:Type}
abbrev Shw(w:World)(A:Nat->Prop)(g0:α->I):={x:Vl×α // RelI w A (g0 x.2) x.1}
def perm_unique{le:α->α->Bool}(c:∀a b,le a b=true->le b a=true->a=b):∀{l m:List α},l.Pairwise (fun a b=>le a b=true)->m.Pairwise (fun a b=>le a b=true)->l.Perm m->l=m
 |[],m,_,_,hp=>(List.nil_perm.1 hp).symm
 |a::l,[],_,_,hp=>absurd hp.length_eq (by simp)
 |a::l,b::m,hl,j,hp=>by
  obtain⟨q,u⟩:=gh.1 hl;obtain⟨v,z⟩:=gh.1 j;have h:a=b:=by rcases fD.1 (hp.subset (fN ..)) with e|e;exact e;rcases fD.1 (hp.symm.subset (fN ..)) with e'|e';exact e'.symm;exact c a b (q b e') (v a e)
  subst h;rw[perm_unique c u z ((List.perm_cons a).1 hp)]
def sortF_fn{P:Program}{f g:FuncId}(hf:R7 P f)(hgn:R7 P g){g0:α->I}{cf:α->α->Int}(hO:SWO (Go.Proofs.ltOf cf))(hT:∀a b,¬ cf a b<0->¬ cf b a<0->a=b)
  (hg:∀a b,j9 P g [.c (.imm (g0 a)),.c (.imm (g0 b))] (.c (int (cf a b))))
  (hC:∀(β:Type) [Inhabited β] (enc:β->Vl),Go.Proofs.OneCell enc->∀(cf:β->β->Int),SWO (Go.Proofs.ltOf cf)->∀(g:Nat) (cb:Array Vl) (blk off cap:Nat) (d:Array β) (w:World),(∀args w,(callFunc g args).run P w=.ok (.enter g args) w)->Go.Proofs.CmpLays1 P g cb enc cf blk off d.size w->Holds enc w blk off d->blk<w.heap.size->d.size<4611686018427387904->
   Calls P f #[.slice (some ⟨blk,off,none⟩) d.size cap,.func (.func g) #[] cb] w fun e w'=>e=.returned (.tuple #[])/\∃d' n os,PermIn 0 d.size d d'/\SortedIn (Go.Proofs.ltOf cf) 0 d.size d'/\w'=Go.Proofs.sortWorld enc w blk off n d' os)
  (hC0:∀(p:Option Addr) (cap:Nat) (fv:Vl) (w:World),Calls P f #[.slice p 0 cap,fv] w fun e w'=>e=.returned (.tuple #[])/\w'=w)
  {σ:c9} {id:Id} {l:List α} (hσ:σ[id]? =some (some (vec 1 (fun a=>[g0 a]) l))) (hl:fX l<4611686018427387904):
  FnOk P f [.c (.own id 0 (fX l)),.c (.fn g [])] σ fun r σ'=>r=.tup []/\(fX σ')=fX σ/\∀i:Id,σ'[i]? =(σ.put id (some (vec 1 (fun a=>[g0 a]) (l.mergeSort fun x y=>decide (¬ cf y x<0)))))[i]? :=by
 refine⟨hf,fun Γ vs hΓ hG hlen hrel=> ?_⟩
 subst hΓ
 match vs,hlen with
 |[u,fv],_=>
 have hu:=F8 (hrel 0 _ u rfl rfl) hσ
 have hfv:fv=.func (.func g) #[] #[]:=by have h:=hrel 1 _ fv rfl rfl;cases h with|c h=>cases h with|fn us hr=>rfl
 subst hfv
 have tupR:∀{w φ σ A},RelT w φ σ A (.tup []) (.tuple #[]):=fun {w φ σ A}=>RelT.tup (ts:=[]) (fun _=>undef) fun i t h=>by simp at h
 have vlen:∀{m:List α},((m.map fun a=>[g0 a]).map (·.map C.imm)).length=fX m:=by simp
 rw[vlen] at hu
 have empty:∀(p:Option Addr) (cap:Nat),l=[]->Calls P f #[.slice p 0 cap,.func (.func g) #[] #[]] Γ.w0 fun e w'=>∃v r σ' φ',e=.returned v/\(r=.tup []/\(fX σ')=Γ.σ0.length/\∀i:Id,σ'[i]? =(Γ.σ0.put id (some (vec 1 (fun a=>[g0 a]) (l.mergeSort fun x y=>decide (¬ cf y x<0)))))[i]?)/\RelT w' φ' σ' (Al Γ.N φ' σ') r v/\Rs Γ σ' φ' w':=fun p cap he=>by
  refine(hC0 p cap _ Γ.w0).mono ?_;rintro e w' ⟨rfl,rfl⟩;refine⟨_,.tup [],Γ.σ0,Γ.φ0,rfl,⟨rfl,rfl,fun i=> ?_⟩,tupR,Rs.refl hG⟩;have:(l.mergeSort fun x y=>decide (¬ cf y x<0))=l:=by rw[he];simp
  rw[this];by_cases hi:i=id;rw[hi,c9.get_put_eq hσ,hσ];rw[c9.get_put_ne hi]
 rcases hu with⟨_,hv,_,h0⟩|⟨b,base,cap,arr,ety,a,hp,hv,ha,hcap,hmax,hjn,hbk,hsz⟩
 ·have he:l=[]:=eJ (by omega)
  rw[hv]
  exact empty none 0 he
 ·rw[hv]
  by_cases hc0:0<cap
  ·have:=ha hc0
   subst this
   simp only[fI,fq]
   have hR:=Rs.refl hG
   rcases hR.st.blk _ _ hσ with⟨h1,_⟩|⟨b',base',arr2,ety2,h1,h2,h3,h4,h5⟩
   ·rw[hp] at h1;cases h1
   ·rw[hp] at h1;cases h1
    rw[hbk] at h2;cases h2
    rw[vlen] at h3
    have hblk:=(fP.1 hbk).1
    have hAne:∀k,Al Γ.N Γ.φ0 Γ.σ0 k->k ≠ b:=fun k hk e=>by subst e;exact hk.2 id _ base hσ hp
    -- the elements
    obtain⟨ds,d1,d2⟩:=ex_list (p:=fun j (x:Shw Γ.w0 (Al Γ.N Γ.φ0 Γ.σ0) g0)=>arr[base+j]? =some x.1.1/\l[j]? =some x.1.2) (fX l) fun j hj=>by obtain⟨u,hu1,hu2⟩:=h5 j _ 0 (.imm (g0 l[j])) (by simp[hj];rfl) rfl;cases hu2 with|imm hu2=>exact⟨⟨(u,l[j]),hu2⟩,by simpa using hu1,by simp[hj]⟩
    have dl:ds.map (fun x=>x.1.2)=l:=by refine eB fun j=> ?_;rw[lM];by_cases hj:j<fX l;obtain⟨x,hx⟩:∃x,ds[j]? =some x:=⟨ds[j],by simp[d1,hj]⟩;rw[hx,(d2 j x hx).2];rfl;rw[eZ (by omega),eZ (by omega)];rfl
    by_cases hl0:l=[]
    ·have hl1:fX l=0:=by rw[hl0];rfl
     rw[hl1]
     exact empty _ cap hl0
    ·obtain⟨x0,hx0⟩:∃x,ds[0]? =some x:=by
      have:0<fX ds:=by rw[d1];exact List.length_pos_iff.2 hl0
      exact⟨ds[0],by simp[this]⟩
     letI:Inhabited (Shw Γ.w0 (Al Γ.N Γ.φ0 Γ.σ0) g0):=⟨x0⟩
     have hH:Holds (fun x:Shw Γ.w0 (Al Γ.N Γ.φ0 Γ.σ0) g0=>x.1.1) Γ.w0 b base ds.toArray:=by
      intro j hj;have hjl:j<fX ds:=by simpa using hj
      refine⟨?_,by simp[World.frozen?,hbk]⟩;rw[World.cell?];simp only[hbk];rw[(d2 j ds[j] (by simp[hjl])).1];simp[hjl]
     have hcmp:Go.Proofs.CmpLays1 P g #[] (fun x:Shw Γ.w0 (Al Γ.N Γ.φ0 Γ.σ0) g0=>x.1.1) (fun x y=>cf x.1.2 y.1.2) b base ds.toArray.size Γ.w0:=by
      intro m os dk hdk x y;have hW:∀k,Al Γ.N Γ.φ0 Γ.σ0 k->k<Γ.w0.heap.size->(Go.Proofs.sortWorld (fun x:Shw Γ.w0 (Al Γ.N Γ.φ0 Γ.σ0) g0=>x.1.1) Γ.w0 b base m dk os).heap[k]? =Γ.w0.heap[k]? :=fun k hk hlt=>by unfold Go.Proofs.sortWorld;rw[heap_grow_old _ os (by rw[putRow_size];exact hlt),putRow_other _ _ _ _ _ (hAne k hk)];rfl
      have gd:∀W:World,Good ⟨W,fun _=>False,fun _=>none,[]⟩:=fun W=>⟨⟨fun i b h=>by simp at h,fun i j bi bj p q h=>by simp at h⟩,fun b h=>h.elim,fun i blk b base h=>by simp at h⟩;have rel:∀z:Shw Γ.w0 (Al Γ.N Γ.φ0 Γ.σ0) g0,RelT (Go.Proofs.sortWorld (fun x:Shw Γ.w0 (Al Γ.N Γ.φ0 Γ.σ0) g0=>x.1.1) Γ.w0 b base m dk os) (fun _=>none) [] (Al (fun _=>False) (fun _=>none) []) (.c (.imm (g0 z.1.2))) z.1.1:=fun z=>
       .c (.imm (z.2.mono hW fun k _ _=>⟨_root_.id,fun i blk base h=>by simp at h⟩))
      refine((hg x.1.2 y.1.2).run ⟨Go.Proofs.sortWorld (fun x:Shw Γ.w0 (Al Γ.N Γ.φ0 Γ.σ0) g0=>x.1.1) Γ.w0 b base m dk os,fun _=>False,fun _=>none,[]⟩ [x.1.1,y.1.1] rfl (gd _) rfl (fun i t v hi hv=> ?_)).mono ?_;match i with
      |0=>cases hi;cases hv;exact rel x
      |1=>cases hi;cases hv;exact rel y
      |i+2=>simp at hi
      rintro e w' ⟨v,r,σ',φ',rfl,rfl,hr,hs⟩;refine⟨?_,grow_of hs.os hs.tape hs.drawn hs.output hs.size fun k hk=>hs.block k ⟨hk,fun i blk base h=>by simp at h⟩⟩;cases hr with|c hr=>cases hr with|imm hr=>cases hr with|val=>rfl
     obtain⟨gf,gf1,gf2,gf3⟩:=hgn
     have hszd:ds.toArray.size=fX l:=by simp[d1]
     have key:=hC _ (fun x:Shw Γ.w0 (Al Γ.N Γ.φ0 Γ.σ0) g0=>x.1.1) (fun x=>x.2.one) (fun x y=>cf x.1.2 y.1.2) ⟨fun x=>hO.irrefl x.1.2,fun x y z=>hO.trans x.1.2 y.1.2 z.1.2,fun x y z=>hO.ntrans x.1.2 y.1.2 z.1.2⟩ g #[] b base cap ds.toArray Γ.w0 (fun args w=>by
      have h2':¬ gf.name= "runtime.NumGoroutine" :=by simpa using gf2
      have h3':¬ gf.body=none:=fun e=>by rw[e] at gf3;cases gf3
      simp[callFunc,gf1,h2',h3']) hcmp hH hblk (by rw[hszd];exact hl)
     rw[hszd] at key
     refine key.mono ?_
     rintro e w' ⟨rfl,d',n,os,hperm,hsort,rfl⟩
     obtain⟨p1,_,p3⟩:=hperm
     have dsz:d'.size=fX l:=by rw[p1];simp[d1]
     have e1:d'.toList.Perm ds:=by
      have a1:d'.extract 0 (fX l)=d':=by rw[<- dsz];simp
      have a2:ds.toArray.extract 0 (fX l)=ds.toArray:=by rw[<- hszd];simp
      rw[a1,a2] at p3;simpa using p3
     have e2:(d'.toList.map fun x=>x.1.2)=l.mergeSort fun x y=>decide (¬ cf y x<0):=by
      refine perm_unique (le:=fun x y=>decide (¬ cf y x<0)) (fun a b h1 h2=> ?_) ?_ ?_ ?_;simp only[decide_eq_true_eq] at h1 h2;exact hT a b h2 h1;rw[List.pairwise_map,List.pairwise_iff_getElem];intro i j hi hj hij;have hj':j<d'.size:=by simpa using hj
      have:=hsort i j (by omega) hij (by rw[<- dsz];exact hj');rw[getElem!_pos d' j hj',getElem!_pos d' i (by omega)] at this;simpa[Go.Proofs.ltOf] using this;refine List.pairwise_mergeSort (fun a b c h1 h2=> ?_) (fun a b=> ?_) l;simp only[decide_eq_true_eq] at h1 h2 ⊢;have:=hO.ntrans c b a (by simpa[Go.Proofs.ltOf] using h2) (by simpa[Go.Proofs.ltOf] using h1);simpa[Go.Proofs.ltOf] using this;simp only[fV,decide_eq_true_eq];rcases Int.lt_or_le (cf b a) 0 with h|h;right;intro h';have:=hO.trans a b a (by simpa[Go.Proofs.ltOf] using h') (by simpa[Go.Proofs.ltOf] using h);rw[hO.irrefl] at this;cases this;left;omega;exact((e1.map _).trans (by rw[dl])).trans (List.mergeSort_perm ..).symm
     rw[<- e2]
     have hW:=Rs.write (k:=1) (es':=((d'.toList.map fun x=>x.1.2).map fun a=>[g0 a]).map (·.map C.imm)) (arr':=putCells (fun x:Shw Γ.w0 (Al Γ.N Γ.φ0 Γ.σ0) g0=>x.1.1) base d' arr) hR hσ hp hbk (by rw[vlen,vlen];simp[dsz]) putCellsG_size (fun j e he=>by
       simp only[fj,lM,oM] at he;obtain⟨a,_,rfl⟩:=he;rfl) (by rw[vlen];omega) (fun j e o x he hx=>by
       simp only[fj,lM,oM] at he;obtain⟨z,hz,rfl⟩:=he;match o with
       |0=>
        cases hx
        have:=putCellsG_get (enc:=fun x:Shw Γ.w0 (Al Γ.N Γ.φ0 Γ.σ0) g0=>x.1.1) (off:=base) (d:=d'.toList) (arr:=arr) (by simp[dsz];omega) hz
        exact⟨_,by simpa using this,.imm z.2⟩
       |o+1=>simp at hx)
     unfold Go.Proofs.sortWorld
     rw[putRowG_ahead,putRowG_setRow hbk]
     refine⟨_,.tup [],_,Γ.φ0,rfl,⟨rfl,?_,fun i=>rfl⟩,tupR,(hW.2.ahead n).grow os⟩
     rw[c9.length_put]
  ·have he:l=[]:=eJ (by omega)
   have hl0:fX l=0:=by rw[he];rfl
   rw[hl0]
   exact empty (some a) cap he
end
end Ab
end
section
namespace Ab
open Go
def vw{α:Type}(l:List α)(off len:Int):Option Unit:=if 0<=off/\0<=len/\off+len<=fX l then some () else none
def cutV(len lo hi:Int):Option Unit:=if 0<=lo/\lo<=hi/\hi<=len then some () else none
def ixV{α:Type}(l:List α)(off len i:Int):Option α:=if 0<=off/\0<=i/\i<len/\off+len<=fX l then ix l (off+i) else none
def m7{α:Type}(l:List α)(off len:Int):List α:=(l.drop off.toNat).take len.toNat
def clrL{α:Type}(l:List α)(off len:Int)(z:α):List α:=l.take off.toNat++eM len.toNat z++l.drop (off.toNat+len.toNat)
def aa6{α:Type}{l:List α}{off len:Int}{u:Unit}(h:vw l off len=some u):0<=off/\0<=len/\off+len<=fX l:=by unfold vw at h;split at h;assumption;cases h
def ar9{len lo hi:Int}{u:Unit}(h:cutV len lo hi=some u):0<=lo/\lo<=hi/\hi<=len:=by unfold cutV at h;split at h;assumption;cases h
def ixV_get{α:Type}{l:List α}{off len i:Int}{a:α}(h:ixV l off len i=some a):(0<=off/\0<=i/\i<len/\off+len<=fX l)/\ix l (off+i)=some a:=by unfold ixV at h;split at h;exact⟨‹_›,h⟩;cases h
def ixV_ix{α:Type}{l:List α}{off len i:Int}{a:α}(h:ixV l off len i=some a):ix l (off+i)=some a:=(ixV_get h).2
def viewL_len{α:Type}{l:List α}{off len:Int}{u:Unit}(h:vw l off len=some u):(m7 l off len).length=len.toNat:=by have:=aa6 h;simp[m7];omega
section
variable {α:Type}{f:α->List I}{l:List α}{P:Program}{σ0:c9}{sz:Nat}{Q:Post}{env env':Env}{σv σ':c9}{ops:Array Oper}{rest:List Oper}{dst:Option Nat}{ty:Ti}{pos:String}{after:Array Edge}{id:Id}{k:Nat}
def S.lenV{x:Od}{t e:Ti}{n:Int}{j:Nat}[ht:TyD P t (.slice e)](v:0<=n)(hx:ev env x=some (.c (.own id j n.toNat)))(q:σv[id]? =some (some (vec k f l)))(hd:j6 sz dst=true)
  (h:n<=9223372036854775807->AOps P σ0 sz ops Q rest (St.mk (putE env dst (.c (int n))) σv)):AOps P σ0 sz ops Q (⟨dst,.call ⟨.builtin .len,#[x],#[t]⟩,ty,pos,after,none⟩::rest) (St.mk env σv):=
 AOps.lenOwnB hx q hd fun z=>by
  have u:((n.toNat:Nat):Int)=n:=by omega
  rw[u];exact h (by omega)
def S.idxV{x y:Od}{t e:Ti}{bytes:Nat}{z:Vl}{kk:IntKind}{off len i:Int}{a:α}[ht:TyD P t (.slice e)][hs:TyS P e k bytes z]
  (q:ixV l off len i=some a) (hx:ev env x=some (.c (.own id off.toNat len.toNat))) (j:σv[id]? =some (some (vec k f l))) (hy:ev env y=some (.c (.imm (.val (.int kk i))))) (hd:j6 sz dst=true)
  (h:AOps P σ0 sz ops Q rest (St.mk (putE env dst (.c (.ptr id (off+i).toNat 0))) σv)):AOps P σ0 sz ops Q (⟨dst,.indexAddr t x y,ty,pos,after,none⟩::rest) (St.mk env σv):=by
 obtain⟨⟨h1,h2,u,v⟩,_⟩:=ixV_get q
 refine .indexAddrOwn hx j hy (by omega) hd ?_
 rw[show off.toNat+i.toNat=(off+i).toNat by omega]
 exact h
def S.vFrom{x y:Od}{t e:Ti}{bytes:Nat}{z:Vl}{kk:IntKind}{off len lo:Int}{j n:Nat}{u v:Unit}[ht:TyD P t (.slice e)][hs:TyS P e k bytes z]
  (B:vw l off len=some u) (E:cutV len lo len=some v) (hx:ev env x=some (.c (.own id j n))) (F:j=off.toNat) (J:n=len.toNat) (q:σv[id]? =some (some (vec k f l))) (hy:ev env y=some (.c (.imm (.val (.int kk lo))))) (hd:j6 sz dst=true)
  (h:AOps P σ0 sz ops Q rest (St.mk (putE env dst (.c (.own id (off+lo).toNat (len - lo).toNat))) σv)):AOps P σ0 sz ops Q (⟨dst,.slice t x (some y) none none,ty,pos,after,none⟩::rest) (St.mk env σv):=by
 have h1:=aa6 B;have h2:=ar9 E
 subst F J
 have N:lo=((lo.toNat:Nat):Int):=by omega
 rw[N] at hy
 refine AOps.sliceOwnFrom hx q hy (by omega) hd ?_
 rw[show off.toNat+lo.toNat=(off+lo).toNat by omega,show len.toNat - lo.toNat=(len - lo).toNat by omega]
 exact h
def S.vTo{x y:Od}{t e:Ti}{bytes:Nat}{z:Vl}{kk:IntKind}{off len hi:Int}{j n:Nat}{u v:Unit}[ht:TyD P t (.slice e)][hs:TyS P e k bytes z]
  (B:vw l off len=some u) (E:cutV len 0 hi=some v) (hx:ev env x=some (.c (.own id j n))) (F:j=off.toNat) (J:n=len.toNat) (q:σv[id]? =some (some (vec k f l))) (hy:ev env y=some (.c (.imm (.val (.int kk hi))))) (hd:j6 sz dst=true)
  (h:AOps P σ0 sz ops Q rest (St.mk (putE env dst (.c (.own id off.toNat hi.toNat))) σv)):AOps P σ0 sz ops Q (⟨dst,.slice t x none (some y) none,ty,pos,after,none⟩::rest) (St.mk env σv):=by
 have h1:=aa6 B;have h2:=ar9 E
 subst F J
 have N:hi=((hi.toNat:Nat):Int):=by omega
 rw[N] at hy
 exact AOps.sliceOwnTo hx q hy (by omega) hd h
def S.v3{x y E:Od}{t e:Ti}{bytes:Nat}{z:Vl}{kk q:IntKind}{off len lo hi:Int}{j n:Nat}{u F:Unit}[ht:TyD P t (.slice e)][hs:TyS P e k bytes z]
  (J:vw l off len=some u) (N:cutV len lo hi=some F) (hx:ev env x=some (.c (.own id j n))) (O:j=off.toNat) (U:n=len.toNat) (v:σv[id]? =some (some (vec k f l))) (hy:ev env y=some (.c (.imm (.val (.int kk lo))))) (B:ev env E=some (.c (.imm (.val (.int q hi))))) (hd:j6 sz dst=true)
  (h:AOps P σ0 sz ops Q rest (St.mk (putE env dst (.c (.own id (off+lo).toNat (hi - lo).toNat))) σv)):AOps P σ0 sz ops Q (⟨dst,.slice t x (some y) (some E) none,ty,pos,after,none⟩::rest) (St.mk env σv):=by
 have h1:=aa6 J;have h2:=ar9 N
 subst O U
 refine AOps.sliceOwn hx v hy B (by omega) hd ?_
 rw[show off.toNat+lo.toNat=(off+lo).toNat by omega,show hi.toNat - lo.toNat=(hi - lo).toNat by omega]
 exact h
def ReE(env:Env)(t:Nat)(c':C):Env->Prop
 |[]=>True
 |(t',v)::r=>(t'=t/\v=.c c'\/lookup t' env=some v)/\ReE env t c' r
def ReE.get{t:Nat}{c':C}:∀{env':Env},ReE env t c' env'->∀t' v,lookup t' env'=some v->t'=t/\v=.c c'\/lookup t' env=some v
 |[],_,t,v,h=>by simp[lookup] at h
 |(k,x)::r,⟨h1,h2⟩,t',v,h=>by
  simp only[lookup] at h;split at h;cases h;rename_i e;have:k=t':=by simpa using e
  subst this;exact h1;exact ReE.get h2 t' v h
def Sub.reown{off len:Int}{j n:Nat}{n':Id}{σ1:c9}{u:Unit}(t:Nat)(hv:vw l off len=some u)(hx:lookup t env=some (.c (.own id j n)))(hj:j=off.toNat)(hn:n=len.toNat)(z:σv[id]? =some (some (vec k f l)))(h0:eU (fX σ0) id.1=true)(hid:newF σv=some n')
  (h1:putF σv id none=some σ1) (aa:w8 σ1 (.one (vec k f (m7 l off len)))=some σ') (ab:ReE env t (.own n' 0 (m7 l off len).length) env'):Sub σ0 ⟨env,σv⟩ ⟨env',σ'⟩:=fun Γ sz φ a w a6 hR=>by
 have h2:=A4 h1
 have h3:=B2 hid;have h4:=v7 aa
 have B:=viewL_len hv
 have a7:=aa6 hv
 subst hj hn h2 h3 h4
 have a3:=c9.lt_of z
 have E:(σv.put id none++[.one (vec k f (m7 l off len))])[((fX σv,[]):Id)]? =some (some (vec k f (m7 l off len))):=by rw[c9.get_right (by simp)];simp;rfl
 obtain⟨u0,an,J⟩:=hR.env t _ hx
 have ho:=F8 J z
 have ac:∀(φ':Phi) (hk:Kept w w φ φ' σv (σv.put id none++[.one (vec k f (m7 l off len))]) (Al Γ.N φ σv) (Al Γ.N φ' (σv.put id none++[.one (vec k f (m7 l off len))]))) (hs:Rs Γ (σv.put id none++[.one (vec k f (m7 l off len))]) φ' w) (v:U3 w (φ' (fX σv,[])) k (m7 l off len).length 0 (m7 l off len).length u0),
   R Γ sz ⟨env',σv.put id none++[.one (vec k f (m7 l off len))]⟩ φ' a w:=fun φ' hk hs v=>by
  have ai:=hR.of hk hs
  refine {toRs:=hs,defers:=ai.defers,asize:=hR.asize,env:=fun t' v' av=> ?_}
  rcases ab.get t' v' av with⟨rfl,rfl⟩|h
  ·refine⟨u0,an,.c (.own (by simp) (by cases J with|c g2=>exact g2.one) fun k' es' q=> ?_)⟩
   rw[E] at q
   cases q
   simpa using v
  ·obtain⟨u1,g1,g2⟩:=ai.env t' v' h
   exact⟨u1,g1,g2⟩
 rcases ho with⟨p1,p2,p3,p4⟩|⟨b,base,cap,arr,ety,ad,hp,ay,a2,O,al,a8,F,a9⟩
 ·have U:m7 l off len=[]:=eJ (by rw[B,p4])
  have hK:=hR.toRs.kill id
  have hV:=hK.2.virt k
  have e1:σv.put id none++[.one (vec k f (m7 l off len))]=σv.put id none++[.one (.cells k [])]:=by rw[U];rfl
  rw[c9.length_put] at hV
  refine⟨fun i=>if i=(fX σv,[]) then none else φ i,?_⟩
  have:=ac (fun i=>if i=(fX σv,[]) then none else φ i) (by rw[e1];exact Kept.trans (fp _) hK.1 hV.1) (by rw[e1];exact hV.2) (.inl ⟨by simp,p2,rfl,by rw[U];rfl⟩)
  exact this
 ·obtain⟨a4,a5,q1,q2,q3,q4⟩:=G6 hR z hp
  rw[F] at q1;cases q1
  have hO:=Rs.reown (k:=k) (base':=base+off.toNat * k) (es':=((m7 l off len).map f).map (·.map C.imm)) (arr':=arr) hR.toRs z hp F (fun j e q=>by
    have:((m7 l off len).map f).map (·.map C.imm)=((((l.map f).map (·.map C.imm)).drop off.toNat).take len.toNat):=by simp[m7,fQ,fE]
    rw[this,eO] at q;split at q;rw[eP] at q;exact q3 _ e q;cases q) (by
    simp only[eW,B];have:(off.toNat+cap) * k=off.toNat * k+cap * k:=fh ..;have:len.toNat * k<=cap * k:=fJ k O;omega) (fun j e o x q hx=>by
    have:((m7 l off len).map f).map (·.map C.imm)=((((l.map f).map (·.map C.imm)).drop off.toNat).take len.toNat):=by simp[m7,fQ,fE]
    rw[this,eO] at q;split at q;rw[eP] at q;obtain⟨u2,g1,g2⟩:=q4 _ e o x q hx;refine⟨u2,?_,g2⟩;rw[<- g1,fh];congr 1;omega;cases q)
  rw[Go.setRow_self w b arr ety (0,0) F] at hO
  refine⟨fun i=>if i=(fX σv,[]) then some (b,base+off.toNat * k) else φ i,?_⟩
  refine ac _ hO.1 hO.2 (.inr ⟨b,base+off.toNat * k,cap,arr,ety,ad,by simp,?_,fun hc=> ?_,?_,al,by omega,F,?_⟩)
  ·rw[ay,B]
  ·rw[a2 hc,fI,fq]
  ·rw[B];exact O
  ·have:(off.toNat+cap) * k=off.toNat * k+cap * k:=fh ..
   rw[fa];omega
def AWP.reown{c:Code}{off len:Int}{j n:Nat}{z:Id}{σ1:c9}{u:Unit}(t:Nat)(B:vw l off len=some u)(hx:lookup t env=some (.c (.own id j n)))(E:j=off.toNat)(F:n=len.toNat)(v:σv[id]? =some (some (vec k f l)))(J:eU (fX σ0) id.1=true)(hid:newF σv=some z)
  (h1:putF σv id none=some σ1) (e:w8 σ1 (.one (vec k f (m7 l off len)))=some σ') (q:ReE env t (.own z 0 (m7 l off len).length) env') (h:AWP P σ0 sz c Q ⟨env',σ'⟩):AWP P σ0 sz c Q ⟨env,σv⟩:=
 AWP.sub (Sub.reown t B hx E F v J hid h1 e q) h
def zeroCells_one{v:Vl}(n:Nat):(Builtin.zeroCells #[v] n).toList=eM n v:=by
 refine eB fun i=> ?_;simp only[Builtin.zeroCells,Array.toList_map,lM,eV];by_cases h:i<n;have:(gu (n * (#[v]:Array Vl).size)).toList[i]? =some i:=by simp[h]
 rw[this,if_pos h];simp[Nat.mod_one];have:(gu (n * (#[v]:Array Vl).size)).toList[i]? =none:=by simp;omega
 rw[this,if_neg h];rfl
def S.clear{x:Od}{t e:Ti}{bytes:Nat}{z:Vl}{off len:Int}{j n:Nat}{u:Unit}{a0:α}{c0:C}[ht:TyD P t (.slice e)][hs:TyS P e 1 bytes z](a3:z.cells=#[z])(a4:z.oneCell'=true)
  (hf:(f a0).map C.imm=[c0]) (ac:∀w φ σ A,RelC w φ σ A c0 z)
  (hv:vw l off len=some u) (hx:ev env x=some (.c (.own id j n))) (hj:j=off.toNat) (hn:n=len.toNat) (B:σv[id]? =some (some (vec 1 f l))) (ai:putF σv id (some (vec 1 f (clrL l off len a0)))=some σ')
  (h:AOps P σ0 sz ops Q rest (St.mk env σ')):AOps P σ0 sz ops Q (⟨none,.call ⟨.builtin .clear,#[x],#[t]⟩,ty,pos,after,none⟩::rest) (St.mk env σv):=by
 have bk:=aa6 hv
 have h2:=A4 ai
 subst hj hn h2
 refine .valueW rfl rfl (.tup []) (σv.put id (some (vec 1 f (clrL l off len a0)))) (fun Γ φ a w hR=> ?_) h
 have J:∀{w φ σ A},RelT w φ σ A (.tup []) (.tuple #[]):=fun {w φ σ A}=>RelT.tup (ts:=[]) (fun _=>undef) fun i t h=>by simp at h
 have ho:=F8 (k7 hR hx) B
 have al:(clrL l off len a0).length=fX l:=by simp[clrL];omega
 have E:len.toNat=0->clrL l off len a0=l:=fun e=>by simp[clrL,e]
 have O:len.toNat=0->(execOp a.eval ⟨none,.call ⟨.builtin .clear,#[x],#[t]⟩,ty,pos,after,none⟩).run P w=.ok (.value (.tuple #[])) w->∃u w' φ',(execOp a.eval ⟨none,.call ⟨.builtin .clear,#[x],#[t]⟩,ty,pos,after,none⟩).run P w=.ok (.value u) w'/\RelT w' φ' (σv.put id (some (vec 1 f (clrL l off len a0)))) (Al Γ.N φ' (σv.put id (some (vec 1 f (clrL l off len a0))))) (.tup []) u/\R Γ sz ⟨env,σv.put id (some (vec 1 f (clrL l off len a0)))⟩ φ' a w':=fun e0 an=>by rw[E e0];have av:=Sub.blk (σ0:=Γ.σ0) (env:=env) (id:=id) (k:=1) (es:=(l.map f).map (·.map C.imm)) (es':=(l.map f).map (·.map C.imm)) B rfl (fun i e' F=>by rcases hR.st.blk _ _ B with⟨_,g2⟩|⟨_,_,_,_,_,_,_,g4,_⟩;rw[g2] at F;simp at F;exact g4 i e' F) (fun i e' o x' F q=>⟨e',x',F,q,fun _ _ _ _ _ hr=>hr⟩);obtain⟨φ',a5⟩:=av Γ sz φ a w rfl hR;exact⟨_,w,φ',an,J,a5⟩
 rcases ho with⟨p1,p2,p3,p4⟩|⟨b,base,cap,arr,ety,ad,hp,U,a6,bd,be,a7,aa,bs⟩
 ·exact O p4 (by simp[execOp,resolve,invoke,builtin,p2,Builtin.clear_,run_underlying ht.h])
 ·by_cases e0:len.toNat=0
  ·refine O e0 ?_
   rw[e0] at U
   simp[execOp,resolve,invoke,builtin,U,Builtin.clear_,run_underlying ht.h]
  ·have a8:0<cap:=by omega
   have:=a6 a8
   subst this
   obtain⟨bi,bj,q1,q2,q3,q4⟩:=G6 hR B hp
   rw[aa] at q1;cases q1
   simp only[eW] at q2 a7
   have ay:=run_storeCells_at P b (base+off.toNat * 1) ety (eM len.toNat z) 0 arr w aa (by simp;omega) (fun v hv=>by rw[fS hv];exact a4)
   simp only[fq,Nat.mul_one,fH] at ay
   have bv:∀b:α,((f b).map C.imm).length=(f b).length:=fun b=>by simp
   have hW:=Rs.write (k:=1) (es':=((clrL l off len a0).map f).map (·.map C.imm)) (arr':=(arr.toList.take (base+off.toNat)++eM len.toNat z++arr.toList.drop (base+off.toNat+len.toNat)).toArray) hR.toRs B hp aa (by simp[al]) (by simp;omega) (fun i e' F=>by
     simp only[fj,lM,oM] at F;obtain⟨y,hy,rfl⟩:=F;by_cases ab:y ∈ l;obtain⟨i',a9⟩:=ff ab;exact q3 i' _ (by simp[a9]);have hy:=fz hy;simp only[clrL,List.mem_append] at hy;rcases hy with(hy|hy)|hy;exact absurd (List.mem_of_mem_take hy) ab;rw[fS hy];simp only[eN,hf];rfl;exact absurd (List.mem_of_mem_drop hy) ab) (by simp;omega) (fun i e' o x' F q=>by
     simp only[fj,lM,oM,eN] at F;obtain⟨y,hy,rfl⟩:=F;simp only[List.getElem?_toArray];have a2:=D7 arr.toList (eM len.toNat z) (base+off.toNat) (base+(i * 1+o)) (by simp;omega);simp only[fH] at a2;rw[a2];have bb:(clrL l off len a0)[i]? =if off.toNat<=i/\i<off.toNat+len.toNat then some a0 else l[i]? :=by have:=D7 l (eM len.toNat a0) off.toNat i (by simp;omega);simp only[fH] at this;rw[clrL,this];split;rw[eV,if_pos (by omega)];rfl
     rw[bb] at hy;split at hy;rename_i hi;cases hy;rw[hf] at q;match o with
     |0=>
      cases q
      rw[if_pos (by omega),eV,if_pos (by omega)]
      exact⟨z,rfl,ac _ _ _ _⟩
     |o+1=>simp at q
     rename_i hi;have ho:o=0:=by have h1:=q3 i ((f y).map C.imm) (by simp[hy]);have:=(lG.1 q).1;omega
     subst ho;rw[if_neg (by omega)];obtain⟨u2,g1,g2⟩:=q4 i ((f y).map C.imm) 0 x' (by simp[hy]) q;exact⟨u2,by simpa using g1,g2⟩)
   have hz:=H4 (P:=P) (t:=e) w
   refine⟨.tuple #[],_,φ,?_,J,hR.of hW.1 hW.2⟩
   have b4:¬ (len.toNat=0):=e0
   simp[execOp,resolve,invoke,builtin,U,Builtin.clear_,run_underlying ht.h,hz,a3,zeroCells_one,ay]
end
end Ab
end
section
namespace Ab
open Go Go.Sort
def CmpOk{α:Type}(cmp:α->α->Option Int)(cf:α->α->Int):Prop:=(∀a b,cmp a b=some (cf a b))/\SWO (Go.Proofs.ltOf cf)/\∀a b,¬ cf a b<0->¬ cf b a<0->a=b
noncomputable def ak8{α:Type}(c:α->α->Option Int)(l:List α):Option (List α):=open Classical in
 if h:fX l<4611686018427387904/\∃e,CmpOk c e then some (l.mergeSort fun x y=>decide (¬ h.2.choose y x<0)) else none
def sortFL_eq{α:Type}{c:α->α->Option Int}{j:α->α->Int}{l:List α}(h:fX l<4611686018427387904)(q:CmpOk c j):ak8 c l=some (l.mergeSort fun x y=>decide (¬ j y x<0)):=by
 unfold ak8;have hx:fX l<4611686018427387904/\∃j,CmpOk c j:=⟨h,j,q⟩;rw[dif_pos hx];have e:hx.2.choose=j:=by funext a b;have:=hx.2.choose_spec.1 a b;rw[q.1 a b] at this;exact(Option.some.inj this).symm
 rw[e]
def lltB:Li->Li->Bool
 |[],[]=>false
 |[],_::_=>true
 |_::_,[]=>false
 |a::l,b::m=>if a<b then true else if a=b then lltB l m else false
def sortLL(l:LL):Option (LL):=if (fX l)<4611686018427387904 then some (srtB lltB l) else none
def sortFL_len{α:Type}{c:α->α->Option Int}{l l':List α}(h:ak8 c l=some l'):fX l=fX l':=by unfold ak8 at h;split at h;cases h;simp;cases h
def SortFOk(P:Program)(f:FuncId):Prop:=∀{α:Type} {g:FuncId} {g0:α->I} {cf:α->α->Int},R7 P g->SWO (Go.Proofs.ltOf cf)->(∀a b,¬ cf a b<0->¬ cf b a<0->a=b)->(∀a b,j9 P g [.c (.imm (g0 a)),.c (.imm (g0 b))] (.c (int (cf a b))))->
 ∀{σ:c9} {id:Id} {l:List α},σ[id]? =some (some (vec 1 (fun a=>[g0 a]) l))->fX l<4611686018427387904->
  FnOk P f [.c (.own id 0 (fX l)),.c (.fn g [])] σ fun r σ'=>r=.tup []/\(fX σ')=fX σ/\∀i:Id,σ'[i]? =(σ.put id (some (vec 1 (fun a=>[g0 a]) (l.mergeSort fun x y=>decide (¬ cf y x<0)))))[i]?
section
variable {P:Program}{σ0:c9}{sz:Nat}{Q:Post}{env:Env}{σv σ':c9}{ops:Array Oper}{rest:List Oper}{dst:Option Nat}{ty:Ti}{pos:String}{after:Array Edge}
def S.sortF{α:Type}{f:α->List I}(g0:α->I){j:α->α->Option Int}{x:Od}{E:List Od}{ats:Array Ti}{fs g:FuncId}{id:Id}{n:Nat}{l l':List α}(hs:ak8 j l=some l')(v:f=fun a=>[g0 a])
  (q:∀{a b r},j a b=some r->j9 P g [.c (.imm (g0 a)),.c (.imm (g0 b))] (.c (int r))) (hf:SortFOk P fs) (z:R7 P g) (hx:ev env x=some (.c (.fn fs []))) (F:evs env E=some [.c (.own id 0 n),.c (.fn g [])]) (J:n=fX l) (B:σv[id]? =some (some (vec 1 f l)))
  (hd:j6 sz dst=true) (u:putF σv id (some (vec 1 f l'))=some σ') (h:AOps P σ0 sz ops Q rest (St.mk (putE env dst (.tup [])) σ')):
  AOps P σ0 sz ops Q (⟨dst,.call ⟨.value x,E.toArray,ats⟩,ty,pos,after,none⟩::rest) (St.mk env σv):=by
 have h2:=A4 u
 subst h2 J v
 unfold ak8 at hs
 split at hs
 ·rename_i e
  cases hs
  obtain⟨c1,N,O⟩:=e.2.choose_spec
  refine AOps.callS hx F hd (hf z N O (fun a b=>q (c1 a b)) B e.1) ?_
  rintro r σ2 ⟨rfl,hl,U⟩
  refine AOps.sub (s':=⟨putE env dst (.tup []),σv.put id (some (vec 1 (fun a=>[g0 a]) (l.mergeSort fun x y=>decide (¬ e.2.choose y x<0))))⟩) ?_ h
  have:=Sub.same (σ0:=σ0) (env:=putE env dst (.tup [])) (σ1:=σ2) (σ2:=σv.put id (some (vec 1 (fun a=>[g0 a]) (l.mergeSort fun x y=>decide (¬ e.2.choose y x<0))))) (by rw[c9.length_put,hl]) U
  cases dst<;>exact this
 ·cases hs
end
/-! ### Views in chains -/
def S4{α:Type}(l:List α):vw l 0 (fX l:Int)=some ():=by unfold vw;rw[if_pos];omega
def vw_cut{α:Type}{l:List α}{off len lo hi:Int}{u c:Unit}(h:vw l off len=some u)(e:cutV len lo hi=some c):vw l (off+lo) (hi - lo)=some ():=by have:=aa6 h;have:=ar9 e;unfold vw;rw[if_pos];omega
def vw_to{α:Type}{l:List α}{off len hi:Int}{u c:Unit}(h:vw l off len=some u)(e:cutV len 0 hi=some c):vw l off hi=some ():=by have:=aa6 h;have:=ar9 e;unfold vw;rw[if_pos];omega
def clrL_len{α:Type}{l:List α}{off len:Int}{u:Unit}{z:α}(h:vw l off len=some u):(clrL l off len z).length=fX l:=by have:=aa6 h;simp[clrL];omega
end Ab
end
section
namespace Ab
open Go
def shlW(k:IntKind)(a b:Int):Int:=k.wrap (a * 2 ^ (min b.toNat k.bits))
def chk0(b:Int):Option Unit:=if b<0 then none else some ()
def chkN(b:Int):Option Unit:=if b=0 then none else some ()
def chk0_get{b:Int}{u:Unit}(h:chk0 b=some u):¬ b<0:=by unfold chk0 at h;split at h;cases h;assumption
def chkN_get{b:Int}{u:Unit}(h:chkN b=some u):b ≠ 0:=by unfold chkN at h;split at h;cases h;assumption
section
variable {P:Program}{σ0:c9}{sz:Nat}{Q:Post}{env:Env}{σv:c9}{ops:Array Oper}{rest:List Oper}{dst:Option Nat}{ty:Ti}{pos:String}{after:Array Edge}
def S.shl{t t':Ti}{x y:Od}{k k':IntKind}{a b:Int}{u:Unit}(hb:chk0 b=some u)(hx:ev env x=some (.c (.imm (.val (.int k a)))))(hy:ev env y=some (.c (.imm (.val (.int k' b)))))(hd:j6 sz dst=true)
  (h:AOps P σ0 sz ops Q rest (St.mk (putE env dst (.c (.imm (.val (.int k (shlW k a b)))))) σv)):AOps P σ0 sz ops Q (⟨dst,.binOp .shl t x y t',ty,pos,after,none⟩::rest) (St.mk env σv):=
 .bin hx hy hd rfl (fun w=>by simp[go_sem]) (fun w=>by simp[binOp,Op.shift,chk0_get hb,shlW]) h
def S.quo{t t':Ti}{x y:Od}{k:IntKind}{a b:Int}{u:Unit}(e:chkN b=some u)(hx:ev env x=some (.c (.imm (.val (.int k a)))))(hy:ev env y=some (.c (.imm (.val (.int k b)))))(hd:j6 sz dst=true)
  (h:AOps P σ0 sz ops Q rest (St.mk (putE env dst (.c (.imm (.val (.int k (k.wrap (a.tdiv b))))))) σv)):AOps P σ0 sz ops Q (⟨dst,.binOp .quo t x y t',ty,pos,after,none⟩::rest) (St.mk env σv):=.quoW hx hy hd (chkN_get e) h
end
section
variable {P:Program}{σ0:c9}{sz:Nat}{Q:Post}{env env':Env}{σv σ':c9}
def Sub.virtB{α:Type}(k:Nat)(f:α->List I){b n:Id}{kb o:Nat}{cs q:List C}{σ1:c9}(U:σv[b]? =some (some (.cells kb [cs])))(hc:cs[o]? =some (.imm (.val (.slice none 0 0))))(hn:newF σv=some n)(h1:w8 σv (.one (vec k f []))=some σ1)
  (hs:setF cs o (.own n 0 ([]:List α).length)=some q) (v:putF σ1 b (some (.cells kb [q]))=some σ'):Sub σ0 ⟨env,σv⟩ ⟨env,σ'⟩:=fun Γ sz φ a w aa hR=>by
 have g1:=B2 hn;have g2:=v7 h1;have E:=H7 hs;have g4:=A4 v
 obtain⟨E,ab⟩:=E
 subst g1 g2 E g4
 have F:=c9.lt_of U
 have c:=hR.toRs.virt k
 have z:(σv++[.one (vec k f [])])[b]? =some (some (.cells kb [cs])):=by rw[c9.get_left F];exact U
 have e0:(σv++[.one (.cells k [])]:c9)=σv++[.one (vec k f [])]:=rfl
 rw[e0] at c
 generalize J:(fun i=>if i=((fX σv,[]):Id) then none else φ i)=φ' at c
 have N:φ' (fX σv,[])=none:=by rw[<- J];simp
 rcases c.2.st.blk _ _ z with⟨_,g⟩|⟨b0,base,arr,ety,q1,q2,q3,q4,q5⟩
 ·cases g
 ·have O:=Rs.write (k:=kb) (es':=[cs.set o (.own (fX σv,[]) 0 ([]:List α).length)]) (arr':=arr) c.2 z q1 q2 rfl rfl (fun j e B=>by
   match j with
   |0=>
    cases B
    rw[lS]
    exact q4 0 cs rfl
   |j+1=>simp at B) (by simpa using q3) (fun j e i x B hx=>by
   match j with
   |0=>
    cases B
    rw[eA] at hx
    split at hx
    ·rename_i e
     subst e
     cases hx
     obtain⟨u,hu,hr⟩:=q5 0 cs o _ rfl hc
     refine⟨u,hu,?_⟩
     cases hr with|imm hr=>cases hr with|val h=>
      exact .own (by simp) rfl fun k' es' _=>.inl ⟨N,rfl,rfl,rfl⟩
    ·exact q5 0 cs i x rfl hx
   |j+1=>simp at B)
  rw[Go.setRow_self w b0 arr ety (0,0) q2] at O
  exact⟨φ',(hR.of c.1 c.2).of O.1 O.2⟩
def AWP.virtB{α:Type}{c:Code}(k:Nat)(f:α->List I){b n:Id}{kb o:Nat}{cs e:List C}{σ1:c9}(q:σv[b]? =some (some (.cells kb [cs])))(u:cs[o]? =some (.imm (.val (.slice none 0 0))))(v:newF σv=some n)(h1:w8 σv (.one (vec k f []))=some σ1)
  (hs:setF cs o (.own n 0 ([]:List α).length)=some e) (j:putF σ1 b (some (.cells kb [e]))=some σ') (h:AWP P σ0 sz c Q ⟨env,σ'⟩):AWP P σ0 sz c Q ⟨env,σv⟩:=AWP.sub (Sub.virtB k f q u v h1 hs j) h
def NilB:List C->List C->Prop
 |[],[]=>True
 |c::r,c'::e=>(c'=c\/c=.imm (.val (.slice none 0 0))/\∃k,c'=.imm (.sl k []))/\NilB r e
 |_,_=>False
def NilB.len:∀{l l':List C},NilB l l'->fX l'=fX l
 |[],[],_=>rfl
 |_::r,_::c,⟨_,h⟩=>by simp[NilB.len h]
 |[],_::_,h=>h.elim
 |_::_,[],h=>h.elim
def NilB.get:∀{l l':List C},NilB l l'->∀(o:Nat) (x:C),l'[o]? =some x->∃e,l[o]? =some e/\(x=e\/e=.imm (.val (.slice none 0 0))/\∃k,x=.imm (.sl k []))
 |[],[],_,o,x,h=>by simp at h
 |c::r,c'::j,⟨h1,h2⟩,o,x,h=>by
  match o with
  |0=>cases h;exact⟨c,rfl,h1⟩
  |o+1=>simpa using NilB.get h2 o x (by simpa using h)
 |[],_::_,h,_,_,_=>h.elim
 |_::_,[],h,_,_,_=>h.elim
def Sub.nilB{b:Id}{kb:Nat}{cs:List C}(c:List C)(B:σv[b]? =some (some (.cells kb [cs])))(h:NilB cs c)(q:fX cs=kb)(v:putF σv b (some (.cells kb [c]))=some σ'):Sub σ0 ⟨env,σv⟩ ⟨env,σ'⟩:=by
 have g:=A4 v;subst g;refine Sub.blk B rfl (fun j e z=> ?_) (fun j e o x z hx=> ?_);match j with
 |0=>cases z;rw[h.len,q]
 |j+1=>simp at z
 match j with
 |0=>
  cases z
  obtain⟨E,h1,h2⟩:=h.get o x hx
  refine⟨cs,E,rfl,h1,fun w φ σ A u hr=> ?_⟩
  rcases h2 with rfl|⟨rfl,k,rfl⟩
  ·exact hr
  ·cases hr with|imm hr=>cases hr with|val=>exact .imm .slNil
 |j+1=>simp at z
def AWP.nilB{c:Code}{b:Id}{kb:Nat}{cs:List C}(e:List C)(u:σv[b]? =some (some (.cells kb [cs])))(h:NilB cs e)(j:fX cs=kb)(q:putF σv b (some (.cells kb [e]))=some σ')(v:AWP P σ0 sz c Q ⟨env,σ'⟩):AWP P σ0 sz c Q ⟨env,σv⟩:=AWP.sub (Sub.nilB e u h j q) v
end
end Ab
end
section
namespace Ab
open Go
section
variable {P:Program}{σ0:c9}{sz:Nat}{Q:Post}{env env':Env}{σv σ':c9}{α:Type}{f:α->List I}{k:Nat}{l:List α}{id:Id}
def Sub.reownB{off len:Int}{j n kb o:Nat}{b n':Id}{cs ai:List C}{σ1 σ2:c9}{u:Unit}(t:Nat)(hb:σv[b]? =some (some (.cells kb [cs])))(hc:cs[o]? =some (.own id j n))(al:idb b id=false)(hv:vw l off len=some u)(hj:j=off.toNat)(hn:n=len.toNat)(z:σv[id]? =some (some (vec k f l)))
  (h0:eU (fX σ0) id.1=true) (hid:newF σv=some n') (h1:putF σv id none=some σ1) (h2:w8 σ1 (.one (vec k f (m7 l off len)))=some σ2) (hs:setF cs o (.own n' 0 (m7 l off len).length)=some ai) (an:putF σ2 b (some (.cells kb [ai]))=some σ') (av:ReE env t (.own n' 0 0) env') (ht:lookup t env'=none):
  Sub σ0 ⟨env,σv⟩ ⟨env',σ'⟩:=fun Γ sz φ a w bs hR=>by
 have e1:=A4 h1
 have e2:=B2 hid;have e3:=v7 h2;have e4:=A4 an
 obtain⟨e5,bv⟩:=H7 hs
 have B:=viewL_len hv
 have b4:=aa6 hv
 subst hj hn e1 e2 e3 e4 e5
 have bb:b ≠ id:=fun e=>by rw[G8.2 e] at al;cases al
 have bk:=c9.lt_of z
 have ab:=c9.lt_of hb
 have E:(σv.put id none++[.one (vec k f (m7 l off len))]:c9)[((fX σv,[]):Id)]? =some (some (vec k f (m7 l off len))):=by rw[c9.get_right (by simp)];simp;rfl
 have ay:(σv.put id none++[.one (vec k f (m7 l off len))]:c9)[b]? =some (some (.cells kb [cs])):=by rw[c9.get_left (by simpa using ab),c9.get_put_ne bb];exact hb
 rcases hR.st.blk _ _ hb with⟨_,g⟩|⟨b0,b5,J,a2,q1,q2,q3,q4,q5⟩
 ·cases g
 obtain⟨u0,bd,O⟩:=q5 0 cs o _ rfl hc
 have a3:u0.oneCell'=true:=by cases O with|own _ h _=>exact h
 have ho:=F8 (k:=k) (RelT.c O) z
 have a4:∀x,(if b=((fX σv,[]):Id) then x else φ b)=φ b:=fun x=>if_neg fun e=>by rw[e] at ab;exact Nat.lt_irrefl _ ab
 have a5:∀(x:Option (Nat×Nat)) (hk:Kept w w φ (fun i=>if i=((fX σv,[]):Id) then x else φ i) σv (σv.put id none++[.one (vec k f (m7 l off len))]) (Al Γ.N φ σv) (Al Γ.N (fun i=>if i=((fX σv,[]):Id) then x else φ i) (σv.put id none++[.one (vec k f (m7 l off len))])))
   (hs:Rs Γ (σv.put id none++[.one (vec k f (m7 l off len))]) (fun i=>if i=((fX σv,[]):Id) then x else φ i) w) (v:U3 w x k (m7 l off len).length 0 (m7 l off len).length u0),
   ∃φ',R Γ sz ⟨env',c9.put (σv.put id none++[.one (vec k f (m7 l off len))]) b (some (.cells kb [cs.set o (.own (fX σv,[]) 0 (m7 l off len).length)]))⟩ φ' a w:=fun x hk hs v=>by
  have be:=hR.of hk hs
  rcases hs.st.blk _ _ ay with⟨_,g⟩|⟨b2,b6,a6,a7,p1,p2,p3,p4,p5⟩
  ·cases g
  rw[a4,q1] at p1
  cases p1
  rw[q2] at p2;cases p2
  have hW:=Rs.write (k:=kb) (es':=[cs.set o (.own (fX σv,[]) 0 (m7 l off len).length)]) (arr':=J) hs ay (by rw[a4,q1]) q2 rfl rfl (fun j e q=>by
   match j with
   |0=>
    cases q
    rw[lS]
    exact p4 0 cs rfl
   |j+1=>simp at q) (by simpa using p3) (fun j e i y q hy=>by
   match j with
   |0=>
    cases q
    rw[eA] at hy
    split at hy
    ·rename_i e
     subst e
     cases hy
     refine⟨u0,bd,.own (by simp) a3 fun k' es' q=> ?_⟩
     rw[E] at q
     cases q
     simpa using v
    ·exact p5 0 cs i y rfl hy
   |j+1=>simp at q)
  rw[Go.setRow_self w b0 J a2 (0,0) q2] at hW
  have a8:=be.of hW.1 hW.2
  refine⟨_,{toRs:=hW.2,defers:=a8.defers,asize:=hR.asize,env:=fun t' v' ac=> ?_}⟩
  rcases av.get t' v' ac with⟨rfl,_⟩|h
  ·rw[ht] at ac;cases ac
  ·exact a8.env t' v' h
 rcases ho with⟨p1,p2,p3,p4⟩|⟨b,base,cap,arr,ety,ad,hp,bi,bj,U,a9,b7,F,b8⟩
 ·have aa:m7 l off len=[]:=eJ (by rw[B,p4])
  have hK:=hR.toRs.kill id
  have hV:=hK.2.virt k
  have e1:σv.put id none++[.one (vec k f (m7 l off len))]=σv.put id none++[.one (.cells k [])]:=by rw[aa];rfl
  rw[c9.length_put] at hV
  exact a5 none (by rw[e1];exact Kept.trans (fp _) hK.1 hV.1) (by rw[e1];exact hV.2) (.inl ⟨rfl,p2,rfl,by rw[aa];rfl⟩)
 ·obtain⟨a6,a7,q1,q2,q3,q4⟩:=G6 hR z hp
  rw[F] at q1;cases q1
  have hO:=Rs.reown (k:=k) (base':=base+off.toNat * k) (es':=((m7 l off len).map f).map (·.map C.imm)) (arr':=arr) hR.toRs z hp F (fun j e q=>by
    have:((m7 l off len).map f).map (·.map C.imm)=((((l.map f).map (·.map C.imm)).drop off.toNat).take len.toNat):=by simp[m7,fQ,fE]
    rw[this,eO] at q;split at q;rw[eP] at q;exact q3 _ e q;cases q) (by
    simp only[eW,B];have:(off.toNat+cap) * k=off.toNat * k+cap * k:=fh ..;have:len.toNat * k<=cap * k:=fJ k U;omega) (fun j e o x q hx=>by
    have:((m7 l off len).map f).map (·.map C.imm)=((((l.map f).map (·.map C.imm)).drop off.toNat).take len.toNat):=by simp[m7,fQ,fE]
    rw[this,eO] at q;split at q;rw[eP] at q;obtain⟨u2,g1,g2⟩:=q4 _ e o x q hx;refine⟨u2,?_,g2⟩;rw[<- g1,fh];congr 1;omega;cases q)
  rw[Go.setRow_self w b arr ety (0,0) F] at hO
  refine a5 (some (b,base+off.toNat * k)) hO.1 hO.2 (.inr ⟨b,base+off.toNat * k,cap,arr,ety,ad,rfl,?_,fun hc=> ?_,?_,a9,by omega,F,?_⟩)
  ·rw[bi,B]
  ·rw[bj hc,fI,fq]
  ·rw[B];exact U
  ·have:(off.toNat+cap) * k=off.toNat * k+cap * k:=fh ..
   rw[fa];omega
def AWP.reownB{c:Code}{off len:Int}{j n kb o:Nat}{b z:Id}{cs e:List C}{σ1 σ2:c9}{u:Unit}(t:Nat)(F:σv[b]? =some (some (.cells kb [cs])))(J:cs[o]? =some (.own id j n))(B:idb b id=false)(N:vw l off len=some u)(O:j=off.toNat)(U:n=len.toNat)(E:σv[id]? =some (some (vec k f l)))
  (h0:eU (fX σ0) id.1=true) (hid:newF σv=some z) (h1:putF σv id none=some σ1) (h2:w8 σ1 (.one (vec k f (m7 l off len)))=some σ2) (hs:setF cs o (.own z 0 (m7 l off len).length)=some e) (q:putF σ2 b (some (.cells kb [e]))=some σ') (v:ReE env t (.own z 0 0) env') (ht:lookup t env'=none)
  (h:AWP P σ0 sz c Q ⟨env',σ'⟩):AWP P σ0 sz c Q ⟨env,σv⟩:=AWP.sub (Sub.reownB t F J B N O U E h0 hid h1 h2 hs q v ht) h
end
end Ab
end
section
namespace Ab
open Go
section
variable {α:Type}{f:α->List I}{l:List α}{p m:Nat}{n id:Id}
abbrev vecS(f:α->List I)(l:List α)(p:Nat)(n:Id)(m:Nat):Blk:=.cells 1 (((l.map f).map (·.map C.imm)).set p [.own n 0 m])
def mem_set{β:Type}{x a:β}:∀{l:List β} {p:Nat},x ∈ l.set p a->x ∈ l\/x=a
 |[],_,h=>by simp at h
 |b::l,0,h=>by rcases fD.1 h with h|h;exact .inr h;exact .inl (fK _ h)
 |b::l,p+1,h=>by rcases fD.1 h with h|h;exact .inl (h ▸ fN ..);rcases mem_set h with h|h;exact .inl (fK _ h);exact .inr h
def vs_no(h:idb n id=false):(vecS f l p n m).no id=true:=by simp only[Blk.no,eF];intro e c;rcases mem_set c with h1|rfl;have:=Blk.im_no id 1 (l.map f);simp only[Blk.im,Blk.no,eF] at this;exact this e h1;simp[C.noL,C.no,h]
def FrzB.vs{X:C->C->Prop}(h:idb n id=false):FrzB id X (.one (vecS f l p n m)) (.one (vecS f l p n m)):=by
 have c:=vs_no (f:=f) (l:=l) (p:=p) (m:=m) h;have imm:∀e ∈ ((l.map f).map (·.map C.imm)).set p [.own n 0 m],FrzL id X e e:=fun e j=>by rcases mem_set j with h1|rfl;simp only[fj,fT,eN] at h1;obtain⟨a,_,rfl⟩:=h1;exact FrzL.imm _;exact⟨.inl ⟨rfl,by simp[C.no,h]⟩,Y⟩
 unfold FrzB;split;rename_i h1 _;cases h1;rename_i k1 e v e' h1 h2;simp only[Ent.one.injEq,Blk.cells.injEq] at h1 h2;obtain⟨rfl,h1⟩:=h1;obtain⟨rfl,h2⟩:=h2;have:e=e':=by rw[h1] at h2;simpa using h2
 subst this;exact⟨rfl,imm e (by rw[h1];simp)⟩;rename_i h1 h2;cases h1;cases h2;exact⟨rfl,c⟩;rename_i h1;cases h1;rename_i h1 h2 q u;first|exact(q _ _ rfl rfl).elim|exact(u _ _ rfl rfl).elim|exact(h2 _ _ rfl rfl).elim
end
section
variable {P:Program}{σ0:c9}{sz:Nat}{Q:Post}{env:Env}{σv σ':c9}{ops:Array Oper}{rest:List Oper}{dst:Option Nat}{ty:Ti}{pos:String}{after:Array Edge}
variable {α β:Type}{f:α->List I}{l:List α}{p m:Nat}{n id:Id}
inductive FrzE(id:Id)(k:Nat)(es:List (List I))(X:C->C->Prop):Ent->Ent->Prop
 |old {e e':Ent} (h:FrzB id X e e'):FrzE id k es X e e'
 |vs {α:Type} {f:α->List I} {l:List α} {p m:Nat} {b:Blk} (h:Blk.frz id k es (vecS f l p id m)=b):FrzE id k es X (.one (vecS f l p id m)) (.one b)
 |any {e e':Ent} (h:∀p,(e.sub p).map (Blk.frz id k es)=e'.sub p):FrzE id k es X e e'
def FrzS2(id:Id)(k:Nat)(es:List (List I))(X:C->C->Prop):c9->c9->Prop
 |[],[]=>True
 |b::r,c::e=>FrzE id k es X b c/\FrzS2 id k es X r e
 |_,_=>False
def FrzE.get{k:Nat}{es:List (List I)}{X:C->C->Prop}(j:∀c c',X c c'->c.frz id k es=c'){e e':Ent}(h:FrzE id k es X e e')(p:List Nat):(e.sub p).map (Blk.frz id k es)=e'.sub p:=by
 cases h with
 |old h=>exact FrzB.get j h p
 |any h=>exact h p
 |vs h=>
  cases p with
  |nil=>simp only[Ent.sub,eD,h]
  |cons=>rfl
def FrzS2.get{k:Nat}{es:List (List I)}{X:C->C->Prop}(j:∀c c',X c c'->c.frz id k es=c'):∀{σ σ2:c9},FrzS2 id k es X σ σ2->∀i:Id,(σ[i]?).map (Option.map (Blk.frz id k es))=σ2[i]?
 |[],[],_,i=>rfl
 |[],_::_,h,_=>h.elim
 |_::_,[],h,_=>h.elim
 |e::r,e'::q,h,(0,p)=>by rw[c9.at_eq,c9.at_eq];simp only[c9.at,eR,eD,FrzE.get j h.1 p]
 |e::r,e'::q,h,(i+1,p)=>by have:=FrzS2.get j h.2 (i,p);rw[c9.at_eq,c9.at_eq] at this ⊢;simpa[c9.at] using this
def FrzS2.len{k:Nat}{es:List (List I)}{X:C->C->Prop}:∀{σ σ2:c9},FrzS2 id k es X σ σ2->fX σ2=fX σ
 |[],[],_=>rfl
 |[],_::_,h=>h.elim
 |_::_,[],h=>h.elim
 |e::r,e'::c,h=>by simp[FrzS2.len h.2]
def Sub.frzW{g:β->List I}{M:List β}{k:Nat}{env2:Env}{σ1 σ2:c9}(hid:eU (fX σ0) id.1=true)(j:σv[id]? =some (some (vec k g M)))(c:aa2 id (XRow id (fX M) (row k g M)) env env2)(h1:putF σv id none=some σ1)(e:FrzS2 id k (M.map g) (XRow id (fX M) (row k g M)) σ1 σ2):Sub σ0 ⟨env,σv⟩ ⟨env2,σ2⟩:=by have h2:=A4 h1;subst h2;have q:=XRow.eq (f:=g) (l:=M) (id:=id) (k:=k);have hf:=Sub.frz (σ0:=σ0) (s:=⟨env,σv⟩) id k (M.map g) (eE hid) j;have hs:Sub σ0 (St.frz ⟨env,σv⟩ id k (M.map g)) ⟨env.map fun p=>(p.1,p.2.frz id k (M.map g)),σ2⟩:=Sub.same (by rw[e.len];simp[St.frz]) (fun i=>by rw[<- FrzS2.get q e i,c9.get_map]);refine(hf.trans hs).trans (fun _ _ φ _ _ _ h=>⟨φ,{toRs:=h.toRs,defers:=h.defers,asize:=h.asize,env:=fun t v ht=>h.env t v ?_}⟩);show lookup t (env.map fun p=>(p.1,p.2.frz id k (M.map g)))=some v;rw[ak5 (fun v=>v.frz id k (M.map g))];exact aa2.get q c t v ht
def AWP.frzW{c:Code}{g:β->List I}{M:List β}{k:Nat}{env2:Env}{σ1 σ2:c9}(hid:eU (fX σ0) id.1=true)(j:σv[id]? =some (some (vec k g M)))(e:aa2 id (XRow id (fX M) (row k g M)) env env2)(h1:putF σv id none=some σ1)(q:FrzS2 id k (M.map g) (XRow id (fX M) (row k g M)) σ1 σ2)
  (h:AWP P σ0 sz c Q (St.mk env2 σ2)):AWP P σ0 sz c Q (St.mk env σv):=AWP.sub (Sub.frzW hid j e h1 q) h
end
end Ab
end
section
namespace Ab
open Go
def slotsP:List (Nat×Option Nat)->List Vl->Array Vl->Prop
 |[],_,_=>True
 |(t,none)::r,us,a=>(∃u,us.head? =some u/\a[t]? =some u)/\slotsP r us.tail a
 |(t,some n)::r,us,a=>((us.take n).length=n/\a[t]? =some (.agg (us.take n).toArray))/\slotsP r (us.drop n) a
def slotE:List (Nat×Option Nat)->List C->Env
 |[],_=>[]
 |(_,none)::_,[]=>[]
 |(t,none)::r,c::cs=>(t,.c c)::slotE r cs
 |(t,some n)::r,cs=>match eG (cs.take n).length n with
  |true=>(t,.agg (cs.take n))::slotE r (cs.drop n)
  |false=>[]
def slotC:List (Nat×Option Nat)->Env->Option (List C)
 |[],_=>some []
 |(t,none)::r,env=>match lookup t env,slotC r env with
  |some (.c c),some cs=>some (c::cs)
  |_,_=>none
 |(t,some n)::r,env=>match lookup t env,slotC r env with
  |some (.agg l),some cs=>match eG (fX l) n with
   |true=>some (l++cs)
   |false=>none
  |_,_=>none
section
variable {w:World}{φ:Phi}{σ:c9}{A:Nat->Prop}
def slot_env:∀(sh:List (Nat×Option Nat)) {us:List Vl} {a:Array Vl} {cs:List C},slotsP sh us a->(∀(i:Nat) (x:C),cs[i]? =some x->∃u,us[i]? =some u/\RelC w φ σ A x u)->
  ∀(t:Nat) (v:T),lookup t (slotE sh cs)=some v->∃u,a[t]? =some u/\RelT w φ σ A v u
 |[],us,a,cs,_,_,t,v,h=>by simp[slotE,lookup] at h
 |(s,none)::r,us,a,[],_,_,t,v,h=>by simp[slotE,lookup] at h
 |(s,none)::r,us,a,c::cs,hs,hr,t,v,h=>by simp only[slotE,lookup] at h;obtain⟨⟨u,O,E⟩,hs⟩:=hs;obtain⟨U,j,F⟩:=hr 0 c rfl;rw[List.head?_eq_getElem?] at O;rw[O] at j;cases j;split at h;rename_i e;cases h;have:=eI e;subst this;exact⟨u,E,.c F⟩;exact slot_env r hs (fun i x hx=>by obtain⟨u,g1,q⟩:=hr (i+1) x hx;exact⟨u,by rw[<- g1];cases us<;>simp,q⟩) t v h
 |(s,some n)::r,us,a,cs,hs,hr,t,v,h=>by
  simp only[slotE] at h;obtain⟨⟨hl,E⟩,hs⟩:=hs;cases J:eG (cs.take n).length n with
  |false=>rw[J] at h;simp[lookup] at h
  |true=>
   rw[J] at h
   have z:=eI J
   simp only[lookup] at h
   split at h
   ·rename_i e
    cases h
    have:=eI e
    subst this
    refine⟨_,E,RelT.agg' (by rw[hl,z]) fun i c v B N=> ?_⟩
    rw[eO] at B N
    split at B
    ·rename_i hi
     rw[if_pos hi] at N
     obtain⟨u,g1,q⟩:=hr i c B
     rw[N] at g1;cases g1;exact q
    ·cases B
   ·exact slot_env r hs (fun i x hx=>by rw[eP] at hx;obtain⟨u,g1,q⟩:=hr _ x hx;exact⟨u,by rw[eP];exact g1,q⟩) t v h
theorem slot_mk:∀(sh:List (Nat×Option Nat)) {env:Env} {a:Array Vl} {cs:List C},(∀t v,lookup t env=some v->∃u,a[t]? =some u/\RelT w φ σ A v u)->slotC sh env=some cs->
  ∃us,slotsP sh us a/\(fX us)=fX cs/\∀(i:Nat) (x:C),cs[i]? =some x->∃u,us[i]? =some u/\RelC w φ σ A x u
 |[],env,a,cs,_,h=>by cases h;exact⟨[],trivial,rfl,fun i x hx=>by simp at hx⟩
 |(s,none)::r,env,a,cs,he,h=>by
  simp only[slotC] at h
  split at h<;>cases h
  rename_i c cs' h1 h2
  obtain⟨us,g1,g0,g2⟩:=slot_mk r he h2
  obtain⟨u,k1,k2⟩:=he s _ h1
  cases k2 with|c k2=>
  refine⟨u::us,⟨⟨u,rfl,k1⟩,g1⟩,by simp[g0],fun i x hx=> ?_⟩
  match i with
  |0=>cases hx;exact⟨u,rfl,k2⟩
  |i+1=>exact g2 i x hx
 |(s,some n)::r,env,a,cs,he,h=>by
  simp only[slotC] at h
  split at h
  ·rename_i l cs' h1 h2
   split at h<;>cases h
   rename_i hb
   have hn:=eI hb
   obtain⟨us,g1,g0,g2⟩:=slot_mk r he h2
   obtain⟨u,k1,k2⟩:=he s _ h1
   obtain⟨vs,rfl,k3,k4⟩:=RelT.agg_inv k2
   have hvn:fX vs=n:=by omega
   refine⟨vs++us,⟨⟨by rw[List.take_left' hvn];exact hvn,by rw[List.take_left' hvn];exact k1⟩,by rw[List.drop_left' hvn];exact g1⟩,by simp[g0,k3],fun i x hx=> ?_⟩
   rw[fe] at hx ⊢
   rw[k3]
   split at hx
   ·rename_i hi;rw[if_pos hi];exact k4 i x hx
   ·rename_i hi;rw[if_neg hi];exact g2 _ x hx
  ·cases h
end
def loopP(szc:Nat)(ps:List Nat)(asg body:Code)(st:LoopState)(c:Option Code)(sh:List (Nat×Option Nat)):Obj->List Vl->Prop:=fun o us=>
 ∃r:Go.Loop,o=.loop r/\r.state=st/\r.pending=c/\r.params=ps.toArray/\r.assign=asg/\r.body=body/\r.tmps.size=szc/\slotsP sh us r.tmps
abbrev m4(szc:Nat)(ps:List Nat)(asg body:Code)(st:LoopState)(c:Option Code)(sh:List (Nat×Option Nat))(cs:List C):Blk:=.obj (loopP szc ps asg body st c sh) cs
def zipE:List Nat->List T->Env->Env
 |p::ps,t::ts,E=>zipE ps ts ((p,t)::E)
 |_,_,E=>E
def zip_env{w:World}{φ:Phi}{σ:c9}{A:Nat->Prop}{szc:Nat}:∀(ps:List Nat) (ts:List T) (us:List Vl) (E:Env) (a:Array Vl),a.size=szc->fX ts=fX us->(∀p ∈ ps,p<szc)->
  (∀(i:Nat) (t:T) (u:Vl),ts[i]? =some t->us[i]? =some u->RelT w φ σ A t u)->(∀t v,lookup t E=some v->∃u,a[t]? =some u/\RelT w φ σ A v u)->
  ((ps.zip us).foldl (fun tmps (t,a)=>tmps.setIfInBounds t a) a).size=szc/\
  ∀t v,lookup t (zipE ps ts E)=some v->∃u,((ps.zip us).foldl (fun tmps (t,a)=>tmps.setIfInBounds t a) a)[t]? =some u/\RelT w φ σ A v u
 |[],ts,us,E,a,hz,_,_,_,c=>⟨by simpa using hz,fun t v h=>by simpa using c t v (by cases ts<;>exact h)⟩
 |p::ps,[],us,E,a,hz,hl,_,_,c=>by
  cases us with
  |nil=>exact⟨by simpa using hz,fun t v h=>by simpa using c t v h⟩
  |cons u us=>simp at hl
 |p::ps,t::ts,us,E,a,hz,hl,hp,hr,c=>by
  cases us with
  |nil=>simp at hl
  |cons u us=>
   simp only[List.zip_cons_cons,List.foldl_cons,zipE]
   refine zip_env ps ts us _ _ (by simpa using hz) (by simpa using hl) (fun q F=>hp q (fK _ F)) (fun i t u h1 h2=>hr (i+1) t u h1 h2) (fun s v h=> ?_)
   simp only[lookup] at h
   split at h
   ·rename_i e
    cases h
    have:=eI e
    subst this
    have j:p<a.size:=by rw[hz];exact hp p (by simp)
    exact⟨u,by simp[j],hr 0 _ u rfl rfl⟩
   ·rename_i e
    obtain⟨y,hy,z⟩:=c s v h
    have B:p ≠ s:=fun e'=>by subst e';simp at e
    exact⟨y,by simp[B,hy],z⟩
def c9.put2(σ:c9)(n:Nat)(b c:Option Blk):(σ.put (n,[]) b).put (n,[]) c=σ.put (n,[]) c:=by
 have:∀e:Ent,(e.put [] b).put [] c=e.put [] c:=fun e=>by cases e<;>cases b<;>rfl
 apply eB;intro i;simp only[c9.put,fg];cases hs:σ[i]? with
 |none=>simp
 |some e=>by_cases hi:n=i<;>simp[hi,this]
theorem Rs.allocU {Γ : Cx} {σ : c9} {φ : Phi} {w : World} (h : Rs Γ σ φ w) (obj : Obj) : Kept w (w.alloc obj) φ φ σ σ (Al Γ.N φ σ) (Al Γ.N φ σ) /\ Rs Γ σ φ (w.alloc obj) := by
  have old : ∀ b, b < w.heap.size -> (w.alloc obj).heap[b]? = w.heap[b]? := fun b hb => by first | exact heap_alloc_old w _ hb | exact heap_alloc_old w _ _ hb
  have hK : Kept w (w.alloc obj) φ φ σ σ (Al Γ.N φ σ) (Al Γ.N φ σ) :=
    { imm := fun b _ hl => old b hl, all := fun b hb _ => hb, len := fp _,
      cells := fun i kk es' hi he => ⟨es', he, rfl, rfl, fun b base arr ety hp hb => ⟨arr, (old b (Al.own_lt h.st he hp)).trans hb, rfl⟩⟩,
      obj := fun i p' cs' hi he => ⟨rfl, p', cs', he⟩ }
  refine ⟨hK, ?_⟩
  exact { good := h.good, st := ⟨fun i b hi => (h.st.blk i b hi).mono hK fun g base hp => old g (Al.own_lt h.st hi hp), h.st.inj⟩,
          keep := h.keep, os := h.os, tape := h.tape, drawn := h.drawn, output := h.output, size := gi h.size (by simp),
          block := fun b hKb => (old b (fO hKb.1 h.size)).trans (h.block b hKb), kept := Kept.trans h.size h.kept hK }
section
variable {P:Program}{σ0:c9}{sz:Nat}{Q:Post}{env env':Env}{σv σ' σb:c9}{ops:Array Oper}{rest:List Oper}{dst:Option Nat}{ty:Ti}{pos:String}{after:Array Edge}
variable {szc:Nat}{ps:List Nat}{asg body:Code}{sh:List (Nat×Option Nat)}{cs:List C}
def yld_inv{w:World}{φ:Phi}{σ:c9}{A:Nat->Prop}{id:Id}{p:Obj->List Vl->Prop}{u:Vl}(h:RelT w φ σ A (.c (.yld id)) u)(e:σ[id]? =some (some (.obj p cs))):∃b base,φ id=some (b,base)/\u=.func (.yield b) #[] #[]:=by
 cases h with|c h=>cases h with|yld hid h1 h=>exact h _ _ e
def yPost(P:Program)(σ0:c9)(sz:Nat)(Q:Post)(ops:Array Oper)(rest:List Oper)(env:Env)(dst:Option Nat)(id:Id)(szc:Nat)(ps:List Nat)(asg body:Code)(sh:List (Nat×Option Nat)):Post:=fun e s'=>
 ∃h,s'.σ[id]? =some (some (m4 szc ps asg body .busy none sh h))/\match e with
 | .normal=>AOps P σ0 sz ops Q rest ⟨putE env dst (.c (bool true)),s'.σ.put id (some (m4 szc ps asg body .ready none sh h))⟩
 | .ret=>AOps P σ0 sz ops Q rest ⟨putE env dst (.c (bool false)),s'.σ.put id (some (m4 szc ps asg body .done (some .ret) sh h))⟩
 | .exit i=>AOps P σ0 sz ops Q rest ⟨putE env dst (.c (bool false)),s'.σ.put id (some (m4 szc ps asg body .done (some (.exit i)) sh h))⟩
 |_=>False
def AOps.yield{x:Od}{as':List Od}{ats:Array Ti}{id:Id}{ts:List T}{E1:Env}{σ1:c9}(hx:ev env x=some (.c (.yld id)))(ha:evs env as'=some ts)(hσ:σv[id]? =some (some (m4 szc ps asg body .ready none sh cs)))
  (hl:eG (fX ts) (fX ps)=true) (hps:ps.all (fun p=>eH p szc)=true) (hna:Q0 asg=false) (hnr:Q0 body=false) (hd:j6 sz dst=true) (hσ1:σ1[id]? =some (some (m4 szc ps asg body .ready none sh cs))) (hσb:σ1.put id (some (m4 szc ps asg body .busy none sh cs))=σb)
  (hass:AWP P σv szc asg (fun e s'=>e=.normal/\s'=St.mk E1 σ1) ⟨zipE ps ts (slotE sh cs),σv⟩)
  (h:AWP P σv szc body (yPost P σ0 sz Q ops rest env dst id szc ps asg body sh) ⟨E1,σb⟩):
  AOps P σ0 sz ops Q (⟨dst,.call ⟨.value x,as'.toArray,ats⟩,ty,pos,after,none⟩::rest) (St.mk env σv):=fun Γ φ a w hΓ hR ro=>by
 subst hσb
 obtain⟨b,base,hp,hv⟩:=yld_inv (k7 hR hx) hσ
 obtain⟨b',o,us,g1,g2,⟨r,rfl,r1,r2,r3,r4,r5,r6,r7⟩,g3⟩:=hR.st.blk _ _ hσ
 rw[hp] at g1;cases g1
 obtain⟨k1,k2⟩:=evs_rel hR ha
 have hlen:fX ts=fX ps:=eI hl
 have hrun:(execOp a.eval ⟨dst,.call ⟨.value x,as'.toArray,ats⟩,ty,pos,after,none⟩).run P w=.ok (.round b r.fn ((ps.zip (as'.map a.eval)).foldl (fun tmps (t,a)=>tmps.setIfInBounds t a) r.tmps) asg body) w:=by have:=run_yield (P:=P) (args:=(as'.map a.eval).toArray) g2 (by rw[r3];simp;omega);rw[r3,r4,r5] at this;simp only[List.zip_toArray,List.foldl_toArray] at this;simp[execOp,resolve,hv,Deferred.ofValue,invoke,this]
 refine Y2 rfl ⟨fun _ _=>Y,?_⟩
 rw[sem_ro hrun (fun d=>nofun),Oper.uponIn_round]
 have hz:=zip_env (w:=w) (φ:=φ) (σ:=σv) (A:=Al Γ.N φ σv) (szc:=szc) ps ts (as'.map a.eval) (slotE sh cs) r.tmps r6 (by simp[k1]) (fun p hp=>by have:=eF.1 hps p hp;simpa using this) k2 (slot_env sh r7 g3)
 have hR1:R ⟨w,Γ.N,φ,σv⟩ szc ⟨zipE ps ts (slotE sh cs),σv⟩ φ {tmps:=(ps.zip (as'.map a.eval)).foldl (fun tmps (t,a)=>tmps.setIfInBounds t a) r.tmps,defers:=[]} w:=
  {toRs:=hR.toRs.down.rs,defers:=.nil,asize:=hz.1,env:=hz.2}
 have hid:id.1<fX σv:=c9.lt_of hσ
 refine⟨fun h=>by simp at h,roundIn_of_wpIn (F:=fw ro) Y (wpIn_mono (hass _ φ _ _ rfl hR1 (some b) (fun e=>by rw[hna] at e;cases e)) ?_)⟩
 rintro e a1 w1 ⟨s1,φ1,⟨rfl,rfl⟩,hR1⟩
 have hφ1:φ1 id=some (b,0):=((hR1.toRs.kept.obj id _ _ hid hσ1).1).trans hp
 obtain⟨b',o,us,q1,q2,⟨r',rfl,r1,r2,r3,r4,r5,r6,r7⟩,q3⟩:=hR1.st.blk _ _ hσ1
 rw[hφ1] at q1;cases q1
 have hW:=Rs.writeB (q1:=loopP szc ps asg body .busy none sh) (cs1:=cs) (o1:=.loop {r' with state:=.busy}) hR1.toRs hσ1 hφ1 q2 ⟨{r' with state:=.busy},rfl,rfl,r2,r3,r4,r5,r6,r7⟩ q3
 refine⟨_,run_beginRound (P:=P) q2 r1,?_⟩
 refine wpIn_mono (h _ φ1 _ _ rfl (hR1.of hW.1 hW.2) (some b) (fun e=>by rw[hnr] at e;cases e)) ?_
 rintro e a' w' ⟨s',φ',⟨cs',hσ',hm⟩,hR'⟩
 have hφ:φ' id=some (b,0):=((hR'.toRs.kept.obj id _ _ hid hσ').1).trans hp
 obtain⟨b',o,us',q1,q2,⟨r'',rfl,p1,p2,p3,p4,p5,p6,p7⟩,q3⟩:=hR'.st.blk _ _ hσ'
 rw[hφ] at q1;cases q1
 have fin:∀(jump:Option Code) (st:LoopState),st=(if jump.isNone then .ready else .done)->AOps P σ0 sz ops Q rest ⟨putE env dst (.c (bool jump.isNone)),s'.σ.put id (some (m4 szc ps asg body st jump sh cs'))⟩->
   ∃v w'',(Instr.endRound b jump).run P w'=.ok v w''/\wpListIn (fw ro) 0 P ops (lift Γ sz Q) rest (a.put dst v) w'':=fun jump st hst hA=>by
  subst hst
  have hE:=Rs.writeB (q1:=loopP szc ps asg body (if jump.isNone then .ready else .done) jump sh) (cs1:=cs') (o1:=.loop {r'' with state:=if jump.isNone then .ready else .done,pending:=jump}) hR'.toRs hσ' hφ q2 ⟨_,rfl,rfl,rfl,p3,p4,p5,p6,p7⟩ q3
  refine⟨_,_,run_endRound jump q2,?_⟩
  exact hA Γ φ' _ _ hΓ ((hR.of hE.2.kept (hR.toRs.up hE.2)).put hd (.bool _)) ro
 cases e with
 |normal=>exact fin none .ready rfl hm
 |ret=>exact fin (some .ret) .done rfl hm
 |exit i=>exact fin (some (.exit i)) .done rfl hm
 |goto t=>exact hm.elim
 |panic c=>exact hm.elim
 |outgrown=>exact hm.elim
def F3{id:Id}{env2:Env}{σ2 e:c9}(j:σ2[id]? =some (some (m4 szc ps asg body .busy none sh cs)))(q:σ2.put id (some (m4 szc ps asg body .ready none sh cs))=e)
  (h:AOps P σ0 sz ops Q rest (St.mk (putE env dst (.c (bool true))) e)):yPost P σ0 sz Q ops rest env dst id szc ps asg body sh .normal (St.mk env2 σ2):=⟨cs,j,by subst q;exact h⟩
def yPost_ret{id:Id}{env2:Env}{σ2 e:c9}(j:σ2[id]? =some (some (m4 szc ps asg body .busy none sh cs)))(q:σ2.put id (some (m4 szc ps asg body .done (some .ret) sh cs))=e)
  (h:AOps P σ0 sz ops Q rest (St.mk (putE env dst (.c (bool false))) e)):yPost P σ0 sz Q ops rest env dst id szc ps asg body sh .ret (St.mk env2 σ2):=⟨cs,j,by subst q;exact h⟩
def rPost(P:Program)(σ0:c9)(sz:Nat)(Q:Post)(env:Env)(n:Nat)(ps:List Nat)(asg body:Code)(sh:List (Nat×Option Nat))(σ':c9):Prop:=
 ∃st e h,st ≠ .busy/\σ'[((n,[]):Id)]? =some (some (m4 sz ps asg body st e sh h))/\match e with
 |none=>Q .normal ⟨env,σ'.put (n,[]) none⟩
 |some c=>AWP P σ0 sz c Q ⟨env,σ'.put (n,[]) none⟩
def X8{n:Nat}{σ2 σ3:c9}(hσ:σ2[((n,[]):Id)]? =some (some (m4 sz ps asg body .ready none sh cs)))(h3:σ2.put (n,[]) none=σ3)(h:Q .normal (St.mk env σ3)):rPost P σ0 sz Q env n ps asg body sh σ2:=
 ⟨.ready,none,cs,nofun,hσ,by subst h3;exact h⟩
def rPost_jump{n:Nat}{c:Code}{σ2 σ3:c9}(hσ:σ2[((n,[]):Id)]? =some (some (m4 sz ps asg body .done (some c) sh cs)))(h3:σ2.put (n,[]) none=σ3)(h:AWP P σ0 sz c Q (St.mk env σ3)):rPost P σ0 sz Q env n ps asg body sh σ2:=
 ⟨.done,some c,cs,nofun,hσ,by subst h3;exact h⟩
def AWP.rangeFunc{g:Od}{f:FuncId}{caps:List C}{n:Nat}{Qit:T->c9->Prop}(sh:List (Nat×Option Nat))(hg:ev env g=some (.c (.fn f caps)))(hs:slotC sh env=some cs)(hn:newF σv=some (n,[]))(hσ:w8 σv (.one (m4 sz ps asg body .ready none sh cs))=some σ')
  (hf:FnOk P f (.c (.yld (n,[]))::caps.map T.c) σ' Qit) (hq:∀r σ'',Qit r σ''->rPost P σ0 sz Q env n ps asg body sh σ''):AWP P σ0 sz (.rangeFunc g ps.toArray asg body) Q (St.mk env σv):=fun Γ φ a w hΓ hR ro hro=>by
 have hro:=hro rfl
 subst hro
 have h2:=B2 hn;have h3:=v7 hσ
 cases h2
 subst h3
 obtain⟨fn,f1,f2,f3⟩:=hf.fn
 obtain⟨cv,g1,g2,g3⟩:=fn_inv (k7 hR hg)
 obtain⟨us,s1,_,s2⟩:=slot_mk sh hR.env hs
 refine wpIn_rangeFunc fun fid _=> ?_
 have hU:=Rs.allocU hR.toRs (.deferred (some []))
 have hA:=Rs.allocB (p0:=loopP sz ps asg body .ready none sh) (cs0:=cs) (us0:=us) (obj:=.loop {state:=.ready,pending:=none,fn:=fid,tmps:=a.tmps,params:=ps.toArray,assign:=asg,body,defers:=w.heap.size}) hU.2
  ⟨_,rfl,rfl,rfl,rfl,rfl,rfl,hR.asize,s1⟩ (fun i x hx=>let ⟨u,q1,q2⟩:=s2 i x hx; ⟨u,q1,q2.mono hU.1⟩)
 have hw:(w.alloc (.deferred (some []))).heap.size=w.heap.size+1:=by simp
 have hK:=Kept.trans (by simp) hU.1 hA.1
 generalize hW:(w.alloc (.deferred (some []))).alloc (.loop {state:=.ready,pending:=none,fn:=fid,tmps:=a.tmps,params:=ps.toArray,assign:=asg,body,defers:=w.heap.size})=W at hA hK
 refine⟨w.heap.size+1,[{target:=.collected w.heap.size,args:=#[]}],W,{target:=.fn (.func f) cv.toArray,args:=#[.func (.yield (w.heap.size+1)) #[] #[]]},W,f,(Value.func (.yield (w.heap.size+1)) #[] #[]::cv).toArray,W,?_,?_,fun _ _=>Y,?_,fun h=>by simp at h,?_⟩
 ·rw[<- hW];exact run_enterLoop_outer fid a.tmps ps.toArray asg body
 ·have e2:a.eval (.const (.func (.yield (w.heap.size+1)) #[] #[]))=.func (.yield (w.heap.size+1)) #[] #[]:=rfl
  simp[resolve,rangeCall,g1,e2,Deferred.ofValue]
 ·have f2':¬ fn.name= "runtime.NumGoroutine" :=by simpa using f2
  have f3':¬ fn.body=none:=fun e=>by rw[e] at f3;cases f3
  simp[invoke,callFunc,f1,f2',f3']
 refine(callsIn_wide (n:=0 - 1)).2 ?_
 refine(hf.run ⟨_,Γ.N,_,_⟩ (Value.func (.yield (w.heap.size+1)) #[] #[]::cv) rfl hA.2.down (by simp[g2]) (fun i t u hi hu=> ?_)).mono ?_
 ·match i with
  |0=>
   cases hi;cases hu
   exact .c (.yld (by simp) rfl fun p cs hp=>⟨_,0,by simp[w9,hw],rfl⟩)
  |i+1=>
   simp only[fU,lM,oM] at hi hu
   obtain⟨c,hc,rfl⟩:=hi
   exact .c ((g3 i c u hc hu).mono hK)
 ·rintro e w' ⟨v,r,σ2,φ',rfl,hQ,hr,hs'⟩
  obtain⟨st,pend,cs',hb,hσ2,hm⟩:=hq r σ2 hQ
  have hφ:φ' (fX σv,[])=some (w.heap.size+1,0):=by rw[(hs'.kept.obj (fX σv,[]) _ _ (by simp) hσ2).1];simp[w9,hw]
  obtain⟨b',o,us',q1,q2,⟨r',rfl,p1,p2,p3,p4,p5,p6,p7⟩,q3⟩:=hs'.st.blk _ _ hσ2
  rw[hφ] at q1;cases q1
  have hE:=Rs.writeB (q1:=fun _ _=>True) (cs1:=[]) (us1:=[]) (o1:=.loop {r' with state:=.exhausted}) hs' hσ2 hφ q2 trivial (fun i x hx=>by simp at hx)
  have hX:=Rs.kill hE.2 (fX σv,[])
  rw[c9.put2] at hX
  have hDK:=hK.trans (by rw[<- hW];simp;omega) (hX.2.kept)
  have hmark:Marks Γ φ' (σ2.put (fX σv,[]) none) (w'.putObj (w.heap.size+1) (.loop {r' with state:=.exhausted})) ([{target:=.collected w.heap.size,args:=#[]}]++a.defers):=by
   have m0:Marks Γ φ σv (w.alloc (.deferred (some []))) ([{target:=.collected w.heap.size,args:=#[]}]++a.defers):=by
    have m1:=hR.defers.kept hU.1;refine⟨List.nodup_cons.2 ⟨fun hin=> ?_,m1.1⟩,fun d hd=> ?_⟩;obtain⟨D,e,q,_⟩:=hR.defers.2 _ hin;have:D=w.heap.size:=by cases e;rfl
    rw[this] at q;have:=(fP.1 q).1;omega;rcases fD.1 hd with rfl|hd;refine⟨w.heap.size,rfl,heap_alloc_new w _,hR.size,fun hN=> ?_,fun i blk base hi hp=> ?_⟩;have:=hR.good.lt _ hN;have:=hR.size;omega;have:=Al.own_lt hR.st hi hp;omega;exact m1.2 d hd
   exact(m0.kept hA.1).kept hX.2.kept
  have hRf:R Γ sz ⟨env,σ2.put (fX σv,[]) none⟩ φ' {a with defers:=[{target:=.collected w.heap.size,args:=#[]}]++a.defers} (w'.putObj (w.heap.size+1) (.loop {r' with state:=.exhausted})):=
   {toRs:=hA.2.up hX.2,defers:=hmark,asize:=hR.asize,env:=fun t v ht=>let ⟨u,hu,hr⟩:=hR.env t v ht; ⟨u,hu,hr.mono hDK⟩}
  refine⟨r'.pending,_,run_endLoop q2 (by rw[p1];exact hb),?_⟩
  subst p2
  revert hm
  generalize r'.pending=pend at *
  intro hm
  cases pend with
  |none=>exact⟨_,φ',hm,hRf⟩
  |some c=>exact hm Γ φ' _ _ hΓ hRf none (fun _=>rfl)
def AWP.rangeB{g:Od}{f:FuncId}{caps:List C}{n:Nat}(sh:List (Nat×Option Nat))(j:ev env g=some (.c (.fn f caps)))(hs:slotC sh env=some cs)(q:newF σv=some (n,[]))
  (h:∀A B:Code,A=asg->B=body->∃(σ':c9) (e:T->c9->Prop),w8 σv (.one (m4 sz ps A B .ready none sh cs))=some σ'/\FnOk P f (.c (.yld (n,[]))::caps.map T.c) σ' e/\∀r σ'',e r σ''->rPost P σ0 sz Q env n ps A B sh σ''):
  AWP P σ0 sz (.rangeFunc g ps.toArray asg body) Q (St.mk env σv):=by
 obtain⟨σ',e,h1,h2,u⟩:=h asg body rfl rfl
 exact AWP.rangeFunc sh j hs q h1 h2 u
def AOps.yieldB{A B:Code}{x:Od}{j:List Od}{ats:Array Ti}{id:Id}{ts:List T}{E1:Env}{σ1:c9}(N:A=asg)(O:B=body)(hx:ev env x=some (.c (.yld id)))(U:evs env j=some ts)(z:σv[id]? =some (some (m4 szc ps A B .ready none sh cs)))
  (hl:eG (fX ts) (fX ps)=true) (E:ps.all (fun p=>eH p szc)=true) (F:Q0 asg=false) (J:Q0 body=false) (hd:j6 sz dst=true) (q:σ1[id]? =some (some (m4 szc ps A B .ready none sh cs))) (u:σ1.put id (some (m4 szc ps A B .busy none sh cs))=σb)
  (v:AWP P σv szc asg (fun e s'=>e=.normal/\s'=St.mk E1 σ1) ⟨zipE ps ts (slotE sh cs),σv⟩)
  (h:AWP P σv szc body (yPost P σ0 sz Q ops rest env dst id szc ps A B sh) ⟨E1,σb⟩):
  AOps P σ0 sz ops Q (⟨dst,.call ⟨.value x,j.toArray,ats⟩,ty,pos,after,none⟩::rest) (St.mk env σv):=by
 subst N O
 exact AOps.yield hx U z hl E F J hd q u v h
end
end Ab
end
section
namespace Ab
open Go
def DatL:List C->List I->Prop
 |[],[]=>True
 |c::r,x::s=>(c=.imm x\/c=.imm (.val (.slice none 0 0))/\∃k,x=.sl k [])/\DatL r s
 |_,_=>False
def DatLL:List (List C)->List (List I)->Prop
 |[],[]=>True
 |c::r,x::s=>DatL c x/\DatLL r s
 |_,_=>False
def DatL.get:∀{l:List C} {m:List I},DatL l m->fX l=fX m/\∀(i:Nat) (x:I),m[i]? =some x->∃c,l[i]? =some c/\∀{w:World} {φ:Phi} {σ:c9} {A:Nat->Prop} {u:Vl},RelC w φ σ A c u->RelI w A x u
 |[],[],_=>⟨rfl,fun i x h=>by simp at h⟩
 |[],_::_,h=>h.elim
 |_::_,[],h=>h.elim
 |c::r,x::s,⟨h1,h2⟩=>by
  obtain⟨g1,e⟩:=DatL.get h2;refine⟨by simp[g1],fun i y hy=> ?_⟩;cases i with
  |zero=>
   simp only[eR,Option.some.injEq] at hy
   subst hy
   refine⟨c,rfl,fun {w φ σ A u} hr=> ?_⟩
   rcases h1 with rfl|⟨rfl,k,rfl⟩
   ·cases hr with|imm h=>exact h
   ·cases hr with|imm h=>cases h with|val=>exact .slNil
  |succ i=>simpa using e i y (by simpa using hy)
def DatLL.get:∀{l:List (List C)} {m:List (List I)},DatLL l m->fX l=fX m/\∀(i:Nat) (x:List I),m[i]? =some x->∃c,l[i]? =some c/\DatL c x
 |[],[],_=>⟨rfl,fun i x h=>by simp at h⟩
 |[],_::_,h=>h.elim
 |_::_,[],h=>h.elim
 |c::r,x::s,⟨h1,h2⟩=>by
  obtain⟨g1,e⟩:=DatLL.get h2;refine⟨by simp[g1],fun i y hy=> ?_⟩;cases i with
  |zero=>simp only[eR,Option.some.injEq] at hy;subst hy;exact⟨c,rfl,h1⟩
  |succ i=>simpa using e i y (by simpa using hy)
section
variable {P:Program}{σ0:c9}{sz:Nat}{Q:Post}{env env':Env}{σv σ':c9}{ops:Array Oper}{rest:List Oper}{dst:Option Nat}{ty:Ti}{pos:String}{after:Array Edge}
theorem S.litD {α : Type} {f : α -> List I} {l : List α} {t e : Ti} {k bytes n : Nat} {z : Vl} {zc : List C} {parts : List (Nat × Od)} {ps : List (Nat × T)} {ess : List (List C)} [ht : TyD P t (.slice e)] [hs : TyS P e k bytes z] [hz : TyZ P e zc]
    (hl : eG (fX zc) k = true) (hkp : eH 0 k = true) (hn0 : eH 0 n = true) (hsm : eU (n * k) 16777216 = true) (hps : evP env parts = some ps) (hf : fillC (fun i => some (i * k, k)) (eM n zc).flatten ps = some ess.flatten) (hlen : lens k ess = true) (hn : eG (fX ess) n = true)
    (hdat : DatLL ess (l.map f)) (hd : j6 sz dst = true)
    (h : AOps P σ0 sz ops Q rest (St.mk (putE env dst (.c (.imm (.sl k (l.map f))))) σv)) : AOps P σ0 sz ops Q (⟨dst, .buildSlice t n parts.toArray, ty, pos, after, none⟩ :: rest) (St.mk env σv) := by
  have hl' : (fX zc) = k := eI hl
  have hk0 : 0 < k := by simpa using hkp
  have hn1 : 0 < n := by simpa using hn0
  have hn' : (fX ess) = n := eI hn
  have hsm' : ¬ (16777216 < n * k) := by have : n * k <= 16777216 := eE hsm
                                         omega
  have hle := lens_mem hlen
  obtain ⟨d1, d2⟩ := hdat.get
  refine AOps.valueW rfl hd (.c (.imm (.sl k (l.map f)))) σv (fun Γ φ a w hR => ?_) (by cases dst <;> exact h)
  obtain ⟨e1, e2⟩ := ar0 hR hps
  obtain ⟨size', bytes', z', v, hs', k1, k2⟩ := hz.h
  have hzz : z' = z := by
    obtain ⟨i, a1, _, _, a4⟩ := hs.h
    obtain ⟨i', b1, _, _, b4⟩ := hs'.h
    rw [a1] at b1; cases b1
    rw [a4] at b4; cases b4; rfl
  subst hzz
  obtain ⟨zr1, zr2⟩ := R4 (w := w) (φ := φ) (σ := σv) (A := Al Γ.N φ σv) (Y9 k1) k2
  have hne : ¬ n * k = 0 := Nat.ne_of_gt (Nat.mul_pos hn1 hk0)
  have hbase : ∀ base, base = (gu (n * k)).map (fun i => (if n * k = 0 then (#[] : Array Vl) else z'.cells)[i % (if n * k = 0 then (#[] : Array Vl) else z'.cells).size]!) -> RelL w φ σv (Al Γ.N φ σv) (eM n zc).flatten base := by
    rintro base rfl
    refine ⟨by simp [hl'], fun i c hi => ?_⟩
    have hin : i < n * k := by
      have := (lG.1 hi).1
      simpa [hl'] using this
    rw [zrep_get (by omega) n i (by rw [hl']; exact hin), hl'] at hi
    obtain ⟨u, hu, hr⟩ := zr2 _ c hi
    refine ⟨u, ?_, hr⟩
    have hzs : z'.cells.size = k := by rw [zr1, hl']
    have hlt : i % k < z'.cells.size := by rw [hzs]; exact Nat.mod_lt _ hk0
    simp only [if_neg hne, Array.getElem?_map, Array.getElem?_range, hzs, hin, if_true, eD]
    rw [fR hlt] at hu
    simp [getElem!_pos, hlt, Option.some.inj hu]
  obtain ⟨arr', f1, f2⟩ := al2 (w := w) e1 e2 (hbase _ rfl) hf
  have hfl : (fX ess.flatten) = n * k := by
    rw [List.length_flatten]
    have : ess.map fX = eM n k := by
      rw [<- hn']
      apply eB
      intro i
      rw [lM, eV]
      by_cases hi : i < (fX ess)
      · rw [if_pos hi, eT hi]
        simp only [eD]
        rw [hle _ (List.getElem_mem hi)]
      · rw [if_neg hi, eZ (by omega)]; rfl
    rw [this, List.sum_replicate_nat]
  have hU := hR.toRs.allocU (.cells arr' e (0, 0))
  have hold : ∀ b, b < w.heap.size -> (w.alloc (.cells arr' e)).heap[b]? = w.heap[b]? := fun b hb => by first | exact heap_alloc_old w _ hb | exact heap_alloc_old w _ _ hb
  have hnew : Al Γ.N φ σv w.heap.size := ⟨fun hN => by have := hR.toRs.good.lt _ hN; have := hR.toRs.size; omega, fun i blk base hi hp => by have := Al.own_lt hR.toRs.st hi hp; omega⟩
  have hnm : n <= maxLen := by
    have : n * 1 <= n * k := Nat.mul_le_mul_left _ hk0
    simp only [maxLen]; omega
  have hln : (l.map f).length = n := by rw [<- d1, hn']
  have key : ∀ (j : Nat) (x : List I) (o : Nat) (y : I), (l.map f)[j]? = some x -> x[o]? = some y -> ∃ u, arr'[j * k + o]? = some u /\ RelI w (Al Γ.N φ σv) y u := fun j x o y hx hy => by
    obtain ⟨c, c1, c2⟩ := d2 j x hx
    obtain ⟨_, c3⟩ := c2.get
    obtain ⟨c0, c4, c5⟩ := c3 o y hy
    obtain ⟨u, u1, u2⟩ := f2.2 _ c0 (flat_get hle j c o c0 c1 c4)
    exact ⟨u, u1, c5 u2⟩
  have hrel : RelT (w.alloc (.cells arr' e)) φ σv (Al Γ.N φ σv) (.c (.imm (.sl k (l.map f)))) (.slice (some ⟨w.heap.size, 0, none⟩) n n) := by
    refine .c (.imm ?_)
    have := RelI.sl (w := w.alloc (.cells arr' e)) (A := Al Γ.N φ σv) (k := k) (es := l.map f) (a := ⟨w.heap.size, 0, none⟩) (cap := n) (fun j o => (arr'[j * k + o]?).getD (.bool false)) (by rw [hln]; exact fp _) hnm (fun j x hx => by
        obtain ⟨c, c1, c2⟩ := d2 j x hx
        rw [<- c2.get.1, hle c (fz c1)]) (fun j x o y hx hy => by
        obtain ⟨u, u1, _⟩ := key j x o y hx hy
        refine ⟨hnew, ?_⟩
        rw [u1, Addr.add_lit]
        have hh := heap_alloc_new w (.cells arr' e)
        unfold World.cell?
        dsimp only
        rw [hh]
        simpa using u1) (fun j x o y hx hy => by
        obtain ⟨u, u1, u2⟩ := key j x o y hx hy
        rw [u1]
        exact u2.mono (fun b _ hb => hold b hb) fun b hb _ => hb)
    rw [hln] at this
    exact this
  refine ⟨.slice (some ⟨w.heap.size, 0, none⟩) n n, _, φ, ?_, hrel, hR.of hU.1 hU.2⟩
  have e3 : (execOp a.eval ⟨dst, .buildSlice t n parts.toArray, ty, pos, after, none⟩).run P w = ((Instr.buildSlice t n (parts.map fun p => (p.1, a.eval p.2)).toArray).run P w).andThen fun v w => .ok (.value v) w := by
    simp [execOp]
  rw [e3]
  simp only [if_neg hne] at f1
  have hz2 : (zeroValue e).run P w = .ok z' w := H4 (t := e) w
  simp [Instr.buildSlice, run_underlying ht.h, s9 (t := e), hz2, hne, hsm', newRow]
  try simp at f1
  rw [f1]
  simp
end
end Ab
end
section
namespace Ab
open Go
section
variable {P:Program}{σ0:c9}{sz:Nat}{Q:Post}{env:Env}{σv:c9}{ops:Array Oper}{rest:List Oper}{dst:Option Nat}{ty:Ti}{pos:String}{after:Array Edge}
end
end Ab
end
section
namespace Ab
open Go
section
variable {P:Program}{σ0:c9}{sz:Nat}{Q:Post}{env:Env}{σv:c9}{ops:Array Oper}{rest:List Oper}{dst:Option Nat}{ty:Ti}{pos:String}{after:Array Edge}
end
/-! ### Maps whose values are structs of plain cells -/
section
variable {P:Program}{σ0:c9}{sz:Nat}{Q:Post}{env:Env}{σv σ':c9}{ops:Array Oper}{rest:List Oper}{dst:Option Nat}{ty:Ti}{pos:String}{after:Array Edge}
variable {K V:Type}[DecidableEq K]{d:TypeDesc}{fk:K->Vl}{gv:V->List Vl}
def valA(gv:V->List Vl):V->Vl:=fun a=>.agg (gv a).toArray
def cellsA(l:List Vl):T:=.agg (l.map fun v=>.imm (.val v))
def relA{w:World}{φ:Phi}{σ:c9}{A:Nat->Prop}{l:List Vl}(h1:∀x ∈ l,x.oneCell'=true):RelT w φ σ A (cellsA l) (.agg l.toArray):=by
 have e:l=(fo (l.map fun v=>C.imm (.val v)).length).map fun i=>(l[i]?).getD Go.undef:=by refine gw (by simp) fun i h2 j=> ?_;simp[h2]
 have:RelT w φ σ A (cellsA l) (.agg ((fo (l.map fun v=>C.imm (.val v)).length).map fun i=>(l[i]?).getD Go.undef).toArray):=.agg _ fun i c hi=>by rw[lM,oM] at hi;obtain⟨v,h,rfl⟩:=hi;rw[h];exact .imm (.val (h1 v (fz h)))
 rwa [<- e] at this
def relA_inv{w:World}{φ:Phi}{σ:c9}{A:Nat->Prop}{l:List Vl}{u:Vl}(h:RelT w φ σ A (cellsA l) u):u=.agg l.toArray:=by
 unfold cellsA at h;cases h with|agg us hr=>
  congr 1
  congr 1
  refine gw (by simp) fun i h2 c=> ?_
  have:=hr i (.imm (.val l[i])) (by simp[c])
  simp only[List.getElem_map,List.getElem_range]
  have key:∀(v u:Vl),RelC w φ σ A (.imm (.val v)) u->u=v:=fun v u h=>by cases h with|imm h=>cases h with|val h=>rfl
  exact key _ _ this
def W.lookupA{x y:Od}{t N F:Ti}{id:Id}{m:List (K×V)}{k:K}{z:V}{size bytes:Nat}{O:Vl}[ht:TyD P t (.map N F)][q:TyD P N d][hs:TyS P F size bytes O](hk:KeyT d fk)(hz:O=valA gv z)(h1:∀v,∀x ∈ gv v,x.oneCell'=true)
  (hx:ev env x=some (.c (.map id))) (hy:ev env y=some (.c (.imm (.val (fk k))))) (u:σv[id]? =some (some (mapB fk (valA gv) m))) (hd:j6 sz dst=true)
  (h:AOps P σ0 sz ops Q rest (St.mk (putE env dst (cellsA (gv ((mget m k).getD z)))) σv)):AOps P σ0 sz ops Q (⟨dst,.lookup t x y false,ty,pos,after,none⟩::rest) (St.mk env σv):=by
 refine .valueW rfl hd _ _ (fun Γ φ a w E=> ?_) h
 obtain⟨b,base,hp,U⟩:=X5 (k7 E hx) u
 obtain⟨B,_⟩:=D2 (k7 E hy)
 obtain⟨b',o,_,g1,g2,⟨es,c,rfl,g3⟩,_⟩:=E.st.blk _ _ u
 rw[hp] at g1;cases g1
 refine⟨valA gv ((mget m k).getD z),w,φ,?_,relA (h1 _),E⟩
 rcases S9 hk k m es.toList 0 g3 with⟨q1,J,_⟩|⟨v,j,e,q1,J,_⟩
 ·simp[execOp,U,B,Instr.lookup,run_underlying ht.h,Go.MapKept.run_getObj_map g2,Go.MapKept.run_checkKey q.h (hk.key k),Go.MapKept.run_findKey q.h J,H4 (t:=F),q1,hz,Result.andThen]
 ·simp[execOp,U,B,Instr.lookup,run_underlying ht.h,Go.MapKept.run_getObj_map g2,Go.MapKept.run_checkKey q.h (hk.key k),Go.MapKept.run_findKey q.h J,q1,Result.andThen]
def W.mapUpdateA{x y v:Od}{t O vt:Ti}{id:Id}{m:List (K×V)}{k:K}{a:V}[ht:TyD P t (.map O vt)][q:TyD P O d](hk:KeyT d fk)
  (hx:ev env x=some (.c (.map id))) (hy:ev env y=some (.c (.imm (.val (fk k))))) (hv:ev env v=some (cellsA (gv a))) (u:σv[id]? =some (some (mapB fk (valA gv) m))) (E:σv.put id (some (mapB fk (valA gv) (mset m k a)))=σ')
  (h:AOps P σ0 sz ops Q rest (St.mk env σ')):AOps P σ0 sz ops Q (⟨none,.mapUpdate t x y v,ty,pos,after,none⟩::rest) (St.mk env σv):=by
 subst E
 refine .skipW rfl rfl _ (fun Γ φ ac w z=> ?_) h
 obtain⟨b,base,hp,U⟩:=X5 (k7 z hx) u
 obtain⟨e2,_⟩:=D2 (k7 z hy)
 have e3:=relA_inv (k7 z hv)
 obtain⟨b',o,_,g1,B,⟨es,c,rfl,g3⟩,_⟩:=z.st.blk _ _ u
 rw[hp] at g1;cases g1
 rcases S9 hk k m es.toList 0 g3 with⟨q1,J,N⟩|⟨v0,j,e,q1,J,N,q4,q5⟩
 ·have F:=Rs.writeO (q1:=mapP fk (valA gv) (mset m k a)) (o1:=.map (es.push {key:=fk k,val:=valA gv a,born:=c}) (c+1)) z.toRs u hp B ⟨_,_,rfl,by rw[fC];exact N a c⟩
  refine⟨_,φ,?_,z.of F.1 F.2⟩
  simp[execOp,U,e2,e3,Instr.mapUpdate,run_underlying ht.h,Go.MapKept.run_getObj_map B,Go.MapKept.run_checkKey q.h (hk.key k),Go.MapKept.run_findKey q.h J,Go.MapKept.run_setObj_map _ B,Result.andThen,valA]
 ·have hj:es[j]? =some e:=by simpa using N
  have F:=Rs.writeO (q1:=mapP fk (valA gv) (mset m k a)) (o1:=.map (es.modify j fun e=>{e with key:=fk k,val:=valA gv a}) c) z.toRs u hp B ⟨_,_,rfl,by rw[eS];exact q5 a⟩
  refine⟨_,φ,?_,z.of F.1 F.2⟩
  simp[execOp,U,e2,e3,Instr.mapUpdate,run_underlying ht.h,Go.MapKept.run_getObj_map B,Go.MapKept.run_checkKey q.h (hk.key k),Go.MapKept.run_findKey q.h J,hj,q4,Go.MapKept.run_keyThatStays (hk.key k),Go.MapKept.run_setObj_map _ B,Result.andThen,valA]
def W.insertA{x y v:Od}{t O vt:Ti}{id:Id}{m:List (K×V)}{k:K}{a:V}[ht:TyD P t (.map O vt)][q:TyD P O d](hk:KeyT d fk)
  (hx:ev env x=some (.c (.map id))) (hy:ev env y=some (.c (.imm (.val (fk k))))) (hv:ev env v=some (cellsA (gv a))) (u:σv[id]? =some (some (mapB fk (valA gv) m))) (E:σv.put id (some (mapB fk (valA gv) (mset m k a)))=σ')
  (h:AOps P σ0 sz ops Q rest (St.mk env σ')):AOps P σ0 sz ops Q (⟨none,.insert t x y v,ty,pos,after,none⟩::rest) (St.mk env σv):=by
 subst E
 refine .skipW rfl rfl _ (fun Γ φ ac w z=> ?_) h
 obtain⟨b,base,hp,U⟩:=X5 (k7 z hx) u
 obtain⟨e2,_⟩:=D2 (k7 z hy)
 have e3:=relA_inv (k7 z hv)
 obtain⟨b',o,_,g1,B,⟨es,c,rfl,g3⟩,_⟩:=z.st.blk _ _ u
 rw[hp] at g1;cases g1
 rcases S9 hk k m es.toList 0 g3 with⟨q1,J,N⟩|⟨v0,j,e,q1,J,N,q4,q5⟩
 ·have F:=Rs.writeO (q1:=mapP fk (valA gv) (mset m k a)) (o1:=.map (es.push {key:=fk k,val:=valA gv a,born:=c}) (c+1)) z.toRs u hp B ⟨_,_,rfl,by rw[fC];exact N a c⟩
  refine⟨_,φ,?_,z.of F.1 F.2⟩
  simp[execOp,U,e2,e3,Instr.mapUpdate,run_underlying ht.h,Go.MapKept.run_getObj_map B,Go.MapKept.run_checkKey q.h (hk.key k),Go.MapKept.run_findKey q.h J,Go.MapKept.run_setObj_map _ B,Result.andThen,valA]
 ·have hj:es[j]? =some e:=by simpa using N
  have F:=Rs.writeO (q1:=mapP fk (valA gv) (mset m k a)) (o1:=.map (es.modify j fun e=>{e with key:=fk k,val:=valA gv a}) c) z.toRs u hp B ⟨_,_,rfl,by rw[eS];exact q5 a⟩
  refine⟨_,φ,?_,z.of F.1 F.2⟩
  simp[execOp,U,e2,e3,Instr.mapUpdate,run_underlying ht.h,Go.MapKept.run_getObj_map B,Go.MapKept.run_checkKey q.h (hk.key k),Go.MapKept.run_findKey q.h J,hj,q4,Go.MapKept.run_keyThatStays (hk.key k),Go.MapKept.run_setObj_map _ B,Result.andThen,valA]
end
end Ab
end
section
namespace Ab
open Go
def Rs.adopt{J:Cx}{σ:c9}{φ:Phi}{w w':World}(h:Rs J σ φ w)(aa:w'.os=w.os)(ht:w'.tape=w.tape)(hdr:w.drawn<=w'.drawn)(ho:w'.output=w.output)(hs:w.heap.size<=w'.heap.size)(z:∀b,b<w.heap.size->w'.heap[b]? =w.heap[b]?)
  {k:Nat} {es:List (List C)} {q:Option (Nat×Nat)} (hq:∀b base,q=some (b,base)->w.heap.size<=b) (O:∀φ σ A,BlkR w' φ σ A q (.cells k es)):
  Kept w w' φ (fun i=>if i=(fX σ,[]) then q else φ i) σ (σ++[.one (.cells k es)]) (Al J.N φ σ) (Al J.N (fun i=>if i=(fX σ,[]) then q else φ i) (σ++[.one (.cells k es)]))/\
  Rs J (σ++[.one (.cells k es)]) (fun i=>if i=(fX σ,[]) then q else φ i) w':=by
 generalize U:(fun i=>if i=(fX σ,[]) then q else φ i)=φ'
 have u:∀i:Id,i.1<fX σ->φ' i=φ i:=fun i hi=>by
  have:i ≠ (fX σ,[]):=fun e=>by rw[e] at hi;exact Nat.lt_irrefl _ hi
  rw[<- U];simp[this]
 have v:φ' (fX σ,[])=q:=by rw[<- U];simp
 have c:∀(i:Id) blk,(σ++[.one (.cells k es)])[i]? =some (some blk)->(i.1<fX σ/\σ[i]? =some (some blk))\/(i=(fX σ,[])/\blk=.cells k es):=fun i blk hi=>c9.get_new hi
 have A1:∀b,Al J.N φ σ b->b<w.heap.size->Al J.N φ' (σ++[.one (.cells k es)]) b:=fun b hb hl=>⟨hb.1,fun i blk base hi hp=>by rcases c i blk hi with⟨h1,h2⟩|⟨rfl,rfl⟩;rw[u i h1] at hp;exact hb.2 i blk base h2 hp;rw[v] at hp;have:=hq b base hp;omega⟩
 have hK:Kept w w' φ φ' σ (σ++[.one (.cells k es)]) (Al J.N φ σ) (Al J.N φ' (σ++[.one (.cells k es)])):=
  {imm:=fun b _ hl=>z b hl,all:=A1,len:=by simp,
   cells:=fun i kk es' hi F=>by rw[c9.get_left hi] at F;exact⟨es',F,rfl,u i hi,fun b base arr ety hp hb=>⟨arr,(z b (Al.own_lt h.st F hp)).trans hb,rfl⟩⟩,
   obj:=fun i p' ab hi F=>by rw[c9.get_left hi] at F;exact⟨u i hi,p',ab,F⟩}
 refine⟨hK,?_⟩
 exact {
  good:=h.good
  st:=⟨fun i b hi=>by rcases c i b hi with⟨h1,h2⟩|⟨rfl,rfl⟩;rw[u i h1];exact(h.st.blk i b h2).mono hK fun g base hp=>z g (Al.own_lt h.st h2 hp);rw[v];exact O _ _ _,
   fun i j bi bj p1 q1 hi hj hp B F=>by obtain⟨pb,po⟩:=p1;obtain⟨qb,qo⟩:=q1;dsimp only at F;subst F;rcases c i bi hi with⟨h1,h2⟩|⟨rfl,rfl⟩<;>rcases c j bj hj with⟨g1,g2⟩|⟨rfl,rfl⟩;rw[u i h1] at hp;rw[u j g1] at B;exact h.st.inj i j bi bj _ _ h2 g2 hp B rfl;rw[u i h1] at hp;rw[v] at B;have:=Al.own_lt h.st h2 hp;have:=hq _ _ B;omega;rw[u j g1] at B;rw[v] at hp;have:=Al.own_lt h.st g2 B;have:=hq _ _ hp;omega;rfl⟩
  keep:=fun i blk b base hi hp E=>by rcases c i blk hi with⟨h1,h2⟩|⟨rfl,rfl⟩;rw[u i h1] at hp;exact h.keep i blk b base h2 hp E;rw[v] at hp;have:=hq _ _ hp;have:=E.1;have:=h.size;omega
  os:=aa.trans h.os
  tape:=ht.trans h.tape
  drawn:=gi h.drawn hdr
  output:=ho.trans h.output
  size:=gi h.size hs
  block:=fun b E=>(z b (fO E.1 h.size)).trans (h.block b E)
  kept:=Kept.trans h.size h.kept hK}
section
variable {P:Program}{σ0:c9}{sz:Nat}{Q:Post}{env:Env}{σv σ':c9}{ops:Array Oper}{rest:List Oper}{dst:Option Nat}{ty:Ti}{pos:String}{after:Array Edge}
def S.freshL{α:Type}{g:α->List I}{l:List α}{x:Od}{N:List Od}{ats:Array Ti}{f:FuncId}{caps:List C}{ts O:List T}{k:Nat}{n:Id}(hg:∀a,((g a).map C.imm).all C.scal=true)(hx:ev env x=some (.c (.fn f caps)))(ha:evs env N=some ts)(hl:ak1 σv (ts++caps.map T.c) O)(hd:j6 sz dst=true)
  (hf:v6 P f O k (l.map g)) (hn:newF σv=some n) (ac:w8 σv (.one (vec k g l))=some σ') (h:AOps P σ0 sz ops Q rest (St.mk (putE env dst (.c (.own n 0 (fX l)))) σ')):
  AOps P σ0 sz ops Q (⟨dst,.call ⟨.value x,N.toArray,ats⟩,ty,pos,after,none⟩::rest) (St.mk env σv):=by
 have h1:=B2 hn;have h2:=v7 ac
 subst h1 h2
 intro Γ φ a w ad hR ro
 obtain⟨vs,h1,h2,h3⟩:=aq5 (P:=P) (dst:=dst) (ty:=ty) (pos:=pos) (after:=after) (ats:=ats) hR hx ha hf.fn
 obtain⟨l1,l2⟩:=hl.get
 refine Y2 rfl (at4 h1 ?_)
 refine(hf.run (Cx.open w) vs rfl (good_open w) (by rw[l1];exact h2) (fun i t u hi hu=> ?_)).mono ?_
 ·obtain⟨t0,ai,F⟩:=l2 i t hi
  exact F.rel hR (al_open w) (h3 i t0 u ai hu)
 ·rintro e w' ⟨v,r',σ2,φ',rfl,⟨J,rfl,hid⟩,E,hs⟩
  have B:=F8 E hid
  have hb:=hs.st.blk _ _ hid
  have U:∀b base,φ' J=some (b,base)->w.heap.size<=b:=fun b base hp=>by have:=hs.keep J _ b base hid hp;rcases eX b w.heap.size with c|c;exact absurd ⟨c,fun i blk base hi=>by simp[Cx.open] at hi⟩ this;exact c
  have aa:∀(j:Nat) (e:List C) (o:Nat) (y:C),((l.map g).map (·.map C.imm))[j]? =some e->e[o]? =some y->y.scal=true:=fun j e o y he hy=>by simp only[fj,lM,oM,eN] at he;obtain⟨z,_,rfl⟩:=he;have:=eF.1 (hg z);exact this y (fz hy)
  obtain⟨al,an⟩:=hR.toRs.adopt (w':=w') hs.os hs.tape hs.drawn hs.output hs.size (fun b hb=>hs.block b ⟨hb,fun i blk base hi=>by simp[Cx.open] at hi⟩) (k:=k) (es:=(l.map g).map (·.map C.imm)) (q:=φ' J) U (fun φ σ A=>by rcases hb with h|⟨b,base,arr,ety,p1,p2,p3,p4,p5⟩;exact .inl h;refine .inr ⟨b,base,arr,ety,p1,p2,p3,p4,fun j e o y he hy=> ?_⟩;obtain⟨u,hu,hr⟩:=p5 j e o y he hy;exact⟨u,hu,C.scal_rel (aa j e o y he hy) hr⟩)
  have ab:(l.map g).length=fX l:=eW ..
  refine h Γ _ _ w' ad ((hR.of al an).put hd ?_) ro
  refine P3 (k:=k) (es:=(l.map g).map (·.map C.imm)) (c9.get_last _ _) (by cases E with|c hr=>exact hr.one) ?_
  rw[ab] at B
  simpa using B
end
end Ab
end
section
namespace Ab
open Go
def mvr(r n:Nat)(i:Id):Id:=((match eG i.1 r with|true=>n|false=>i.1),i.2)
def ay4{r n:Nat}{i:Id}(h:i.1=r):mvr r n i=(n,i.2):=by
 have:eG i.1 r=true:=by rw[h];exact Nat.beq_refl r
 simp only[mvr,this]
def mvr_ne{r n:Nat}{i:Id}(h:i.1 ≠ r):mvr r n i=i:=by have:eG i.1 r=false:=ao1 h;simp only[mvr,this]
section
variable {P:Program}{σ0:c9}{sz:Nat}{Q:Post}{env env':Env}{σv σ':c9}{ops:Array Oper}{rest:List Oper}{dst:Option Nat}{ty:Ti}{pos:String}{after:Array Edge}
inductive EntR(r n:Nat)(σ:c9)(m i:Nat):Ent->Prop
 |dead:EntR r n σ m i .dead
 |one {b:Blk} (h1:b.ok m=true) (h2:σ[mvr r n (i,[])]? =some (some (b.ren (mvr r n)))):EntR r n σ m i (.one b)
 |vec {α:Type} {k:Nat} {f:α->List I} {l:List α} (h2:σ[mvr r n (i,[])]? =some (some (vec k f l))):EntR r n σ m i (.one (vec k f l))
 |mat {α:Type} {k j:Nat} {f:α->List I} {M:List (List α)} (hj:(mvr r n (i,[])).1=j) (hi:eH i m=true) (h:σ[j]? =some (mat (j,[]) k f M)):EntR r n σ m i (mat (i,[]) k f M)
 |any {e:Ent} (h:∀p b,e.sub p=some b->b.ok m=true/\σ[mvr r n (i,p)]? =some (some (b.ren (mvr r n)))):EntR r n σ m i e
def StR_(r n:Nat)(σ:c9)(m:Nat):Nat->c9->Prop
 |_,[]=>True
 |i,e::l=>EntR r n σ m i e/\StR_ r n σ m (i+1) l
def EntR.get{r n:Nat}{σ:c9}{m i:Nat}{e:Ent}(h:EntR r n σ m i e){p:List Nat}{b:Blk}(c:e.sub p=some b):b.ok m=true/\σ[mvr r n (i,p)]? =some (some (b.ren (mvr r n))):=by
 cases h with
 |dead=>cases p<;>cases c
 |one h1 h2=>cases p with
  |nil=>cases c;exact⟨h1,h2⟩
  |cons=>cases c
 |vec h2=>cases p with
  |nil=>cases c;exact⟨K4,by rw[Blk.im_ren];exact h2⟩
  |cons=>cases c
 |@mat α k j f M z hi h=>
  have u:i<m:=by simpa using hi
  have e:∀q,mvr r n (i,q)=(j,q):=fun q=>by rw[<- z];rfl
  rw[e,w7 h]
  cases p with
  |nil=>
   cases c
   refine⟨hdr_ok u _,?_⟩
   rw[mat_main]
   congr 2
   simp only[Blk.ren]
   congr 1
   apply eB
   intro q
   rw[lM]
   simp only[hdr,eC,fu]
   cases M[q]? with
   |none=>rfl
   |some row=>simp[C.renL,C.ren,e]
  |cons a q=>
   rw[mat_row] at c ⊢
   split at c
   ·rename_i row v
    cases q with
    |cons b q=>cases c
    |nil=>cases c;exact⟨K4,by rw[Blk.im_ren]⟩
   ·cases c
 |any h=>exact h p b c
def StR_.get{r n m:Nat}{σ:c9}:∀{i:Nat} {σ':c9},StR_ r n σ m i σ'->∀(j:Nat) (p:List Nat) (b:Blk),σ'[((j,p):Id)]? =some (some b)->b.ok m=true/\σ[mvr r n (i+j,p)]? =some (some (b.ren (mvr r n)))
 |_,[],_,j,p,b,h=>by simp at h
 |i,e::l,h,0,p,b,c=>by rw[c9.at_eq] at c;simp only[c9.at,eR,Option.some.injEq] at c;exact h.1.get c
 |i,e::l,h,j+1,p,b,c=>by have:=StR_.get (i:=i+1) h.2 j p b (by rw[c9.at_eq] at c ⊢;simpa[c9.at] using c);rwa [show i+1+j=i+(j+1) by omega] at this
def EnvR(r n:Nat)(env:Env):Env->Prop
 |[]=>True
 |(t,v)::l=>lookup t env=some (v.ren (mvr r n))/\EnvR r n env l
def EnvR.get{r n:Nat}:∀{env':Env},EnvR r n env env'->∀t v,lookup t env'=some v->lookup t env=some (v.ren (mvr r n))
 |[],_,t,v,h=>by simp[lookup] at h
 |(k,x)::l,⟨h1,h2⟩,t,v,h=>by simp only[lookup] at h;split at h;rename_i c;cases h;rw[<- eI c];exact h1;exact EnvR.get h2 t v h
def deadR(σ:c9)(n:Nat):Bool:=match σ[n]? with
 |some .dead=>true
 |some _=>false
 |none=>true
def Sub.moveM(r n:Nat)(B:eU (fX σ0) r=true)(hl:eU (fX σ0) (fX σ')=true)(u:deadR σ' n=true)(c:EnvR r n env env')(E:ag9 (fX σ') env'=true)(z:StR_ r n σv (fX σ') 0 σ'):Sub σ0 ⟨env,σv⟩ ⟨env',σ'⟩:=by
 have F:=eE B;have hd:∀(p:List Nat) b,σ'[((n,p):Id)]? ≠ some (some b):=fun p b q=>by
  rw[c9.at_eq] at q;simp only[c9.at] at q;simp only[deadR] at u;split at q;rename_i e hx;rw[hx] at u;cases e with
  |dead=>cases p<;>cases q
  |one=>cases u
  |node=>cases u
  cases q
 refine Sub.mk (mvr r n) (fun i hi=>mvr_ne (fun e=>by omega)) (eE hl) (fun i j b N hi J h=> ?_) (fun i b hi=> ?_) (fun t v ht=>⟨an8 E t v ht,c.get t v ht⟩);by_cases h1:i.1=r<;>by_cases h2:j.1=r;rw[ay4 h1,ay4 h2] at h;exact Prod.ext (h1.trans h2.symm) (Prod.mk.inj h).2;rw[ay4 h1,mvr_ne h2] at h;subst h;exact absurd J (hd _ _);rw[ay4 h2,mvr_ne h1] at h;subst h;exact absurd hi (hd _ _);rwa [mvr_ne h1,mvr_ne h2] at h;have:=z.get i.1 i.2 b hi;rwa [fa] at this
def AWP.moveM{c:Code}(r n:Nat)(q:eU (fX σ0) r=true)(hl:eU (fX σ0) (fX σ')=true)(u:deadR σ' n=true)(e:EnvR r n env env')(v:ag9 (fX σ') env'=true)(j:StR_ r n σv (fX σ') 0 σ')(h:AWP P σ0 sz c Q (St.mk env' σ')):AWP P σ0 sz c Q (St.mk env σv):=
 AWP.sub (Sub.moveM r n q hl u e v j) h
/-! ### A row of nothing appended to rows -/
end
end Ab
end
section
namespace Ab
open Go
section
variable {P:Program}{σ0:c9}{sz:Nat}{Q:Post}{env env':Env}{σv σ':c9}
end
end Ab
end
section
namespace Ab
open Go
section
variable {P:Program}{σ0:c9}{sz:Nat}{Q:Post}{env env':Env}{σv σ':c9}{ops:Array Oper}{rest:List Oper}{dst:Option Nat}{ty:Ti}{pos:String}{after:Array Edge}
def ay8:TypeDesc->Bool
 | .interface _=>true
 |_=>false
def ifc1_inv{w:World}{φ:Phi}{σ:c9}{A:Nat->Prop}{t:Ti}{c:C}{u:Vl}(h:RelT w φ σ A (.c (.ifc t [c] false)) u):∃v,u=.iface t v/\RelC w φ σ A c v:=by
 cases h with|c h=>cases h with|ifc1 h=>exact⟨_,rfl,h⟩
def ifcA_inv{w:World}{φ:Phi}{σ:c9}{A:Nat->Prop}{t:Ti}{cs:List C}{u:Vl}(h:RelT w φ σ A (.c (.ifc t cs true)) u):∃us:List Vl,fX us=fX cs/\u=.iface t (.agg us.toArray)/\∀(i:Nat) (c:C) (v:Vl),cs[i]? =some c->us[i]? =some v->RelC w φ σ A c v:=by
 cases h with|c h=>cases h with|ifcA us h=>
  refine⟨(fo (fX cs)).map us,by simp,rfl,fun i c v hi e=> ?_⟩
  rw[lM,oM] at e
  obtain⟨j,q,rfl⟩:=e
  obtain⟨_,rfl⟩:=R2 q
  exact h i c hi
def S.mkIfc{x:Od}{t:Ti}{d:TypeDesc}{c:C}[ht:TyD P t d](hi:ay8 d=false)(hx:ev env x=some (.c c))(hd:j6 sz dst=true)
  (h:AOps P σ0 sz ops Q rest (St.mk (putE env dst (.c (.ifc t [c] false))) σv)):AOps P σ0 sz ops Q (⟨dst,.makeInterface t x,ty,pos,after,none⟩::rest) (St.mk env σv):=
 .value rfl hd _ (fun q φ a w e=>by
  have hr:=k7 e hx;generalize j:a.eval x=u at hr;cases hr with|c hr=>
   refine⟨.iface t u,?_,.c (.ifc1 hr)⟩
   cases d<;>first|(cases hi;done)|simp[execOp,Instr.makeInterface,run_underlying ht.h,j]) h
def S.mkIfcA{x:Od}{t:Ti}{d:TypeDesc}{cs:List C}[ht:TyD P t d](hi:ay8 d=false)(hx:ev env x=some (.agg cs))(hd:j6 sz dst=true)
  (h:AOps P σ0 sz ops Q rest (St.mk (putE env dst (.c (.ifc t cs true))) σv)):AOps P σ0 sz ops Q (⟨dst,.makeInterface t x,ty,pos,after,none⟩::rest) (St.mk env σv):=
 .value rfl hd _ (fun q φ a w e=>by
  have hr:=k7 e hx;generalize j:a.eval x=u at hr;cases hr with|agg us hr=>
   refine⟨.iface t (.agg ((fo (fX cs)).map us).toArray),?_,.c (.ifcA us hr)⟩
   cases d<;>first|(cases hi;done)|simp[execOp,Instr.makeInterface,run_underlying ht.h,j]) h
def S.assert{x:Od}{e t:Ti}{d:TypeDesc}{c:C}[ht:TyD P t d](hi:ay8 d=false)(hx:ev env x=some (.c (.ifc t [c] false)))(hd:j6 sz dst=true)
  (h:AOps P σ0 sz ops Q rest (St.mk (putE env dst (.c c)) σv)):AOps P σ0 sz ops Q (⟨dst,.typeAssert x e t false,ty,pos,after,none⟩::rest) (St.mk env σv):=
 .value rfl hd _ (fun u φ a w j=>by obtain⟨v,q,hr⟩:=ifc1_inv (k7 j hx);refine⟨v,?_,.c hr⟩;cases d<;>first|(cases hi;done)|simp[execOp,Instr.typeAssert,run_underlying ht.h,q]) h
def S.assertA{x:Od}{j t:Ti}{d:TypeDesc}{cs:List C}[ht:TyD P t d](hi:ay8 d=false)(hx:ev env x=some (.c (.ifc t cs true)))(hd:j6 sz dst=true)
  (h:AOps P σ0 sz ops Q rest (St.mk (putE env dst (.agg cs)) σv)):AOps P σ0 sz ops Q (⟨dst,.typeAssert x j t false,ty,pos,after,none⟩::rest) (St.mk env σv):=
 .value rfl hd _ (fun z φ a w q=>by obtain⟨us,hl,e,hr⟩:=ifcA_inv (k7 q hx);refine⟨.agg us.toArray,?_,RelT.agg' (by simp[hl]) fun i c v u e=>hr i c v u (by simpa using e)⟩;cases d<;>first|(cases hi;done)|simp[execOp,Instr.typeAssert,run_underlying ht.h,e]) h
/-! ### Calls through an interface -/
def AOps.enterS{o:Oper}{f:FuncId}{ts:List T}{z:T->c9->Prop}(B:o.guard=none)(hd:j6 sz o.dst=true)(hf:FnOk P f ts σv z)
  (E:∀c φ a w,R c sz (St.mk env σv) φ a w->∃vs:List Vl,(execOp a.eval o).run P w=.ok (.enter f vs.toArray) w/\(fX ts)=fX vs/\∀(i:Nat) (t:T) (u:Vl),ts[i]? =some t->vs[i]? =some u->RelT w φ σv (Al c.N φ σv) t u)
  (h:∀r σ',z r σ'->AOps P σ0 sz ops Q rest ((St.mk env σ').put o.dst r)):AOps P σ0 sz ops Q (o::rest) (St.mk env σv):=fun c φ a w q j ro=>by
 obtain⟨vs,h1,h2,F⟩:=E c φ a w j
 refine Y2 B (at4 h1 ?_)
 refine(hf.run ⟨w,c.N,φ,σv⟩ vs rfl j.toRs.down h2 F).mono ?_
 rintro e w' ⟨v,r,σ',φ',rfl,J,hr,hs⟩
 exact h r σ' J c φ' _ w' q ((j.of hs.kept (j.toRs.up hs)).put hd hr) ro
class MethF (P:Program) (t:Ti) (name:String) (f:outParam FuncId) (b:outParam Bool):Prop where
 h:((P.info? t).bind fun i=>(i.methods.find? (·.name==name)).map fun m=>(m.path.toList,m.func))=some ([],some (f,b))
def MethF.get{t:Ti}{name:String}{f:FuncId}{b:Bool}[h:MethF P t name f b]:∃i m,P.info? t=some i/\i.methods.find? (·.name==name)=some m/\m.path=#[]/\m.func=some (f,b):=by obtain⟨i,h1,h2⟩:=Option.bind_eq_some_iff.1 h.h;obtain⟨m,e,c⟩:=oM.1 h2;simp only[Prod.mk.injEq] at c;exact⟨i,m,h1,e,by simpa using c.1,c.2⟩
def run_recvP{t e:Ti}{v:Vl}{c:Option String}{w:World}[hd:TyD P t (.pointer e)]:(receiverAt t (.val v) true c).run P w=.ok v w:=by unfold receiverAt;rw[Sem.run_bind,run_underlying hd.h];rfl
def run_recvV{t e:Ti}{c:TypeDesc}{a:Addr}{u:Vl}{j:String}{w:World}[hd:TyD P t (.pointer e)][z:TyD P e c](q:A7 c=false)(v:w.cell? a=some u):(receiverAt t (.val (.pointer (some a))) false (some j)).run P w=.ok u w:=by unfold receiverAt;rw[Sem.run_bind,run_underlying hd.h];show(loadVar e a).run P w=_;exact al1 q v
def run_method{t:Ti}{name:String}{f:FuncId}{b:Bool}{v u:Vl}{w:World}[c:MethF P t name f b](hr:∀e:String,(receiverAt t (.val v) b (some e)).run P w=.ok u w):(method (P.types.size+Made.depth) t v name).run P w=.ok (f,u) w:=by
 obtain⟨i,m,h1,h2,h,j⟩:=c.get;rw[show P.types.size+Made.depth=(P.types.size+99)+1 from rfl];have hi:(typeInfo t).run P w=.ok i w:=by simp[typeInfo,h1]
 unfold method;rw[Sem.run_bind,hi];simp only[Result.andThen_ok,h2,h,j,follow];simp only[Sem.run_bind,Sem.run_pure,Result.andThen_ok,Array.isEmpty_empty,if_true];rw[hr];rfl
def fn_body{f : FuncId}(c : ∃ fn, P.funcs[f]? = some fn /\ (fn.name == "runtime.NumGoroutine")=false/\fn.body.isNone=false)(vs:Array Vl)(w:World):(callFunc f vs).run P w=.ok (.enter f vs) w:=by
 obtain⟨fn,h1,h2,q⟩:=c;have h:¬ fn.name= "runtime.NumGoroutine" :=by simpa using h2
 have j:¬ fn.body=none:=fun e=>by rw[e] at q;cases q
 simp[callFunc,h1,h,j]
def invoke_args{h:Cx}{φ:Phi}{a:Act}{w:World}(q:R h sz (St.mk env σv) φ a w){e:List Od}{ts:List T}(z:evs env e=some ts){c:C}{v:Vl}(B:RelC w φ σv (Al h.N φ σv) c v):
  (T.c c::ts).length=(v::e.map a.eval).length/\∀(i:Nat) (t:T) (u:Vl),(T.c c::ts)[i]? =some t->(v::e.map a.eval)[i]? =some u->RelT w φ σv (Al h.N φ σv) t u:=by
 obtain⟨k1,E⟩:=evs_rel q z
 refine⟨by simp[k1],fun i t u hi j=> ?_⟩
 cases i with
 |zero=>simp only[eR,Option.some.injEq] at hi j;subst hi j;exact .c B
 |succ i=>exact E i t u (by simpa using hi) (by simpa using j)
def S.invokeP{x:Od}{j:List Od}{ats:Array Ti}{name:String}{t e:Ti}{c:C}{f:FuncId}{ts:List T}{r2:T}{σ'':c9}[hd:TyD P t (.pointer e)][E:MethF P t name f true](hx:ev env x=some (.c (.ifc t [c] false)))(z:evs env j=some ts)(q:j6 sz dst=true)
  (hf:FnOk P f (.c c::ts) σv fun r s=>r=r2/\s=σ'') (h:AOps P σ0 sz ops Q rest (St.mk (putE env dst r2) σ'')):
  AOps P σ0 sz ops Q (⟨dst,.call ⟨.invoke x name,j.toArray,ats⟩,ty,pos,after,none⟩::rest) (St.mk env σv):=by
 refine AOps.enterS rfl q hf (fun F φ a w u=> ?_) (fun r s ⟨h1,h2⟩=>by subst h1 h2;exact h)
 obtain⟨v,B,hr⟩:=ifc1_inv (k7 u hx)
 refine⟨v::j.map a.eval,?_,invoke_args u z hr⟩
 have:=fn_body hf.fn (v::j.map a.eval).toArray w
 simp[execOp,resolve,invoke,callMethod,B,run_method (P:=P) (t:=t) (name:=name) (fun J=>run_recvP (e:=e))]
 simpa[eK] using this
def S.invokeV{x:Od}{q:List Od}{ats:Array Ti}{name:String}{t e:Ti}{de:TypeDesc}{id:Id}{j o k:Nat}{es:List (List C)}{F:List C}{c:C}{f:FuncId}{ts:List T}{r2:T}{σ'':c9}[hd:TyD P t (.pointer e)][he:TyD P e de][hm:MethF P t name f false](z:A7 de=false)
  (hx:ev env x=some (.c (.ifc t [.ptr id j o] false))) (B:σv[id]? =some (some (.cells k es))) (J:es[j]? =some F) (hc:F[o]? =some c) (ha:evs env q=some ts) (E:j6 sz dst=true)
  (hf:FnOk P f (.c c::ts) σv fun r s=>r=r2/\s=σ'') (h:AOps P σ0 sz ops Q rest (St.mk (putE env dst r2) σ'')):
  AOps P σ0 sz ops Q (⟨dst,.call ⟨.invoke x name,q.toArray,ats⟩,ty,pos,after,none⟩::rest) (St.mk env σv):=by
 refine AOps.enterS rfl E hf (fun Γ φ a w N=> ?_) (fun r s ⟨h1,h2⟩=>by subst h1 h2;exact h)
 obtain⟨v,hv,hr⟩:=ifc1_inv (k7 N hx)
 obtain⟨hid,b,base,hp,O⟩:=af0 (.c hr) B
 obtain⟨arr,ety,hb,_,_,U⟩:=G6 N B hp
 obtain⟨u,hu,aa⟩:=U j F o c J hc
 refine⟨u::q.map a.eval,?_,invoke_args N ha aa⟩
 have:=fn_body hf.fn (u::q.map a.eval).toArray w
 simp[execOp,resolve,invoke,callMethod,hv,O,run_method (P:=P) (t:=t) (name:=name) (fun wr=>run_recvV (e:=e) z ((U2 hb).trans hu))]
 simpa[eK] using this
/-! ### Maps: how many keys -/
def S.lenMap{K V:Type}{fk:K->Vl}{fv:V->Vl}{x:Od}{t q u:Ti}{id:Id}{m:List (K×V)}[ht:TyD P t (.map q u)](hx:ev env x=some (.c (.map id)))(e:σv[id]? =some (some (mapB fk fv m)))(hd:j6 sz dst=true)
  (h:AOps P σ0 sz ops Q rest (St.mk (putE env dst (.c (int (fX m:Int)))) σv)):AOps P σ0 sz ops Q (⟨dst,.call ⟨.builtin .len,#[x],#[t]⟩,ty,pos,after,none⟩::rest) (St.mk env σv):=
 .value rfl hd _ (fun E φ a w j=>by
  obtain⟨b,base,hp,v⟩:=X5 (k7 j hx) e;obtain⟨F,o,_,g1,z,⟨es,c,rfl,B⟩,_⟩:=j.st.blk _ _ e;rw[hp] at g1;cases g1;have hl:es.size=fX m:=by have:=congrArg fX B;simpa using this
  exact⟨.int .i64 (fX m),by simp[execOp,v,resolve,invoke,builtin,Builtin.len_,run_underlying ht.h,Go.MapKept.run_getObj_map z,goInt,hl,Result.andThen],.int _⟩) h
/-! ### Maps whose values are nothing (sets) -/
def noV:Unit->Vl:=fun _=>.agg #[]
def W.lookupOkU{K:Type}[DecidableEq K]{fk:K->Vl}{d:TypeDesc}{x y:Od}{t N F:Ti}{id:Id}{m:List (K×Unit)}{k:K}{size bytes:Nat}{O:Vl}[ht:TyD P t (.map N F)][q:TyD P N d][hs:TyS P F size bytes O](hk:KeyT d fk)(hz:O=.agg #[])
  (hx:ev env x=some (.c (.map id))) (hy:ev env y=some (.c (.imm (.val (fk k))))) (z:σv[id]? =some (some (mapB fk noV m))) (hd:j6 sz dst=true)
  (h:AOps P σ0 sz ops Q rest (St.mk (putE env dst (.tup [.agg [],.c (bool (mget m k).isSome)])) σv)):AOps P σ0 sz ops Q (⟨dst,.lookup t x y true,ty,pos,after,none⟩::rest) (St.mk env σv):=by
 refine .valueW rfl hd _ _ (fun Γ φ a w E=> ?_) h
 obtain⟨b,base,hp,U⟩:=X5 (k7 E hx) z
 obtain⟨B,_⟩:=D2 (k7 E hy)
 obtain⟨b',o,_,g1,g2,⟨es,c,rfl,g3⟩,_⟩:=E.st.blk _ _ z
 rw[hp] at g1;cases g1
 refine⟨.tuple #[.agg #[],.bool (mget m k).isSome],w,φ,?_,RelT.tup' (vs:=[.agg #[],.bool (mget m k).isSome]) rfl (fun i t u hi hu=> ?_),E⟩
 ·rcases S9 hk k m es.toList 0 g3 with⟨q1,J,_⟩|⟨v,j,e,q1,J,_⟩
  ·simp[execOp,U,B,Instr.lookup,run_underlying ht.h,Go.MapKept.run_getObj_map g2,Go.MapKept.run_checkKey q.h (hk.key k),Go.MapKept.run_findKey q.h J,H4 (t:=F),q1,hz,Result.andThen]
  ·simp[execOp,U,B,Instr.lookup,run_underlying ht.h,Go.MapKept.run_getObj_map g2,Go.MapKept.run_checkKey q.h (hk.key k),Go.MapKept.run_findKey q.h J,q1,noV,Result.andThen]
 ·match i with
  |0=>cases hi;cases hu;exact RelT.agg' (vs:=[]) rfl (fun i c v hc=>by simp at hc)
  |1=>cases hi;cases hu;exact .bool _
  |i+2=>simp at hi
def agg0_inv{w:World}{φ:Phi}{σ:c9}{A:Nat->Prop}{u:Vl}(h:RelT w φ σ A (.agg []) u):u=.agg #[]:=by
 cases h with|agg us hr=>simp
def W.mapUpdateU{K:Type}[DecidableEq K]{fk:K->Vl}{d:TypeDesc}{x y v:Od}{t O vt:Ti}{id:Id}{m:List (K×Unit)}{k:K}[ht:TyD P t (.map O vt)][q:TyD P O d](hk:KeyT d fk)
  (hx:ev env x=some (.c (.map id))) (hy:ev env y=some (.c (.imm (.val (fk k))))) (hv:ev env v=some (.agg [])) (u:σv[id]? =some (some (mapB fk noV m))) (E:σv.put id (some (mapB fk noV (mset m k ())))=σ')
  (h:AOps P σ0 sz ops Q rest (St.mk env σ')):AOps P σ0 sz ops Q (⟨none,.mapUpdate t x y v,ty,pos,after,none⟩::rest) (St.mk env σv):=by
 subst E
 refine .skipW rfl rfl _ (fun Γ φ ac w z=> ?_) h
 obtain⟨b,base,hp,U⟩:=X5 (k7 z hx) u
 obtain⟨e2,_⟩:=D2 (k7 z hy)
 have e3:=agg0_inv (k7 z hv)
 obtain⟨b',o,_,g1,B,⟨es,c,rfl,g3⟩,_⟩:=z.st.blk _ _ u
 rw[hp] at g1;cases g1
 rcases S9 hk k m es.toList 0 g3 with⟨q1,J,N⟩|⟨v0,j,e,q1,J,N,q4,q5⟩
 ·have F:=Rs.writeO (q1:=mapP fk noV (mset m k ())) (o1:=.map (es.push {key:=fk k,val:=.agg #[],born:=c}) (c+1)) z.toRs u hp B ⟨_,_,rfl,by rw[fC];exact N () c⟩
  refine⟨_,φ,?_,z.of F.1 F.2⟩
  simp[execOp,U,e2,e3,Instr.mapUpdate,run_underlying ht.h,Go.MapKept.run_getObj_map B,Go.MapKept.run_checkKey q.h (hk.key k),Go.MapKept.run_findKey q.h J,Go.MapKept.run_setObj_map _ B,Result.andThen]
 ·have hj:es[j]? =some e:=by simpa using N
  have F:=Rs.writeO (q1:=mapP fk noV (mset m k ())) (o1:=.map (es.modify j fun e=>{e with key:=fk k,val:=.agg #[]}) c) z.toRs u hp B ⟨_,_,rfl,by rw[eS];exact q5 ()⟩
  refine⟨_,φ,?_,z.of F.1 F.2⟩
  simp[execOp,U,e2,e3,Instr.mapUpdate,run_underlying ht.h,Go.MapKept.run_getObj_map B,Go.MapKept.run_checkKey q.h (hk.key k),Go.MapKept.run_findKey q.h J,hj,q4,Go.MapKept.run_keyThatStays (hk.key k),Go.MapKept.run_setObj_map _ B,Result.andThen]
def W.insertU{K:Type}[DecidableEq K]{fk:K->Vl}{d:TypeDesc}{x y v:Od}{t O vt:Ti}{id:Id}{m:List (K×Unit)}{k:K}[ht:TyD P t (.map O vt)][q:TyD P O d](hk:KeyT d fk)
  (hx:ev env x=some (.c (.map id))) (hy:ev env y=some (.c (.imm (.val (fk k))))) (hv:ev env v=some (.agg [])) (u:σv[id]? =some (some (mapB fk noV m))) (E:σv.put id (some (mapB fk noV (mset m k ())))=σ')
  (h:AOps P σ0 sz ops Q rest (St.mk env σ')):AOps P σ0 sz ops Q (⟨none,.insert t x y v,ty,pos,after,none⟩::rest) (St.mk env σv):=by
 subst E
 refine .skipW rfl rfl _ (fun Γ φ ac w z=> ?_) h
 obtain⟨b,base,hp,U⟩:=X5 (k7 z hx) u
 obtain⟨e2,_⟩:=D2 (k7 z hy)
 have e3:=agg0_inv (k7 z hv)
 obtain⟨b',o,_,g1,B,⟨es,c,rfl,g3⟩,_⟩:=z.st.blk _ _ u
 rw[hp] at g1;cases g1
 rcases S9 hk k m es.toList 0 g3 with⟨q1,J,N⟩|⟨v0,j,e,q1,J,N,q4,q5⟩
 ·have F:=Rs.writeO (q1:=mapP fk noV (mset m k ())) (o1:=.map (es.push {key:=fk k,val:=.agg #[],born:=c}) (c+1)) z.toRs u hp B ⟨_,_,rfl,by rw[fC];exact N () c⟩
  refine⟨_,φ,?_,z.of F.1 F.2⟩
  simp[execOp,U,e2,e3,Instr.mapUpdate,run_underlying ht.h,Go.MapKept.run_getObj_map B,Go.MapKept.run_checkKey q.h (hk.key k),Go.MapKept.run_findKey q.h J,Go.MapKept.run_setObj_map _ B,Result.andThen]
 ·have hj:es[j]? =some e:=by simpa using N
  have F:=Rs.writeO (q1:=mapP fk noV (mset m k ())) (o1:=.map (es.modify j fun e=>{e with key:=fk k,val:=.agg #[]}) c) z.toRs u hp B ⟨_,_,rfl,by rw[eS];exact q5 ()⟩
  refine⟨_,φ,?_,z.of F.1 F.2⟩
  simp[execOp,U,e2,e3,Instr.mapUpdate,run_underlying ht.h,Go.MapKept.run_getObj_map B,Go.MapKept.run_checkKey q.h (hk.key k),Go.MapKept.run_findKey q.h J,hj,q4,Go.MapKept.run_keyThatStays (hk.key k),Go.MapKept.run_setObj_map _ B,Result.andThen]
end
/-! ### A struct without fields -/
def S.build0{P:Program}{σ0:c9}{sz:Nat}{Q:Post}{env:Env}{σv:c9}{ops:Array Oper}{rest:List Oper}{dst:Option Nat}{ty:Ti}{pos:String}{after:Array Edge}{t:Ti}{fs:Array Field}{size bytes:Nat}{z:Vl}[ht:TyD P t (.struct fs)][hs:TyS P t size bytes z](hf:fs=#[])(hz:z=.agg #[])(hd:j6 sz dst=true)
  (h:AOps P σ0 sz ops Q rest (St.mk (putE env dst (.agg [])) σv)):AOps P σ0 sz ops Q (⟨dst,.build t #[],ty,pos,after,none⟩::rest) (St.mk env σv):=
 .value rfl hd _ (fun j φ a w q=>by subst hf hz;refine⟨.agg #[],?_,RelT.agg' (vs:=[]) rfl (fun i c v e=>by simp at e)⟩;simp[execOp,Instr.build,H4 (t:=t),run_underlying ht.h,Value.cells,Instr.fill]) h
def S.store0{P:Program}{σ0:c9}{sz:Nat}{Q:Post}{env:Env}{σv:c9}{ops:Array Oper}{rest:List Oper}{ty:Ti}{pos:String}{after:Array Edge}{x y:Od}{t:Ti}{fs:Array Field}{bytes k j o:Nat}{id:Id}{es:List (List C)}{z:Vl}[ht:TyD P t (.struct fs)][hs:TyS P t 0 bytes z](hx:ev env x=some (.c (.ptr id j o)))(hy:ev env y=some (.agg []))(e:σv[id]? =some (some (.cells k es)))
  (h:AOps P σ0 sz ops Q rest (St.mk env σv)):AOps P σ0 sz ops Q (⟨none,.store t x y,ty,pos,after,none⟩::rest) (St.mk env σv):=
 .skipW rfl rfl σv (fun B φ a w q=>by obtain⟨hid,b,base,hp,v⟩:=af0 (k7 q hx) e;have u:=agg0_inv (k7 q hy);refine⟨w,φ,?_,q⟩;simp[execOp,v,u,Instr.storeAt,Instr.sureAddr,storeVar,Value.cells,storeCells,s9 (t:=t)]) h
/-! ### Contracts with two kinds of ends -/
def FnOk.alt1{A B:Type}{P:Program}{f:FuncId}{args:List T}{σ:c9}{j:A->T->c9->Prop}{z:B->T->c9->Prop}{v:A}(h:FnOk P f args σ fun q u=>(∃w,(Sum.inl v:A⊕B)=.inl w/\j w q u)\/∃w,(Sum.inl v:A⊕B)=.inr w/\z w q u):FnOk P f args σ (j v):=
 h.mono fun r s c=>by rcases c with⟨w,e,c⟩|⟨w,e,_⟩;cases e;exact c;cases e
def FnOk.alt2{A B:Type}{P:Program}{f:FuncId}{args:List T}{σ:c9}{z:A->T->c9->Prop}{j:B->T->c9->Prop}{v:B}(h:FnOk P f args σ fun q u=>(∃w,(Sum.inr v:A⊕B)=.inl w/\z w q u)\/∃w,(Sum.inr v:A⊕B)=.inr w/\j w q u):FnOk P f args σ (j v):=
 h.mono fun r s c=>by rcases c with⟨w,e,_⟩|⟨w,e,c⟩;cases e;cases e;exact c
end Ab
end
section
namespace Ab
open Go
section
variable {α:Type}
def pool(size:Nat)(f:α->List I)(E:List α):Ent:=.node none (E.map fun e=>.one (vec size f [e]))
def prow(r:Nat)(l:Li):Blk:=.cells 1 (l.map fun i=>[.ptr (r,[i.toNat]) 0 0])
def W0{K:Type}(fk:K->Vl)(e:List K):Obj->List Vl->Prop:=fun o us=>∃es c,o=.map es c/\es.toList.map (·.key)=e.map fk/\es.toList.map (·.val)=us
def mapCB{K V:Type}(fk:K->Vl)(c:V->C)(m:List (K×V)):Blk:=.obj (W0 fk (m.map (·.1))) (m.map fun p=>c p.2)
def W1(r:Nat)(i:Int):C:=.ptr (r,[i.toNat]) 0 0
def pmap{K:Type}(r:Nat)(fk:K->Vl)(m:List (K×Int)):Blk:=mapCB fk (W1 r) m
def ptrO(r:Nat):Option Int->C
 |some i=>W1 r i
 |none=>.imm (.val (.pointer none))
def ptrO_some{r:Nat}{o:Option Int}{i:Int}(h:o=some i):some (T.c (ptrO r o))=some (T.c (.ptr (r,[i.toNat]) 0 0)):=by rw[h];rfl
def ad1{size:Nat}{f:α->List I}{E:List α}{p:List Nat}{b:Blk}(h:(pool size f E).sub p=some b):∃i e,p=[i]/\E[i]? =some e/\b=vec size f [e]:=by
 cases p with
 |nil=>cases h
 |cons i q=>
  simp only[pool,Ent.sub,lM] at h
  cases hi:E[i]? with
  |none=>simp[hi] at h
  |some e=>
   rw[hi] at h
   cases q with
   |nil=>simp only[eD,Ent.sub,Option.some.injEq] at h;exact⟨i,e,rfl,hi,h.symm⟩
   |cons=>simp[Ent.sub] at h
def ay2{size:Nat}{f:α->List I}{E:List α}{i:Nat}{e:α}(h:E[i]? =some e):(pool size f E).sub [i]=some (vec size f [e]):=by
 simp[pool,Ent.sub,h]
def E5{σ:c9}{r size:Nat}{f:α->List I}{E:List α}{i:Int}{e:α}(h:σ[r]? =some (pool size f E))(c:ix E i=some e):σ[((r,[i.toNat]):Id)]? =some (some (.cells size [(f e).map .imm])):=by
 rw[w7 h,ay2 (V3 c).2];rfl
def s7{size n:Nat}{f:α->List I}{E:List α}:∀q b,(pool size f E).sub q=some b->b.ok n=true:=fun q b h=>by
 obtain⟨i,e,_,_,rfl⟩:=ad1 h;exact K4
def pool_no{size:Nat}{f:α->List I}{E:List α}{id:Id}:∀q b,(pool size f E).sub q=some b->b.no id=true:=fun q b h=>by
 obtain⟨i,e,_,_,rfl⟩:=ad1 h;exact Blk.im_no _ _ _
def pool_fwd{size:Nat}{f:α->List I}{E:List α}{π:Id->Id}:∀p b,(pool size f E).sub p=some b->(pool size f E).sub p=some (b.ren π):=fun p b h=>by
 obtain⟨i,e,rfl,_,rfl⟩:=ad1 h;rw[h,F7]
def pool_bwd{size:Nat}{f:α->List I}{E:List α}{π:Id->Id}:∀p b,(pool size f E).sub p=some b->∃b0,(pool size f E).sub p=some b0/\b=b0.ren π:=fun p b h=>by
 obtain⟨i,e,rfl,_,rfl⟩:=ad1 h;exact⟨_,h,F7.symm⟩
def RenE.pool{size r c:Nat}{f:α->List I}{E:List α}{π:Id->Id}:RenE π r (Ab.pool size f E) c (Ab.pool size f E):=.any pool_fwd pool_bwd
def z7.pool{size r m a:Nat}{f:α->List I}{E:List α}{n:Id}{σ:c9}(c:σ[r]? =some (Ab.pool size f E)):z7 (a,[]) n σ m r (Ab.pool size f E):=by
 show ∀(p:List Nat) (b:Blk),(Ab.pool size f E).sub p=some b->_;intro p b h;obtain⟨i,e,rfl,_,rfl⟩:=ad1 h;have j:mv (a,[]) n (r,[i])=(r,[i]):=by
  have:((r,[i]):Id) ≠ (a,[]):=fun e=>by cases e
  simp[mv,E3 this]
 rw[j,w7 c,h];exact⟨K4,by rw[F7]⟩
def z7.poolR{size r m a q:Nat}{f:α->List I}{E:List α}{n:Id}{σ:c9}(h:eG a r=false)(c:σ[r]? =some (Ab.pool size f E)):z7 (a,[q]) n σ m r (Ab.pool size f E):=by
 show ∀(p:List Nat) (b:Blk),(Ab.pool size f E).sub p=some b->_;intro p b j;obtain⟨i,e,rfl,_,rfl⟩:=ad1 j;have u:mv (a,[q]) n (r,[i])=(r,[i]):=by
  have:((r,[i]):Id) ≠ (a,[q]):=fun e=>by cases e;simp at h
  simp[mv,E3 this]
 rw[u,w7 c,j];exact⟨K4,by rw[F7]⟩
def EntR.pool{size r n m i j:Nat}{f:α->List I}{E:List α}{σ:c9}(u:(mvr r n (i,[])).1=j)(c:σ[j]? =some (Ab.pool size f E)):EntR r n σ m i (Ab.pool size f E):=.any fun p b h=>by
 have e:∀q,mvr r n (i,q)=(j,q):=fun q=>by rw[<- u];rfl
 obtain⟨k,v,rfl,_,rfl⟩:=ad1 h;rw[e,w7 c,h];exact⟨K4,by rw[F7]⟩
def FrzB.pool{size:Nat}{f:α->List I}{E:List α}{id:Id}{X:C->C->Prop}:FrzB id X (Ab.pool size f E) (Ab.pool size f E):=by show _=_/\_;exact⟨rfl,fun p b h=>pool_no p b h⟩
/-! ### Rows and maps of pointers among other blocks -/
def l7{r n:Nat}{l:Li}(h:eH r n=true):(prow r l).ok n=true:=by simp only[prow,Blk.ok,fm,eF];intro i _;simp[C.okL,C.ok] at h ⊢;exact h
def prow_no{r a:Nat}{l:Li}:(prow r l).no (a,[])=true:=by simp only[prow,Blk.no,fm,eF];intro i _;have:idb ((r,[i.toNat]):Id) (a,[])=false:=E3 (fun e=>by cases e);simp[C.noL,C.no,this]
def prow_noR{r a p:Nat}{l:Li}(h:eG a r=false):(prow r l).no (a,[p])=true:=by simp only[prow,Blk.no,fm,eF];intro i _;have:idb ((r,[i.toNat]):Id) (a,[p])=false:=E3 (fun e=>by cases e;simp at h);simp[C.noL,C.no,this]
def k9{r c:Nat}{l:Li}{π:Id->Id}(h:∀q,π (r,q)=(c,q)):(prow r l).ren π=prow c l:=by
 simp[prow,Blk.ren,C.renL,C.ren,h]
def O8{r:Nat}{l:Li}{a:Nat}{n:Id}:(prow r l).ren (mv (a,[]) n)=prow r l:=Blk.ren_no _ prow_no
def prow_mvR{r a q:Nat}{l:Li}{n:Id}(h:eG a r=false):(prow r l).ren (mv (a,[q]) n)=prow r l:=Blk.ren_no _ (prow_noR h)
def B3{i n:Id}{id:Id}{b:Blk}{σ:c9}(h:σ[i]? =some (some b))(e:b.ren (mv id n)=b):σ[i]? =some (some (b.ren (mv id n))):=by rw[e];exact h
def E6{r n i:Nat}{b c:Blk}{σ:c9}{j:Id}(q:mvr r n (i,[])=j)(h:σ[j]? =some (some c))(e:b.ren (mvr r n)=c):σ[mvr r n (i,[])]? =some (some (b.ren (mvr r n))):=by rw[q,e];exact h
def renL_map{r c:Nat}{K:Type}{m:List (K×Int)}{π:Id->Id}(h:∀q,π (r,q)=(c,q)):C.renL π (m.map fun p=>W1 r p.2)=m.map fun p=>W1 c p.2:=by
 induction m with
 |nil=>rfl
 |cons p m j=>
  have e:C.ren π (W1 r p.2)=W1 c p.2:=by simp[W1,C.ren,h]
  simp only[fF,C.renL,j,e]
section
variable {K:Type}{fk:K->Vl}{r:Nat}{m:List (K×Int)}
def m5{n:Nat}(h:eH r n=true):(pmap r fk m).ok n=true:=by simp only[pmap,mapCB,Blk.ok];rw[K6,fm,eF];intro p _;simpa[W1,C.ok] using h
def pmap_no{a:Nat}:(pmap r fk m).no (a,[])=true:=by simp only[pmap,mapCB,Blk.no];rw[noL_eq,fm,eF];intro p _;have:idb ((r,[p.2.toNat]):Id) (a,[])=false:=E3 (fun e=>by cases e);simp[W1,C.no,this]
def pmap_noR{a q:Nat}(h:eG a r=false):(pmap r fk m).no (a,[q])=true:=by simp only[pmap,mapCB,Blk.no];rw[noL_eq,fm,eF];intro p _;have:idb ((r,[p.2.toNat]):Id) (a,[q])=false:=E3 (fun e=>by cases e;simp at h);simp[W1,C.no,this]
def n4{c:Nat}{π:Id->Id}(h:∀q,π (r,q)=(c,q)):(pmap r fk m).ren π=pmap c fk m:=by
 simp only[pmap,mapCB,Blk.ren,renL_map h]
def O5{a:Nat}{n:Id}:(pmap r fk m).ren (mv (a,[]) n)=pmap r fk m:=Blk.ren_no _ pmap_no
def pmap_mvR{a q:Nat}{n:Id}(h:eG a r=false):(pmap r fk m).ren (mv (a,[q]) n)=pmap r fk m:=Blk.ren_no _ (pmap_noR h)
end
def FrzB.prow{r a:Nat}{l:Li}{X:C->C->Prop}:FrzB (a,[]) X (.one (Ab.prow r l)) (.one (Ab.prow r l)):=by
 have h:=prow_no (r:=r) (a:=a) (l:=l);unfold FrzB;split;rename_i h1 _;cases h1;rename_i k1 e q e' h1 h2;simp only[Ab.prow,Ent.one.injEq,Blk.cells.injEq] at h1 h2;obtain⟨rfl,h1⟩:=h1;obtain⟨rfl,h2⟩:=h2;have:e=e':=by rw[h1] at h2;simpa using h2
 subst this;refine⟨rfl,?_⟩;obtain⟨i,rfl⟩:∃i,l=[i]:=by
  cases l with
  |nil=>simp at h1
  |cons i l=>cases l with
   |nil=>exact⟨i,rfl⟩
   |cons b l=>simp at h1
 simp only[fF,List.map_nil,List.cons.injEq,and_true] at h1;subst h1;refine⟨.inl ⟨rfl,?_⟩,Y⟩;have:idb ((r,[i.toNat]):Id) (a,[])=false:=E3 (fun e=>by cases e);simp[C.no,this];rename_i h1 h2;cases h1;cases h2;exact⟨rfl,h⟩;rename_i h1;cases h1;rename_i h1 h2 c j;first|exact(c _ _ rfl rfl).elim|exact(j _ _ rfl rfl).elim|exact(h2 _ _ rfl rfl).elim
end
section
variable {P:Program}{σ0:c9}{sz:Nat}{Q:Post}{env env':Env}{σv σ':c9}{ops:Array Oper}{rest:List Oper}{dst:Option Nat}{ty:Ti}{pos:String}{after:Array Edge}
/-! ### Rows of pointers -/
def S.loadP{x:Od}{t:Ti}{d:TypeDesc}{h r:Nat}{i a:Int}{l:Li}[ht:TyD P t d](q:ix l i=some a)(u:A7 d=false)(hx:ev env x=some (.c (.ptr (h,[]) i.toNat 0)))(j:σv[((h,[]):Id)]? =some (some (prow r l)))(hd:j6 sz dst=true)
  (v:AOps P σ0 sz ops Q rest (St.mk (putE env dst (.c (.ptr (r,[a.toNat]) 0 0))) σv)):AOps P σ0 sz ops Q (⟨dst,.load t x,ty,pos,after,none⟩::rest) (St.mk env σv):=
 .aa (e:=[.ptr (r,[a.toNat]) 0 0]) u hx j (by rw[lM,(V3 q).2];rfl) rfl hd v
def S.storeP{x y:Od}{t:Ti}{bytes h r:Nat}{z:Vl}{i:Nat}{a:Int}{l:Li}[hs:TyS P t 1 bytes z](hi:i<fX l)(hx:ev env x=some (.c (.ptr (h,[]) i 0)))(hy:ev env y=some (.c (.ptr (r,[a.toNat]) 0 0)))
  (q:σv[((h,[]):Id)]? =some (some (prow r l))) (j:putF σv (h,[]) (some (prow r (l.set i a)))=some σ') (u:AOps P σ0 sz ops Q rest (St.mk env σ')):AOps P σ0 sz ops Q (⟨none,.store t x y,ty,pos,after,none⟩::rest) (St.mk env σv):=by
 have h2:=A4 j
 subst h2
 refine AOps.store hx hy q (by rw[lM,eT hi];rfl) (by simp) ?_
 have e:(l.map fun i=>[C.ptr (r,[i.toNat]) 0 0]).set i [.ptr (r,[a.toNat]) 0 0]=(l.set i a).map fun i=>[C.ptr (r,[i.toNat]) 0 0]:=by rw[fB]
 simp only[List.set_cons_zero]
 rw[e]
 exact u
def S.appendP{x y:Od}{t e:Ti}{bytes m k h s r:Nat}{n:Id}{z:Vl}{l new l':Li}{σ1:c9}[ht:TyD P t (.slice e)][hs:TyS P e 1 bytes z]
  (J:app bytes l new=some l') (v:(z.cells.size==1)=true) (B:eH 0 bytes=true) (hx:ev env x=some (.c (.own (h,[]) 0 m))) (N:m=fX l) (E:σv[((h,[]):Id)]? =some (some (prow r l)))
  (hy:ev env y=some (.c (.own (s,[]) 0 k))) (hk:k=fX new) (F:σv[((s,[]):Id)]? =some (some (prow r new))) (O:newF σv=some n) (h1:putF σv (h,[]) none=some σ1) (q:w8 σ1 (.one (prow r l'))=some σ') (hd:j6 sz dst=true)
  (U:AOps P σ0 sz ops Q rest (St.mk (putE env dst (.c (.own n 0 (fX l')))) σ')):AOps P σ0 sz ops Q (⟨dst,.call ⟨.builtin .append,#[x,y],#[t,t]⟩,ty,pos,after,none⟩::rest) (St.mk env σv):=by
 obtain⟨hb,rfl⟩:=aq8 J
 have h2:=A4 h1
 have h3:=B2 O;have h4:=v7 q
 subst N hk h2 h3 h4
 have u:=Src.own (σ:=σv) (j:=0) (n:=fX new) F
 refine AOps.append v B hx E hy u ?_ hd ?_
 ·rw[fi,eK (by simp)];simpa using hb
 ·have e1:(((l.map fun i=>[C.ptr (r,[i.toNat]) 0 0]).drop 0).take (fX l))++(((new.map fun i=>[C.ptr (r,[i.toNat]) 0 0]).drop 0).take (fX new))=(l++new).map fun i=>[C.ptr (r,[i.toNat]) 0 0]:=by rw[fi,fi,eK (by simp),eK (by simp)];simp
  have e2:fX l+((((new.map fun i=>[C.ptr (r,[i.toNat]) 0 0]).drop 0).take (fX new))).length=(l++new).length:=by simp
  rw[e1,e2]
  exact U
def S.shrinkP{x y:Od}{t e:Ti}{bytes n h r:Nat}{z:Vl}{kk:IntKind}{hi:Int}{l l':Li}[ht:TyD P t (.slice e)][hs:TyS P e 1 bytes z]
  (hl:subL l 0 hi=some l') (hx:ev env x=some (.c (.own (h,[]) 0 n))) (v:n=fX l) (j:σv[((h,[]):Id)]? =some (some (prow r l))) (hy:ev env y=some (.c (.imm (.val (.int kk hi))))) (hd:j6 sz dst=true)
  (q:AOps P σ0 sz ops Q rest (St.mk (putE env dst (.c (.own (h,[]) 0 (fX l')))) σv)):AOps P σ0 sz ops Q (⟨dst,.slice t x none (some y) none,ty,pos,after,none⟩::rest) (St.mk env σv):=by
 unfold subL at hl
 split at hl
 ·rename_i B
  cases hl
  have u:hi=((hi.toNat:Nat):Int):=by omega
  rw[u] at hy
  refine AOps.sliceOwnTo hx j hy (by omega) hd ?_
  rw[show(List.drop (Int.toNat 0) (fW hi.toNat l)).length=hi.toNat by simp;omega] at q
  exact q
 ·cases hl
/-! ### Entries -/
def setF_at{σ σ':c9}{n:Nat}{e e':Ent}(h:σ[n]? =some e)(c:setF σ n e'=some σ')(i:Id):σ'[i]? =if i.1=n then some (e'.sub i.2) else σ[i]? :=by obtain⟨rfl,_⟩:=H7 c;exact set_ent h i
def S.storeE{α:Type}{size bytes o r:Nat}{f:α->List I}{E:List α}{i:Int}{e e':α}{c:I}{x y:Od}{t:Ti}{z:Vl}[hs:TyS P t 1 bytes z](B:ix E i=some e)(hl:eH o (f e).length=true)(hf:(f e).set o c=f e')(hx:ev env x=some (.c (.ptr (r,[i.toNat]) 0 o)))(hy:ev env y=some (.c (.imm c)))
  (h:σv[r]? =some (pool size f E)) (u:setF σv r (pool size f (E.set i.toNat e'))=some σ') (O:AOps P σ0 sz ops Q rest (St.mk env σ')):AOps P σ0 sz ops Q (⟨none,.store t x y,ty,pos,after,none⟩::rest) (St.mk env σv):=by
 have v:=q7 B
 have F:o<((f e).map C.imm).length:=by rw[eW];exact eE hl
 refine AOps.store hx hy (E5 h B) rfl F ?_
 have U:([(f e).map C.imm].set 0 (((f e).map C.imm).set o (.imm c)))=[(f e').map C.imm]:=by rw[<- hf,fB];rfl
 rw[U]
 have h2:=(H7 u).1
 refine AOps.sub (Sub.same (by rw[h2];simp) fun j=> ?_) O
 rw[setF_at h u]
 have hb:σv[((r,[i.toNat]):Id)]? =some (some (.cells size [(f e).map .imm])):=E5 h B
 by_cases J:j=(r,[i.toNat])
 ·subst J
  rw[c9.get_put_eq hb,if_pos rfl,ay2 (e:=e') (by simp[v])]
  rfl
 ·rw[c9.get_put_ne J]
  by_cases hr:j.1=r
  ·obtain⟨j1,q⟩:=j
   simp only at hr
   subst hr
   rw[if_pos rfl,w7 h]
   congr 1
   cases q with
   |nil=>rfl
   |cons a q=>
    simp only[pool,Ent.sub,lM,eA]
    by_cases N:i.toNat=a
    ·subst N
     cases q with
     |nil=>exact absurd rfl J
     |cons b q=>
      rw[if_pos rfl,if_pos v,(V3 B).2]
      rfl
    ·rw[if_neg N]
  ·rw[if_neg hr]
def chkH(n:Nat)(l:Li):Option Unit:=if ∀i ∈ l,i.toNat<n then some () else none
def chkH_get{n:Nat}{l:Li}{u:Unit}(h:chkH n l=some u):∀i ∈ l,i.toNat<n:=by unfold chkH at h;split at h;assumption;cases h
def z7.adopt{α:Type}{size r m n:Nat}{f:α->List I}{E:List α}{e:α}{σ:c9}(c:σ[r]? =some (Ab.pool size f E))(q:σ[((n,[]):Id)]? =some (some (vec size f [e]))):z7 (r,[fX E]) (n,[]) σ m r (Ab.pool size f (E++[e])):=by
 show ∀(p:List Nat) (b:Blk),(Ab.pool size f (E++[e])).sub p=some b->_;intro p b u;obtain⟨i,B,rfl,hi,rfl⟩:=ad1 u;refine⟨K4,?_⟩;rw[F7];rw[fe] at hi;split at hi;rename_i v;have h:mv (r,[fX E]) (n,[]) (r,[i])=(r,[i]):=by
  have:((r,[i]):Id) ≠ (r,[fX E]):=fun e=>by cases e;omega
  simp[mv,E3 this]
 rw[h,w7 c,ay2 hi];rename_i z;have j:i=fX E:=by have:=(lG.1 hi).1;simp at this;omega
 subst j;simp at hi;subst hi;have h:mv (r,[fX E]) (n,[]) (r,[fX E])=(n,[]):=by simp[mv,G8.2 rfl]
 rw[h,q]
def prow_adopt{r k:Nat}{l:Li}{n:Id}{u:Unit}(h:chkH k l=some u):(prow r l).ren (mv (r,[k]) n)=prow r l:=by refine Blk.ren_no _ ?_;simp only[prow,Blk.no,fm,eF];intro i hi;have:=chkH_get h i hi;have:idb ((r,[i.toNat]):Id) (r,[k])=false:=E3 (fun e=>by cases e;omega);simp[C.noL,C.no,this]
def pmap_adopt{K:Type}{fk:K->Vl}{r k:Nat}{m:List (K×Int)}{n:Id}{u:Unit}(h:chkH k (m.map (·.2))=some u):(pmap r fk m).ren (mv (r,[k]) n)=pmap r fk m:=by refine Blk.ren_no _ ?_;simp only[pmap,mapCB,Blk.no];rw[noL_eq,fm,eF];intro p hp;have:=chkH_get h p.2 (fT.2 ⟨p,hp,rfl⟩);have:idb ((r,[p.2.toNat]):Id) (r,[k])=false:=E3 (fun e=>by cases e;omega);simp[W1,C.no,this]
def ptr_adopt{r n:Nat}{k:Nat}:some (T.c (.ptr (n,[]) 0 0))=some (T.ren (mv (r,[k]) (n,[])) (.c (.ptr (r,[((k:Int)).toNat]) 0 0))):=by
 simp[T.ren,C.ren,mv,G8.2 rfl]
def av3{i id n:Id}{b:Blk}{σ:c9}(h:σ[i]? =some (some b))(e:b.ren (mv id n)=b)(c:mv id n i=i):σ[mv id n i]? =some (some (b.ren (mv id n))):=by rw[c,e];exact h
def mv_root{r k a:Nat}{n:Id}:mv (r,[k]) n (a,[])=(a,[]):=by
 have:((a,[]):Id) ≠ (r,[k]):=fun e=>by cases e
 simp[mv,E3 this]
def Sub.newPool{α:Type}{size:Nat}{f:α->List I}(c:w8 σv (pool size f ([]:List α))=some σ'):Sub σ0 ⟨env,σv⟩ ⟨env,σ'⟩:=by
 have h:=v7 c;subst h;intro z sz φ a w e u;have j:=u.toRs.virt 1;have v:=j.2.kill (fX σv,[]);refine(Sub.same (σ0:=σ0) (env:=env) (σ1:=c9.put (σv++[Ent.one (Blk.cells 1 [])]) (fX σv,[]) none) (by simp) fun i=> ?_) z sz _ a w e ((u.of j.1 j.2).of v.1 v.2);by_cases hi:i=(fX σv,[]);subst hi;have B:(σv++[Ent.one (Blk.cells 1 [])])[((fX σv,[]):Id)]? =some (some (Blk.cells 1 [])):=by rw[c9.get_right (by simp)];simp[c9.at_eq,c9.at,Ent.sub]
 rw[c9.get_put_eq B,c9.get_right (by simp)];simp[c9.at_eq,c9.at,pool,Ent.sub];rw[c9.get_put_ne hi];rcases eX i.1 (fX σv) with hl|hl;rw[c9.get_left hl,c9.get_left hl];rw[c9.get_right hl,c9.get_right hl];obtain⟨E,q⟩:=i;rw[c9.at_eq,c9.at_eq];simp only[c9.at];cases hk:E - (fX σv) with
 |zero=>
  cases q with
  |nil=>exact absurd (by simp at hl;congr 1;omega) hi
  |cons a q=>simp[pool,Ent.sub]
 |succ m=>rfl
/-! ### Maps of pointers -/
section
variable {K:Type}[DecidableEq K]{V:Type}{fk:K->Vl}{d:TypeDesc}
def mdel:List (K×V)->K->List (K×V)
 |[],_=>[]
 |p::r,k=>if k=p.1 then r else p::mdel r k
def av4(hk:KeyT d fk)(k:K):∀(m:List (K×V)) (l:List MapEntry) (i:Nat),l.map (·.key)=(m.map (·.1)).map fk->
  (mget m k=none/\Instr.findNow d (fk k) l i=some none/\(∀v,mset m k v=m++[(k,v)])/\mdel m k=m)\/
  ∃j p e,m[j]? =some p/\mget m k=some p.2/\l[j]? =some e/\e.key=fk k/\Instr.findNow d (fk k) l i=some (some (i+j,e.val))/\(∀v,mset m k v=m.set j (k,v))/\mdel m k=m.eraseIdx j
 |[],[],i,_=>.inl ⟨rfl,rfl,fun v=>rfl,rfl⟩
 |[],_::_,i,h=>by simp at h
 |_::_,[],i,h=>by simp at h
 |p::m,e::l,i,h=>by
  simp only[fF,List.cons.injEq] at h;obtain⟨h1,E⟩:=h;obtain⟨r,hr,q⟩:∃r,Instr.sameNow d (fk k) e.key=some r/\(r=true↔fk k=e.key):=Go.MapKept.sameNow_of_keys (hk.key k) (by rw[h1];exact hk.key p.1);by_cases c:k=p.1;have:r=true:=q.2 (by rw[h1,c]);subst this;exact .inr ⟨0,p,e,rfl,by simp[mget,c],rfl,by rw[h1,c],by simp[Instr.findNow,hr],fun v=>by simp[mset,c],by simp[mdel,c]⟩;have:r=false:=by
   cases r with
   |false=>rfl
   |true=>exact absurd (hk.inj ((q.1 rfl).trans h1)) c
  subst this;rcases av4 hk k m l (i+1) E with⟨g1,u,z,B⟩|⟨j,F,e',g1,u,z,B,J,N,O⟩;exact .inl ⟨by simp[mget,c,g1],by simp[Instr.findNow,hr,u],fun v=>by simp[mset,c,z],by simp[mdel,c,B]⟩;exact .inr ⟨j+1,F,e',by simpa using g1,by simp[mget,c,u],by simpa using z,B,by simp[Instr.findNow,hr,J];omega,fun v=>by simp[mset,c,N],by simp[mdel,c,O]⟩
def ar7{w:World}{φ:Phi}{σ:c9}{A:Nat->Prop}{id:Id}{p:Obj->List Vl->Prop}{cs:List C}{u:Vl}(h:RelT w φ σ A (.c (.map id)) u)(e:σ[id]? =some (some (.obj p cs))):∃b base,φ id=some (b,base)/\u=.map (some b):=by
 cases h with|c h=>cases h with|map hid h1 h=>exact h _ _ e
def W.makeMapP{t:Ti}{id:Id}(r:Nat)(fk:K->Vl)(hid:newF σv=some id)(e:w8 σv (.one (pmap r fk ([]:List (K×Int))))=some σ')(hd:j6 sz dst=true)
  (h:AOps P σ0 sz ops Q rest (St.mk (putE env dst (.c (.map id))) σ')):AOps P σ0 sz ops Q (⟨dst,.makeMap t none,ty,pos,after,none⟩::rest) (St.mk env σv):=by
 have h2:=B2 hid;have u:=v7 e
 subst h2 u
 refine .valueW rfl hd _ _ (fun v φ a w j=> ?_) h
 have q:=Rs.allocB (p0:=W0 fk []) (cs0:=[]) (us0:=[]) (obj:=.map #[] 0) j.toRs ⟨#[],0,rfl,rfl,rfl⟩ (fun i x hx=>by simp at hx)
 exact⟨.map (some w.heap.size),w.alloc (.map #[] 0),_,by simp[execOp,Instr.makeMap],.c (.map (by simp) rfl fun p cs hp=>⟨w.heap.size,0,by simp[w9],rfl⟩),j.of q.1 q.2⟩
def S.lookupOkP{x y:Od}{t U F:Ti}{id:Id}{r:Nat}{m:List (K×Int)}{k:K}{size bytes:Nat}{zv:Vl}[ht:TyD P t (.map U F)][q:TyD P U d][hs:TyS P F size bytes zv](hk:KeyT d fk)(hz:zv=.pointer none)
  (hx:ev env x=some (.c (.map id))) (hy:ev env y=some (.c (.imm (.val (fk k))))) (z:σv[id]? =some (some (pmap r fk m))) (hd:j6 sz dst=true)
  (h:AOps P σ0 sz ops Q rest (St.mk (putE env dst (.tup [.c (ptrO r (mget m k)),.c (bool (mget m k).isSome)])) σv)):AOps P σ0 sz ops Q (⟨dst,.lookup t x y true,ty,pos,after,none⟩::rest) (St.mk env σv):=by
 refine .valueW rfl hd _ _ (fun Γ φ a w B=> ?_) h
 obtain⟨b,base,hp,hv⟩:=ar7 (k7 B hx) z
 obtain⟨E,_⟩:=D2 (k7 B hy)
 obtain⟨b',o,us,g1,g2,⟨es,c,rfl,g3,g4⟩,g5⟩:=B.st.blk _ _ z
 rw[hp] at g1;cases g1
 rcases av4 hk k m es.toList 0 g3 with⟨q1,J,_⟩|⟨j,p,e,q0,q1,q3,q4,J,_⟩
 ·refine⟨.tuple #[.pointer none,.bool false],w,φ,?_,RelT.tup' (vs:=[.pointer none,.bool false]) rfl (fun i t u hi v=> ?_),B⟩
  ·simp[execOp,hv,E,Instr.lookup,run_underlying ht.h,Go.MapKept.run_getObj_map g2,Go.MapKept.run_checkKey q.h (hk.key k),Go.MapKept.run_findKey q.h J,H4 (t:=F),hz,Result.andThen]
  ·match i with
   |0=>cases hi;cases v;rw[q1];exact .c (.imm (.val rfl))
   |1=>cases hi;cases v;rw[q1];exact .bool _
   |i+2=>simp at hi
 ·obtain⟨u,v,N⟩:=g5 j (W1 r p.2) (by rw[lM,q0];rfl)
  have O:u=e.val:=by rw[<- g4,lM,q3] at v;simpa using v.symm
  subst O
  refine⟨.tuple #[e.val,.bool true],w,φ,?_,RelT.tup' (vs:=[e.val,.bool true]) rfl (fun i t u hi v=> ?_),B⟩
  ·simp[execOp,hv,E,Instr.lookup,run_underlying ht.h,Go.MapKept.run_getObj_map g2,Go.MapKept.run_checkKey q.h (hk.key k),Go.MapKept.run_findKey q.h J,Result.andThen]
  ·match i with
   |0=>cases hi;cases v;rw[q1];exact .c N
   |1=>cases hi;cases v;rw[q1];exact .bool _
   |i+2=>simp at hi
def S.mapUpdateP{x y v:Od}{t kt vt:Ti}{id:Id}{r:Nat}{m:List (K×Int)}{k:K}{a:Int}[ht:TyD P t (.map kt vt)][z:TyD P kt d](hk:KeyT d fk)
  (hx:ev env x=some (.c (.map id))) (hy:ev env y=some (.c (.imm (.val (fk k))))) (hv:ev env v=some (.c (.ptr (r,[a.toNat]) 0 0))) (B:σv[id]? =some (some (pmap r fk m))) (O:putF σv id (some (pmap r fk (mset m k a)))=some σ')
  (h:AOps P σ0 sz ops Q rest (St.mk env σ')):AOps P σ0 sz ops Q (⟨none,.mapUpdate t x y v,ty,pos,after,none⟩::rest) (St.mk env σv):=by
 have h2:=A4 O
 subst h2
 refine .skipW rfl rfl _ (fun Γ φ ac w E=> ?_) h
 obtain⟨b,base,hp,e1⟩:=ar7 (k7 E hx) B
 obtain⟨e2,_⟩:=D2 (k7 E hy)
 have U:=k7 E hv
 generalize e3:ac.eval v=u at U
 have aa:RelC w φ σv (Al Γ.N φ σv) (W1 r a) u:=by cases U with|c h=>exact h
 obtain⟨b',o,us,g1,J,⟨es,c,rfl,g3,g4⟩,g5⟩:=E.st.blk _ _ B
 rw[hp] at g1;cases g1
 rcases av4 hk k m es.toList 0 g3 with⟨q1,q2,F,_⟩|⟨j,p,e,q0,q1,F,q4,q2,q5,_⟩
 ·have hW:=Rs.writeB (q1:=W0 fk ((mset m k a).map (·.1))) (cs1:=(mset m k a).map fun p=>W1 r p.2) (us1:=us++[u]) (o1:=.map (es.push {key:=fk k,val:=u,born:=c}) (c+1)) E.toRs B hp J
   ⟨_,_,rfl,by rw[F];simp[g3],by simp[g4]⟩ (fun i x hx=>by
    rw[F,List.map_append,fe] at hx;split at hx;obtain⟨u',h1,h2⟩:=g5 i x hx;exact⟨u',by rw[eQ (lG.1 h1).1];exact h1,h2⟩;rename_i ab;have hl:fX us=fX m:=by rw[<- g4];have:=congrArg fX g3;simpa using this
    simp only[eW] at hx ab;have h0:i=fX m:=by have:=(lG.1 hx).1;simp at this;omega
    subst h0;simp at hx;subst hx;exact⟨u,by rw[<- hl];simp,aa⟩)
  refine⟨_,φ,?_,E.of hW.1 hW.2⟩
  simp[execOp,e1,e2,e3,Instr.mapUpdate,run_underlying ht.h,Go.MapKept.run_getObj_map J,Go.MapKept.run_checkKey z.h (hk.key k),Go.MapKept.run_findKey z.h q2,Go.MapKept.run_setObj_map _ J,Result.andThen]
 ·have hj:es[j]? =some e:=by simpa using F
  have hW:=Rs.writeB (q1:=W0 fk ((mset m k a).map (·.1))) (cs1:=(mset m k a).map fun p=>W1 r p.2) (us1:=us.set j u) (o1:=.map (es.modify j fun e=>{e with key:=fk k,val:=u}) c) E.toRs B hp J
   ⟨_,_,rfl,by
    rw[q5,eS];apply eB;intro i;have hg:=congrArg (fun l=>l[i]?) g3;simp only[lM,fg,eA] at hg ⊢;by_cases hi:j=i;subst hi;have q:=(lG.1 q0).1;simp[F,q];simpa[hi] using hg,by
    rw[eS];apply eB;intro i;have hg:=congrArg (fun l=>l[i]?) g4;simp only[lM,fg,eA] at hg ⊢;by_cases hi:j=i;subst hi;have q:j<fX us:=by rw[<- g4];simpa using(lG.1 F).1
    simp[F,q];simpa[hi] using hg⟩ (fun i x hx=>by
    rw[q5,lM,eA] at hx;by_cases hi:j=i;subst hi;have q:=(lG.1 q0).1;have ad:j<fX us:=by rw[<- g4];simpa using(lG.1 F).1
    simp[q] at hx;subst hx;exact⟨u,by simp[ad],aa⟩;rw[if_neg hi,<- lM] at hx;obtain⟨u',h1,h2⟩:=g5 i x hx;exact⟨u',by rw[eA,if_neg hi];exact h1,h2⟩)
  refine⟨_,φ,?_,E.of hW.1 hW.2⟩
  simp[execOp,e1,e2,e3,Instr.mapUpdate,run_underlying ht.h,Go.MapKept.run_getObj_map J,Go.MapKept.run_checkKey z.h (hk.key k),Go.MapKept.run_findKey z.h q2,hj,q4,Go.MapKept.run_keyThatStays (hk.key k),Go.MapKept.run_setObj_map _ J,Result.andThen]
def ai4{A B:Type}(f:A->B):∀(l:List A) (j:Nat),(l.map f).eraseIdx j=(l.eraseIdx j).map f
 |[],_=>rfl
 |_::_,0=>rfl
 |a::l,j+1=>by simp[ai4 f l j]
def erase_rel{es:Array MapEntry}{us:List Vl}{m:List (K×Int)}{r j:Nat}(c:es.toList.map (·.key)=(m.map (·.1)).map fk)(e:es.toList.map (·.val)=us):
  (es.eraseIdxIfInBounds j).toList.map (·.key)=((m.eraseIdx j).map (·.1)).map fk/\(es.eraseIdxIfInBounds j).toList.map (·.val)=us.eraseIdx j:=by
 have q:(es.eraseIdxIfInBounds j).toList=es.toList.eraseIdx j:=by unfold Array.eraseIdxIfInBounds;split;rw[Array.toList_eraseIdx];rename_i h;rw[List.eraseIdx_of_length_le (by simpa using h)]
 rw[q]
 exact⟨by rw[<- ai4,c,<- ai4,<- ai4],by rw[<- ai4,e]⟩
def S.deleteP{x y:Od}{t kt O vt:Ti}{id:Id}{r:Nat}{m:List (K×Int)}{k:K}[ht:TyD P t (.map kt vt)][q:TyD P kt d](hk:KeyT d fk)
  (hx:ev env x=some (.c (.map id))) (hy:ev env y=some (.c (.imm (.val (fk k))))) (v:σv[id]? =some (some (pmap r fk m))) (hd:j6 sz dst=true) (F:putF σv id (some (pmap r fk (mdel m k)))=some σ')
  (h:AOps P σ0 sz ops Q rest (St.mk (putE env dst (.tup [])) σ')):AOps P σ0 sz ops Q (⟨dst,.call ⟨.builtin .delete,#[x,y],#[t,O]⟩,ty,pos,after,none⟩::rest) (St.mk env σv):=by
 have h2:=A4 F
 subst h2
 refine .valueW rfl hd (.tup []) _ (fun Γ φ ac w B=> ?_) h
 obtain⟨b,base,hp,e1⟩:=ar7 (k7 B hx) v
 obtain⟨e2,_⟩:=D2 (k7 B hy)
 obtain⟨b',o,us,g1,E,⟨es,c,rfl,U,g4⟩,g5⟩:=B.st.blk _ _ v
 rw[hp] at g1;cases g1
 have z:∀w φ σ A,RelT w φ σ A (.tup []) (.tuple #[]):=fun w φ σ A=>RelT.tup' (vs:=[]) rfl (fun i t u hi=>by simp at hi)
 rcases av4 hk k m es.toList 0 U with⟨q1,q2,_,J⟩|⟨j,p,e,q0,q1,q3,q4,q2,_,J⟩
 ·have N:=Rs.writeB (q1:=W0 fk ((mdel m k).map (·.1))) (cs1:=(mdel m k).map fun p=>W1 r p.2) (us1:=us) (o1:=.map es c) B.toRs v hp E ⟨_,_,rfl,by rw[J];exact U,g4⟩ (fun i x hx=>by rw[J] at hx;exact g5 i x hx)
  refine⟨.tuple #[],_,φ,?_,z _ _ _ _,B.of N.1 N.2⟩
  simp[execOp,resolve,invoke,builtin,e1,e2,Builtin.delete_,run_underlying ht.h,Go.MapKept.run_getObj_map E,Go.MapKept.run_checkKey q.h (hk.key k),Go.MapKept.run_findKey q.h q2,Go.MapKept.run_setObj_map _ E,Result.andThen]
 ·have he:=erase_rel (r:=r) (j:=j) U g4
  have N:=Rs.writeB (q1:=W0 fk ((mdel m k).map (·.1))) (cs1:=(mdel m k).map fun p=>W1 r p.2) (us1:=us.eraseIdx j) (o1:=.map (es.eraseIdxIfInBounds j) c) B.toRs v hp E ⟨_,_,rfl,by rw[J];exact he.1,he.2⟩ (fun i x hx=>by rw[J,<- ai4,fY] at hx;rw[fY];split at hx;rename_i aa;obtain⟨u,h1,h2⟩:=g5 i x hx;exact⟨u,by rw[if_pos aa];exact h1,h2⟩;rename_i ab;obtain⟨u,h1,h2⟩:=g5 (i+1) x hx;exact⟨u,by rw[if_neg ab];exact h1,h2⟩)
  refine⟨.tuple #[],_,φ,?_,z _ _ _ _,B.of N.1 N.2⟩
  simp[execOp,resolve,invoke,builtin,e1,e2,Builtin.delete_,run_underlying ht.h,Go.MapKept.run_getObj_map E,Go.MapKept.run_checkKey q.h (hk.key k),Go.MapKept.run_findKey q.h q2,Go.MapKept.run_setObj_map _ E,Result.andThen]
end
/-! ### A view becomes a row of its own -/
def Sub.reownC{id:Id}{k j n:Nat}{es:List (List C)}{n':Id}{σ1:c9}(t:Nat)(hx:lookup t env=some (.c (.own id j n)))(F:σv[id]? =some (some (.cells k es)))(a6:j+n<=fX es)(h0:eU (fX σ0) id.1=true)(hid:newF σv=some n')
  (h1:putF σv id none=some σ1) (O:w8 σ1 (.one (.cells k ((es.drop j).take n)))=some σ') (U:ReE env t (.own n' 0 n) env'):Sub σ0 ⟨env,σv⟩ ⟨env',σ'⟩:=fun Γ sz φ a w a7 J=>by
 have h2:=A4 h1
 have h3:=B2 hid;have h4:=v7 O
 have aa:((es.drop j).take n).length=n:=by rw[List.length_take,List.length_drop];omega
 subst h2 h3 h4
 generalize ab:(es.drop j).take n=es' at *
 have v:(σv.put id none++[Ent.one (.cells k es')])[((fX σv,[]):Id)]? =some (some (.cells k es')):=by rw[c9.get_right (by simp)];simp[c9.at_eq,c9.at,Ent.sub]
 obtain⟨u0,av,B⟩:=J.env t _ hx
 have ho:=F8 B F
 have ac:∀(φ':Phi) (hk:Kept w w φ φ' σv (σv.put id none++[.one (.cells k es')]) (Al Γ.N φ σv) (Al Γ.N φ' (σv.put id none++[.one (.cells k es')]))) (hs:Rs Γ (σv.put id none++[.one (.cells k es')]) φ' w) (u:U3 w (φ' (fX σv,[])) k (fX es') 0 n u0),
   R Γ sz ⟨env',σv.put id none++[.one (.cells k es')]⟩ φ' a w:=fun φ' hk hs u=>by
  have ai:=J.of hk hs
  refine {toRs:=hs,defers:=ai.defers,asize:=J.asize,env:=fun t' v' ay=> ?_}
  rcases U.get t' v' ay with⟨rfl,rfl⟩|h
  ·refine⟨u0,av,.c (.own (by simp) (by cases B with|c g2=>exact g2.one) fun k' a8 q=> ?_)⟩
   rw[v] at q
   cases q
   exact u
  ·obtain⟨u1,g1,g2⟩:=ai.env t' v' h
   exact⟨u1,g1,g2⟩
 rcases ho with⟨p1,p2,p3,p4⟩|⟨b,base,cap,arr,ety,ad,hp,a2,a3,E,al,a9,z,bb⟩
 ·have an:es'=[]:=eJ (by rw[aa,p4])
  subst an
  have hK:=J.toRs.kill id
  have hV:=hK.2.virt k
  rw[c9.length_put] at hV
  refine⟨fun i=>if i=(fX σv,[]) then none else φ i,?_⟩
  exact ac _ (Kept.trans (fp _) hK.1 hV.1) hV.2 (.inl ⟨by simp,p2,rfl,p4⟩)
 ·obtain⟨a4,a5,q1,q2,q3,q4⟩:=G6 J F hp
  rw[z] at q1;cases q1
  have hO:=Rs.reown (k:=k) (base':=base+j * k) (es':=es') (arr':=arr) J.toRs F hp z (fun i e q=>by
    rw[<- ab,eO] at q;split at q;rw[eP] at q;exact q3 _ e q;cases q) (by
    rw[aa];have:(j+cap) * k=j * k+cap * k:=fh ..;have:n * k<=cap * k:=fJ k E;omega) (fun i e o x q hx=>by
    rw[<- ab,eO] at q;split at q;rw[eP] at q;obtain⟨u2,g1,g2⟩:=q4 _ e o x q hx;refine⟨u2,?_,g2⟩;rw[<- g1,fh];congr 1;omega;cases q)
  rw[Go.setRow_self w b arr ety (0,0) z] at hO
  refine⟨fun i=>if i=(fX σv,[]) then some (b,base+j * k) else φ i,?_⟩
  refine ac _ hO.1 hO.2 (.inr ⟨b,base+j * k,cap,arr,ety,ad,by simp,a2,fun hc=> ?_,E,al,by omega,z,?_⟩)
  ·rw[a3 hc,fI,fq]
  ·have:(j+cap) * k=j * k+cap * k:=fh ..
   rw[fa];omega
def Sub.reownP{h r m:Nat}{l l':Li}{z:Id}{σ1:c9}{hi:Int}(t:Nat)(hl:subL l 0 hi=some l')(hx:lookup t env=some (.c (.own (h,[]) 0 m)))(B:m=fX l')(u:σv[((h,[]):Id)]? =some (some (prow r l)))(E:eU (fX σ0) h=true)(hid:newF σv=some z)
  (h1:putF σv (h,[]) none=some σ1) (j:w8 σ1 (.one (prow r l'))=some σ') (q:ReE env t (.own z 0 m) env'):Sub σ0 ⟨env,σv⟩ ⟨env',σ'⟩:=by
 have v:fX l'<=fX l/\l'=l.take (fX l'):=by unfold subL at hl;split at hl;cases hl;refine⟨by simp;omega,?_⟩;simp;cases hl
 have e:(prow r l')=.cells 1 (((l.map fun i=>[C.ptr (r,[i.toNat]) 0 0]).drop 0).take m):=by rw[fi,<- fE,B,<- v.2];rfl
 rw[e] at j
 exact Sub.reownC t hx u (by simp;omega) E hid h1 j q
/-! ### Places told by their bounds alone -/
def H1{β:Type}{l:List β}{i:Int}{a:β}(h:ix l i=some a):0<=i/\i.toNat<fX l:=⟨(V3 h).1,q7 h⟩
def S.idxPb{x y:Od}{t e:Ti}{bytes n h r:Nat}{z:Vl}{kk:IntKind}{i:Int}{l:Li}[ht:TyD P t (.slice e)][hs:TyS P e 1 bytes z]
  (hx:ev env x=some (.c (.own (h,[]) 0 n))) (j:σv[((h,[]):Id)]? =some (some (prow r l))) (u:n=fX l) (v:0<=i/\i.toNat<fX l) (hy:ev env y=some (.c (.imm (.val (.int kk i))))) (hd:j6 sz dst=true)
  (q:AOps P σ0 sz ops Q rest (St.mk (putE env dst (.c (.ptr (h,[]) i.toNat 0))) σv)):AOps P σ0 sz ops Q (⟨dst,.indexAddr t x y,ty,pos,after,none⟩::rest) (St.mk env σv):=
 .indexAddrOwn hx j hy (by omega) hd (by rw[fa];exact q)
def pool_ex{α:Type}{σ:c9}{r size:Nat}{f:α->List I}{E:List α}{i:Int}(h:σ[r]? =some (pool size f E))(c:i.toNat<fX E):∃e:α,σ[((r,[i.toNat]):Id)]? =some (some (.cells size [(f e).map .imm])):=
 ⟨E[i.toNat],by rw[w7 h,ay2 (eT c)];rfl⟩
def S.nilCheckE{α:Type}{size r o:Nat}{f:α->List I}{E:List α}{i:Int}{x:Od}(hx:ev env x=some (.c (.ptr (r,[i.toNat]) 0 o)))(j:σv[r]? =some (pool size f E))(q:i.toNat<fX E)(hd:j6 sz dst=true)
  (h:AOps P σ0 sz ops Q rest (St.mk (putE env dst (.c (.ptr (r,[i.toNat]) 0 o))) σv)):AOps P σ0 sz ops Q (⟨dst,.nilCheck x,ty,pos,after,none⟩::rest) (St.mk env σv):=by
 obtain⟨e,u⟩:=pool_ex j q
 exact AOps.nilCheck hx u hd h
def S.fieldE{α:Type}{size r g off u j bytes:Nat}{f:α->List I}{E:List α}{i:Int}{x:Od}{t:Ti}{z:Vl}[hf:FieldC P t g off u][hs:TyS P u j bytes z](hz:eG j 0=false)
  (hx:ev env x=some (.c (.ptr (r,[i.toNat]) 0 0))) (q:σv[r]? =some (pool size f E)) (v:i.toNat<fX E) (hd:j6 sz dst=true)
  (h:AOps P σ0 sz ops Q rest (St.mk (putE env dst (.c (.ptr (r,[i.toNat]) 0 off))) σv)):AOps P σ0 sz ops Q (⟨dst,.fieldAddr t x g,ty,pos,after,none⟩::rest) (St.mk env σv):=by
 obtain⟨e,B⟩:=pool_ex q v
 exact W.fieldAddr hz hx B hd h
def N8{A B:Type}(l:List A)(l':List B):Option Unit:=if (fX l)=fX l' then some () else none
def ae6{A B:Type}{l:List A}{l':List B}{u:Unit}(h:N8 l l'=some u):fX l=fX l':=by unfold N8 at h;split at h;assumption;cases h
def Sub.virtP(r:Nat){b:Id}{n kb o:Nat}{cs c:List C}{σ1:c9}(h:σv[b]? =some (some (.cells kb [cs])))(j:cs[o]? =some (.imm (.val (.slice none 0 0))))(q:newF σv=some (n,[]))(h1:w8 σv (.one (prow r []))=some σ1)
  (hs:setF cs o (.own (n,[]) 0 ([]:Li).length)=some c) (e:putF σ1 b (some (.cells kb [c]))=some σ'):Sub σ0 ⟨env,σv⟩ ⟨env,σ'⟩:=
 Sub.virtB (α:=Int) 1 (fun _=>[]) h j q h1 hs e
def AWP.virtP{c:Code}(r:Nat){b:Id}{n kb o:Nat}{cs e:List C}{σ1:c9}(q:σv[b]? =some (some (.cells kb [cs])))(u:cs[o]? =some (.imm (.val (.slice none 0 0))))(v:newF σv=some (n,[]))(h1:w8 σv (.one (prow r []))=some σ1)
  (hs:setF cs o (.own (n,[]) 0 ([]:Li).length)=some e) (j:putF σ1 b (some (.cells kb [e]))=some σ') (h:AWP P σ0 sz c Q (St.mk env σ')):AWP P σ0 sz c Q (St.mk env σv):=AWP.sub (Sub.virtP r q u v h1 hs j) h
end
end Ab
end
section
namespace Ab
open Go
section
variable {K α:Type}[DecidableEq K]
def posM:List (K×List α)->K->Nat
 |[],_=>0
 |p::r,k=>if k=p.1 then 0 else posM r k+1
def rowM(m:List (K×List α))(k:K):List α:=(mget m k).getD []
def rowC(r:Nat)(m:List (K×List α))(k:K):C:=match mget m k with
 |some row=>.own (r,[posM m k]) 0 (fX row)
 |none=>.imm (.val (.slice none 0 0))
def W4(k:K):∀m:List (K×List α),(mget m k=none/\posM m k=fX m/\∀v,mset m k v=m++[(k,v)])\/∃row,mget m k=some row/\m[posM m k]? =some (k,row)/\∀v,mset m k v=m.set (posM m k) (k,v)
 |[]=>.inl ⟨rfl,rfl,fun v=>rfl⟩
 |p::m=>by by_cases c:k=p.1;exact .inr ⟨p.2,by simp[mget,c],by simp[posM,c],fun v=>by simp[mset,posM,c]⟩;rcases W4 k m with⟨h1,h2,e⟩|⟨row,h1,h2,e⟩;exact .inl ⟨by simp[mget,c,h1],by simp[posM,c,h2],fun v=>by simp[mset,c,e]⟩;exact .inr ⟨row,by simp[mget,c,h1],by simpa[posM,c] using h2,fun v=>by simp[mset,posM,c,e]⟩
def Q9(r:Nat)(m:List (K×List α)):List C:=m.mapIdx fun i p=>.own (r,[i]) 0 p.2.length
def mmap(r k:Nat)(fk:K->Vl)(f:α->List I)(m:List (K×List α)):Ent:=.node (some (.obj (W0 fk (m.map (·.1))) (Q9 r m))) (m.map fun p=>.one (vec k f p.2))
def mmapD(r k:Nat)(fk:K->Vl)(f:α->List I)(m:List (K×List α))(key:K):Ent:=.node (some (.obj (W0 fk (m.map (·.1))) (Q9 r m))) ((m.map fun p=>.one (vec k f p.2)).set (posM m key) .dead)
def ao3(r:Nat)(m:List (K×List α))(key:K)(s n:Nat):List C:=if(mget m key).isSome=true then(Q9 r m).set (posM m key) (.own (s,[]) 0 n) else Q9 r m++[.own (s,[]) 0 n]
def mmapS(r k:Nat)(fk:K->Vl)(f:α->List I)(m:List (K×List α))(key:K)(s n:Nat):Ent:=.node (some (.obj (W0 fk ((mset m key []).map (·.1))) (ao3 r m key s n))) ((m.map fun p=>.one (vec k f p.2)).set (posM m key) .dead)
variable {fk:K->Vl}{f:α->List I}{m:List (K×List α)}{r k:Nat}
def heads_len:(Q9 r m).length=fX m:=by simp[Q9]
def heads_get{i:Nat}{x:C}(h:(Q9 r m)[i]? =some x):∃p,m[i]? =some p/\x=.own (r,[i]) 0 p.2.length:=by simp only[Q9,eC,oM] at h;obtain⟨p,h1,h2⟩:=h;exact⟨p,h1,h2.symm⟩
def mm_sub{q:List Nat}{b:Blk}(h:(mmap r k fk f m).sub q=some b):(q=[]/\b=.obj (W0 fk (m.map (·.1))) (Q9 r m))\/∃i p,q=[i]/\m[i]? =some p/\b=vec k f p.2:=by
 cases q with
 |nil=>exact .inl ⟨rfl,by simpa[mmap,Ent.sub] using h.symm⟩
 |cons i q=>
  simp only[mmap,Ent.sub,lM] at h
  cases hi:m[i]? with
  |none=>simp[hi] at h
  |some p=>
   rw[hi] at h
   cases q with
   |nil=>simp only[eD,Ent.sub,Option.some.injEq] at h;exact .inr ⟨i,p,rfl,hi,h.symm⟩
   |cons=>simp[Ent.sub] at h
def mm_main:(mmap r k fk f m).sub []=some (.obj (W0 fk (m.map (·.1))) (Q9 r m)):=rfl
def mm_row{i:Nat}{p:K×List α}(h:m[i]? =some p):(mmap r k fk f m).sub [i]=some (vec k f p.2):=by simp[mmap,Ent.sub,h]
def heads_ok{n:Nat}(h:eH r n=true):C.okL n (Q9 r m)=true:=by rw[K6,eF];intro x hx;obtain⟨i,hi⟩:=ff hx;obtain⟨p,_,rfl⟩:=heads_get hi;simpa[C.ok] using h
def heads_no{id:Id}(h:id.1 ≠ r):C.noL id (Q9 r m)=true:=by rw[noL_eq,eF];intro x hx;obtain⟨i,hi⟩:=ff hx;obtain⟨p,_,rfl⟩:=heads_get hi;have:idb ((r,[i]):Id) id=false:=E3 (fun e=>h (by rw[<- e]));simp[C.no,this]
def mm_ok{n:Nat}(h:eH r n=true):∀q b,(mmap r k fk f m).sub q=some b->b.ok n=true:=fun q b c=>by rcases mm_sub c with⟨_,rfl⟩|⟨i,p,_,_,rfl⟩;simpa[Blk.ok] using heads_ok h;exact K4
def mm_no{id:Id}(h:id.1 ≠ r):∀q b,(mmap r k fk f m).sub q=some b->b.no id=true:=fun q b c=>by rcases mm_sub c with⟨_,rfl⟩|⟨i,p,_,_,rfl⟩;simpa[Blk.no] using heads_no h;exact Blk.im_no _ _ _
def z7.mmap{id n:Id}{u:Nat}{σ:c9}(h:eG id.1 r=false)(hr:eH r u=true)(j:σ[r]? =some (Ab.mmap r k fk f m)):z7 id n σ u r (Ab.mmap r k fk f m):=by
 have c:id.1 ≠ r:=fun e=>by simp[e] at h
 show ∀(p:List Nat) (b:Blk),(Ab.mmap r k fk f m).sub p=some b->_;intro p b q;have v:mv id n (r,p)=(r,p):=by have:(r,p) ≠ id:=fun e=>c (by rw[<- e]);simp[mv,E3 this]
 rw[v,w7 j,q];exact⟨mm_ok hr p b q,by rw[Blk.ren_no _ (mm_no c p b q)]⟩
def az0{π:Id->Id}{e:Nat}(h:∀q,π (r,q)=(e,q)):C.renL π (Q9 r m)=Q9 e m:=by
 have c:∀(L:List C) (i:Nat),(C.renL π L)[i]? =(L[i]?).map (C.ren π):=fun L=>by
  induction L with
  |nil=>intro i;simp[C.renL]
  |cons x L j=>intro i;cases i with
   |zero=>simp[C.renL]
   |succ i=>simpa[C.renL] using j i
 apply eB;intro i;rw[c];simp only[Q9,eC];cases m[i]? with
 |none=>rfl
 |some p=>simp[C.ren,h]
def EntR.mmap{c n u i j:Nat}{σ:c9}(z:(mvr c n (i,[])).1=j)(hr:eH i u=true)(h:σ[j]? =some (Ab.mmap j k fk f m)):EntR c n σ u i (Ab.mmap i k fk f m):=.any fun p b v=>by
 have e:∀q,mvr c n (i,q)=(j,q):=fun q=>by rw[<- z];rfl
 rw[e,w7 h];refine⟨mm_ok hr p b v,?_⟩;rcases mm_sub v with⟨rfl,rfl⟩|⟨q,E,rfl,B,rfl⟩;rw[mm_main];simp only[Blk.ren,az0 e];rw[mm_row B,F7]
def RenE.mmap{c:Nat}{π:Id->Id}(h:∀q,π (r,q)=(c,q)):RenE π r (Ab.mmap r k fk f m) c (Ab.mmap c k fk f m):=.any (fun p b e=>by
  rcases mm_sub e with⟨rfl,rfl⟩|⟨q,u,rfl,j,rfl⟩;rw[mm_main];simp only[Blk.ren,az0 h];rw[mm_row j,F7]) (fun p b e=>by
  rcases mm_sub e with⟨rfl,rfl⟩|⟨q,u,rfl,j,rfl⟩;exact⟨_,mm_main,by simp only[Blk.ren,az0 h]⟩;exact⟨_,mm_row j,F7.symm⟩)
def FrzB.mmap{id:Id}{X:C->C->Prop}(h:eG id.1 r=false):FrzB id X (Ab.mmap r k fk f m) (Ab.mmap r k fk f m):=by
 have c:id.1 ≠ r:=fun e=>by simp[e] at h
 show _=_/\_;exact⟨rfl,fun p b h=>mm_no c p b h⟩
end
section
variable {P:Program}{σ0:c9}{sz:Nat}{Q:Post}{env env':Env}{σv σ':c9}{ops:Array Oper}{rest:List Oper}{dst:Option Nat}{ty:Ti}{pos:String}{after:Array Edge}
variable {K α:Type}[DecidableEq K]{fk:K->Vl}{d:TypeDesc}{f:α->List I}{m:List (K×List α)}{r k:Nat}
def find_pos(hk:KeyT d fk)(key:K):∀(m:List (K×List α)) (l:List MapEntry) (i:Nat),l.map (·.key)=(m.map (·.1)).map fk->
  (mget m key=none/\Instr.findNow d (fk key) l i=some none)\/∃row e,mget m key=some row/\m[posM m key]? =some (key,row)/\l[posM m key]? =some e/\e.key=fk key/\Instr.findNow d (fk key) l i=some (some (i+posM m key,e.val))
 |[],[],i,_=>.inl ⟨rfl,rfl⟩
 |[],_::_,i,h=>by simp at h
 |_::_,[],i,h=>by simp at h
 |p::m,e::l,i,h=>by
  simp only[fF,List.cons.injEq] at h;obtain⟨h1,u⟩:=h;obtain⟨r,hr,j⟩:∃r,Instr.sameNow d (fk key) e.key=some r/\(r=true↔fk key=e.key):=Go.MapKept.sameNow_of_keys (hk.key key) (by rw[h1];exact hk.key p.1);by_cases c:key=p.1;have:r=true:=j.2 (by rw[h1,c]);subst this;exact .inr ⟨p.2,e,by simp[mget,c],by simp[posM,c],by simp[posM,c],by rw[h1,c],by subst c;simp[Instr.findNow,hr,posM]⟩;have:r=false:=by
   cases r with
   |false=>rfl
   |true=>exact absurd (hk.inj ((j.1 rfl).trans h1)) c
  subst this;rcases find_pos hk key m l (i+1) u with⟨g1,q⟩|⟨row,e',g1,q,v,z,B⟩;exact .inl ⟨by simp[mget,c,g1],by simp[Instr.findNow,hr,q]⟩;exact .inr ⟨row,e',by simp[mget,c,g1],by simpa[posM,c] using q,by simpa[posM,c] using v,z,by simp[Instr.findNow,hr,B,posM,c];omega⟩
def mm_rowAt(h:σv[r]? =some (mmap r k fk f m)){key:K}{row:List α}(c:mget m key=some row):σv[((r,[posM m key]):Id)]? =some (some (vec k f row)):=by rcases W4 key m with⟨h1,_⟩|⟨e,h1,h2,_⟩;rw[h1] at c;cases c;rw[h1] at c;cases c;rw[w7 h,mm_row h2]
def mm_get(h:σv[r]? =some (mmap r k fk f m)){key:K}{i:Int}{a:α}(c:ix (rowM m key) i=some a):σv[((r,[posM m key]):Id)]? =some (some (vec k f (rowM m key))):=by
 unfold rowM at c ⊢;cases e:mget m key with
 |none=>rw[e] at c;simp[ix] at c
 |some row=>rw[fG];exact mm_rowAt h e
def snocF_all{β:Type}:∀(l:List β) (x:β),w8 l x=some (l++[x])
 |[],x=>rfl
 |a::l,x=>by simp[w8,snocF_all l x]
def W.makeMapM{t:Ti}(r k:Nat)(fk:K->Vl)(f:α->List I)(hid:newF σv=some (r,[]))(e:w8 σv (mmap r k fk f ([]:List (K×List α)))=some σ')(hd:j6 sz dst=true)
  (h:AOps P σ0 sz ops Q rest (St.mk (putE env dst (.c (.map (r,[])))) σ')):AOps P σ0 sz ops Q (⟨dst,.makeMap t none,ty,pos,after,none⟩::rest) (St.mk env σv):=by
 have h2:=B2 hid;have u:=v7 e
 cases h2
 subst u
 have j:∀i:Id,(σv++[Ent.one (pmap 0 fk ([]:List (K×Int)))])[i]? =(σv++[mmap (fX σv) k fk f ([]:List (K×List α))])[i]? :=fun i=>by
  rcases eX i.1 (fX σv) with hl|hl;rw[c9.get_left hl,c9.get_left hl];rw[c9.get_right hl,c9.get_right hl];obtain⟨v,q⟩:=i;rw[c9.at_eq,c9.at_eq];simp only[c9.at];cases v - (fX σv) with
  |zero=>cases q<;>rfl
  |succ m=>rfl
 exact W.makeMapP (K:=K) 0 fk hid (snocF_all _ _) hd (AOps.sub (Sub.same (by simp) j) h)
def S.lookupM{x y:Od}{t O B:Ti}{r:Nat}{m:List (K×List α)}{key:K}{size bytes:Nat}{U:Vl}[ht:TyD P t (.map O B)][q:TyD P O d][hs:TyS P B size bytes U](hk:KeyT d fk)(hz:U=.slice none 0 0)
  (hx:ev env x=some (.c (.map (r,[])))) (hy:ev env y=some (.c (.imm (.val (fk key))))) (E:σv[r]? =some (mmap r k fk f m)) (hd:j6 sz dst=true)
  (h:AOps P σ0 sz ops Q rest (St.mk (putE env dst (.c (rowC r m key))) σv)):AOps P σ0 sz ops Q (⟨dst,.lookup t x y false,ty,pos,after,none⟩::rest) (St.mk env σv):=by
 refine .valueW rfl hd _ _ (fun Γ φ a w v=> ?_) h
 have j:σv[((r,[]):Id)]? =some (some (.obj (W0 fk (m.map (·.1))) (Q9 r m))):=by rw[w7 E];rfl
 obtain⟨b,base,hp,hv⟩:=ar7 (k7 v hx) j
 obtain⟨z,_⟩:=D2 (k7 v hy)
 obtain⟨b',o,us,g1,g2,⟨es,c,rfl,g3,g4⟩,g5⟩:=v.st.blk _ _ j
 rw[hp] at g1;cases g1
 unfold rowC
 rcases find_pos hk key m es.toList 0 g3 with⟨q1,F⟩|⟨row,e,q1,q0,q3,q4,F⟩
 ·rw[q1]
  refine⟨.slice none 0 0,w,φ,?_,.c (.imm (.val rfl)),v⟩
  simp[execOp,hv,z,Instr.lookup,run_underlying ht.h,Go.MapKept.run_getObj_map g2,Go.MapKept.run_checkKey q.h (hk.key key),Go.MapKept.run_findKey q.h F,H4 (t:=B),hz,Result.andThen]
 ·rw[q1]
  obtain⟨u,hu,J⟩:=g5 (posM m key) (.own (r,[posM m key]) 0 (fX row)) (by simp[Q9,eC,q0])
  have N:u=e.val:=by rw[<- g4,lM,q3] at hu;simpa using hu.symm
  subst N
  refine⟨e.val,w,φ,?_,.c J,v⟩
  simp[execOp,hv,z,Instr.lookup,run_underlying ht.h,Go.MapKept.run_getObj_map g2,Go.MapKept.run_checkKey q.h (hk.key key),Go.MapKept.run_findKey q.h F,Result.andThen]
def S.appendMM{new l':List α}{x y:Od}{t e:Ti}{bytes:Nat}{n:Id}{z:Vl}{v:T}{key:K}{σ1:c9}[ht:TyD P t (.slice e)][hs:TyS P e k bytes z]
  (ha:app bytes (rowM m key) new=some l') (E:(z.cells.size==k)=true) (F:eH 0 bytes=true) (hx:ev env x=some (.c (rowC r m key))) (j:σv[r]? =some (mmap r k fk f m)) (hy:ev env y=some v) (u:SrcF σv k f v new) (hn:newF σv=some n) (h1:setF σv r (mmapD r k fk f m key)=some σ1) (J:w8 σ1 (.one (vec k f l'))=some σ') (hd:j6 sz dst=true)
  (h:AOps P σ0 sz ops Q rest (St.mk (putE env dst (.c (.own n 0 (fX l')))) σ')):
  AOps P σ0 sz ops Q (⟨dst,.call ⟨.builtin .append,#[x,y],#[t,t]⟩,ty,pos,after,none⟩::rest) (St.mk env σv):=by
 obtain⟨N,rfl⟩:=aq8 ha
 have h2:=(H7 h1).1
 have h3:=B2 hn;have h4:=v7 J
 subst h2 h3 h4
 unfold rowC at hx
 unfold rowM at N h
 rcases W4 key m with⟨q1,O,_⟩|⟨row,q1,O,_⟩
 ·rw[q1] at hx
  rw[q1,gA,List.nil_append] at h
  rw[q1,gA] at N
  refine AOps.appendNil (new:=(new.map f).map (·.map .imm)) E F hx hy u.src (by simpa using N) hd ?_
  rw[show((new.map f).map (·.map C.imm)).length=fX new by simp]
  refine AOps.sub (s':=⟨putE env dst (.c (.own (fX σv,[]) 0 (fX new))),σv.set r (mmapD r k fk f m key)++[.one (vec k f new)]⟩) (Sub.same (by simp) fun i=> ?_) h
  have U:∀i:Id,(σv.set r (mmapD r k fk f m key))[i]? =σv[i]? :=fun i=>by rw[set_ent j];split;rename_i hi;obtain⟨i1,q⟩:=i;simp only at hi;subst hi;rw[w7 j];congr 1;simp only[mmapD,mmap];rw[List.set_eq_of_length_le (by rw[O];simp)];rfl
  rcases eX i.1 (fX σv) with hl|hl
  ·rw[c9.get_left hl,c9.get_left (by simpa using hl),U]
  ·rw[c9.get_right hl,c9.get_right (by simpa using hl),lS];rfl
 ·rw[q1] at hx
  rw[q1,fG] at h
  rw[q1,fG] at N
  have B:=mm_rowAt j q1
  refine AOps.append (new:=(new.map f).map (·.map .imm)) E F hx B hy u.src (by simpa using N) hd ?_
  have e1:(((((row.map f).map (·.map C.imm)).drop 0).take (fX row))++(new.map f).map (·.map C.imm))=((row++new).map f).map (·.map C.imm):=by rw[fi,eK (by simp)];simp
  have e2:fX row+((new.map f).map (·.map C.imm)).length=(row++new).length:=by simp
  rw[e1,e2]
  refine AOps.sub (s':=⟨putE env dst (.c (.own (fX σv,[]) 0 (row++new).length)),σv.set r (mmapD r k fk f m key)++[.one (vec k f (row++new))]⟩) (Sub.same (by simp) fun i=> ?_) h
  have aa:∀i:Id,(σv.put (r,[posM m key]) none)[i]? =(σv.set r (mmapD r k fk f m key))[i]? :=fun i=>by
   rw[set_ent j];by_cases hi:i=(r,[posM m key]);subst hi;rw[c9.get_put_eq B,if_pos rfl];have:=(lG.1 O).1;simp[mmapD,Ent.sub,this];rw[c9.get_put_ne hi];by_cases hr:i.1=r;obtain⟨i1,q⟩:=i;simp only at hr;subst hr;rw[if_pos rfl,w7 j];congr 1;cases q with
   |nil=>rfl
   |cons a q=>
    simp only[mmap,mmapD,Ent.sub,eA,eW,lM]
    by_cases ab:posM m key=a
    ·subst ab
     cases q with
     |nil=>exact absurd rfl hi
     |cons b q=>
      rw[if_pos rfl,if_pos (lG.1 O).1,O]
      rfl
    ·rw[if_neg ab]
   rw[if_neg hr]
  rcases eX i.1 (fX σv) with hl|hl
  ·rw[c9.get_left (by simpa using hl),c9.get_left (by simpa using hl),aa]
  ·rw[c9.get_right (by simpa using hl),c9.get_right (by simpa using hl),c9.length_put,lS];rfl
def S.updateMM{x y v:Od}{t kt vt:Ti}{s n:Nat}{key:K}[ht:TyD P t (.map kt vt)][z:TyD P kt d](hk:KeyT d fk)
  (hx:ev env x=some (.c (.map (r,[])))) (hy:ev env y=some (.c (.imm (.val (fk key))))) (hv:ev env v=some (.c (.own (s,[]) 0 n))) (J:σv[r]? =some (mmapD r k fk f m key)) (E:setF σv r (mmapS r k fk f m key s n)=some σ')
  (h:AOps P σ0 sz ops Q rest (St.mk env σ')):AOps P σ0 sz ops Q (⟨none,.mapUpdate t x y v,ty,pos,after,none⟩::rest) (St.mk env σv):=by
 have aa:=H7 E
 have j:σv[((r,[]):Id)]? =some (some (.obj (W0 fk (m.map (·.1))) (Q9 r m))):=by rw[w7 J];rfl
 refine .skipW rfl rfl (σv.put (r,[]) (some (.obj (W0 fk ((mset m key []).map (·.1))) (ao3 r m key s n)))) (fun Γ φ ac w F=> ?_) (AOps.sub (s':=⟨env,σ'⟩) (Sub.same (by rw[aa.1];simp) fun i=> ?_) h)
 ·obtain⟨b,base,hp,e1⟩:=ar7 (k7 F hx) j
  obtain⟨e2,_⟩:=D2 (k7 F hy)
  have ab:=k7 F hv
  generalize e3:ac.eval v=u at ab
  have ad:RelC w φ σv (Al Γ.N φ σv) (.own (s,[]) 0 n) u:=by cases ab with|c h=>exact h
  obtain⟨b',o,us,g1,g2,⟨es,c,rfl,g3,g4⟩,g5⟩:=F.st.blk _ _ j
  rw[hp] at g1;cases g1
  have O:fX us=fX m:=by rw[<- g4];have:=congrArg fX g3;simpa using this
  rcases find_pos hk key m es.toList 0 g3 with⟨q1,q2⟩|⟨row,e,q1,q0,q3,q4,q2⟩
  ·have U:mset m key ([]:List α)=m++[(key,[])]:=by rcases W4 key m with⟨_,_,h3⟩|⟨row,h1,_⟩;exact h3 _;rw[q1] at h1;cases h1
   have hW:=Rs.writeB (q1:=W0 fk ((mset m key []).map (·.1))) (cs1:=ao3 r m key s n) (us1:=us++[u]) (o1:=.map (es.push {key:=fk key,val:=u,born:=c}) (c+1)) F.toRs j hp g2
    ⟨_,_,rfl,by rw[U];simp[g3],by simp[g4]⟩ (fun i x hx=>by
     simp only[ao3,q1,gj,gl,if_false] at hx;rw[fe] at hx;split at hx;obtain⟨u',h1,h2⟩:=g5 i x hx;exact⟨u',by rw[eQ (lG.1 h1).1];exact h1,h2⟩;rename_i ai;rw[heads_len] at hx ai;have h0:i=fX m:=by have:=(lG.1 hx).1;simp at this;omega
     subst h0;simp at hx;subst hx;exact⟨u,by rw[<- O];simp,ad⟩)
   refine⟨_,φ,?_,F.of hW.1 hW.2⟩
   simp[execOp,e1,e2,e3,Instr.mapUpdate,run_underlying ht.h,Go.MapKept.run_getObj_map g2,Go.MapKept.run_checkKey z.h (hk.key key),Go.MapKept.run_findKey z.h q2,Go.MapKept.run_setObj_map _ g2,Result.andThen]
  ·have U:mset m key ([]:List α)=m.set (posM m key) (key,[]):=by rcases W4 key m with⟨h1,_⟩|⟨row,_,_,h3⟩;rw[q1] at h1;cases h1;exact h3 _
   have hj:es[posM m key]? =some e:=by simpa using q3
   have B:=(lG.1 q0).1
   have hW:=Rs.writeB (q1:=W0 fk ((mset m key []).map (·.1))) (cs1:=ao3 r m key s n) (us1:=us.set (posM m key) u) (o1:=.map (es.modify (posM m key) fun e=>{e with key:=fk key,val:=u}) c) F.toRs j hp g2
    ⟨_,_,rfl,by
     rw[U,eS];apply eB;intro i;have hg:=congrArg (fun l=>l[i]?) g3;simp only[lM,fg,eA] at hg ⊢;by_cases hi:posM m key=i;subst hi;simp[q3,B];simpa[hi] using hg,by
     rw[eS];apply eB;intro i;have hg:=congrArg (fun l=>l[i]?) g4;simp only[lM,fg,eA] at hg ⊢;by_cases hi:posM m key=i;subst hi;simp[q3,O,B];simpa[hi] using hg⟩ (fun i x hx=>by
     simp only[ao3,q1,gm,if_true] at hx;rw[eA] at hx;by_cases hi:posM m key=i;subst hi;simp[heads_len,B] at hx;subst hx;exact⟨u,by simp[O,B],ad⟩;rw[if_neg hi] at hx;obtain⟨u',h1,h2⟩:=g5 i x hx;exact⟨u',by rw[eA,if_neg hi];exact h1,h2⟩)
   refine⟨_,φ,?_,F.of hW.1 hW.2⟩
   simp[execOp,e1,e2,e3,Instr.mapUpdate,run_underlying ht.h,Go.MapKept.run_getObj_map g2,Go.MapKept.run_checkKey z.h (hk.key key),Go.MapKept.run_findKey z.h q2,hj,q4,Go.MapKept.run_keyThatStays (hk.key key),Go.MapKept.run_setObj_map _ g2,Result.andThen]
 ·rw[setF_at J E]
  by_cases hi:i=(r,[])
  ·subst hi
   rw[c9.get_put_eq j,if_pos rfl];rfl
  ·rw[c9.get_put_ne hi]
   by_cases hr:i.1=r
   ·obtain⟨i1,q⟩:=i
    simp only at hr
    subst hr
    rw[if_pos rfl,w7 J]
    cases q with
    |nil=>exact absurd rfl hi
    |cons a q=>rfl
   ·rw[if_neg hr]
def z7.putMM{l:List α}{F s n:Nat}{key:K}{σ:c9}(hr:eH r F=true)(z:σ[r]? =some (mmapS r k fk f m key s n))(N:n=fX l)(hs:σ[((s,[]):Id)]? =some (some (vec k f l))):z7 (r,[posM m key]) (s,[]) σ F r (Ab.mmap r k fk f (mset m key l)):=by
 subst N;have v:∀q,q ≠ posM m key->mv (r,[posM m key]) (s,[]) (r,[q])=(r,[q]):=fun q O=>by
  have:((r,[q]):Id) ≠ (r,[posM m key]):=fun e=>by cases e;exact O rfl
  simp[mv,E3 this]
 have c:mv (r,[posM m key]) (s,[]) (r,[posM m key])=(s,[]):=by simp[mv,G8.2 rfl]
 have B:mv (r,[posM m key]) (s,[]) (r,[])=(r,[]):=mv_root;show ∀(p:List Nat) (b:Blk),(Ab.mmap r k fk f (mset m key l)).sub p=some b->_;intro p b J;refine⟨mm_ok hr p b J,?_⟩;rcases mm_sub J with⟨rfl,rfl⟩|⟨i,p',rfl,hi,rfl⟩;rw[B,w7 z];show some (some (Blk.obj (W0 fk ((mset m key []).map (·.1))) (ao3 r m key s (fX l))))=_;congr 2;simp only[Blk.ren];have E:(mset m key l).map (·.1)=(mset m key []).map (·.1):=by rcases W4 key m with⟨_,_,h⟩|⟨_,_,_,h⟩;rw[h,h];simp;rw[h,h];simp[fB]
 rw[E];congr 1;have u:∀(L:List C) (i:Nat),(C.renL (mv (r,[posM m key]) (s,[])) L)[i]? =(L[i]?).map (C.ren (mv (r,[posM m key]) (s,[]))):=fun L=>by
  induction L with
  |nil=>intro i;simp[C.renL]
  |cons x L U=>intro i;cases i with
   |zero=>simp[C.renL]
   |succ i=>simpa[C.renL] using U i
 apply eB;intro i;rw[u];simp only[ao3,Q9];rcases W4 key m with⟨h1,h2,h⟩|⟨row,h1,h2,h⟩;rw[h1,h];simp only[gj,gl,if_false,List.mapIdx_append,eW];rcases eX i (fX m) with hl|hl;rw[eQ (by simpa using hl),eQ (by simpa using hl),eC];cases hm:m[i]? with
 |none=>rfl
 |some p=>simp[C.ren,v i (by omega)]
 rw[eY (by simpa using hl),eY (by simpa using hl)];simp only[gp];cases hd:i - (fX m) with
 |zero=>
  have:i=fX m:=by omega
  simp[C.ren,h2,mv,G8.2 rfl]
 |succ j=>simp
 have hl:=(lG.1 h2).1;rw[h1,h];simp only[gm,if_true];by_cases hi:posM m key=i;subst hi;simp[eC,eA,hl,C.ren,c];rw[eA,if_neg hi,eC,eC,eA,if_neg hi];cases hm:m[i]? with
 |none=>rfl
 |some p=>simp[C.ren,v i (fun e=>hi e.symm)]
 rw[F7];rcases W4 key m with⟨h1,h2,h⟩|⟨row,h1,h2,h⟩;rw[h,fe] at hi;split at hi;rename_i hl;rw[v i (by omega),w7 z];simp only[mmapS,Ent.sub,eA,lM];rw[if_neg (by omega),hi];rfl;rename_i hl;have:i=fX m:=by have:=(lG.1 hi).1;simp at this;omega
 subst this;simp at hi;subst hi;rw[<- h2,c,hs];have hl:=(lG.1 h2).1;rw[h,eA] at hi;by_cases e:posM m key=i;subst e;rw[if_pos rfl,if_pos hl] at hi;cases hi;rw[c,hs];rw[if_neg e] at hi;rw[v i (fun x=>e x.symm),w7 z];simp only[mmapS,Ent.sub,eA,lM];rw[if_neg e,hi];rfl
def S.lenMM{x:Od}{t e:Ti}{key:K}[ht:TyD P t (.slice e)](hx:ev env x=some (.c (rowC r m key)))(j:σv[r]? =some (mmap r k fk f m))(hd:j6 sz dst=true)
  (h:(rowM m key).length<=9223372036854775807->AOps P σ0 sz ops Q rest (St.mk (putE env dst (.c (int ((rowM m key).length:Int)))) σv)):AOps P σ0 sz ops Q (⟨dst,.call ⟨.builtin .len,#[x],#[t]⟩,ty,pos,after,none⟩::rest) (St.mk env σv):=by
 unfold rowC at hx
 unfold rowM at h
 rcases W4 key m with⟨q1,_⟩|⟨row,q1,_⟩
 ·rw[q1] at hx
  rw[q1] at h
  exact AOps.lenNil hx hd (h (by simp))
 ·rw[q1] at hx
  rw[q1] at h
  exact AOps.lenOwnB hx (mm_rowAt j q1) hd h
def al4{n:Nat}{key:K}(h:eH r n=true):(T.c (rowC r m key)).ok n=true:=by simp only[T.ok];unfold rowC;split;simpa[C.ok] using h;rfl
def rowC_mv{π:Id->Id}{o:Option T}{key:K}(h:∀i,π (r,[i])=(r,[i]))(e:o=some (.c (rowC r m key))):o=some ((T.c (rowC r m key)).ren π):=by rw[e];unfold rowC;split;simp only[T.ren,C.ren,h];rfl
def S.idxMM{x y:Od}{t e:Ti}{bytes:Nat}{z:Vl}{kk:IntKind}{i:Int}{a:α}{key:K}[ht:TyD P t (.slice e)][hs:TyS P e k bytes z]
  (q:ix (rowM m key) i=some a) (hx:ev env x=some (.c (rowC r m key))) (u:σv[r]? =some (mmap r k fk f m)) (hy:ev env y=some (.c (.imm (.val (.int kk i))))) (hd:j6 sz dst=true)
  (h:AOps P σ0 sz ops Q rest (St.mk (putE env dst (.c (.ptr (r,[posM m key]) i.toNat 0))) σv)):AOps P σ0 sz ops Q (⟨dst,.indexAddr t x y,ty,pos,after,none⟩::rest) (St.mk env σv):=by
 have j:=mm_get u q
 unfold rowC at hx
 unfold rowM at q j
 cases v:mget m key with
 |none=>rw[v] at q;simp[ix] at q
 |some row=>
  rw[v] at hx q j
  simp only[fG] at q j
  exact .indexAddrOwn hx j hy (by have:=V3 q;have:=q7 q;omega) hd (by rw[fa];exact h)
end
end Ab
end
section
namespace Ab
open Go Go.Sort
abbrev U32:Type:={x:Int // 0<=x/\x<4294967296}
noncomputable def sortFU(c:Int->Int->Option Int)(l:Li):Option Li:=open Classical in
 if h:∀x ∈ l,0<=x/\x<4294967296 then(ak8 (α:=U32) (fun a b=>c a.1 b.1) (l.attach.map fun x=>⟨x.1,h x.1 x.2⟩)).map fun m=>m.map (·.1) else none
def sortFU_get{c:Int->Int->Option Int}{l l':Li}(h:sortFU c l=some l'):∃(k m:List U32),l=k.map (·.1)/\l'=m.map (·.1)/\ak8 (fun a b=>c a.1 b.1) k=some m:=by unfold sortFU at h;split at h;rename_i hr;obtain⟨m,h1,rfl⟩:=oM.1 h;exact⟨_,m,by simp,rfl,h1⟩;cases h
def sortFU_len{c:Int->Int->Option Int}{l l':Li}(h:sortFU c l=some l'):fX l=fX l':=by obtain⟨k,m,rfl,rfl,e⟩:=sortFU_get h;simpa using sortFL_len e
section
variable {P:Program}{σ0:c9}{sz:Nat}{Q:Post}{env:Env}{σv σ':c9}{ops:Array Oper}{rest:List Oper}{dst:Option Nat}{ty:Ti}{pos:String}{after:Array Edge}
def vec_u32(m:List U32):vec 1 (fun a:Int=>[I.val (.int .u32 a)]) (m.map (·.1))=vec 1 (fun a:U32=>[I.val (.int .u32 a.1)]) m:=by
 simp[vec,Function.comp_def]
def S.sortFU{j:Int->Int->Option Int}{x:Od}{z:List Od}{ats:Array Ti}{fs g:FuncId}{id:Id}{n:Nat}{l l':Li}(hs:sortFU j l=some l')
  (q:∀{a b r},j a b=some r->j9 P g [.c (.imm (.val (.int .u32 a))),.c (.imm (.val (.int .u32 b)))] (.c (int r))) (hf:SortFOk P fs) (v:R7 P g) (hx:ev env x=some (.c (.fn fs []))) (B:evs env z=some [.c (.own id 0 n),.c (.fn g [])]) (E:n=fX l) (u:σv[id]? =some (some (vec 1 (fun a:Int=>[I.val (.int .u32 a)]) l)))
  (hd:j6 sz dst=true) (e:putF σv id (some (vec 1 (fun a:Int=>[I.val (.int .u32 a)]) l'))=some σ') (h:AOps P σ0 sz ops Q rest (St.mk (putE env dst (.tup [])) σ')):
  AOps P σ0 sz ops Q (⟨dst,.call ⟨.value x,z.toArray,ats⟩,ty,pos,after,none⟩::rest) (St.mk env σv):=by
 obtain⟨k,m,rfl,rfl,F⟩:=sortFU_get hs
 rw[vec_u32] at u e
 exact S.sortF (α:=U32) (fun a=>.val (.int .u32 a.1)) F rfl (fun {a b r} h=>q h) hf v hx B (by rw[E];simp) u hd e h
end
end Ab
end
section
namespace Ab
open Go Go.Proofs Go.Sort Go.Lib
def rev_fn{P:Program}{f:FuncId}(hf:R7 P f)
  (hC:∀(blk off cap:Nat) (zs:Li) (w:World),Holds (Value.int .i64) w blk off zs.toArray->fX zs<=9223372036854775807->Calls P f #[.slice (some ⟨blk,off,none⟩) (fX zs) cap] w fun e w'=>e=.returned (.tuple #[])/\∃n,w'=putRow (Value.int .i64) (Go.Sort.ahead w n) blk off zs.reverse.toArray)
  (hC0:∀(p:Option Addr) (cap:Nat) (w:World),Calls P f #[.slice p 0 cap] w fun e w'=>e=.returned (.tuple #[])/\w'=w)
  {σ:c9} {id:Id} {l:Li} (hσ:σ[id]? =some (some (vec 1 intI l))):
  FnOk P f [.c (.own id 0 (fX l))] σ fun r σ'=>r=.tup []/\(fX σ')=fX σ/\∀i:Id,σ'[i]? =(σ.put id (some (vec 1 intI l.reverse)))[i]? :=by
 refine⟨hf,fun Γ vs hΓ hG hlen hrel=> ?_⟩
 subst hΓ
 match vs,hlen with
 |[u],_=>
 have hu:=F8 (hrel 0 _ u rfl rfl) hσ
 have tupR:∀{w φ σ A},RelT w φ σ A (.tup []) (.tuple #[]):=fun {w φ σ A}=>RelT.tup (ts:=[]) (fun _=>undef) fun i t h=>by simp at h
 rw[P4] at hu
 have empty:∀(p:Option Addr) (cap:Nat),l=[]->Calls P f #[.slice p 0 cap] Γ.w0 fun e w'=>∃v r σ' φ',e=.returned v/\(r=.tup []/\(fX σ')=Γ.σ0.length/\∀i:Id,σ'[i]? =(Γ.σ0.put id (some (vec 1 intI l.reverse)))[i]?)/\RelT w' φ' σ' (Al Γ.N φ' σ') r v/\Rs Γ σ' φ' w':=fun p cap he=>by
  refine(hC0 p cap Γ.w0).mono ?_;rintro e w' ⟨rfl,rfl⟩;refine⟨_,.tup [],Γ.σ0,Γ.φ0,rfl,⟨rfl,rfl,fun i=> ?_⟩,tupR,Rs.refl hG⟩;have:l.reverse=l:=by rw[he];rfl
  rw[this];by_cases hi:i=id;rw[hi,c9.get_put_eq hσ,hσ];rw[c9.get_put_ne hi]
 rcases hu with⟨_,hv,_,h0⟩|⟨b,base,cap,arr,ety,a,hp,hv,ha,hcap,hmax,hjn,hbk,hsz⟩
 ·have he:l=[]:=eJ (by omega)
  rw[hv]
  exact empty none 0 he
 ·rw[hv]
  by_cases hc0:0<cap
  ·have:=ha hc0
   subst this
   simp only[fI,fq]
   have hR:=Rs.refl hG
   rcases hR.st.blk _ _ hσ with⟨h1,_⟩|⟨b',base',arr2,ety2,h1,h2,h3,h4,h5⟩
   ·rw[hp] at h1;cases h1
   ·rw[hp] at h1;cases h1
    rw[hbk] at h2;cases h2
    rw[P4] at h3
    have hcell:∀(j:Nat) (x:Int),l[j]? =some x->arr[base+j]? =some (.int .i64 x):=fun j x hj=>int_cells h5 hj
    have hls:fX l.reverse=fX l:=by simp
    refine(hC b base cap l Γ.w0 (holds_of hbk hcell) (by simp only[maxLen] at hmax;omega)).mono ?_
    rintro e w' ⟨rfl,n,rfl⟩
    have hW:=Rs.write (k:=1) (es':=(l.reverse.map intI).map (·.map C.imm)) (arr':=putCells (Value.int .i64) base l.reverse.toArray arr) hR hσ hp hbk (by rw[P4,P4,hls]) ah1 (fun j e he=>vec_hk he) (by rw[P4];omega)
     (vec_hc fun j x hj=>as7 (by omega) hj)
    rw[putRow_ahead,ap1 hbk]
    refine⟨_,.tup [],_,Γ.φ0,rfl,⟨rfl,?_,fun i=>rfl⟩,tupR,hW.2.ahead n⟩
    rw[c9.length_put]
  ·have he:l=[]:=eJ (by omega)
   have hl0:fX l=0:=by rw[he];rfl
   rw[hl0]
   exact empty (some a) cap he
def RevOk(P:Program)(f:FuncId):Prop:=∀{σ:c9} {id:Id} {l:Li},σ[id]? =some (some (vec 1 intI l))->
  FnOk P f [.c (.own id 0 (fX l))] σ fun r σ'=>r=.tup []/\(fX σ')=fX σ/\∀i:Id,σ'[i]? =(σ.put id (some (vec 1 intI l.reverse)))[i]?
section
variable {P:Program}{σ0:c9}{sz:Nat}{Q:Post}{env:Env}{σv σ':c9}{ops:Array Oper}{rest:List Oper}{dst:Option Nat}{ty:Ti}{pos:String}{after:Array Edge}
def S.rev{x:Od}{q:List Od}{ats:Array Ti}{f:FuncId}{id:Id}{n:Nat}{l:Li}(hf:RevOk P f)(hx:ev env x=some (.c (.fn f [])))(u:evs env q=some [.c (.own id 0 n)])(v:n=fX l)(j:σv[id]? =some (some (vec 1 intI l)))
  (hd:j6 sz dst=true) (e:putF σv id (some (vec 1 intI l.reverse))=some σ') (h:AOps P σ0 sz ops Q rest (St.mk (putE env dst (.tup [])) σ')):
  AOps P σ0 sz ops Q (⟨dst,.call ⟨.value x,q.toArray,ats⟩,ty,pos,after,none⟩::rest) (St.mk env σv):=by
 have h2:=A4 e
 subst h2 v
 refine AOps.callS hx u hd (hf j) ?_
 rintro r σ2 ⟨rfl,hl,z⟩
 refine AOps.sub (s':=⟨putE env dst (.tup []),σv.put id (some (vec 1 intI l.reverse))⟩) ?_ h
 have:=Sub.same (σ0:=σ0) (env:=putE env dst (.tup [])) (σ1:=σ2) (σ2:=σv.put id (some (vec 1 intI l.reverse))) (by rw[c9.length_put,hl]) z
 cases dst<;>exact this
end
end Ab
end
section
namespace Ab
open Go
section
variable {P:Program}{σ0:c9}{sz:Nat}{Q:Post}{env:Env}{σv σ':c9}{ops:Array Oper}{rest:List Oper}{dst:Option Nat}{ty:Ti}{pos:String}{after:Array Edge}
def AOps.eqlNil{x y:Od}{t t' e:Ti}{k:Nat}{es:List (List I)}[ht:TyD P t (.slice e)](hx:ev env x=some (.c (.imm (.sl k es))))(hy:ev env y=some (.c (.imm (.val (.slice none 0 0)))))(hd:j6 sz dst=true)
  (h1:es=[]->AOps P σ0 sz ops Q rest (St.mk (putE env dst (.c (bool true))) σv)) (h2:AOps P σ0 sz ops Q rest (St.mk (putE env dst (.c (bool false))) σv)):
  AOps P σ0 sz ops Q (⟨dst,.binOp .eql t x y t',ty,pos,after,none⟩::rest) (St.mk env σv):=fun Γ φ a w hΓ hR ro=>by
  have hrel:=k7 hR hx
  have hyv:=D8 hR hy
  generalize hu:a.eval x=u at hrel
  cases hrel with|c hrel=>cases hrel with|imm hrel=>
  cases hrel with
  |slNil=>
   have hg:(eqGuard .eql t x y (.slice none 0 0) (.slice none 0 0)).run P w=.ok () w:=rfl
   have hr:(binOp .eql t (.slice none 0 0) (.slice none 0 0)).run P w=.ok (.bool true) w:=by
    show(do pure (Value.bool (<- Op.equal t (.slice none 0 0) (.slice none 0 0)))).run P w=_
    simp[run_equal_slice_nil w t e none 0 0 ht.h]
   have hrun:(execOp a.eval ⟨dst,.binOp .eql t x y t',ty,pos,after,none⟩).run P w=.ok (.value (.bool true)) w:=by simp[execOp,hu,hyv,hg,hr]
   exact Y2 rfl (val_in hrun (h1 rfl Γ φ _ w hΓ (hR.put hd (.c (.imm (.val rfl)))) ro))
  |@sl _ _ ad cap us _ _ _ _ _=>
   have hg:(eqGuard .eql t x y (.slice (some ad) (fX es) cap) (.slice none 0 0)).run P w=.ok () w:=rfl
   have hr:(binOp .eql t (.slice (some ad) (fX es) cap) (.slice none 0 0)).run P w=.ok (.bool false) w:=by
    show(do pure (Value.bool (<- Op.equal t (.slice (some ad) (fX es) cap) (.slice none 0 0)))).run P w=_
    simp[run_equal_slice_nil w t e (some ad) (fX es) cap ht.h]
   have hrun:(execOp a.eval ⟨dst,.binOp .eql t x y t',ty,pos,after,none⟩).run P w=.ok (.value (.bool false)) w:=by simp[execOp,hu,hyv,hg,hr]
   exact Y2 rfl (val_in hrun (h2 Γ φ _ w hΓ (hR.put hd (.c (.imm (.val rfl)))) ro))
end
end Ab
end
section
namespace Ab
open Go Go.Proofs
open Tryz
def C6(s:Li):Option Li:=app 8 [] s
def x6{s r:Li}(h:C6 s=some r):v6 prog 120 [.c (row 1 intI s)] 1 (List.map intI r):=by
 unfold C6 at h;unfold v6;refine FnOk.enter (rs:=[.t 2]) func120 rfl ntmps120 results120 rfl ⟨Y,Y⟩ (by kernel_rfl) rfl ?_;refine AWP.j (AWP.J (AOps.F rfl rfl (AOps.nil (b9 (AWP.j (AWP.j (AWP.J (AOps.v rfl rfl (AOps.eqlNil rfl rfl rfl (fun he=> ?_) ?_)))))))));have hs:s=[]:=by simpa using he
 subst hs;have hr:r=[]:=by have:=aq8 h;simpa using this.2
 subst hr;exact AOps.nil (b9 (AWP.condT rfl (AWP.j (AWP.J (AOps.F rfl rfl (AOps.nil (b9 (AWP.virtV 1 intI 2 rfl rfl rfl (AWP.ret (i9 (Done.ret rfl (Fresh.mk rfl rfl))))))))))));exact AOps.nil (b9 (AWP.ac rfl (AWP.skip (b9 (AWP.j (AWP.J (S.lit (f:=intI) (l:=[]) (ess:=[]) rfl rfl rfl rfl rfl rfl rfl Y rfl rfl rfl (AOps.v rfl rfl (S.append (f:=intI) h rfl rfl rfl rfl rfl rfl .row rfl rfl rfl rfl (AOps.F rfl rfl (AOps.nil (b9 (AWP.ret (Done.ret rfl (Fresh.mk rfl rfl)))))))))))))))
end Ab
end
section
namespace Ab
open Go Go.Proofs
open Tryz
set_option maxHeartbeats 4000000
attribute [local irreducible] AWP AOps thn inB Done j9 v6 Sub
abbrev u64(n:Int):C:=.imm (.val (.int .u64 n))
def and32(n:Nat)(c:n<=4294967295):Go.bits .and .u64 (n:Int) 4294967295=n:=by have h:=bits_and_u64_nat n 4294967295 (by omega) (by omega);rw[show(4294967295:Nat)=2 ^ 32 - 1 from rfl,Nat.and_two_pow_sub_one_eq_mod] at h;rw[show((4294967295:Int))=((2 ^ 32 - 1:Nat):Int) from rfl,h];omega
def small_facts(n:Nat)(hn:n<=4294967295):Go.bits .and .u64 (n:Int) 4294967295=n/\Int.fdiv (n:Int) (2 ^ (min (32:Int).toNat (IntKind.bits .u64)))=0/\IntKind.u64.wrap (1 * (n:Int))=n/\IntKind.u64.wrap (0 * (n:Int))=0:=by refine⟨and32 n hn,?_,?_,?_⟩;show Int.fdiv (n:Int) 4294967296=0;rw[Int.fdiv_eq_ediv_of_nonneg _ (by omega)];omega;simp only[IntKind.wrap,IntKind.bits,IntKind.signed,Bool.false_and];simp;omega;simp[IntKind.wrap,IntKind.bits,IntKind.signed]
def m8(n:Nat)(hn:n<=4294967295):j9 prog 122 [.c (u64 1),.c (u64 n)] (.tup [.c (u64 0),.c (u64 n)]):=by
 obtain⟨f1,f2,f3,f4⟩:=small_facts n hn;unfold j9;refine FnOk.enter (rs:=[.t 4,.t 5]) func122 rfl ntmps122 results122 rfl ⟨Y,Y,Y⟩ (by kernel_rfl) rfl ?_;repeat (first|refine AOps.v rfl rfl ?_|refine AOps.F rfl rfl ?_|refine AOps.nil ?_|refine AWP.j ?_|refine AWP.J ?_|refine b9 ?_|refine AOps.andE (c:=(n:Int)) rfl rfl rfl f1 ?_|refine AOps.andE (c:=1) rfl rfl rfl (by decide) ?_|refine AOps.andE (c:=0) rfl rfl rfl (by decide) ?_|refine AOps.shr (c:=0) rfl rfl rfl (by decide) (by first|exact f2|decide) ?_|refine AOps.mulE (c:=(n:Int)) rfl rfl rfl f3 ?_|refine AOps.mulE (c:=0) rfl rfl rfl (by first|exact f4|decide) ?_|refine AOps.addE (c:=0) rfl rfl rfl (by decide) ?_)
 repeat (first|refine AWP.j ?_|refine AWP.ret ?_|refine i9 ?_|refine n3 ?_|refine AWP.skip ?_|refine b9 ?_|refine g8 ?_|refine AWP.exit ?_|refine o7 ?_|refine l9 ?_|refine J2 rfl ?_)
 exact Done.ret rfl rfl
def s8(n:Nat)(hn:n<=4294967295):j9 prog 80 [.c (u64 1),.c (u64 n)] (.tup [.c (u64 0),.c (u64 n)]):=by
 unfold j9;refine FnOk.enter (rs:=[.t 4,.t 5]) func80 rfl ntmps80 results80 rfl ⟨Y,Y,Y⟩ (by kernel_rfl) rfl ?_;repeat (first|refine AWP.j ?_|refine AWP.z ?_|refine AWP.skip ?_|refine b9 ?_|refine g8 ?_|refine AWP.condT rfl ?_|refine AWP.ac rfl ?_)
 refine AWP.J (AOps.F rfl rfl (AOps.F rfl rfl (AOps.nil ?_)));repeat (first|refine b9 ?_|refine g8 ?_)
 repeat (first|refine AWP.j ?_|refine AWP.z ?_|refine AWP.skip ?_|refine b9 ?_|refine g8 ?_|refine AWP.condT rfl ?_|refine AWP.ac rfl ?_)
 refine AWP.J (AOps.v rfl rfl (AOps.v rfl rfl ?_));first|refine AOps.E rfl rfl rfl rfl (m8 n hn) rfl ?_|refine AOps.E rfl rfl rfl rfl (m8 n hn) rfl ?_|refine AOps.E rfl rfl rfl rfl (m8 n hn) rfl ?_|refine AOps.E rfl rfl rfl rfl (m8 n hn) rfl ?_|refine AOps.E rfl rfl rfl rfl (m8 n hn) rfl ?_|refine AOps.E rfl rfl rfl rfl (m8 n hn) rfl ?_|refine AOps.E rfl rfl rfl rfl (m8 n hn) rfl ?_|refine AOps.E rfl rfl rfl rfl (m8 n hn) rfl ?_|refine AOps.E rfl rfl rfl rfl (m8 n hn) rfl ?_|refine AOps.E rfl rfl rfl rfl (m8 n hn) rfl ?_|refine AOps.E rfl rfl rfl rfl (m8 n hn) rfl ?_|refine AOps.E rfl rfl rfl rfl (m8 n hn) rfl ?_|refine AOps.E rfl rfl rfl rfl (m8 n hn) rfl ?_|refine AOps.E rfl rfl rfl rfl (m8 n hn) rfl ?_|refine AOps.E rfl rfl rfl rfl (m8 n hn) rfl ?_|refine AOps.E rfl rfl rfl rfl (m8 n hn) rfl ?_|refine AOps.E rfl rfl rfl rfl (m8 n hn) rfl ?_|refine AOps.E rfl rfl rfl rfl (m8 n hn) rfl ?_|refine AOps.E rfl rfl rfl rfl (m8 n hn) rfl ?_|refine AOps.E rfl rfl rfl rfl (m8 n hn) rfl ?_|refine AOps.E rfl rfl rfl rfl (m8 n hn) rfl ?_|refine AOps.E rfl rfl rfl rfl (m8 n hn) rfl ?_|refine AOps.E rfl rfl rfl rfl (m8 n hn) rfl ?_|refine AOps.E rfl rfl rfl rfl (m8 n hn) rfl ?_|refine AOps.E rfl rfl rfl rfl (m8 n hn) rfl ?_|refine AOps.E rfl rfl rfl rfl (m8 n hn) rfl ?_|refine AOps.E rfl rfl rfl rfl (m8 n hn) rfl ?_|refine AOps.E rfl rfl rfl rfl (m8 n hn) rfl ?_|refine AOps.E rfl rfl rfl rfl (m8 n hn) rfl ?_|refine AOps.E rfl rfl rfl rfl (m8 n hn) rfl ?_|refine AOps.E rfl rfl rfl rfl (m8 n hn) rfl ?_|refine AOps.E rfl rfl rfl rfl (m8 n hn) rfl ?_|refine AOps.E rfl rfl rfl rfl (m8 n hn) rfl ?_|refine AOps.E rfl rfl rfl rfl (m8 n hn) rfl ?_|refine AOps.E rfl rfl rfl rfl (m8 n hn) rfl ?_|refine AOps.E rfl rfl rfl rfl (m8 n hn) rfl ?_|refine AOps.E rfl rfl rfl rfl (m8 n hn) rfl ?_|refine AOps.E rfl rfl rfl rfl (m8 n hn) rfl ?_|refine AOps.E rfl rfl rfl rfl (m8 n hn) rfl ?_|refine AOps.E rfl rfl rfl rfl (m8 n hn) rfl ?_|refine AOps.E rfl rfl rfl rfl (m8 n hn) rfl ?_|refine AOps.E rfl rfl rfl rfl (m8 n hn) rfl ?_|refine AOps.E rfl rfl rfl rfl (m8 n hn) rfl ?_|refine AOps.E rfl rfl rfl rfl (m8 n hn) rfl ?_|refine AOps.E rfl rfl rfl rfl (m8 n hn) rfl ?_|refine AOps.E rfl rfl rfl rfl (m8 n hn) rfl ?_|refine AOps.E rfl rfl rfl rfl (m8 n hn) rfl ?_|refine AOps.E rfl rfl rfl rfl (m8 n hn) rfl ?_
 refine AOps.v rfl rfl (AOps.extract rfl rfl rfl (AOps.extract rfl rfl rfl (AOps.F rfl rfl (AOps.F rfl rfl (AOps.nil ?_)))));repeat (first|refine b9 ?_|refine g8 ?_)
 repeat (first|refine AWP.j ?_|refine AWP.z ?_|refine AWP.skip ?_|refine b9 ?_|refine g8 ?_|refine AWP.condT rfl ?_|refine AWP.ac rfl ?_)
 refine AWP.J (AOps.v rfl rfl (AOps.v rfl rfl (AOps.F rfl rfl (AOps.F rfl rfl (AOps.nil ?_)))));repeat (first|refine b9 ?_|refine g8 ?_)
 repeat (first|refine AWP.j ?_|refine AWP.ret ?_|refine i9 ?_|refine n3 ?_|refine AWP.skip ?_|refine b9 ?_|refine g8 ?_|refine AWP.exit ?_|refine o7 ?_|refine l9 ?_|refine J2 rfl ?_)
 exact Done.ret rfl rfl
def wrap_facts(n:Nat)(c:n<=4294967295):IntKind.u64.wrap (n:Int)=n/\IntKind.i64.wrap (n:Int)=n:=by refine⟨?_,wrap_i64 (by omega)⟩;simp only[IntKind.wrap,IntKind.bits,IntKind.signed,Bool.false_and];simp;omega
def repC(c:Int)(n i:Nat):List (List C):=(fo n).map fun j=>[int (if j<i then c else 0)]
def rep_first{c:Int}{n:Nat}(h:1<=n):(eM n [C.imm (.val (.int .i64 0))]).take 0++(([c]:Li).map intI|>.map (·.map C.imm)).take 1++(eM n [C.imm (.val (.int .i64 0))]).drop (0+1)=repC c n 1:=by
 apply eB;intro j;simp only[repC,lM];match j with
 |0=>simp[show 0<n by omega]
 |j+1=>
  simp only[List.take_zero,List.nil_append,fF,List.map_nil,List.take_succ_cons,List.take_nil,List.cons_append,fU,eP,eV]
  by_cases e:j+1<n
  ·rw[if_pos (by omega),fM e];simp
  ·rw[if_neg (by omega),eZ (by simp;omega)];rfl
def rep_more{c:Int}{n i m:Nat}(h1:m<=i)(h2:i+m<=n):(repC c n i).take (0+i)++(((repC c n i).drop 0).take i).take m++(repC c n i).drop (0+i+m)=repC c n (i+m):=by
 apply eB;intro j;have len:(repC c n i).length=n:=by simp[repC]
 have h:∀k j,(repC c n k)[j]? =if j<n then some [int (if j<k then c else 0)] else none:=fun k j=>by simp only[repC,lM];by_cases q:j<n;rw[fM q,if_pos q];rfl;rw[eZ (by simp;omega),if_neg q];rfl
 rw[fa,fi,h];rcases eX j i with hl|hl;rw[List.append_assoc,eQ (by simp[len];omega),eO,if_pos hl,h];simp[show j<n by omega,hl,show j<i+m by omega];rcases eX j (i+m) with u|u;rw[eQ (by simp[len];omega),eY (by simp[len];omega),eO,if_pos (by simp[len];omega),eO,if_pos (by simp[len];omega),h];have e:(fW i (repC c n i)).length=i:=by simp[len];omega
 rw[e,if_pos (by omega),if_pos (by omega),if_pos (by omega),if_pos (by omega)];rw[eY (by simp[len];omega),eP,h];have e:(fW i (repC c n i)++fW m (fW i (repC c n i))).length=i+m:=by simp[len];omega
 rw[e,show i+m+(j - (i+m))=j by omega];split;rw[if_neg (by omega),if_neg (by omega)];rfl
def rep_full(c:Int)(n:Nat):Blk.cells 1 (repC c n n)=Blk.im 1 (eM n [.val (.int .i64 c)]):=by rw[Blk.im,repC];congr 1;apply eB;intro j;simp only[lM,eV];by_cases e:j<n;rw[fM e,if_pos e];simp[e];rw[eZ (by simp;omega),if_neg e];rfl
def repeat_ok(c:Int)(n:Nat)(h1:1<=n)(hn:n<=4294967295):v6 prog 51 [.c (ints [c]),.c (int n)] 1 (eM n [.val (.int .i64 c)]):=by
 obtain⟨w1,w2⟩:=wrap_facts n hn;unfold v6;refine FnOk.enter (rs:=[.t 4]) func51 rfl ntmps51 results51 rfl ⟨Y,Y⟩ (by kernel_rfl) rfl ?_;repeat (first|refine AWP.j ?_|refine AWP.z ?_|refine AWP.skip ?_|refine b9 ?_|refine g8 ?_|refine AWP.condT rfl ?_|refine AWP.ac rfl ?_)
 refine AWP.J (AOps.F rfl rfl (AOps.nil ?_));repeat (first|refine b9 ?_|refine g8 ?_)
 have hd:decide ((n:Int)<0)=false:=decide_eq_false (by omega);repeat (first|refine AWP.j ?_|refine AWP.z ?_|refine AWP.skip ?_|refine b9 ?_|refine g8 ?_|refine AWP.condT rfl ?_|refine AWP.ac rfl ?_)
 refine AWP.J (AOps.v rfl rfl (AOps.lss rfl rfl rfl (AOps.nil ?_)));repeat (first|refine b9 ?_|refine g8 ?_)
 (repeat (refine AWP.j ?_));first|refine AWP.condD rfl (fun hc=> ?_) (fun hc=> ?_)|refine AWP.condN rfl (fun hc=> ?_) (fun hc=> ?_)|refine AWP.condE rfl (fun hc=> ?_) (fun hc hc'=> ?_)|refine AWP.condB rfl (fun hc=> ?_) (fun hc=> ?_)|refine AWP.cond rfl (fun hc=> ?_) (fun hc=> ?_)
 omega;repeat (first|refine AWP.skip ?_|refine b9 ?_|refine g8 ?_|refine AWP.condT rfl ?_|refine AWP.ac rfl ?_)
 repeat (first|refine AWP.j ?_|refine AWP.z ?_|refine AWP.skip ?_|refine b9 ?_|refine g8 ?_|refine AWP.condT rfl ?_|refine AWP.ac rfl ?_)
 refine AWP.J (AOps.v rfl rfl ?_);first|refine AOps.lenB rfl rfl (fun _=> ?_)|refine AOps.lenOwnB rfl rfl rfl (fun _=> ?_)|refine AOps.lenNil rfl rfl ?_
 refine AOps.convE (c:=1) rfl rfl (show IntKind.u64.wrap ((1:Nat):Int)=1 by decide) ?_;refine AOps.v rfl rfl (AOps.convE (c:=(n:Int)) rfl rfl w1 ?_);first|refine AOps.E rfl rfl rfl rfl (s8 n hn) rfl ?_|refine AOps.E rfl rfl rfl rfl (s8 n hn) rfl ?_|refine AOps.E rfl rfl rfl rfl (s8 n hn) rfl ?_|refine AOps.E rfl rfl rfl rfl (s8 n hn) rfl ?_|refine AOps.E rfl rfl rfl rfl (s8 n hn) rfl ?_|refine AOps.E rfl rfl rfl rfl (s8 n hn) rfl ?_|refine AOps.E rfl rfl rfl rfl (s8 n hn) rfl ?_|refine AOps.E rfl rfl rfl rfl (s8 n hn) rfl ?_|refine AOps.E rfl rfl rfl rfl (s8 n hn) rfl ?_|refine AOps.E rfl rfl rfl rfl (s8 n hn) rfl ?_|refine AOps.E rfl rfl rfl rfl (s8 n hn) rfl ?_|refine AOps.E rfl rfl rfl rfl (s8 n hn) rfl ?_|refine AOps.E rfl rfl rfl rfl (s8 n hn) rfl ?_|refine AOps.E rfl rfl rfl rfl (s8 n hn) rfl ?_|refine AOps.E rfl rfl rfl rfl (s8 n hn) rfl ?_|refine AOps.E rfl rfl rfl rfl (s8 n hn) rfl ?_|refine AOps.E rfl rfl rfl rfl (s8 n hn) rfl ?_|refine AOps.E rfl rfl rfl rfl (s8 n hn) rfl ?_|refine AOps.E rfl rfl rfl rfl (s8 n hn) rfl ?_|refine AOps.E rfl rfl rfl rfl (s8 n hn) rfl ?_|refine AOps.E rfl rfl rfl rfl (s8 n hn) rfl ?_|refine AOps.E rfl rfl rfl rfl (s8 n hn) rfl ?_|refine AOps.E rfl rfl rfl rfl (s8 n hn) rfl ?_|refine AOps.E rfl rfl rfl rfl (s8 n hn) rfl ?_|refine AOps.E rfl rfl rfl rfl (s8 n hn) rfl ?_|refine AOps.E rfl rfl rfl rfl (s8 n hn) rfl ?_|refine AOps.E rfl rfl rfl rfl (s8 n hn) rfl ?_|refine AOps.E rfl rfl rfl rfl (s8 n hn) rfl ?_|refine AOps.E rfl rfl rfl rfl (s8 n hn) rfl ?_|refine AOps.E rfl rfl rfl rfl (s8 n hn) rfl ?_|refine AOps.E rfl rfl rfl rfl (s8 n hn) rfl ?_|refine AOps.E rfl rfl rfl rfl (s8 n hn) rfl ?_|refine AOps.E rfl rfl rfl rfl (s8 n hn) rfl ?_|refine AOps.E rfl rfl rfl rfl (s8 n hn) rfl ?_|refine AOps.E rfl rfl rfl rfl (s8 n hn) rfl ?_|refine AOps.E rfl rfl rfl rfl (s8 n hn) rfl ?_|refine AOps.E rfl rfl rfl rfl (s8 n hn) rfl ?_|refine AOps.E rfl rfl rfl rfl (s8 n hn) rfl ?_|refine AOps.E rfl rfl rfl rfl (s8 n hn) rfl ?_|refine AOps.E rfl rfl rfl rfl (s8 n hn) rfl ?_|refine AOps.E rfl rfl rfl rfl (s8 n hn) rfl ?_|refine AOps.E rfl rfl rfl rfl (s8 n hn) rfl ?_|refine AOps.E rfl rfl rfl rfl (s8 n hn) rfl ?_|refine AOps.E rfl rfl rfl rfl (s8 n hn) rfl ?_|refine AOps.E rfl rfl rfl rfl (s8 n hn) rfl ?_|refine AOps.E rfl rfl rfl rfl (s8 n hn) rfl ?_|refine AOps.E rfl rfl rfl rfl (s8 n hn) rfl ?_|refine AOps.E rfl rfl rfl rfl (s8 n hn) rfl ?_
 refine AOps.v rfl rfl (AOps.extract rfl rfl rfl (AOps.extract rfl rfl rfl (AOps.F rfl rfl (AOps.F rfl rfl (AOps.nil ?_)))));repeat (first|refine b9 ?_|refine g8 ?_)
 have hd2:decide ((0:Int)<0)=false:=by decide
 repeat (first|refine AWP.j ?_|refine AWP.z ?_|refine AWP.skip ?_|refine b9 ?_|refine g8 ?_|refine AWP.condT rfl ?_|refine AWP.ac rfl ?_)
 refine AWP.J (AOps.v rfl rfl (AOps.gtr rfl rfl rfl (AOps.v rfl rfl ?_)));first|(refine AOps.B rfl rfl rfl (by assumption) ?_)|(refine AOps.guardSkip rfl rfl rfl ?_)|(refine AOps.u rfl rfl rfl (by assumption) ?_;refine AOps.v rfl rfl ?_)
 first|(refine AOps.B rfl rfl rfl (by assumption) ?_)|(refine AOps.guardSkip rfl rfl rfl ?_)|(refine AOps.u rfl rfl rfl (by assumption) ?_;refine AOps.gtr rfl rfl rfl ?_)
 first|refine AOps.ab rfl (by assumption) rfl rfl ?_|refine AOps.pickF rfl (by assumption) rfl rfl ?_
 refine AOps.nil ?_;repeat (first|refine b9 ?_|refine g8 ?_)
 (repeat (refine AWP.j ?_));first|refine AWP.condD rfl (fun hc=> ?_) (fun hc=> ?_)|refine AWP.condN rfl (fun hc=> ?_) (fun hc=> ?_)|refine AWP.condE rfl (fun hc=> ?_) (fun hc hc'=> ?_)|refine AWP.condB rfl (fun hc=> ?_) (fun hc=> ?_)|refine AWP.cond rfl (fun hc=> ?_) (fun hc=> ?_)
 omega;repeat (first|refine AWP.skip ?_|refine b9 ?_|refine g8 ?_|refine AWP.condT rfl ?_|refine AWP.ac rfl ?_)
 repeat (first|refine AWP.j ?_|refine AWP.z ?_|refine AWP.skip ?_|refine b9 ?_|refine g8 ?_|refine AWP.condT rfl ?_|refine AWP.ac rfl ?_)
 refine AWP.J (AOps.v rfl rfl (AOps.convE (c:=(n:Int)) rfl rfl w2 (W.make rfl rfl rfl (by omega) (by omega) rfl rfl rfl ?_)));refine AOps.F rfl rfl (AOps.nil ?_);repeat (first|refine b9 ?_|refine g8 ?_)
 repeat (first|refine AWP.j ?_|refine AWP.z ?_|refine AWP.skip ?_|refine b9 ?_|refine g8 ?_|refine AWP.condT rfl ?_|refine AWP.ac rfl ?_)
 refine AWP.J (AOps.v rfl rfl (AOps.v rfl rfl (AOps.copyE (m:=1) (es':=repC c n 1) rfl rfl (by omega) rfl .imm rfl (Nat.min_eq_left h1) (rep_first h1) rfl (AOps.F rfl rfl (AOps.nil ?_)))));repeat (first|refine b9 ?_|refine g8 ?_)
 refine AWP.j (AWP.z (AWP.loop (X:=Nat) (fun i=>⟨[(7,.c (.own 0 0 n)),(8,.c (int i))],[.one (.cells 1 (repC c n i))]⟩) (fun i=>1<=i/\i<=n) (fun i=>n - i) 1 (Sub.env ⟨rfl,rfl,Y⟩) ⟨fp _,h1⟩ ?_));rintro i ⟨i1,i2⟩;repeat (first|refine AWP.j ?_|refine AWP.z ?_|refine AWP.skip ?_|refine b9 ?_|refine g8 ?_|refine AWP.condT rfl ?_|refine AWP.ac rfl ?_)
 refine AWP.J (AOps.v rfl rfl (AOps.v rfl rfl ?_));first|refine AOps.lenB rfl rfl (fun _=> ?_)|refine AOps.lenOwnB rfl rfl rfl (fun _=> ?_)|refine AOps.lenNil rfl rfl ?_
 refine AOps.lss rfl rfl rfl (AOps.nil ?_);repeat (first|refine b9 ?_|refine g8 ?_)
 (repeat (refine AWP.j ?_));first|refine AWP.condD rfl (fun hc=> ?_) (fun hc=> ?_)|refine AWP.condN rfl (fun hc=> ?_) (fun hc=> ?_)|refine AWP.condE rfl (fun hc=> ?_) (fun hc hc'=> ?_)|refine AWP.condB rfl (fun hc=> ?_) (fun hc=> ?_)|refine AWP.cond rfl (fun hc=> ?_) (fun hc=> ?_)
 have hi:i<n:=by omega
 obtain⟨m,hm⟩:∃m,m=Nat.min i (n - i):=⟨_,rfl⟩;have hm1:1<=m:=by rw[hm];exact Nat.le_min.2 ⟨i1,by omega⟩
 have hm2:m<=i/\i+m<=n:=by have:=Nat.min_le_left i (n - i);have:=Nat.min_le_right i (n - i);change m=min i (n - i) at hm;omega
 have hcm:Nat.min (((repC c n i).drop 0).take i).length (n - i)=m:=by rw[hm];congr 1;simp[repC];omega
 have hce:(repC c n i).take (0+i)++(((repC c n i).drop 0).take i).take m++(repC c n i).drop (0+i+m)=repC c n (i+m):=rep_more hm2.1 hm2.2;repeat (first|refine AWP.skip ?_|refine b9 ?_|refine g8 ?_|refine AWP.condT rfl ?_|refine AWP.ac rfl ?_)
 repeat (first|refine AWP.j ?_|refine AWP.z ?_|refine AWP.skip ?_|refine b9 ?_|refine g8 ?_|refine AWP.condT rfl ?_|refine AWP.ac rfl ?_)
 refine AWP.drawEI [7] mixed rfl rfl rfl ?_;apply e9.consN;exact rfl;exact rfl;intro E;exact AOps.v rfl rfl (AOps.nil ⟨rfl,rfl⟩);exact rfl;apply e9.consN;exact rfl;exact rfl;intro E;exact AOps.v rfl rfl (AOps.nil ⟨rfl,rfl⟩);exact rfl;apply e9.consN;exact rfl;exact rfl;intro E;exact AOps.v rfl rfl (AOps.nil ⟨rfl,rfl⟩);exact rfl;apply e9.consN;exact rfl;exact rfl;intro E;first|refine AOps.sliceArrI rfl (eE rfl) rfl rfl ?_|refine AOps.sliceOwnTo rfl rfl rfl (by omega) rfl ?_|refine AOps.sliceOwnFrom rfl rfl rfl (by omega) rfl ?_
 exact AOps.nil ⟨rfl,rfl⟩;exact rfl;apply e9.consN;exact rfl;exact rfl;intro E;exact AOps.v rfl rfl (AOps.nil ⟨rfl,rfl⟩);exact rfl;apply e9.consN;exact rfl;exact rfl;intro E;exact AOps.v rfl rfl (AOps.nil ⟨rfl,rfl⟩);exact rfl;apply e9.consN;exact rfl;exact rfl;intro E;first|refine AOps.sliceArrI rfl (eE rfl) rfl rfl ?_|refine AOps.sliceOwnTo rfl rfl rfl (by omega) rfl ?_|refine AOps.sliceOwnFrom rfl rfl rfl (by omega) rfl ?_
 exact AOps.nil ⟨rfl,rfl⟩;exact rfl;apply e9.consE;exact rfl;exact rfl;intro E;exact AOps.copyE rfl rfl (by omega) rfl (Src.own rfl) rfl hcm hce rfl (AOps.nil ⟨rfl,rfl⟩);exact rfl;exact rfl;apply e9.consN;exact rfl;exact rfl;intro E;refine AOps.add rfl rfl rfl (by omega) ?_;exact AOps.nil ⟨rfl,rfl⟩;exact rfl;apply e9.consN;exact rfl;exact rfl;intro E;exact AOps.F rfl rfl (AOps.nil ⟨rfl,rfl⟩);exact rfl;refine e9.done rfl ?_ ?_;apply i7.cons;exact rfl;exact rfl;first|refine l0.skip rfl ?_|(apply l0.go;exact rfl;exact rfl;intro E;(refine AOps.v rfl rfl ?_);exact AOps.nil ⟨rfl,rfl⟩)
 first|refine l0.skip rfl ?_|(apply l0.go;exact rfl;exact rfl;intro E;(refine AOps.v rfl rfl ?_);exact AOps.nil ⟨rfl,rfl⟩)
 exact l0.nil;apply i7.cons;exact rfl;exact rfl;first|refine l0.skip rfl ?_|(apply l0.go;exact rfl;exact rfl;intro E;(refine AOps.v rfl rfl ?_);exact AOps.nil ⟨rfl,rfl⟩)
 first|refine l0.skip rfl ?_|(apply l0.go;exact rfl;exact rfl;intro E;(refine AOps.v rfl rfl ?_);exact AOps.nil ⟨rfl,rfl⟩)
 exact l0.nil;apply i7.cons;exact rfl;exact rfl;first|refine l0.skip rfl ?_|(apply l0.go;exact rfl;exact rfl;intro E;(refine AOps.v rfl rfl ?_);exact AOps.nil ⟨rfl,rfl⟩)
 first|refine l0.skip rfl ?_|(apply l0.go;exact rfl;exact rfl;intro E;(refine AOps.v rfl rfl ?_);exact AOps.nil ⟨rfl,rfl⟩)
 exact l0.nil;apply i7.cons;exact rfl;exact rfl;first|refine l0.skip rfl ?_|(apply l0.go;exact rfl;exact rfl;intro E;(first|refine AOps.sliceArrI rfl (eE rfl) rfl rfl ?_|refine AOps.sliceOwnTo rfl rfl rfl (by omega) rfl ?_|refine AOps.sliceOwnFrom rfl rfl rfl (by omega) rfl ?_);exact AOps.nil ⟨rfl,rfl⟩)
 first|refine l0.skip rfl ?_|(apply l0.go;exact rfl;exact rfl;intro E;(first|refine AOps.sliceArrI rfl (eE rfl) rfl rfl ?_|refine AOps.sliceOwnTo rfl rfl rfl (by omega) rfl ?_|refine AOps.sliceOwnFrom rfl rfl rfl (by omega) rfl ?_);exact AOps.nil ⟨rfl,rfl⟩)
 exact l0.nil;apply i7.cons;exact rfl;exact rfl;first|refine l0.skip rfl ?_|(apply l0.go;exact rfl;exact rfl;intro E;(refine AOps.v rfl rfl ?_);exact AOps.nil ⟨rfl,rfl⟩)
 first|refine l0.skip rfl ?_|(apply l0.go;exact rfl;exact rfl;intro E;(refine AOps.v rfl rfl ?_);exact AOps.nil ⟨rfl,rfl⟩)
 exact l0.nil;apply i7.cons;exact rfl;exact rfl;first|refine l0.skip rfl ?_|(apply l0.go;exact rfl;exact rfl;intro E;(refine AOps.v rfl rfl ?_);exact AOps.nil ⟨rfl,rfl⟩)
 first|refine l0.skip rfl ?_|(apply l0.go;exact rfl;exact rfl;intro E;(refine AOps.v rfl rfl ?_);exact AOps.nil ⟨rfl,rfl⟩)
 exact l0.nil;apply i7.cons;exact rfl;exact rfl;first|refine l0.skip rfl ?_|(apply l0.go;exact rfl;exact rfl;intro E;(first|refine AOps.sliceArrI rfl (eE rfl) rfl rfl ?_|refine AOps.sliceOwnTo rfl rfl rfl (by omega) rfl ?_|refine AOps.sliceOwnFrom rfl rfl rfl (by omega) rfl ?_);exact AOps.nil ⟨rfl,rfl⟩)
 first|refine l0.skip rfl ?_|(apply l0.go;exact rfl;exact rfl;intro E;(first|refine AOps.sliceArrI rfl (eE rfl) rfl rfl ?_|refine AOps.sliceOwnTo rfl rfl rfl (by omega) rfl ?_|refine AOps.sliceOwnFrom rfl rfl rfl (by omega) rfl ?_);exact AOps.nil ⟨rfl,rfl⟩)
 exact l0.nil;refine i7.skip rfl ?_;apply i7.cons;exact rfl;exact rfl;first|refine l0.skip rfl ?_|(apply l0.go;exact rfl;exact rfl;intro E;(refine AOps.add rfl rfl rfl (by omega) ?_);exact AOps.nil ⟨rfl,rfl⟩)
 first|refine l0.skip rfl ?_|(apply l0.go;exact rfl;exact rfl;intro E;(refine AOps.add rfl rfl rfl (by omega) ?_);exact AOps.nil ⟨rfl,rfl⟩)
 exact l0.nil;apply i7.cons;exact rfl;exact rfl;first|refine l0.skip rfl ?_|(apply l0.go;exact rfl;exact rfl;intro E;(refine AOps.F rfl rfl ?_);exact AOps.nil ⟨rfl,rfl⟩)
 first|refine l0.skip rfl ?_|(apply l0.go;exact rfl;exact rfl;intro E;(refine AOps.F rfl rfl ?_);exact AOps.nil ⟨rfl,rfl⟩)
 exact l0.nil;exact i7.nil;dsimp only[m6];repeat (first|refine b9 ?_|refine g8 ?_)
 exact⟨i+m,Sub.env ⟨rfl,rfl,Y⟩,⟨by omega,by omega⟩,by omega⟩;repeat (first|refine AWP.j ?_|refine AWP.ret ?_|refine i9 ?_|refine n3 ?_|refine AWP.skip ?_|refine b9 ?_|refine g8 ?_|refine AWP.exit ?_|refine o7 ?_|refine l9 ?_|refine J2 rfl ?_)
 repeat (first|refine AWP.j ?_|refine AWP.z ?_|refine AWP.skip ?_|refine b9 ?_|refine g8 ?_|refine AWP.condT rfl ?_|refine AWP.ac rfl ?_)
 refine AWP.J (AOps.v rfl rfl (AOps.F rfl rfl (AOps.nil ?_)));repeat (first|refine b9 ?_|refine g8 ?_)
 repeat (first|refine AWP.j ?_|refine AWP.ret ?_|refine i9 ?_|refine n3 ?_|refine AWP.skip ?_|refine b9 ?_|refine g8 ?_|refine AWP.exit ?_|refine o7 ?_|refine l9 ?_|refine J2 rfl ?_)
 have hin:i=n:=by omega
 subst hin;refine Done.ret rfl ⟨0,by simp,?_⟩;show some (some (Blk.cells 1 (repC c i i)))=_;rw[rep_full]
def I0(x:Li)(n:Int):Option Li:=match x with
 |[c]=>if 1<=n/\n<=4294967295 then some (eM n.toNat c) else none
 |_=>none
def as8{x:Li}{n:Int}{r:Li}(h:I0 x n=some r):v6 prog 51 [.c (row 1 intI x),.c (int n)] 1 (List.map intI r):=by unfold I0 at h;split at h;rename_i c;split at h;rename_i e;cases h;have:=repeat_ok c n.toNat (by omega) (by omega);rw[Int.toNat_of_nonneg (by omega)] at this;rwa [List.map_replicate];cases h;cases h
end Ab
end
section
namespace Ab
open Go
def mw(n r m:Nat):Id->Id:=fun i=>match i.2 with
 |[]=>if eU n i.1 && eH i.1 (n+r) then(i.1 - n+m,[]) else i
 |_::_=>i
def mw_in{n r m k:Nat}(h:k<r):mw n r m (n+k,[])=(m+k,[]):=by unfold mw;dsimp only;rw[if_pos (by simp;omega)];simp;omega
def mw_o{n r m:Nat}{i:Id}(h:∀k,k<r->idb i (n+k,[])=false):mw n r m i=i:=by
 obtain⟨j,q⟩:=i;unfold mw;cases q with
 |cons=>rfl
 |nil=>
  dsimp only
  rw[if_neg]
  intro e
  simp only[fA,Nat.blt_eq] at e
  have c:=eE e.1
  have:=h (j - n) (by omega)
  rw[show n+(j - n)=j by omega,G8.2 rfl] at this
  cases this
mutual
theorem C.ren_mw{n r m:Nat}:∀c:C,(∀k,k<r->c.no (n+k,[])=true)->c.ren (mw n r m)=c
 | .imm _,_=>rfl
 | .own i _ _,h=>by simp only[C.ren,mw_o fun k hk=>by simpa[C.no] using h k hk]
 | .ptr i _ _,h=>by simp only[C.ren,mw_o fun k hk=>by simpa[C.no] using h k hk]
 | .fn _ caps,h=>by simp only[C.ren,C.renL_mw caps h]
 | .ifc _ cs _,h=>by simp only[C.ren,C.renL_mw cs h]
 | .map i,h=>by simp only[C.ren,mw_o fun k hk=>by simpa[C.no] using h k hk]
 | .fnb _ caps,h=>by simp only[C.ren,C.renL_mw caps h]
 | .yld i,h=>by simp only[C.ren,mw_o fun k hk=>by simpa[C.no] using h k hk]
theorem C.renL_mw{n r m:Nat}:∀l:List C,(∀k,k<r->C.noL (n+k,[]) l=true)->C.renL (mw n r m) l=l
 |[],_=>rfl
 |c::l,h=>by simp only[C.noL,fA] at h;simp only[C.renL,C.ren_mw c fun k hk=>(h k hk).1,C.renL_mw l fun k hk=>(h k hk).2]
end
mutual
theorem T.ren_mw{n r m:Nat}:∀t:T,(∀k,k<r->t.no (n+k,[])=true)->t.ren (mw n r m)=t
 | .c x,h=>by simp only[T.ren,C.ren_mw x h]
 | .agg cs,h=>by simp only[T.ren,C.renL_mw cs h]
 | .tup ts,h=>by simp only[T.ren,T.renL_mw ts h]
 | .undef,_=>rfl
theorem T.renL_mw{n r m:Nat}:∀l:List T,(∀k,k<r->T.noL (n+k,[]) l=true)->T.renL (mw n r m) l=l
 |[],_=>rfl
 |x::l,h=>by simp only[T.noL,fA] at h;simp only[T.renL,T.ren_mw x fun k hk=>(h k hk).1,T.renL_mw l fun k hk=>(h k hk).2]
end
def Blk.ren_mw{n r m:Nat}(b:Blk)(h:∀k,k<r->b.no (n+k,[])=true):b.ren (mw n r m)=b:=by
 cases b with
 |cells s es=>
  simp only[Blk.no,eF] at h
  simp only[Blk.ren]
  congr 1
  conv=>rhs;rw[<- List.map_id es]
  exact List.map_congr_left fun l hl=>C.renL_mw l fun k hk=>h k hk l hl
 |obj p cs=>simp only[Blk.ren,C.renL_mw cs h]
def vec_mw{α:Type}{s:Nat}{f:α->List I}{l:List α}{n r m:Nat}:(vec s f l).ren (mw n r m)=vec s f l:=Blk.ren_mw _ fun _ _=>Blk.im_no _ _ _
inductive RenO(n r m:Nat):List (Option Blk)->List (Option Blk)->Prop
 |nil:RenO n r m [] []
 |dead {l l':List (Option Blk)} (h:RenO n r m l l'):RenO n r m (none::l) (none::l')
 |one {b b':Blk} {l l':List (Option Blk)} (e:b.ren (mw n r m)=b') (o:OkE m n (.one b)) (h:RenO n r m l l'):RenO n r m (some b::l) (some b'::l')
def RenO.len{n r m:Nat}{l l':List (Option Blk)}(h:RenO n r m l l'):fX l=fX l':=by
 induction h with
 |nil=>rfl
 |dead _ c=>simp[c]
 |one _ _ _ c=>simp[c]
def okE_blk{m n:Nat}{b:Blk}(h:OkE m n (.one b)):b.ok m=true:=by
 have:∃n0,n0=m/\b.ok n0=true:=⟨_,rfl,by
  cases h with
  |one h=>exact h
  |vec=>exact Blk.im_ok _ _ _
  |any h=>exact h [] b rfl⟩
 obtain⟨n0,c,e⟩:=this;rw[<- c];exact e
def RenO.get{n r m:Nat}{l l':List (Option Blk)}(h:RenO n r m l l'):∀(k:Nat) (b:Blk),l[k]? =some (some b)->b.ok m=true/\l'[k]? =some (some (b.ren (mw n r m))):=by
 induction h with
 |nil=>intro k b c;simp at c
 |dead _ j=>
  intro k b c
  cases k with
  |zero=>simp at c
  |succ k=>simpa using j k b (by simpa using c)
 |one e o _ j=>
  intro k b c
  cases k with
  |zero=>simp only[eR,Option.some.injEq] at c;subst c;exact⟨okE_blk o,by simp[e]⟩
  |succ k=>simpa using j k b (by simpa using c)
def setO:c9->Nat->List (Option Blk)->Option c9
 |σ,_,[]=>some σ
 |σ,n,b::l=>match setF σ n (Ent.opt b) with
  |some σ1=>setO σ1 (n+1) l
  |none=>none
def setO_eq:∀{l:List (Option Blk)} {σ σ':c9} {n:Nat},setO σ n l=some σ'->fX σ'=fX σ/\(l ≠ []->n+fX l<=fX σ)/\(∀k,k<fX l->σ'[n+k]? =(l[k]?).map Ent.opt)/\∀j,(j<n\/n+fX l<=j)->σ'[j]? =σ[j]?
 |[],σ,σ',n,h=>by simp only[setO,Option.some.injEq] at h;subst h;exact⟨rfl,fun h=>absurd rfl h,fun k hk=>by simp at hk,fun j _=>rfl⟩
 |b::l,σ,σ',n,h=>by
  simp only[setO] at h;split at h;rename_i σ1 h1;obtain⟨rfl,c⟩:=H7 h1;obtain⟨e,q,v,u⟩:=setO_eq h;rw[lS] at e q;refine⟨e,fun _=> ?_,fun k hk=> ?_,fun j z=> ?_⟩;rw[gB];cases l with
  |nil=>simp;omega
  |cons=>have:=q (by simp);simp at this ⊢;omega
  cases k with
  |zero=>
   rw[fq,u n (by omega),List.getElem?_set_self c];rfl
  |succ k=>
   rw[show n+(k+1)=n+1+k by omega,v k (by simpa using hk)];simp
  rw[gB] at z;rw[u j (by omega),List.getElem?_set_ne (by omega)];cases h
section
variable {P:Program}{σ0:c9}{sz:Nat}{Q:Post}{ops:List Oper}{base:Env}
def AOps.newAtN{z:Array Oper}{rest:List Oper}{o:Oper}{dst:Option Nat}{V:List T}{e E:Env}{i m r:Nat}{σv σ':c9}{c':T}{L':List (Option Blk)}(n:Nat)(c:T)(L:List (Option Blk))(hm:idF σv=some m)(hr:idF L=some r)(h1:eU 1 r=true)(hE:EOk ops V base i E)
  (hb:(fo r).all (fun k=>envNo (n+k,[]) base)=true) (hV:(fo r).all (fun k=>vNo (n+k,[]) ops i V 0)=true) (he:(fo r).all (fun k=>envNo (n+k,[]) e)=true)
  (ai:setO σv n L=some σ') (hL:RenO n r m L L') (al:c.ok m=true) (an:c.ren (mw n r m)=c') (h0:eU (fX σ0) n=true) (hs:∀k,k<r->NoL (n+k) σv)
  (O:AOps P σ0 sz z Q rest (St.mk (putE (e++E) dst c') (σv++L'.map Ent.opt))->AOps P σ0 sz z Q (o::rest) (St.mk (e++E) σv))
  (h:AOps P σ0 sz z Q rest (St.mk (putE (e++E) dst c) σ')):AOps P σ0 sz z Q (o::rest) (St.mk (e++E) σv):=fun Γ φ a w av hR=>by
 have ay:=V4 hm
 have U:=V4 hr
 subst ay
 obtain⟨q1,q2,q3,q4⟩:=setO_eq ai
 have a4:=hL.len
 refine O (AOps.sub (s':=St.mk (putE (e++E) dst c) σ') ?_ h) Γ φ a w av hR
 have a2:=eE h0
 have ab:∀(t:Nat) (v:T),lookup t (e++E)=some v->v.ok (fX σv)=true:=fun t v ht=>by obtain⟨u,_,hr⟩:=hR.env t v ht;exact hr.ok
 have B:∀{f:Nat->Bool},(fo r).all f=true->∀k,k<r->f k=true:=fun hf k hk=>eF.1 hf k (List.mem_range.2 hk)
 have ac:∀k,k<r->∀(t:Nat) (v:T),lookup t (e++E)=some v->v.no (n+k,[])=true:=fun k hk t v ht=>by
  rw[F5] at ht;cases hx:lookup t e with
  |some x=>
   rw[hx] at ht;cases ht
   exact ad6 (B he k hk) t v hx
  |none=>
   rw[hx] at ht
   rcases hE t v ht with g|⟨j,g1,g2,g3⟩
   ·exact ad6 (B hb k hk) t v g
   ·exact vNo_get (B hV k hk) j v g3 (by rw[fa];exact g1) (by rw[fa];exact g2)
 have a3:∀(i:Id) (b:Blk),σ'[i]? =some (some b)->i.1<fX σv:=fun i b hi=>by have:=c9.lt_of hi;rw[q1] at this;exact this
 have F:∀(i:Id) (b:Blk),σ'[i]? =some (some b)->(∃k,k<r/\i=(n+k,[])/\L[k]? =some (some b))\/((i.1<n\/n+r<=i.1)/\σv[i]? =some (some b)):=fun i b hi=>by
  obtain⟨j,q⟩:=i;rw[c9.at_eq] at hi;simp only[c9.at] at hi;by_cases c2:j<n\/n+fX L<=j;rw[q4 j c2] at hi;exact .inr ⟨by rw[U];exact c2,by rw[c9.at_eq];exact hi⟩;have hk:j - n<fX L:=by omega
  have:=q3 (j - n) hk;rw[show n+(j - n)=j by omega] at this;rw[this,eT hk] at hi;simp only[eD,Option.some.injEq] at hi;refine .inl ⟨j - n,by omega,?_,?_⟩;cases hx:L[j - n] with
  |none=>rw[hx] at hi;cases q<;>cases hi
  |some b0=>
   rw[hx] at hi
   cases q with
   |nil=>simp;omega
   |cons=>cases hi
  rw[eT hk];cases hx:L[j - n] with
  |none=>rw[hx] at hi;cases q<;>cases hi
  |some b0=>
   rw[hx] at hi
   cases q with
   |nil=>cases hi;rfl
   |cons=>cases hi
 have aa:∀i:Id,(i.1<n\/n+r<=i.1)->mw n r (fX σv) i=i:=fun i hi=>mw_o fun k hk=>E3 fun e=>by rw[e] at hi;simp only at hi;omega
 have ad:∀(i:Id) (b:Blk),σ'[i]? =some (some b)->(∃k,k<r/\i=(n+k,[])/\mw n r (fX σv) i=(fX σv+k,[]))\/(mw n r (fX σv) i=i/\i.1<fX σv):=fun i b hi=>by rcases F i b hi with⟨k,k1,k2,_⟩|⟨g1,_⟩;exact .inl ⟨k,k1,k2,by rw[k2];exact mw_in k1⟩;exact .inr ⟨aa i g1,a3 i b hi⟩
 refine Sub.mk (mw n r (fX σv)) (fun i hi=>aa i (.inl (fO hi a2))) (by
  show (fX σ0)<=fX σ';rw[q1];have:=eE h1;have:=q2 fun e=>by rw[e] at U;simp at U;omega
  omega) (fun i j b b' hi hj h=> ?_) (fun i b hi=> ?_) (fun t v ht=> ?_)
 ·rcases ad i b hi with⟨k,_,e1,q1⟩|⟨q1,w1⟩<;>rcases ad j b' hj with⟨k',_,e2,q2⟩|⟨q2,w2⟩<;>rw[q1,q2] at h
  ·have:=congrArg Prod.fst h
   simp only at this
   rw[e1,e2,show k=k' by omega]
  ·rw[<- h] at w2;simp only at w2;omega
  ·rw[h] at w1;simp only at w1;omega
  ·exact h
 ·show b.ok (fX σ')=true/\(σv++L'.map Ent.opt)[mw n r (fX σv) i]? =some (some (b.ren (mw n r (fX σv))))
  rw[q1]
  rcases F i b hi with⟨k,k1,rfl,k3⟩|⟨g1,J⟩
  ·obtain⟨g1,g2⟩:=hL.get k b k3
   refine⟨g1,?_⟩
   rw[mw_in k1,c9.get_right (Nat.le_add_right _ _)]
   simp only[Nat.add_sub_cancel_left]
   rw[c9.at_eq,c9.at,lM,g2]
   rfl
  ·refine⟨hR.st.okB J,?_⟩
   rw[aa i g1,Blk.ren_mw _ fun k hk=>(hs k hk).all _ _ J,c9.get_left (c9.lt_of J)]
   exact J
 ·have rest:∀v,lookup t (e++E)=some v->v.ok (fX σ')=true/\lookup t (e++E)=some (v.ren (mw n r (fX σv))):=fun v hv=>
   ⟨by rw[q1];exact ab t v hv,by rw[T.ren_mw v fun k hk=>ac k hk t v hv];exact hv⟩
  cases N:dst with
  |none=>rw[N] at ht;exact rest v ht
  |some d=>
   rw[N] at ht
   simp only[putE,lookup] at ht ⊢
   split at ht
   ·cases ht
    refine⟨by rw[q1];exact al,?_⟩
    rw[an]
   ·exact rest v ht
end
end Ab
end
section
namespace Ab
open Go
section
variable {α β:Type}{pre post:α->List I}{g:α->List β}{kb k r:Nat}{fb:β->List I}{M:List α}
def oc(pre post:α->List I)(c:C)(a:α):List C:=(pre a).map .imm++c::(post a).map .imm
def ohdr(pre post:α->List I)(g:α->List β)(r:Nat)(M:List α):List (List C):=M.mapIdx fun i a=>oc pre post (.own (r,[i]) 0 (g a).length) a
def omat(r k:Nat)(pre post:α->List I)(g:α->List β)(kb:Nat)(fb:β->List I)(M:List α):Ent:=.node (some (.cells k (ohdr pre post g r M))) (M.map fun a=>.one (vec kb fb (g a)))
def odat(pre post:α->List I)(g:α->List β)(kb:Nat)(fb:β->List I)(a:α):List I:=pre a++ .sl kb ((g a).map fb)::post a
def aq7{a:α}:oc pre post (.imm (.sl kb ((g a).map fb))) a=(odat pre post g kb fb a).map .imm:=by simp[oc,odat]
def oc_ren{π:Id->Id}{c:C}{a:α}:C.renL π (oc pre post c a)=oc pre post (c.ren π) a:=by
 have h:∀l:List I,C.renL π (l.map .imm)=l.map .imm:=fun l=>by
  induction l with
  |nil=>rfl
  |cons x l e=>simp[C.renL,C.ren,e]
 have h2:∀(l:List I) (m:List C),C.renL π (l.map .imm++m)=l.map .imm++C.renL π m:=fun l m=>by
  induction l with
  |nil=>rfl
  |cons x l e=>simp[C.renL,C.ren,e]
 simp only[oc,h2,C.renL,h]
def oc_all(p:C->Bool)(hp:∀x:I,p (.imm x)=true){c:C}{a:α}:(oc pre post c a).all p=p c:=by
 have h:∀l:List I,(l.map C.imm).all p=true:=fun l=>by simp[eF,hp]
 simp only[oc,List.all_append,List.all_cons,h,Bool.true_and,Bool.and_true]
def oc_ok{n:Nat}{c:C}{a:α}:C.okL n (oc pre post c a)=c.ok n:=by
 rw[K6];exact oc_all _ (fun _=>rfl)
def oc_no{id:Id}{c:C}{a:α}:C.noL id (oc pre post c a)=c.no id:=by
 rw[noL_eq];exact oc_all _ (fun _=>rfl)
def oc_frz{id:Id}{q:Nat}{es:List (List I)}{c:C}{a:α}:C.frzL id q es (oc pre post c a)=oc pre post (c.frz id q es) a:=by
 have h:∀l:List I,C.frzL id q es (l.map .imm)=l.map .imm:=fun l=>by
  induction l with
  |nil=>rfl
  |cons x l e=>simp[C.frzL,C.frz,e]
 have h2:∀(l:List I) (m:List C),C.frzL id q es (l.map .imm++m)=l.map .imm++C.frzL id q es m:=fun l m=>by
  induction l with
  |nil=>rfl
  |cons x l e=>simp[C.frzL,C.frz,e]
 simp only[oc,h2,C.frzL,h]
def ohdr_len:(ohdr pre post g r M).length=fX M:=by simp[ohdr]
def ohdr_get{i:Nat}{e:List C}(h:(ohdr pre post g r M)[i]? =some e):∃a,M[i]? =some a/\e=oc pre post (.own (r,[i]) 0 (g a).length) a:=by simp only[ohdr,eC,oM] at h;obtain⟨a,h1,h2⟩:=h;exact⟨a,h1,h2.symm⟩
def om_sub{q:List Nat}{b:Blk}(h:(omat r k pre post g kb fb M).sub q=some b):(q=[]/\b=.cells k (ohdr pre post g r M))\/∃i a,q=[i]/\M[i]? =some a/\b=vec kb fb (g a):=by
 cases q with
 |nil=>exact .inl ⟨rfl,by simpa[omat,Ent.sub] using h.symm⟩
 |cons i q=>
  simp only[omat,Ent.sub,lM] at h
  cases hi:M[i]? with
  |none=>simp[hi] at h
  |some p=>
   rw[hi] at h
   cases q with
   |nil=>simp only[eD,Ent.sub,Option.some.injEq] at h;exact .inr ⟨i,p,rfl,hi,h.symm⟩
   |cons=>simp[Ent.sub] at h
def om_main:(omat r k pre post g kb fb M).sub []=some (.cells k (ohdr pre post g r M)):=rfl
def om_row{i:Nat}{a:α}(h:M[i]? =some a):(omat r k pre post g kb fb M).sub [i]=some (vec kb fb (g a)):=by simp[omat,Ent.sub,h]
def om_ok{n:Nat}(h:eH r n=true):∀q b,(omat r k pre post g kb fb M).sub q=some b->b.ok n=true:=fun q b c=>by rcases om_sub c with⟨_,rfl⟩|⟨i,p,_,_,rfl⟩;simp only[Blk.ok,eF];intro e j;obtain⟨i,hi⟩:=ff j;obtain⟨a,_,rfl⟩:=ohdr_get hi;rw[oc_ok];simpa[C.ok] using h;exact K4
def om_no{id:Id}(h:id.1 ≠ r):∀q b,(omat r k pre post g kb fb M).sub q=some b->b.no id=true:=fun q b c=>by rcases om_sub c with⟨_,rfl⟩|⟨i,p,_,_,rfl⟩;simp only[Blk.no,eF];intro e j;obtain⟨i,hi⟩:=ff j;obtain⟨a,_,rfl⟩:=ohdr_get hi;have:idb ((r,[i]):Id) id=false:=E3 (fun e=>h (by rw[<- e]));rw[oc_no];simp[C.no,this];exact Blk.im_no _ _ _
def ohdr_ren{π:Id->Id}{c:Nat}(h:∀q,π (r,q)=(c,q)):(Blk.cells k (ohdr pre post g r M)).ren π=.cells k (ohdr pre post g c M):=by
 simp only[Blk.ren];congr 1;apply eB;intro j;simp only[ohdr,lM,eC];cases M[j]? with
 |none=>rfl
 |some a=>simp[oc_ren,C.ren,h]
def z7.omat{id n:Id}{u:Nat}{σ:c9}(h:eG id.1 r=false)(hr:eH r u=true)(j:σ[r]? =some (Ab.omat r k pre post g kb fb M)):z7 id n σ u r (Ab.omat r k pre post g kb fb M):=by
 have c:id.1 ≠ r:=fun e=>by simp[e] at h
 show ∀(p:List Nat) (b:Blk),(Ab.omat r k pre post g kb fb M).sub p=some b->_;intro p b q;have v:mv id n (r,p)=(r,p):=by have:(r,p) ≠ id:=fun e=>c (by rw[<- e]);simp[mv,E3 this]
 rw[v,w7 j,q];exact⟨om_ok hr p b q,by rw[Blk.ren_no _ (om_no c p b q)]⟩
def EntR.omat{c n u i j:Nat}{σ:c9}(z:(mvr c n (i,[])).1=j)(hr:eH i u=true)(h:σ[j]? =some (Ab.omat j k pre post g kb fb M)):EntR c n σ u i (Ab.omat i k pre post g kb fb M):=.any fun p b v=>by
 have e:∀q,mvr c n (i,q)=(j,q):=fun q=>by rw[<- z];rfl
 rw[e,w7 h];refine⟨om_ok hr p b v,?_⟩;rcases om_sub v with⟨rfl,rfl⟩|⟨q,E,rfl,B,rfl⟩;rw[om_main,ohdr_ren e];rw[om_row B,F7]
def RenE.omat{c:Nat}{π:Id->Id}(h:∀q,π (r,q)=(c,q)):RenE π r (Ab.omat r k pre post g kb fb M) c (Ab.omat c k pre post g kb fb M):=.any (fun p b e=>by
  rcases om_sub e with⟨rfl,rfl⟩|⟨q,u,rfl,j,rfl⟩;rw[om_main,ohdr_ren h];rw[om_row j,F7]) (fun p b e=>by
  rcases om_sub e with⟨rfl,rfl⟩|⟨q,u,rfl,j,rfl⟩;exact⟨_,om_main,(ohdr_ren h).symm⟩;exact⟨_,om_row j,F7.symm⟩)
def FrzB.omat{id:Id}{X:C->C->Prop}(h:eG id.1 r=false):FrzB id X (Ab.omat r k pre post g kb fb M) (Ab.omat r k pre post g kb fb M):=by
 have c:id.1 ≠ r:=fun e=>by simp[e] at h
 show _=_/\_;exact⟨rfl,fun p b h=>om_no c p b h⟩
end
section
variable {P:Program}{σ0:c9}{sz:Nat}{Q:Post}{env env':Env}{σv σ':c9}{ops:Array Oper}{rest:List Oper}{dst:Option Nat}{ty:Ti}{pos:String}{after:Array Edge}
variable {α β:Type}{pre post:α->List I}{g:α->List β}{kb k r:Nat}{fb:β->List I}{M:List α}
def Sub.virtBO{b:Id}{n kk o:Nat}{cs c:List C}{σ1 e v:c9}(k:Nat)(pre post:α->List I)(g:α->List β)(kb:Nat)(fb:β->List I)(u:σv[b]? =some (some (.cells kk [cs])))(N:cs[o]? =some (.imm (.val (.slice none 0 0))))(E:newF σv=some (n,[]))(h1:w8 σv (omat n k pre post g kb fb [])=some σ1)
  (hs:setF cs o (.own (n,[]) 0 ([]:List α).length)=some c) (h:putF σ1 b (some (.cells kk [c]))=some σ') (F:w8 σv (.one (vec k (fun _:α=>([]:List I)) ([]:List α)))=some e) (J:putF e b (some (.cells kk [c]))=some v):Sub σ0 ⟨env,σv⟩ ⟨env,σ'⟩:=by
 have g1:=B2 E;have O:=v7 h1;have U:=A4 h
 cases g1
 subst O U
 have e3:=v7 F;have e4:=A4 J
 subst e3 e4
 have j:=c9.lt_of u
 have z:(σv++[Ent.one (vec k (fun _:α=>([]:List I)) ([]:List α))])[b]? =some (some (.cells kk [cs])):=by rw[c9.get_left j];exact u
 refine(Sub.virtB (α:=α) k (fun _=>[]) u N E F hs J).trans (Sub.same (by simp) fun i=> ?_)
 have B:(σv++[omat (fX σv) k pre post g kb fb ([]:List α)])[b]? =some (some (.cells kk [cs])):=by rw[c9.get_left j];exact u
 by_cases hi:i=b
 ·subst hi
  rw[c9.get_put_eq z,c9.get_put_eq B]
 ·rw[c9.get_put_ne hi,c9.get_put_ne hi]
  rcases eX i.1 (fX σv) with hl|hl
  ·rw[c9.get_left hl,c9.get_left hl]
  ·rw[c9.get_right hl,c9.get_right hl]
   obtain⟨i1,q⟩:=i
   rw[c9.at_eq,c9.at_eq]
   simp only[c9.at]
   cases i1 - (fX σv) with
   |zero=>cases q<;>rfl
   |succ m=>rfl
def AWP.virtBO{c:Code}{b:Id}{n kk o:Nat}{cs e:List C}{σ1 j u:c9}(k:Nat)(pre post:α->List I)(g:α->List β)(kb:Nat)(fb:β->List I)(v:σv[b]? =some (some (.cells kk [cs])))(z:cs[o]? =some (.imm (.val (.slice none 0 0))))(B:newF σv=some (n,[]))(h1:w8 σv (omat n k pre post g kb fb [])=some σ1)
  (hs:setF cs o (.own (n,[]) 0 ([]:List α).length)=some e) (q:putF σ1 b (some (.cells kk [e]))=some σ') (E:w8 σv (.one (vec k (fun _:α=>([]:List I)) ([]:List α)))=some j) (F:putF j b (some (.cells kk [e]))=some u) (h:AWP P σ0 sz c Q ⟨env,σ'⟩):AWP P σ0 sz c Q ⟨env,σv⟩:=AWP.sub (Sub.virtBO k pre post g kb fb v z B h1 hs q E F) h
def om_head(h:σv[r]? =some (omat r k pre post g kb fb M)):σv[((r,[]):Id)]? =some (some (.cells k (ohdr pre post g r M))):=by rw[w7 h];rfl
def S.appendO{x y:Od}{t e:Ti}{bytes m n s t0 q:Nat}{z:Vl}{a:α}{M':List α}{σ1 σ2:c9}[ht:TyD P t (.slice e)][b6:TyS P e k bytes z]
  (ha:app bytes M [a]=some M') (a9:(z.cells.size==k)=true) (bb:eH 0 bytes=true) (hx:ev env x=some (.c (.own (r,[]) 0 m))) (hm:m=fX M) (al:σv[r]? =some (omat r k pre post g kb fb M))
  (hy:ev env y=some (.c (.own (t0,[]) 0 1))) (bd:σv[((t0,[]):Id)]? =some (some (.cells k [oc pre post (.own (s,[]) 0 q) a]))) (hq:q=(g a).length) (hs:σv[((s,[]):Id)]? =some (some (vec kb fb (g a)))) (be:eG s r=false)
  (hn:newF σv=some (n,[])) (h1:setF σv r .dead=some σ1) (h2:setF σ1 s .dead=some σ2) (ay:w8 σ2 (omat n k pre post g kb fb M')=some σ') (hd:j6 sz dst=true) (h0:eU (fX σ0) n=true)
  (h:AOps P σ0 sz ops Q rest (St.mk (putE env dst (.c (.own (n,[]) 0 (fX M')))) σ')):
  AOps P σ0 sz ops Q (⟨dst,.call ⟨.builtin .append,#[x,y],#[t,t]⟩,ty,pos,after,none⟩::rest) (St.mk env σv):=by
 have bi:=(H7 h1).1;have bj:=(H7 h2).1;have h3:=B2 hn;have h4:=v7 ay
 cases h3
 subst bi bj h4 hm hq
 obtain⟨hb,rfl⟩:=aq8 ha
 have a2:s ≠ r:=fun e=>by simp[e] at be
 have a3:=(lG.1 al).1
 have a4:s<fX σv:=c9.lt_of hs
 have b7:=eE h0
 intro bk φ0 a0 w0 a5 an
 have a6:Src σv k (.c (.own (t0,[]) 0 1)) [oc pre post (.own (s,[]) 0 (g a).length) a]:=.own (j:=0) (n:=1) bd
 refine AOps.append a9 bb hx (om_head al) hy a6 (by simpa using hb) hd ?_ bk φ0 a0 w0 a5 an
 have e1:((ohdr pre post g r M).drop 0).take (fX M)=ohdr pre post g r M:=by rw[fi,eK (by simp[ohdr_len])]
 rw[e1]
 generalize hX:σv.put (r,[]) none++[Ent.one (.cells k (ohdr pre post g r M++[oc pre post (.own (s,[]) 0 (g a).length) a]))]=ac
 have e5:(St.mk env ac).put dst (.c (.own (fX σv,[]) 0 (fX M+[oc pre post (.own (s,[]) 0 (g a).length) a].length)))=⟨putE env dst (.c (.own (fX σv,[]) 0 (M++[a]).length)),ac⟩:=by rw[show (fX M)+[oc pre post (.own (s,[]) 0 (g a).length) a].length=(M++[a]).length by simp];cases dst<;>rfl
 rw[e5]
 have xn:ac[((fX σv,[]):Id)]? =some (some (.cells k (ohdr pre post g r M++[oc pre post (.own (s,[]) 0 (g a).length) a]))):=by rw[<- hX,c9.get_right (by simp)];simp[c9.at_eq,c9.at,Ent.sub]
 have xo:∀i:Id,i.1<fX σv->i ≠ (r,[])->ac[i]? =σv[i]? :=fun i hi bs=>by rw[<- hX,c9.get_left (by simpa using hi),c9.get_put_ne bs]
 generalize ad:(fun i:Id=>if i.1=fX σv then(if i.2=[] then(fX σv,[]) else if i.2=[fX M] then(s,[]) else(r,i.2)) else i)=π
 have E:∀i:Id,i.1 ≠ (fX σv)->π i=i:=fun i hi=>by rw[<- ad];simp[hi]
 have N:π (fX σv,[])=(fX σv,[]):=by rw[<- ad];simp
 have O:π (fX σv,[fX M])=(s,[]):=by rw[<- ad];simp
 have F:∀q,q<fX M->π (fX σv,[q])=(r,[q]):=fun q hq=>by rw[<- ad];simp;omega
 have av:(M++[a]).length=fX M+1:=by simp
 have dead:∀(i:Id) b,((σv.set r .dead).set s .dead)[i]? =some (some b)->i.1 ≠ r/\i.1 ≠ s/\σv[i]? =some (some b):=fun i b hi=>by obtain⟨i1,q⟩:=i;rw[c9.at_eq] at hi;simp only[c9.at,eA,lS] at hi;by_cases e1:s=i1;subst e1;simp[a4,Ent.sub] at hi;rw[if_neg e1] at hi;by_cases e2:r=i1;subst e2;simp[a3,Ent.sub] at hi;rw[if_neg e2] at hi;exact⟨fun e=>e2 e.symm,fun e=>e1 e.symm,by rw[c9.at_eq];exact hi⟩
 have J:∀(i:Id) b,((σv.set r .dead).set s .dead++[omat (fX σv) k pre post g kb fb (M++[a])])[i]? =some (some b)->
   (i.1<fX σv/\i.1 ≠ r/\i.1 ≠ s/\σv[i]? =some (some b))\/(i=(fX σv,[])/\b=.cells k (ohdr pre post g (fX σv) (M++[a])))\/(∃q c,i=(fX σv,[q])/\(M++[a])[q]? =some c/\b=vec kb fb (g c)):=fun i b hi=>by
  rcases eX i.1 (fX σv) with hl|hl
  ·rw[c9.get_left (by simpa using hl)] at hi
   obtain⟨g1,g2,g3⟩:=dead i b hi
   exact .inl ⟨hl,g1,g2,g3⟩
  ·rw[c9.get_right (by simpa using hl)] at hi
   obtain⟨i1,q⟩:=i
   simp only[lS] at hi hl
   have hz:i1=fX σv:=by have:=c9.lt_of hi;simp at this;simp at hl;omega
   subst hz
   rw[gq,w7 (e:=omat (fX σv) k pre post g kb fb (M++[a])) rfl] at hi
   simp only[Option.some.injEq] at hi
   rcases om_sub hi with⟨rfl,rfl⟩|⟨q',c,rfl,hc,rfl⟩
   ·exact .inr (.inl ⟨rfl,rfl⟩)
   ·exact .inr (.inr ⟨q',c,rfl,hc,rfl⟩)
 refine AOps.sub (s':=⟨putE env dst (.c (.own (fX σv,[]) 0 (M++[a]).length)),(σv.set r .dead).set s .dead++[omat (fX σv) k pre post g kb fb (M++[a])]⟩) ?_ h
 have U:((σv.set r .dead).set s .dead++[omat (fX σv) k pre post g kb fb (M++[a])]).length=fX σv+1:=by simp
 have aa:∀{q:Nat} {c:α},(M++[a])[q]? =some c->q<fX M+1:=fun hc=>by rw[<- av];exact(lG.1 hc).1
 refine Sub.mk π (fun i hi=>E i (by omega)) (by rw[U];omega) (fun i j b b' hi hj B=> ?_) (fun i b hi=> ?_) (fun t v ht=> ?_)
 ·rcases J i b hi with⟨g1,g2,a7,_⟩|⟨rfl,_⟩|⟨q,row,rfl,g1,_⟩<;>rcases J j b' hj with⟨k1,k2,bv,_⟩|⟨rfl,_⟩|⟨q',b5,rfl,k1,_⟩
  ·rwa [E i (by omega),E j (by omega)] at B
  ·rw[E i (by omega),N] at B;subst B;simp at g1
  ·rw[E i (by omega)] at B
   have hq:=aa k1
   by_cases e:q'=fX M
   ·subst e;rw[O] at B;subst B;exact absurd rfl a7
   ·rw[F q' (by omega)] at B;subst B;exact absurd rfl g2
  ·rw[E j (by omega),N] at B;subst B;simp at k1
  ·rfl
  ·have hq:=aa k1
   by_cases e:q'=fX M
   ·subst e;rw[N,O] at B;simp at B;omega
   ·rw[N,F q' (by omega)] at B;simp at B
  ·rw[E j (by omega)] at B
   have hq:=aa g1
   by_cases e:q=fX M
   ·subst e;rw[O] at B;subst B;exact absurd rfl bv
   ·rw[F q (by omega)] at B;subst B;exact absurd rfl k2
  ·have hq:=aa g1
   by_cases e:q=fX M
   ·subst e;rw[N,O] at B;simp at B;omega
   ·rw[N,F q (by omega)] at B;simp at B
  ·have hq:=aa g1
   have b8:=aa k1
   by_cases e:q=fX M<;>by_cases e':q'=fX M
   ·rw[e,e']
   ·rw[e,O,F q' (by omega)] at B;simp at B
   ·rw[e',O,F q (by omega)] at B;simp at B
   ·rw[F q (by omega),F q' (by omega)] at B
    simp at B;rw[B]
 ·dsimp only
  rw[U]
  rcases J i b hi with⟨g1,g2,a7,g3⟩|⟨rfl,rfl⟩|⟨q,c,rfl,g1,rfl⟩
  ·have ab:=an.st.okB g3
   have a8:b.ren π=b:=Blk.ren_ok (m:=fX σv) (fun i hi=>E i (by omega)) b ab
   refine⟨Blk.ok_mono (fZ _) b ab,?_⟩
   rw[E i (by omega),a8,xo i g1 (fun e=>g2 (by rw[e]))]
   exact g3
  ·refine⟨om_ok (r:=fX σv) (kb:=kb) (fb:=fb) (by simp) [] _ om_main,?_⟩
   rw[N,xn]
   congr 2
   simp only[Blk.ren]
   congr 1
   apply eB
   intro q
   rw[lM]
   simp only[ohdr,eC,fu,fe,gp]
   by_cases hq:q<fX M
   ·rw[if_pos hq,if_pos hq]
    cases hM:M[q]? with
    |none=>rfl
    |some row=>simp[oc_ren,C.ren,F q hq]
   ·rw[if_neg hq,if_neg hq]
    by_cases b4:q=fX M
    ·subst b4;simp[oc_ren,C.ren,O]
    ·cases hz:q - (fX M) with
     |zero=>omega
     |succ x=>simp
  ·have hq:=aa g1
   refine⟨K4,?_⟩
   rw[F7]
   by_cases e:q=fX M
   ·subst e
    rw[O,xo (s,[]) a4 (fun e=>a2 (by cases e;rfl)),hs]
    rw[eY (fp _),gq] at g1
    cases g1;rfl
   ·rw[F q (by omega),xo (r,[q]) a3 (by simp)]
    rw[eQ (by omega)] at g1
    rw[w7 al,om_row g1]
 ·dsimp only at ht ⊢
  rw[U]
  have old:∀v,lookup t env=some v->v.ok (fX σv+1)=true/\lookup t env=some (v.ren π):=fun v hv=>by obtain⟨u,_,hr⟩:=an.env t v hv;have ab:=hr.ok;exact⟨T.ok_mono (fZ _) v ab,by rw[T.ren_ok (m:=fX σv) (fun i hi=>E i (by omega)) v ab];exact hv⟩
  cases ai:dst with
  |none=>rw[ai] at ht;exact old v ht
  |some d=>
   rw[ai] at ht
   simp only[putE,lookup] at ht ⊢
   split at ht
   ·cases ht
    refine⟨by simp[T.ok,C.ok],?_⟩
    simp[T.ren,C.ren,N]
   ·exact old v ht
/-! ### Rows cease to change -/
def blt_dec(a b:Nat):eH a b=decide (a<b):=by rw[fL,Nat.blt_eq];simp
def beq_dec(a b:Nat):eG a b=decide (a=b):=by rw[fL,Nat.beq_eq];simp
def ohdrF(pre post:α->List I)(g:α->List β)(kb:Nat)(fb:β->List I)(r:Nat)(M:List α)(p:Nat->Bool):List (List C):=M.mapIdx fun i a=>oc pre post (match p i with|true=>.imm (.sl kb ((g a).map fb))|false=>.own (r,[i]) 0 (g a).length) a
def omF(r k:Nat)(pre post:α->List I)(g:α->List β)(kb:Nat)(fb:β->List I)(M:List α)(p:Nat->Bool):Ent:=.node (some (.cells k (ohdrF pre post g kb fb r M p))) (M.mapIdx fun i a=>match p i with|true=>.dead|false=>.one (vec kb fb (g a)))
def omF_zero:omF r k pre post g kb fb M (fun _=>false)=omat r k pre post g kb fb M:=by simp only[omF,omat,ohdrF,ohdr];congr 1;apply eB;intro i;simp[eC]
def omF_congr{p c:Nat->Bool}(h:∀i,i<fX M->p i=c i):omF r k pre post g kb fb M p=omF r k pre post g kb fb M c:=by
 have e:ohdrF pre post g kb fb r M p=ohdrF pre post g kb fb r M c:=by
  apply eB;intro i;simp only[ohdrF,eC];cases hi:M[i]? with
  |none=>rfl
  |some a=>simp only[eD,h i (lG.1 hi).1]
 have j:(M.mapIdx fun i a=>match p i with|true=>Ent.dead|false=>.one (vec kb fb (g a)))=M.mapIdx fun i a=>match c i with|true=>Ent.dead|false=>.one (vec kb fb (g a)):=by
  apply eB;intro i;simp only[eC];cases hi:M[i]? with
  |none=>rfl
  |some a=>simp only[eD,h i (lG.1 hi).1]
 simp only[omF,e,j]
def omF_frz{p:Nat->Bool}{q:Nat}{a:α}(h:M[q]? =some a):Blk.frz (r,[q]) kb ((g a).map fb) (.cells k (ohdrF pre post g kb fb r M p))=.cells k (ohdrF pre post g kb fb r M fun i=>p i||eG i q):=by
 simp only[Blk.frz];congr 1;apply eB;intro j;simp only[ohdrF,lM,eC,fu];cases c:M[j]? with
 |none=>rfl
 |some v=>
  simp only[eD,eN,Option.some.injEq,oc_frz]
  congr 1
  cases hp:p j with
  |true=>rfl
  |false=>
   by_cases h2:j=q
   ·subst h2
    rw[h] at c;cases c
    simp[C.frz,G8.2 rfl,eK]
   ·have:idb (r,[j]) (r,[q])=false:=E3 (by simp;exact h2)
    have u:eG j q=false:=by cases e:eG j q with|false=>rfl|true=>exact absurd (eI e) h2
    simp[C.frz,this,u]
def Sub.omFrz{p:Nat->Bool}{q:Nat}{a:α}(F:eU (fX σ0) r=true)(h:σv[r]? =some (omF r k pre post g kb fb M p))(z:M[q]? =some a)(hp:p q=false)(B:ah5 r σv)(J:al9 r env=true):Sub σ0 ⟨env,σv⟩ ⟨env,σv.set r (omF r k pre post g kb fb M fun i=>p i||eG i q)⟩:=by
 have N:r<fX σv:=(lG.1 h).1;have u:σv[((r,[q]):Id)]? =some (some (Blk.im kb ((g a).map fb))):=by rw[w7 h];simp[omF,Ent.sub,eC,z,hp]
 have E:=Sub.frz (σ0:=σ0) (s:=⟨env,σv⟩) (r,[q]) kb ((g a).map fb) (eE F) u;refine E.trans ((Sub.same (σ2:=σv.set r (omF r k pre post g kb fb M fun i=>p i||eG i q)) (by simp[St.frz]) fun i=> ?_).trans (Sub.look fun t v ht=> ?_));simp only[St.frz];rw[c9.get_map,set_ent h];by_cases hi:i=(r,[q]);subst hi;rw[c9.get_put_eq u,if_pos rfl];simp[omF,Ent.sub,eC,z];rw[c9.get_put_ne hi];by_cases j:i.1=r;obtain⟨i1,l⟩:=i;simp only at j;subst j;rw[if_pos rfl,w7 h];simp only[eD,Option.some.injEq];cases l with
 |nil=>simp only[omF,Ent.sub,eD,omF_frz z]
 |cons c l=>
  simp only[omF,Ent.sub,eC]
  cases hc:M[c]? with
  |none=>rfl
  |some row=>
   simp only[eD]
   cases O:p c with
   |true=>simp only[Bool.true_or];cases l<;>rfl
   |false=>
    by_cases h2:c=q
    ·subst h2
     cases l with
     |nil=>exact absurd rfl hi
     |cons=>simp[Ent.sub]
    ·have U:eG c q=false:=by cases e:eG c q with|false=>rfl|true=>exact absurd (eI e) h2
     simp only[U,Bool.or_false]
     cases l with
     |nil=>simp only[Ent.sub,eD,Blk.frz_no _ (Blk.im_no _ _ _)]
     |cons=>rfl
 rw[if_neg j];cases hx:σv[i]? with
 |none=>rfl
 |some o=>
  cases o with
  |none=>rfl
  |some b=>simp only[eD,Blk.frz_no _ (B i b j hx q)]
 simp only[St.frz];rw[ak5 (fun v=>v.frz (r,[q]) kb ((g a).map fb)),ht];simp only[eD,T.frz_no v (rowlessT_no (aA9 J t v ht))]
def ah5.set{e:Ent}(h:ah5 r σv):ah5 r (σv.set r e):=fun i b hi c q=>by refine h i b hi ?_ q;obtain⟨j,l⟩:=i;rw[c9.at_eq] at c ⊢;simp only[c9.at,eA] at c ⊢;rwa [if_neg (fun e=>hi e.symm)] at c
def Sub.omFrzTo(i:Nat)(E:eU (fX σ0) r=true)(c:σv[r]? =some (omat r k pre post g kb fb M))(h:ah5 r σv)(F:al9 r env=true):∀q,q<=fX M->Sub σ0 ⟨env,σv⟩ ⟨env,σv.set r (omF r k pre post g kb fb M fun j=>eH j q && !(eG j i))⟩
 |0,_=>by
  have e:omF r k pre post g kb fb M (fun j=>eH j 0 && !(eG j i))=omat r k pre post g kb fb M:=by rw[<- omF_zero];exact omF_congr fun j _=>by simp
  rw[e];exact Sub.same (by simp) fun i=>by rw[set_ent c];split;rename_i hi;obtain⟨J,p⟩:=i;simp only at hi;subst hi;rw[w7 c];rfl
 |q+1,N=>by
  refine(Sub.omFrzTo i E c h F q (by omega)).trans ?_;have v:r<fX σv:=(lG.1 c).1;have z:M[q]? =some M[q]:=eT (by omega);have u:(σv.set r (omF r k pre post g kb fb M fun j=>eH j q && !(eG j i)))[r]? =some (omF r k pre post g kb fb M fun j=>eH j q && !(eG j i)):=by rw[eA];simp[v]
  by_cases B:q=i;subst B;have e:omF r k pre post g kb fb M (fun j=>eH j (q+1) && !(eG j q))=omF r k pre post g kb fb M fun j=>eH j q && !(eG j q):=omF_congr fun j _=>by simp only[blt_dec,beq_dec];rw[fL];simp only[fA,fV,gr,decide_eq_true_eq,decide_eq_false_iff_not];omega
  rw[e];exact Sub.same rfl fun _=>rfl;have:=Sub.omFrz (env:=env) E u z (by simp) h.set F;rw[List.set_set] at this;have e:omF r k pre post g kb fb M (fun j=>(eH j q && !(eG j i))||eG j q)=omF r k pre post g kb fb M fun j=>eH j (q+1) && !(eG j i):=omF_congr fun j _=>by simp only[blt_dec,beq_dec];rw[fL];simp only[fA,fV,gr,decide_eq_true_eq,decide_eq_false_iff_not];omega
  rwa [e] at this
abbrev vecP(pre post:α->List I)(g:α->List β)(kb:Nat)(fb:β->List I)(k:Nat)(M:List α)(i:Nat)(n:Id)(m:Nat)(a:α):Blk:=.cells k (((M.map (odat pre post g kb fb)).map (·.map C.imm)).set i (oc pre post (.own n 0 m) a))
def ohdrF_to{i:Nat}{a:α}(hi:M[i]? =some a):ohdrF pre post g kb fb r M (fun j=>eH j (fX M) && !(eG j i))=((M.map (odat pre post g kb fb)).map (·.map C.imm)).set i (oc pre post (.own (r,[i]) 0 (g a).length) a):=by
 apply eB;intro j;simp only[ohdrF,eC,eA,eW,lM];cases c:M[j]? with
 |none=>
  have:=List.getElem?_eq_none_iff.1 c
  have hl:=(lG.1 hi).1
  rw[if_neg (by omega)];rfl
 |some b=>
  have hl:=(lG.1 c).1
  by_cases e:i=j
  ·subst e
   rw[hi] at c;cases c
   simp[beq_dec,hl]
  ·rw[if_neg e]
   have:(eH j (fX M) && !(eG j i))=true:=by simp only[blt_dec,beq_dec];simp;omega
   simp only[eD,this,aq7]
def Sub.splitO{i n:Nat}{a:α}{σ1:c9}(h0:eU (fX σ0) r=true)(ab:σv[r]? =some (omat r k pre post g kb fb M))(hi:M[i]? =some a)(av:ah5 r σv)(he:al9 r env=true)(hn:newF σv=some (n,[]))(h1:setF σv r (.one (vecP pre post g kb fb k M i (n,[]) (g a).length a))=some σ1)(ac:w8 σ1 (.one (vec kb fb (g a)))=some σ'):Sub σ0 ⟨env,σv⟩ ⟨env,σ'⟩:=by
 have g1:=B2 hn;have g2:=(H7 h1).1;have g3:=v7 ac;cases g1;subst g2 g3;intro ay a2 φ0 a0 w0 ad aa;have ai:r<fX σv:=(lG.1 ab).1;have a3:=eE h0;have a4:=(lG.1 hi).1;have hF:=Sub.omFrzTo (env:=env) i h0 ab av he (fX M) (fp _);generalize hX:σv.set r (omF r k pre post g kb fb M fun j=>eH j (fX M) && !(eG j i))=N at hF;have a5:fX N=fX σv:=by rw[<- hX];simp
 have U:N[r]? =some (omF r k pre post g kb fb M fun j=>eH j (fX M) && !(eG j i)):=by rw[<- hX,eA];simp[ai]
 have xr:N[((r,[]):Id)]? =some (some (.cells k (((M.map (odat pre post g kb fb)).map (·.map C.imm)).set i (oc pre post (.own (r,[i]) 0 (g a).length) a)))):=by rw[w7 U];simp only[omF,Ent.sub,ohdrF_to hi]
 have xi:N[((r,[i]):Id)]? =some (some (vec kb fb (g a))):=by rw[w7 U];simp[omF,Ent.sub,eC,hi,beq_dec]
 have xo:∀q:Id,q.1 ≠ r->N[q]? =σv[q]? :=fun q z=>by rw[<- hX];obtain⟨q1,l⟩:=q;rw[c9.at_eq,c9.at_eq];simp only[c9.at,eA];rw[if_neg (fun e=>z e.symm)]
 refine(hF.trans ?_) ay a2 φ0 a0 w0 ad aa;generalize al:(fun q:Id=>if q=(fX σv,[]) then((r,[i]):Id) else q)=π;have c:∀q:Id,q ≠ (fX σv,[])->π q=q:=fun q z=>by rw[<- al];simp[z]
 have F:π (fX σv,[])=(r,[i]):=by rw[<- al];simp
 have B:∀(q:Id) b,(σv.set r (.one (vecP pre post g kb fb k M i (fX σv,[]) (g a).length a))++[Ent.one (vec kb fb (g a))])[q]? =some (some b)->
   (q.1<fX σv/\q.1 ≠ r/\σv[q]? =some (some b))\/(q=(r,[])/\b=vecP pre post g kb fb k M i (fX σv,[]) (g a).length a)\/(q=(fX σv,[])/\b=vec kb fb (g a)):=fun q b z=>by
  obtain⟨q1,l⟩:=q
  rcases eX q1 (fX σv) with hl|hl
  ·rw[c9.get_left (by simpa using hl),c9.at_eq] at z
   simp only[c9.at,eA] at z
   by_cases e:r=q1
   ·subst e
    rw[if_pos rfl,if_pos ai] at z
    simp only[Option.some.injEq] at z
    cases l with
    |nil=>simp only[Ent.sub,Option.some.injEq] at z;exact .inr (.inl ⟨rfl,z.symm⟩)
    |cons=>simp[Ent.sub] at z
   ·rw[if_neg e] at z
    exact .inl ⟨hl,fun e'=>e e'.symm,by rw[c9.at_eq];exact z⟩
  ·rw[c9.get_right (by simpa using hl)] at z
   have hz:q1=fX σv:=by have:=c9.lt_of z;simp at this;omega
   subst hz
   rw[c9.at_eq] at z
   simp only[lS,gq,c9.at,eR,Option.some.injEq] at z
   cases l with
   |nil=>simp only[Ent.sub,Option.some.injEq] at z;exact .inr (.inr ⟨rfl,z.symm⟩)
   |cons=>simp[Ent.sub] at z
 have E:(σv.set r (.one (vecP pre post g kb fb k M i (fX σv,[]) (g a).length a))++[Ent.one (vec kb fb (g a))]).length=fX σv+1:=by simp
 refine Sub.mk π (fun q z=>c q (fun e=>by subst e;simp at z;omega)) (by rw[E];omega) (fun q j b b' z hj J=> ?_) (fun q b z=> ?_) (fun t v ht=> ?_);rcases B q b z with⟨g1,g2,_⟩|⟨rfl,_⟩|⟨rfl,_⟩<;>rcases B j b' hj with⟨k1,k2,_⟩|⟨rfl,_⟩|⟨rfl,_⟩;rwa [c q (fun e=>by subst e;simp at g1),c j (fun e=>by subst e;simp at k1)] at J;rw[c q (fun e=>by subst e;simp at g1),c _ (fun e=>by cases e;omega)] at J;exact J;rw[c q (fun e=>by subst e;simp at g1),F] at J;subst J;exact absurd rfl g2;rw[c j (fun e=>by subst e;simp at k1),c _ (fun e=>by cases e;omega)] at J;exact J;rfl;rw[c (r,[]) (fun e=>by cases e;omega),F] at J;cases J;rw[c j (fun e=>by subst e;simp at k1),F] at J;subst J;exact absurd rfl k2;rw[c (r,[]) (fun e=>by cases e;omega),F] at J;cases J;rfl;dsimp only;rw[E];rcases B q b z with⟨g1,g2,g3⟩|⟨rfl,rfl⟩|⟨rfl,rfl⟩;have O:=aa.st.okB g3;have an:b.ren π=b:=Blk.ren_ok (m:=fX σv) (fun i hi=>c i (fun e=>by subst e;simp at hi)) b O;exact⟨Blk.ok_mono (fZ _) b O,by rw[c q (fun e=>by subst e;simp at g1),an,xo q g2,g3]⟩;refine⟨?_,?_⟩;simp only[vecP,Blk.ok,eF];intro e he;rcases mem_set he with h|rfl;simp only[fj,fT,eN] at h;obtain⟨b,_,rfl⟩:=h;rw[<- aq7,oc_ok];rfl;rw[oc_ok];simp[C.ok];rw[c (r,[]) (fun e=>by cases e;omega),xr];have eL:((M.map (odat pre post g kb fb)).map (·.map C.imm)).map (C.renL π)=(M.map (odat pre post g kb fb)).map (·.map C.imm):=by
  apply eB;intro j;simp only[lM,fu];cases M[j]? with
  |none=>rfl
  |some b=>simp only[eD,eN];rw[<- aq7,oc_ren];rfl
 simp only[vecP,Blk.ren,fB,eL,oc_ren,C.ren,F];exact⟨K4,by rw[F,xi,F7]⟩;dsimp only at ht ⊢;rw[E];obtain⟨u,_,hr⟩:=aa.env t v ht;have O:=hr.ok;exact⟨T.ok_mono (fZ _) v O,by rw[T.ren_ok (m:=fX σv) (fun i hi=>c i (fun e=>by subst e;simp at hi)) v O];exact ht⟩
def vp_frz{i m:Nat}{n:Id}{a a':α}{l:List β}(c:m=fX l)(e:odat pre post g kb fb a'=pre a++ .sl kb (l.map fb)::post a):∀p,((Ent.one (vecP pre post g kb fb k M i n m a)).sub p).map (Blk.frz n kb (l.map fb))=(Ent.one (vec k (odat pre post g kb fb) (M.set i a'))).sub p:=fun p=>by
 subst c;cases p with
 |cons=>rfl
 |nil=>
  have h:((M.map (odat pre post g kb fb)).map (·.map C.imm)).map (C.frzL n kb (l.map fb))=(M.map (odat pre post g kb fb)).map (·.map C.imm):=by
   apply eB;intro j;simp only[lM,fu];cases M[j]? with
   |none=>rfl
   |some b=>simp only[eD,eN];rw[<- aq7,oc_frz];rfl
  simp only[Ent.sub,eD,vecP,vec,Blk.im,Blk.frz,fB,h,oc_frz,e]
  simp[oc,C.frz,G8.2 rfl,eK]
/-! ### The block with one cell owned elsewhere: looked at, written -/
def S.idxVP{x y:Od}{t e:Ti}{bytes q m:Nat}{z:Vl}{kk:IntKind}{i:Int}{a b:α}{n:Id}[ht:TyD P t (.slice e)][hs:TyS P e k bytes z]
  (hi:ix M i=some b) (hx:ev env x=some (.c (.own (r,[]) 0 q))) (u:q=fX M) (j:σv[((r,[]):Id)]? =some (some (vecP pre post g kb fb k M i.toNat n m a))) (hy:ev env y=some (.c (.imm (.val (.int kk i))))) (hd:j6 sz dst=true)
  (h:AOps P σ0 sz ops Q rest (St.mk (putE env dst (.c (.ptr (r,[]) i.toNat 0))) σv)):AOps P σ0 sz ops Q (⟨dst,.indexAddr t x y,ty,pos,after,none⟩::rest) (St.mk env σv):=
 .indexAddrOwn hx j hy (by have:=V3 hi;have:=q7 hi;subst u;omega) hd (by rw[fa];exact h)
def S.loadVP{x:Od}{t:Ti}{d:TypeDesc}{i:Int}{o m:Nat}{a b:α}{n:Id}[ht:TyD P t d](hi:ix M i=some b)(hx:ev env x=some (.c (.ptr (r,[]) i.toNat o)))(j:σv[((r,[]):Id)]? =some (some (vecP pre post g kb fb k M i.toNat n m a)))(ho:(pre a).length=o)(q:A7 d=false)(hd:j6 sz dst=true)
  (h:AOps P σ0 sz ops Q rest (St.mk (putE env dst (.c (.own n 0 m))) σv)):AOps P σ0 sz ops Q (⟨dst,.load t x,ty,pos,after,none⟩::rest) (St.mk env σv):=
 AOps.aa (e:=oc pre post (.own n 0 m) a) q hx j (by have:=q7 hi;simp[this]) (by subst ho;simp[oc]) hd h
def S.storeVP{x y:Od}{t:Ti}{bytes m q o:Nat}{i:Int}{z:Vl}{a b:α}{n u:Id}[hs:TyS P t 1 bytes z](hi:ix M i=some b)(hx:ev env x=some (.c (.ptr (r,[]) i.toNat o)))(hy:ev env y=some (.c (.own u 0 q)))
  (v:σv[((r,[]):Id)]? =some (some (vecP pre post g kb fb k M i.toNat n m a))) (ho:(pre a).length=o) (j:putF σv (r,[]) (some (vecP pre post g kb fb k M i.toNat u q a))=some σ') (h:AOps P σ0 sz ops Q rest (St.mk env σ')):AOps P σ0 sz ops Q (⟨none,.store t x y,ty,pos,after,none⟩::rest) (St.mk env σv):=by
 have h2:=A4 j
 subst h2
 refine AOps.store (e:=oc pre post (.own n 0 m) a) hx hy v (by have:=q7 hi;simp[this]) (by subst ho;simp[oc]) ?_
 have e:(((M.map (odat pre post g kb fb)).map (·.map C.imm)).set i.toNat (oc pre post (.own n 0 m) a)).set i.toNat ((oc pre post (.own n 0 m) a).set o (.own u 0 q))=((M.map (odat pre post g kb fb)).map (·.map C.imm)).set i.toNat (oc pre post (.own u 0 q) a):=by rw[List.set_set];congr 1;subst ho;simp only[oc];rw[List.set_append_right _ _ (by simp)];simp
 rw[e]
 exact h
def vp_elem{i m:Nat}{n:Id}{a:α}{e:List C}(h:e ∈ ((M.map (odat pre post g kb fb)).map (·.map C.imm)).set i (oc pre post (.own n 0 m) a)):(∃b:α,e=oc pre post (.imm (.sl kb ((g b).map fb))) b)\/e=oc pre post (.own n 0 m) a:=by rcases mem_set h with h|h;simp only[fj,fT,eN] at h;obtain⟨b,_,rfl⟩:=h;exact .inl ⟨b,aq7.symm⟩;exact .inr h
def vp_ok{i m N:Nat}{n:Id}{a:α}(h:eH n.1 N=true):(vecP pre post g kb fb k M i n m a).ok N=true:=by simp only[vecP,Blk.ok,eF];intro e c;rcases vp_elem c with⟨b,rfl⟩|rfl;rw[oc_ok];rfl;rw[oc_ok];simpa[C.ok] using h
def vp_ren{i m:Nat}{n:Id}{a:α}{π:Id->Id}:(vecP pre post g kb fb k M i n m a).ren π=vecP pre post g kb fb k M i (π n) m a:=by
 have c:((M.map (odat pre post g kb fb)).map (·.map C.imm)).map (C.renL π)=(M.map (odat pre post g kb fb)).map (·.map C.imm):=by
  apply eB;intro j;simp only[lM,fu];cases M[j]? with
  |none=>rfl
  |some b=>simp only[eD,eN];rw[<- aq7,oc_ren];rfl
 simp only[vecP,Blk.ren,fB,c,oc_ren,C.ren]
def vp_mv{i m:Nat}{n e j:Id}{a:α}{π:Id->Id}(c:π n=e)(h:σv[j]? =some (some (vecP pre post g kb fb k M i e m a))):σv[j]? =some (some ((vecP pre post g kb fb k M i n m a).ren π)):=by rw[vp_ren,c];exact h
end
end Ab
end
