/-
  Texts that the proof stands on.
-/
import Derived.Test.YtnjdfghkeijgnaaGreatDoorKRwChBest2
import Derived.Sort.Grow
import Derived.Shelf.Slices.CompactI
import Derived.Shelf.SlSortCmp.Whole1
import Derived.Laws.CopyRow
import Derived.Laws.Cover3
import Derived.WalkSmall
import Derived.Shelf.RegionOpenPlain
import Derived.Lib.Walk
import Derived.Lib.SliceRun
import Derived.Lib.JoinLaws
import Derived.Lib.AppendZerosOnto
import Derived.Lib.Overlaps
import Derived.Laws.Externs
import Derived.Laws.IdiomCopy
import Derived.Laws.NewBlocks
import Derived.Shelf.Small.Bits
import Derived.Shelf.Strconv.Itoa0
import Derived.Shelf.Sort.Plain
import Derived.Shelf.Bits.Mul64
import Derived.Shelf.Slices.Equal
import Derived.Ground.Names2Prog
import Derived.Shelf.Slices.Clone
import Derived.Shelf.Slices.SearchI
import Derived.Shelf.Slices.Cells
import Derived.Shelf.Slices.In.SortNone
import Derived.Shelf.Slices.Empties
import Derived.Shelf.Slices.Empties2
import Derived.Ground.SlsfProg
import Derived.Shelf.SlSortCmp.Insertion
import Derived.Shelf.SlSortCmp.SiftDown1
import Derived.Shelf.SlSortCmp.HeapSort1
import Derived.Shelf.SlSortCmp.Insertion1
import Derived.Shelf.SlSortCmp.Median1
import Derived.Shelf.SlSortCmp.Pivot1
import Derived.Shelf.SlSortCmp.ReverseRange1
import Derived.Shelf.SlSortCmp.PartialInsertion1
import Derived.Shelf.SlSortCmp.PartitionEqual1
import Derived.Shelf.SlSortCmp.Partition1
import Derived.Shelf.SlSortCmp.Pdq1
import Derived.Shelf.SlSortCmp.NoneTotal
import Derived.Test.YtnjdfghkeijgnaaGreatDoorProg
set_option linter.all false
open Option renaming bind->eI,map_some->fe,map_map->gM
open List renaming getElem?_append_left->eJ,getElem?_append_right->eL,eq_nil_of_length_eq_zero->eM,replicate->eN,pairwise_cons->eO,getElem?_take->eP,mem_cons->eR,ext_getElem?->eT,getElem?_drop->eU,length_map->eV,all_eq_true->eY,length_append->fc,getElem?_replicate->fg,take_of_length_le->fi,getElem?_eq_none->fm,map_map->fu,getElem?_cons_zero->fA,map->fC,append_assoc->fD,getElem?_of_mem->fF,getElem?_append->fG,getElem?_mapIdx->fH,drop_zero->fN,getElem?_set->fO,length_take->fQ,length_filter_le->fR,length_replicate->fS,mem_of_getElem?->fU,mem_of_mem_drop->fV,getElem?_range->fW,mem_cons_self->fY,pairwise_iff_getElem->gc,eq_of_mem_replicate->gi,length_drop->gj,pairwise_mergeSort->gl,mem_cons_of_mem->gu,map_drop->gA,map_take->gB,mergeSort_perm->gC,map_set->gE,take->gF,filter_append->gH,size_toArray->gI,range->gL,length->gN
open Nat renaming le_of_ble_eq_true->eK,ble->fa,mul_le_mul_right->ff,le_refl->fp,le_trans->fq,eq_of_beq_eq_true->fE,add_zero->fK,zero_add->fL,lt_or_ge->fM,add_mul->fP,zero_mul->fT,blt->fX,beq->gh,min_eq_left->gm,min_def->gp,lt_of_lt_of_le->gD,sub_mul->gJ
open Bool renaming and_eq_true->fh
open Array renaming getElem?_modify->fj,ext_getElem?->fB,getElem?_eq_some_iff->fI,getElem?_eq_getElem->fZ,getElem?_mapIdx->gt
open Function renaming comp_apply->fJ
open Int renaming le_of_lt_add_one->gw,lt_or_eq_of_le->gG,le_refl->gK
namespace Ab
open Go
variable{a p q:b6}{b:World}{c:Id}{n k y:Nat}{d:Ti}{x:Int}{f:List C}{g:Program}{i:FuncId}{A B:Type}{l:Post}{o:Env}{r:Array Oper}{s:Option Nat}{t:String}{v:Array Edge}{H:List Nat}{L:A}{M:List A}{P V:A->List I}{Q:B->List I}{X:A->List B}
section
open Go.Sort
def Rs.refl{a:Cx}(h:Good a):Rs a a.σ0 a.φ0 a.w0 where
 good:=h
 st:=h.st
 keep i blk b c d e f:=f.2 i blk c d e
 os:=rfl
 tape:=rfl
 drawn:=fp _
 output:=rfl
 size:=fp _
 block _ _:=rfl
 kept:=Kept.refl _ _ _ _
def Kept.ahead(w:World)(n:Nat)(b:Phi)(σ:b6)(A:Nat->Prop):Kept w (Go.Sort.ahead w n) b b σ σ A A:=
 ⟨fun _ _ _=>rfl,fun _ h _=>h,fp _,fun _ _ c _ h=>⟨c,h,rfl,rfl,fun _ _ a _ _ d=>⟨a,d,rfl⟩⟩,fun _ p cs _ h=>⟨rfl,p,cs,h⟩⟩
def Rs.ahead{c:Cx}{σ:b6}{a:Phi}{w:World}(h:Rs c σ a w)(n:Nat):Rs c σ a (Go.Sort.ahead w n):=
 {good:=h.good,st:=⟨fun i b d=>(h.st.blk i b d).mono (Kept.ahead w n a σ _) (fun _ _ _=>rfl),h.st.inj⟩,
  keep:=h.keep,os:=h.os,tape:=h.tape,drawn:=fq h.drawn (Nat.le_add_right _ _),output:=h.output,size:=h.size,block:=h.block,
  kept:=Kept.trans h.size h.kept (Kept.ahead w n a σ _)}
def Kept.grow(w:World)(os:Array Obj)(b:Phi)(σ:b6)(A:Nat->Prop):Kept w (Go.Sort.grow w os) b b σ σ A A:=
 ⟨fun _ _ d=>heap_grow_old w os d,fun _ h _=>h,fp _,fun _ _ e _ h=>⟨e,h,rfl,rfl,fun _ _ a _ _ c=>⟨a,(heap_grow_old w os (fI.1 c).1).trans c,rfl⟩⟩,fun _ p cs _ h=>⟨rfl,p,cs,h⟩⟩
def Rs.blk_lt{d:Cx}{σ:b6}{a:Phi}{w:World}(h:Rs d σ a w){blk:Blk}{b:Nat}(e:σ[c]? =some (some blk))(f:a c=some (b,n)):b<w.heap.size:=Al.own_lt h.st e f
def Rs.grow{c:Cx}{σ:b6}{a:Phi}{w:World}(h:Rs c σ a w)(os:Array Obj):Rs c σ a (Go.Sort.grow w os):=
 {good:=h.good,st:=⟨fun i b d=>(h.st.blk i b d).mono (Kept.grow w os a σ _) (fun g e j=>heap_grow_old w os (h.blk_lt d j)),h.st.inj⟩,
  keep:=h.keep,os:=h.os,tape:=h.tape,drawn:=h.drawn,output:=h.output,size:=fq h.size (by simp),block:=fun b f=>(heap_grow_old w os (gD f.1 h.size)).trans (h.block b f),
  kept:=Kept.trans h.size h.kept (Kept.grow w os a σ _)}
def aD2{w:World}{b:Nat}{a:Array Vl}{c:Ti}{e:Nat×Nat}{d:Array Int}(f:w.heap[b]? =some (.cells a c e)):
  putRow (Value.int .i64) w b n d=w.setRow b (putCells (Value.int .i64) n d a):=by
 unfold putRow mapBlock World.setRow
 congr 1
 apply fB
 intro k
 simp only[fj]
 by_cases hk:b=k
 ·subst hk;simp only[if_true,f,fe,onCells]
 ·simp[hk]
def setRow_self{w:World}{b:Nat}{a:Array Vl}{c:Nat×Nat}(e:w.heap[b]? =some (.cells a d c)):w.setRow b a=w:=by
 have key:∀h:Array Obj,h=w.heap->({w with heap:=h}:World)=w:=by rintro _ rfl;rfl
 refine key _ ?_;apply fB;intro k;simp only[fj];by_cases hk:b=k;subst hk;simp only[if_true,e,fe];simp[hk]
def at4{d:Array Int}{a:Array Vl}:(putCells (Value.int .i64) n d a).size=a.size:=by simp[putCells]
def aF1{d:Li}{a:Array Vl}(h:n+gN d<=a.size){j:Nat}{x:Int}(c:d[j]? =some x):(putCells (Value.int .i64) n d.toArray a)[n+j]? =some (.int .i64 x):=by have b:=(lG.1 c).1;have e:=(lG.1 c).2;simp only[putCells,gt];rw[fZ (by omega)];simp only[fe,gI];rw[if_pos (by omega)];simp[b,e]
def int_cells{w:World}{c:Phi}{σ:b6}{A:Nat->Prop}{l:Li}{a:Array Vl}(d:∀(j:Nat) (e:List C) (o:Nat) (x:C),((l.map intI).map (·.map C.imm))[j]? =some e->e[o]? =some x->∃u,a[n+(j * 1+o)]? =some u/\RelC w c σ A x u){j:Nat}{x:Int}(f:l[j]? =some x):a[n+j]? =some (.int .i64 x):=by
 obtain⟨u,g,b⟩:=d j _ 0 (.imm (.val (.int .i64 x))) (by simp[f];rfl) rfl
 cases b with|imm b=>cases b;simpa using g
def holds_of{w:World}{l:Li}{b:Nat}{a:Array Vl}(e:w.heap[b]? =some (.cells a d (0,0)))(f:∀(j:Nat) (x:Int),l[j]? =some x->a[n+j]? =some (.int .i64 x)):Holds (Value.int .i64) w b n l.toArray:=by
 intro j g;have c:j<gN l:=by simpa using g
 refine⟨?_,by simp[World.frozen?,e]⟩;rw[World.cell?];simp only[e];rw[f j l[j] (List.getElem?_eq_getElem c)];simp[c]
def ai3{l:Li}:((l.map intI).map (·.map C.imm)).length=gN l:=by simp
def vec_hk{l:Li}{j:Nat}{e:List C}(h:((l.map intI).map (·.map C.imm))[j]? =some e):gN e=1:=by simp only[fu,lM,oM] at h;obtain⟨a,_,rfl⟩:=h;rfl
def vec_hc{w:World}{f:Phi}{σ:b6}{A:Nat->Prop}{l:Li}{b:Array Vl}(h:∀(j:Nat) (x:Int),l[j]? =some x->b[n+j]? =some (.int .i64 x))(j:Nat)(e:List C)(o:Nat)(x:C)(c:((l.map intI).map (·.map C.imm))[j]? =some e)(d:e[o]? =some x):
  ∃u,b[n+(j * 1+o)]? =some u/\RelC w f σ A x u:=by
 simp only[fu,lM,oM] at c
 obtain⟨a,g,rfl⟩:=c
 match o with
 |0=>
  cases d
  exact⟨_,by simpa using h j a g,.imm (.val rfl)⟩
 |o+1=>simp at d
abbrev srt(l:Li):Li:=l.mergeSort fun x y=>decide (x<=y)
def ah5(P : Program)(f : FuncId) : Prop := ∃ fn, P.funcs[f]? = some fn /\ (fn.name == "runtime.NumGoroutine")=false/\fn.body.isNone=false
def sort_fn(hf:ah5 g i)(hC:∀(blk H o:Nat) (U:Li) (w:World),Holds (Value.int .i64) w blk H U.toArray->blk<w.heap.size->gN U<4611686018427387904->Calls g i #[.slice (some ⟨blk,H,none⟩) (gN U) o] w fun e E=>e=.returned (.tuple #[])/\∃n os,E=Go.Sort.grow (putRow (Value.int .i64) (Go.Sort.ahead w n) blk H (srt U).toArray) os)(V:∀(p:Option Addr) (o:Nat) (w:World),Calls g i #[.slice p 0 o] w fun e E=>e=.returned (.tuple #[])/\E=w){σ:b6}{id:Id}{l:Li}(s:σ[id]? =some (some (vec 1 intI l)))(hl:gN l<4611686018427387904):
  FnOk g i [.c (.own id 0 (gN l))] σ fun r q=>r=.tup []/\(gN q)=gN σ/\∀d:Id,q[d]? =(σ.put id (some (vec 1 intI (srt l))))[d]? :=by
 refine⟨hf,fun D vs X hG L M=> ?_⟩
 subst X
 match vs,L with
 |[u],_=>
 have hu:=H1 (M 0 _ u rfl rfl) s
 have F:∀{w φ σ A},RelT w φ σ A (.tup []) (.tuple #[]):=fun {w φ σ A}=>RelT.tup (ts:=[]) (fun _=>undef) fun d t h=>by simp at h
 rw[ai3] at hu
 have y:∀(p:Option Addr) (o:Nat),l=[]->Calls g i #[.slice p 0 o] D.w0 fun e E=>∃v r q J,e=.returned v/\(r=.tup []/\(gN q)=D.σ0.length/\∀d:Id,q[d]? =(D.σ0.put id (some (vec 1 intI (srt l))))[d]?)/\RelT E J q (Al D.N J q) r v/\Rs D q J E:=fun p o G=>by
  refine(V p o D.w0).mono ?_;rintro e E ⟨rfl,rfl⟩;refine⟨_,.tup [],D.σ0,D.φ0,rfl,⟨rfl,rfl,fun d=> ?_⟩,F,Rs.refl hG⟩;have:srt l=l:=by rw[G];simp[srt]
  rw[this];by_cases hi:d=id;rw[hi,b6.get_put_eq s,s];rw[b6.get_put_ne hi]
 rcases hu with⟨_,P,_,h0⟩|⟨b,z,o,O,a1,a,f,P,ha,an,ao,a2,B,a3⟩
 ·have G:l=[]:=eM (by omega)
  rw[P]
  exact y none 0 G
 ·rw[P]
  by_cases aa:0<o
  ·have:=ha aa
   subst this
   simp only[fT,fK]
   have hR:=Rs.refl hG
   rcases hR.st.blk _ _ s with⟨Q,_⟩|⟨b',ac,av,ay,Q,h2,h3,h4,h5⟩
   ·rw[f] at Q;cases Q
   ·rw[f] at Q;cases Q
    rw[B] at h2;cases h2
    rw[ai3] at h3
    have K:∀(j:Nat) (x:Int),l[j]? =some x->O[z+j]? =some (.int .i64 x):=fun j x hj=>int_cells h5 hj
    have ad:(srt l).length=gN l:=by simp[srt]
    refine(hC b z o l D.w0 (holds_of B K) (fI.1 B).1 hl).mono ?_
    rintro e E ⟨rfl,n,os,rfl⟩
    have hW:=Rs.write (k:=1) (es':=((srt l).map intI).map (·.map C.imm)) (arr':=putCells (Value.int .i64) z (srt l).toArray O) hR s f B (by rw[ai3,ai3,ad]) at4 (fun j e G=>vec_hk G) (by rw[ai3];omega)
     (vec_hc fun j x hj=>aF1 (by omega) hj)
    rw[putRow_ahead,aD2 B]
    refine⟨_,.tup [],_,D.φ0,rfl,⟨rfl,?_,fun d=>rfl⟩,F,(hW.2.ahead n).grow os⟩
    rw[b6.length_put]
  ·have G:l=[]:=eM (by omega)
   have al:gN l=0:=by rw[G];rfl
   rw[al]
   exact y (some a) o G
def compact_len_le(l:Li):(Go.Lib.compact l).length<=gN l:=by unfold Go.Lib.compact Go.Lib.compactUpTo;rw[eV];exact fq (fR _ _) (by simp)
def compact_fn(hf:ah5 g i)(hC:∀(blk B p:Nat) (F:Li) (w:World),Holds (Value.int .i64) w blk B F.toArray->gN F<=9223372036854775807->gN F<=p->Calls g i #[.slice (some ⟨blk,B,none⟩) (gN F) p] w fun e J=>e=.returned (.slice (some ⟨blk,B,none⟩) (Go.Lib.compact F).length p)/\∃q,J=putRow (Value.int .i64) (Go.Sort.ahead w q) blk B (Go.Lib.compact F++eN (gN F - (Go.Lib.compact F).length) 0).toArray)(K:∀(a:Option Addr) (p:Nat) (w:World),Calls g i #[.slice a 0 p] w fun e J=>e=.returned (.slice a 0 p)/\J=w){σ:b6}{id:Id}{l:Li}(y:σ[id]? =some (some (vec 1 intI l))):
  FnOk g i [.c (.own id 0 (gN l))] σ fun r aa=>r=.c (.own (gN σ,[]) 0 (Go.Lib.compact l).length)/\aa=σ.put id none++[.one (vec 1 intI (Go.Lib.compact l))]:=by
 refine⟨hf,fun G vs ac hG L M=> ?_⟩
 subst ac
 match vs,L with
 |[u],_=>
 have hu:=H1 (M 0 _ u rfl rfl) y
 rw[ai3] at hu
 have f:=Rs.refl hG
 have an:=b6.lt_of y
 have N:Go.Lib.compact ([]:Li)=[]:=rfl
 have t:∀{m:Li},(G.σ0.put id none++[.one (vec 1 intI m)])[((G.σ0.length,[]):Id)]? =some (some (vec 1 intI m)):=fun {m}=>by rw[b6.get_right (by simp)];simp;rfl
 rcases hu with⟨O,hv,_,h0⟩|⟨b,n,p,D,Q,a,O,hv,ha,U,z,ay,s,a0⟩
 ·have E:l=[]:=eM (by omega)
  subst E
  rw[hv]
  refine(K none 0 G.w0).mono ?_
  rintro e J ⟨rfl,rfl⟩
  have hK:=f.kill id
  have hV:=hK.2.virt 1
  refine⟨_,_,_,fun d=>if d=(G.σ0.length,[]) then none else G.φ0 d,rfl,⟨rfl,rfl⟩,?_,?_⟩
  rotate_left
  ·have:=hV.2
   rw[b6.length_put] at this
   exact this
  ·refine .c (.own (by simp) rfl fun k es v=>.inl ⟨?_,rfl,rfl,rfl⟩)
   simp
 ·rw[hv]
  rcases f.st.blk _ _ y with⟨V,_⟩|⟨b',A,ao,av,V,h2,h3,h4,h5⟩
  ·rw[O] at V;cases V
  ·rw[O] at V;cases V
   rw[s] at h2;cases h2
   rw[ai3] at h3
   have H:∀(j:Nat) (x:Int),l[j]? =some x->D[n+j]? =some (.int .i64 x):=fun j x hj=>int_cells h5 hj
   have a1:=compact_len_le l
   by_cases X:0<p
   ·have:=ha X
    subst this
    simp only[fT,fK]
    have ad:gN l<=9223372036854775807:=by simp only[maxLen] at z;omega
    refine(hC b n p l G.w0 (holds_of s H) ad U).mono ?_
    rintro e J ⟨rfl,q,rfl⟩
    have hO:=Rs.reown (k:=1) (base':=n) (es':=((Go.Lib.compact l).map intI).map (·.map C.imm)) (arr':=putCells (Value.int .i64) n (Go.Lib.compact l++eN (gN l - (Go.Lib.compact l).length) 0).toArray D) f y O s (fun j e E=>vec_hk E) (by rw[ai3,at4];omega)
     (vec_hc fun j x hj=>aF1 (by simp;omega) (by rw[eJ (lG.1 hj).1];exact hj))
    rw[putRow_ahead,aD2 s]
    refine⟨_,_,_,_,rfl,⟨rfl,rfl⟩,?_,hO.2.ahead q⟩
    refine .c (.own (by simp) rfl fun k es v=> ?_)
    rw[t] at v
    cases v
    refine .inr ⟨b,n,p,_,Q,⟨b,n,none⟩,by simp,rfl,fun _=>by simp,by omega,z,by rw[ai3];omega,setRow_heap _ _ _ _ _ _ s,by rw[at4];omega⟩
   ·have E:l=[]:=eM (by omega)
    subst E
    refine(K (some a) p G.w0).mono ?_
    rintro e J ⟨rfl,rfl⟩
    have hO:=Rs.reown (k:=1) (base':=n) (es':=[]) (arr':=D) f y O s (fun j e E=>by simp at E) (by simp;omega) (fun j e o x E=>by simp at E)
    rw[setRow_self s] at hO
    refine⟨_,_,_,_,rfl,⟨rfl,rfl⟩,?_,hO.2⟩
    refine .c (.own (by simp) rfl fun k es v=> ?_)
    rw[t] at v
    cases v
    exact .inr ⟨b,n,p,D,Q,a,by simp,rfl,fun h=>absurd h X,by omega,z,by simp[N],s,by omega⟩
end
def insB(lt:A->A->Bool)(x:A):List A->List A
 |[]=>[x]
 |y::r=>match lt y x with
  |true=>y::insB lt x r
  |false=>x::y::r
def srtB(lt:A->A->Bool):List A->List A
 |[]=>[]
 |x::r=>insB lt x (srtB lt r)
def insB_perm{lt:A->A->Bool}{x:A}:∀{l:List A},(insB lt x l).Perm (x::l)
 |[]=>.refl _
 |y::r=>by simp only[insB];split;exact(insB_perm.cons y).trans (.swap x y r);exact .refl _
def srtB_perm{lt:A->A->Bool}:∀{l:List A},(srtB lt l).Perm l
 |[]=>.refl _
 |_::_=>insB_perm.trans (srtB_perm.cons _)
def insB_sorted{lt:A->A->Bool}(f:∀a b c,lt b a=false->lt c b=false->lt c a=false)(g:∀a b,lt a b=true->lt b a=false){x:A}:∀{l:List A},l.Pairwise (fun a b=>lt b a=false)->(insB lt x l).Pairwise fun a b=>lt b a=false
 |[],_=>by simp[insB]
 |y::r,h=>by obtain⟨i,j⟩:=eO.1 h;simp only[insB];split;rename_i e;refine eO.2 ⟨fun z d=> ?_,insB_sorted f g j⟩;rcases eR.1 (insB_perm.mem_iff.1 d) with rfl|d;exact g _ _ e;exact i z d;rename_i e;refine eO.2 ⟨fun z d=> ?_,h⟩;rcases eR.1 d with rfl|d;exact e;exact f _ _ _ e (i z d)
def srtB_sorted{lt:A->A->Bool}(d:∀a b c,lt b a=false->lt c b=false->lt c a=false)(e:∀a b,lt a b=true->lt b a=false):∀{l:List A},(srtB lt l).Pairwise fun a b=>lt b a=false
 |[]=>.nil
 |_::_=>insB_sorted d e (srtB_sorted d e)
def srtB_eq{lt:A->A->Bool}(d:∀a b c,lt b a=false->lt c b=false->lt c a=false)(e:∀a b,lt a b=true->lt b a=false)(f:∀a b,lt a b=false->lt b a=false->a=b){m:List A}(i:m.Perm M)(j:m.Pairwise fun a b=>lt b a=false):srtB lt M=m:=
 List.Perm.eq_of_pairwise (le:=fun a b=>lt b a=false) (fun a b _ _ h g=>f a b g h) (srtB_sorted d e) j (srtB_perm.trans i.symm)
def srtI(l:Li):Li:=srtB (fun a b=>decide (a<b)) l
def srtI_eq(l:Li):srtI l=srt l:=by refine srtB_eq (fun a b c d e=> ?_) (fun a b h=> ?_) (fun a b d e=> ?_) (gC ..) ?_;simp only[decide_eq_false_iff_not] at d e ⊢;omega;simp only[decide_eq_true_eq,decide_eq_false_iff_not] at h ⊢;omega;simp only[decide_eq_false_iff_not] at d e;omega;have:=gl (le:=fun x y:Int=>decide (x<=y)) (fun a b c d e=>by simp at d e ⊢;omega) (fun a b=>by simp;omega) l;refine this.imp fun h=> ?_;simp only[decide_eq_true_eq,decide_eq_false_iff_not] at h ⊢;omega
def sortL(l:Li):Option Li:=if (gN l)<4611686018427387904 then some (srtI l) else none
def sortL_srt(l:Li):sortL l=if (gN l)<4611686018427387904 then some (srt l) else none:=by rw[sortL,srtI_eq]
def al8(l:Li):Li:=Go.Lib.compact l
def sortL_len{l a:Li}(h:sortL l=some a):gN l=gN a:=by rw[sortL_srt] at h;split at h;cases h;simp[srt];cases h
def SortOk(P:Program)(f:FuncId):Prop:=∀{σ:b6} {id:Id} {l:Li},σ[id]? =some (some (vec 1 intI l))->gN l<4611686018427387904->
  FnOk P f [.c (.own id 0 (gN l))] σ fun r a=>r=.tup []/\(gN a)=gN σ/\∀i:Id,a[i]? =(σ.put id (some (vec 1 intI (srt l))))[i]?
def CompactOk(P:Program)(f:FuncId):Prop:=∀{σ:b6} {id:Id} {l:Li},σ[id]? =some (some (vec 1 intI l))->
  FnOk P f [.c (.own id 0 (gN l))] σ fun r a=>r=.c (.own (gN σ,[]) 0 (Go.Lib.compact l).length)/\a=σ.put id none++[.one (vec 1 intI (Go.Lib.compact l))]
def S.sort{σ0:b6}{env:Env}{ops:Array Oper}{rest:List Oper}{pos:String}{x:Od}{al:List Od}{q:Array Ti}{id:Id}{n:Nat}{b u:Li}(o:sortL b=some u)(w:SortOk g i)(y:ev env x=some (.c (.fn i [])))(z:evs env al=some [.c (.own id 0 n)])(A:n=gN b)(t:a[id]? =some (some (vec 1 intI b)))(B:h9 k s=true)(e:putF a id (some (vec 1 intI u))=some p)(h:AOps g σ0 k ops l rest (St.mk (putE env s (.tup [])) p)):
  AOps g σ0 k ops l (⟨s,.call ⟨.value x,al.toArray,q⟩,d,pos,v,none⟩::rest) (St.mk env a):=by
 have D:=G6 e
 subst D A
 rw[sortL_srt] at o
 split at o
 ·cases o
  refine AOps.callS y z B (w t ‹_›) ?_
  rintro r j ⟨rfl,E,F⟩
  refine AOps.sub (s':=⟨putE env s (.tup []),a.put id (some (vec 1 intI (srt b)))⟩) ?_ h
  have:=Sub.same (σ0:=σ0) (env:=putE env s (.tup [])) (σ1:=j) (σ2:=a.put id (some (vec 1 intI (srt b)))) (by rw[b6.length_put,E]) F
  cases s<;>exact this
 ·cases o
def S.compact{σ0:b6}{env:Env}{ops:Array Oper}{rest:List Oper}{pos:String}{x:Od}{al:List Od}{j:Array Ti}{id:Id}{n:Nat}{b:Li}(u:CompactOk g i)(w:ev env x=some (.c (.fn i [])))(y:evs env al=some [.c (.own id 0 n)])(z:n=gN b)(o:a[id]? =some (some (vec 1 intI b)))(A:h9 k s=true)(t:newF a=some c)(B:putF a id none=some q)(e:w8 q (.one (vec 1 intI (al8 b)))=some p)(h:AOps g σ0 k ops l rest (St.mk (putE env s (.c (.own c 0 (al8 b).length))) p)):
  AOps g σ0 k ops l (⟨s,.call ⟨.value x,al.toArray,j⟩,d,pos,v,none⟩::rest) (St.mk env a):=by
 have D:=G6 B
 have E:=D6 t;have F:=v7 e
 subst z D E F
 refine AOps.callS w y A (u o) ?_
 rintro r G ⟨rfl,rfl⟩
 cases s<;>exact h
section
open Go.Sort
def putCellsG_size[Inhabited A]{b:A->Vl}{d:Array A}{a:Array Vl}:(putCells b n d a).size=a.size:=by simp[putCells]
def putCellsG_get[Inhabited A]{enc:A->Vl}{off:Nat}{d:List A}{arr:Array Vl}(h:off+gN d<=arr.size){j:Nat}{x:A}(b:d[j]? =some x):(putCells enc off d.toArray arr)[off+j]? =some (enc x):=by have a:=(lG.1 b).1;have c:=(lG.1 b).2;simp only[putCells,gt];rw[fZ (by omega)];simp only[fe,gI];rw[if_pos (by omega)];simp[a,c]
def putRowG_setRow[Inhabited A]{a:A->Vl}{w:World}{b:Nat}{c:Array Vl}{e:Ti}{f:Nat×Nat}{d:Array A}(g:w.heap[b]? =some (.cells c e f)):
  putRow a w b n d=w.setRow b (putCells a n d c):=by
 unfold putRow mapBlock World.setRow
 congr 1
 apply fB
 intro k
 simp only[fj]
 by_cases hk:b=k
 ·subst hk;simp only[if_true,g,fe,onCells]
 ·simp[hk]
def putRowG_ahead[Inhabited A](a:A->Vl)(w:World)(n b c:Nat)(d:Array A):putRow a (Go.Sort.ahead w n) b c d=Go.Sort.ahead (putRow a w b c d) n:=rfl
def putRow_other[Inhabited A](a:A->Vl)(w:World)(b c:Nat)(d:Array A)(hk:n ≠ b):(putRow a w b c d).heap[n]? =w.heap[n]? :=by unfold putRow mapBlock;simp only[fj];rw[if_neg (fun e=>hk e.symm)]
def putRow_size[Inhabited A](a:A->Vl)(w:World)(b c:Nat)(d:Array A):(putRow a w b c d).heap.size=w.heap.size:=by simp[putRow,mapBlock]
def grow_of{W:World}(f:b.os=W.os)(g:b.tape=W.tape)(j:W.drawn<=b.drawn)(h:b.output=W.output)(o:W.heap.size<=b.heap.size)(l:∀k,k<W.heap.size->b.heap[k]? =W.heap[k]?):∃q os,b=Go.Sort.grow (W.drewN q) os:=by
 refine⟨b.drawn - W.drawn,b.heap.extract W.heap.size b.heap.size,?_⟩;have i:b.heap=W.heap++b.heap.extract W.heap.size b.heap.size:=by apply fB;intro k;rw[Array.getElem?_append];split;exact l k ‹_›;rw[Array.getElem?_extract];split;congr 1;omega;rw[Array.getElem?_eq_none (by omega)]
 obtain⟨heap,tape,drawn,os,output⟩:=W;obtain⟨d,e,c,n,a⟩:=b;dsimp only at f g j h i;subst f g h;unfold Go.Sort.grow World.drewN;dsimp only;rw[<- i];congr 1;omega
abbrev Shw(w:World)(a:Nat->Prop)(b:A->I):={x:Vl×A // RelI w a (b x.2) x.1}
def perm_unique{le:A->A->Bool}(c:∀a b,le a b=true->le b a=true->a=b):∀{l m:List A},l.Pairwise (fun a b=>le a b=true)->m.Pairwise (fun a b=>le a b=true)->l.Perm m->l=m
 |[],m,_,_,d=>(List.nil_perm.1 d).symm
 |a::l,[],_,_,d=>absurd d.length_eq (by simp)
 |a::l,b::m,h,i,d=>by
  obtain⟨l1,j⟩:=eO.1 h;obtain⟨k,n⟩:=eO.1 i;have f:a=b:=by rcases eR.1 (d.subset (fY ..)) with e|e;exact e;rcases eR.1 (d.symm.subset (fY ..)) with g|g;exact g.symm;exact c a b (l1 b g) (k a e)
  subst f;rw[perm_unique c j n ((List.perm_cons a).1 d)]
def sortF_fn{α:Type}{P:Program}{f g:FuncId}(hf:ah5 P f)(hgn:ah5 P g){g0:α->I}{cf:α->α->Int}(hO:SWO (Go.Proofs.ltOf cf))(hT:∀a b,¬ cf a b<0->¬ cf b a<0->a=b)
  (hg:∀a b,e9 P g [.c (.imm (g0 a)),.c (.imm (g0 b))] (.c (int (cf a b))))
  (hC:∀(β:Type) [Inhabited β] (enc:β->Vl),Go.Proofs.OneCell enc->∀(cf:β->β->Int),SWO (Go.Proofs.ltOf cf)->∀(g:Nat) (cb:Array Vl) (blk off cap:Nat) (d:Array β) (w:World),(∀args w,(callFunc g args).run P w=.ok (.enter g args) w)->Go.Proofs.CmpLays1 P g cb enc cf blk off d.size w->Holds enc w blk off d->blk<w.heap.size->d.size<4611686018427387904->
   Calls P f #[.slice (some ⟨blk,off,none⟩) d.size cap,.func (.func g) #[] cb] w fun e w'=>e=.returned (.tuple #[])/\∃d' n os,PermIn 0 d.size d d'/\SortedIn (Go.Proofs.ltOf cf) 0 d.size d'/\w'=Go.Proofs.sortWorld enc w blk off n d' os)
  (hC0:∀(p:Option Addr) (cap:Nat) (fv:Vl) (w:World),Calls P f #[.slice p 0 cap,fv] w fun e w'=>e=.returned (.tuple #[])/\w'=w)
  {σ:b6} {id:Id} {l:List α} (hσ:σ[id]? =some (some (vec 1 (fun a=>[g0 a]) l))) (hl:gN l<4611686018427387904):
  FnOk P f [.c (.own id 0 (gN l)),.c (.fn g [])] σ fun r σ'=>r=.tup []/\(gN σ')=gN σ/\∀i:Id,σ'[i]? =(σ.put id (some (vec 1 (fun a=>[g0 a]) (l.mergeSort fun x y=>decide (¬ cf y x<0)))))[i]? :=by
 refine⟨hf,fun Γ vs hΓ hG hlen hrel=> ?_⟩
 subst hΓ
 match vs,hlen with
 |[u,fv],_=>
 have hu:=H1 (hrel 0 _ u rfl rfl) hσ
 have hfv:fv=.func (.func g) #[] #[]:=by have h:=hrel 1 _ fv rfl rfl;cases h with|c h=>cases h with|fn us hr=>rfl
 subst hfv
 have tupR:∀{w φ σ A},RelT w φ σ A (.tup []) (.tuple #[]):=fun {w φ σ A}=>RelT.tup (ts:=[]) (fun _=>undef) fun i t h=>by simp at h
 have vlen:∀{m:List α},((m.map fun a=>[g0 a]).map (·.map C.imm)).length=gN m:=by simp
 rw[vlen] at hu
 have empty:∀(p:Option Addr) (cap:Nat),l=[]->Calls P f #[.slice p 0 cap,.func (.func g) #[] #[]] Γ.w0 fun e w'=>∃v r σ' φ',e=.returned v/\(r=.tup []/\(gN σ')=Γ.σ0.length/\∀i:Id,σ'[i]? =(Γ.σ0.put id (some (vec 1 (fun a=>[g0 a]) (l.mergeSort fun x y=>decide (¬ cf y x<0)))))[i]?)/\RelT w' φ' σ' (Al Γ.N φ' σ') r v/\Rs Γ σ' φ' w':=fun p cap he=>by
  refine(hC0 p cap _ Γ.w0).mono ?_;rintro e w' ⟨rfl,rfl⟩;refine⟨_,.tup [],Γ.σ0,Γ.φ0,rfl,⟨rfl,rfl,fun i=> ?_⟩,tupR,Rs.refl hG⟩;have:(l.mergeSort fun x y=>decide (¬ cf y x<0))=l:=by rw[he];simp
  rw[this];by_cases hi:i=id;rw[hi,b6.get_put_eq hσ,hσ];rw[b6.get_put_ne hi]
 rcases hu with⟨_,hv,_,h0⟩|⟨b,base,cap,arr,ety,a,hp,hv,ha,hcap,hmax,hjn,hbk,hsz⟩
 ·have he:l=[]:=eM (by omega)
  rw[hv]
  exact empty none 0 he
 ·rw[hv]
  by_cases hc0:0<cap
  ·have:=ha hc0
   subst this
   simp only[fT,fK]
   have hR:=Rs.refl hG
   rcases hR.st.blk _ _ hσ with⟨h1,_⟩|⟨b',base',arr2,ety2,h1,h2,h3,h4,h5⟩
   ·rw[hp] at h1;cases h1
   ·rw[hp] at h1;cases h1
    rw[hbk] at h2;cases h2
    rw[vlen] at h3
    have hblk:=(fI.1 hbk).1
    have hAne:∀k,Al Γ.N Γ.φ0 Γ.σ0 k->k ≠ b:=fun k hk e=>by subst e;exact hk.2 id _ base hσ hp
    -- the elements
    obtain⟨ds,d1,d2⟩:=ex_list (p:=fun j (x:Shw Γ.w0 (Al Γ.N Γ.φ0 Γ.σ0) g0)=>arr[base+j]? =some x.1.1/\l[j]? =some x.1.2) (gN l) fun j hj=>by obtain⟨u,hu1,hu2⟩:=h5 j _ 0 (.imm (g0 l[j])) (by simp[hj];rfl) rfl;cases hu2 with|imm hu2=>exact⟨⟨(u,l[j]),hu2⟩,by simpa using hu1,by simp[hj]⟩
    have dl:ds.map (fun x=>x.1.2)=l:=by refine eT fun j=> ?_;rw[lM];by_cases hj:j<gN l;obtain⟨x,hx⟩:∃x,ds[j]? =some x:=⟨ds[j],by simp[d1,hj]⟩;rw[hx,(d2 j x hx).2];rfl;rw[fm (by omega),fm (by omega)];rfl
    by_cases hl0:l=[]
    ·have hl1:gN l=0:=by rw[hl0];rfl
     rw[hl1]
     exact empty _ cap hl0
    ·obtain⟨x0,hx0⟩:∃x,ds[0]? =some x:=by
      have:0<gN ds:=by rw[d1];exact List.length_pos_iff.2 hl0
      exact⟨ds[0],by simp[this]⟩
     letI:Inhabited (Shw Γ.w0 (Al Γ.N Γ.φ0 Γ.σ0) g0):=⟨x0⟩
     have hH:Holds (fun x:Shw Γ.w0 (Al Γ.N Γ.φ0 Γ.σ0) g0=>x.1.1) Γ.w0 b base ds.toArray:=by
      intro j hj;have hjl:j<gN ds:=by simpa using hj
      refine⟨?_,by simp[World.frozen?,hbk]⟩;rw[World.cell?];simp only[hbk];rw[(d2 j ds[j] (by simp[hjl])).1];simp[hjl]
     have hcmp:Go.Proofs.CmpLays1 P g #[] (fun x:Shw Γ.w0 (Al Γ.N Γ.φ0 Γ.σ0) g0=>x.1.1) (fun x y=>cf x.1.2 y.1.2) b base ds.toArray.size Γ.w0:=by
      intro m os dk hdk x y;have hW:∀k,Al Γ.N Γ.φ0 Γ.σ0 k->k<Γ.w0.heap.size->(Go.Proofs.sortWorld (fun x:Shw Γ.w0 (Al Γ.N Γ.φ0 Γ.σ0) g0=>x.1.1) Γ.w0 b base m dk os).heap[k]? =Γ.w0.heap[k]? :=fun k hk hlt=>by unfold Go.Proofs.sortWorld;rw[heap_grow_old _ os (by rw[putRow_size];exact hlt),putRow_other _ _ _ _ _ (hAne k hk)];rfl
      have gd:∀W:World,Good ⟨W,fun _=>False,fun _=>none,[]⟩:=fun W=>⟨⟨fun i b h=>by simp at h,fun i j bi bj p q h=>by simp at h⟩,fun b h=>h.elim,fun i blk b base h=>by simp at h⟩;have rel:∀z:Shw Γ.w0 (Al Γ.N Γ.φ0 Γ.σ0) g0,RelT (Go.Proofs.sortWorld (fun x:Shw Γ.w0 (Al Γ.N Γ.φ0 Γ.σ0) g0=>x.1.1) Γ.w0 b base m dk os) (fun _=>none) [] (Al (fun _=>False) (fun _=>none) []) (.c (.imm (g0 z.1.2))) z.1.1:=fun z=>
       .c (.imm (z.2.mono hW fun k _ _=>⟨_root_.id,fun i blk base h=>by simp at h⟩))
      refine((hg x.1.2 y.1.2).run ⟨Go.Proofs.sortWorld (fun x:Shw Γ.w0 (Al Γ.N Γ.φ0 Γ.σ0) g0=>x.1.1) Γ.w0 b base m dk os,fun _=>False,fun _=>none,[]⟩ [x.1.1,y.1.1] rfl (gd _) rfl (fun i t v hi hv=> ?_)).mono ?_;match i with
      |0=>cases hi;cases hv;exact rel x
      |1=>cases hi;cases hv;exact rel y
      |i+2=>simp at hi
      rintro e w' ⟨v,r,σ',φ',rfl,rfl,hr,hs⟩;refine⟨?_,grow_of hs.os hs.tape hs.drawn hs.output hs.size fun k hk=>hs.block k ⟨hk,fun i blk base h=>by simp at h⟩⟩;cases hr with|c hr=>cases hr with|imm hr=>cases hr with|val=>rfl
     obtain⟨gf,gf1,gf2,gf3⟩:=hgn
     have hszd:ds.toArray.size=gN l:=by simp[d1]
     have key:=hC _ (fun x:Shw Γ.w0 (Al Γ.N Γ.φ0 Γ.σ0) g0=>x.1.1) (fun x=>x.2.one) (fun x y=>cf x.1.2 y.1.2) ⟨fun x=>hO.irrefl x.1.2,fun x y z=>hO.trans x.1.2 y.1.2 z.1.2,fun x y z=>hO.ntrans x.1.2 y.1.2 z.1.2⟩ g #[] b base cap ds.toArray Γ.w0 (fun args w=>by
      have h2':¬ gf.name= "runtime.NumGoroutine" :=by simpa using gf2
      have h3':¬ gf.body=none:=fun e=>by rw[e] at gf3;cases gf3
      simp[callFunc,gf1,h2',h3']) hcmp hH hblk (by rw[hszd];exact hl)
     rw[hszd] at key
     refine key.mono ?_
     rintro e w' ⟨rfl,d',n,os,hperm,hsort,rfl⟩
     obtain⟨p1,_,p3⟩:=hperm
     have dsz:d'.size=gN l:=by rw[p1];simp[d1]
     have e1:d'.toList.Perm ds:=by
      have a1:d'.extract 0 (gN l)=d':=by rw[<- dsz];simp
      have a2:ds.toArray.extract 0 (gN l)=ds.toArray:=by rw[<- hszd];simp
      rw[a1,a2] at p3;simpa using p3
     have e2:(d'.toList.map fun x=>x.1.2)=l.mergeSort fun x y=>decide (¬ cf y x<0):=by
      refine perm_unique (le:=fun x y=>decide (¬ cf y x<0)) (fun a b h1 h2=> ?_) ?_ ?_ ?_;simp only[decide_eq_true_eq] at h1 h2;exact hT a b h2 h1;rw[List.pairwise_map,gc];intro i j hi hj hij;have hj':j<d'.size:=by simpa using hj
      have:=hsort i j (by omega) hij (by rw[<- dsz];exact hj');rw[getElem!_pos d' j hj',getElem!_pos d' i (by omega)] at this;simpa[Go.Proofs.ltOf] using this;refine gl (fun a b c h1 h2=> ?_) (fun a b=> ?_) l;simp only[decide_eq_true_eq] at h1 h2 ⊢;have:=hO.ntrans c b a (by simpa[Go.Proofs.ltOf] using h2) (by simpa[Go.Proofs.ltOf] using h1);simpa[Go.Proofs.ltOf] using this;simp only[Bool.or_eq_true,decide_eq_true_eq];rcases Int.lt_or_le (cf b a) 0 with h|h;right;intro h';have:=hO.trans a b a (by simpa[Go.Proofs.ltOf] using h') (by simpa[Go.Proofs.ltOf] using h);rw[hO.irrefl] at this;cases this;left;omega;exact((e1.map _).trans (by rw[dl])).trans (gC ..).symm
     rw[<- e2]
     have hW:=Rs.write (k:=1) (es':=((d'.toList.map fun x=>x.1.2).map fun a=>[g0 a]).map (·.map C.imm)) (arr':=putCells (fun x:Shw Γ.w0 (Al Γ.N Γ.φ0 Γ.σ0) g0=>x.1.1) base d' arr) hR hσ hp hbk (by rw[vlen,vlen];simp[dsz]) putCellsG_size (fun j e he=>by
       simp only[fu,lM,oM] at he;obtain⟨a,_,rfl⟩:=he;rfl) (by rw[vlen];omega) (fun j e o x he hx=>by
       simp only[fu,lM,oM] at he;obtain⟨z,hz,rfl⟩:=he;match o with
       |0=>
        cases hx
        have:=putCellsG_get (enc:=fun x:Shw Γ.w0 (Al Γ.N Γ.φ0 Γ.σ0) g0=>x.1.1) (off:=base) (d:=d'.toList) (arr:=arr) (by simp[dsz];omega) hz
        exact⟨_,by simpa using this,.imm z.2⟩
       |o+1=>simp at hx)
     unfold Go.Proofs.sortWorld
     rw[putRowG_ahead,putRowG_setRow hbk]
     refine⟨_,.tup [],_,Γ.φ0,rfl,⟨rfl,?_,fun i=>rfl⟩,tupR,(hW.2.ahead n).grow os⟩
     rw[b6.length_put]
  ·have he:l=[]:=eM (by omega)
   have hl0:gN l=0:=by rw[he];rfl
   rw[hl0]
   exact empty (some a) cap he
end
def vw(l:List A)(a len:Int):Option Unit:=if 0<=a/\0<=len/\a+len<=gN l then some () else none
def cutV(len a b:Int):Option Unit:=if 0<=a/\a<=b/\b<=len then some () else none
def ixV(l:List A)(a len i:Int):Option A:=if 0<=a/\0<=i/\i<len/\a+len<=gN l then ix l (a+i) else none
def A9(l:List A)(a len:Int):List A:=(l.drop a.toNat).take len.toNat
def clrL(l:List A)(a len:Int)(z:A):List A:=l.take a.toNat++eN len.toNat z++l.drop (a.toNat+len.toNat)
def ag3{len:Int}{u:Unit}(h:vw M x len=some u):0<=x/\0<=len/\x+len<=gN M:=by unfold vw at h;split at h;assumption;cases h
def aw4{len a:Int}{u:Unit}(h:cutV len x a=some u):0<=x/\x<=a/\a<=len:=by unfold cutV at h;split at h;assumption;cases h
def ixV_get{len i:Int}(h:ixV M x len i=some L):(0<=x/\0<=i/\i<len/\x+len<=gN M)/\ix M (x+i)=some L:=by unfold ixV at h;split at h;exact⟨‹_›,h⟩;cases h
def ixV_ix{len i:Int}(h:ixV M x len i=some L):ix M (x+i)=some L:=(ixV_get h).2
def viewL_len{len:Int}{u:Unit}(h:vw M x len=some u):(A9 M x len).length=len.toNat:=by have:=ag3 h;simp[A9];omega
def S.lenV{σ0:b6}{env:Env}{ops:Array Oper}{rest:List Oper}{pos:String}{id:Id}{x:Od}{t e:Ti}{n:Int}{j:Nat}[q:TyD g t (.slice e)](r:0<=n)(i:ev env x=some (.c (.own id j n.toNat)))(b:a[id]? =some (some (vec y P M)))(o:h9 k s=true)(h:n<=9223372036854775807->AOps g σ0 k ops l rest (St.mk (putE env s (.c (int n))) a)):AOps g σ0 k ops l (⟨s,.call ⟨.builtin .len,#[x],#[t]⟩,d,pos,v,none⟩::rest) (St.mk env a):=
 AOps.lenOwnB i b o fun u=>by
  have p:((n.toNat:Nat):Int)=n:=by omega
  rw[p];exact h (by omega)
def S.idxV{σ0:b6}{env:Env}{ops:Array Oper}{rest:List Oper}{pos:String}{id:Id}{x y:Od}{t e:Ti}{bytes:Nat}{z:Vl}{o:IntKind}{b len i:Int}[w:TyD g t (.slice e)][B:TyS g e k bytes z](p:ixV M b len i=some L)(q:ev env x=some (.c (.own id b.toNat len.toNat)))(j:a[id]? =some (some (vec k P M)))(r:ev env y=some (.c (.imm (.val (.int o i)))))(u:h9 n s=true)(h:AOps g σ0 n ops l rest (St.mk (putE env s (.c (.ptr id (b+i).toNat 0))) a)):AOps g σ0 n ops l (⟨s,.indexAddr t x y,d,pos,v,none⟩::rest) (St.mk env a):=by
 obtain⟨⟨D,E,F,G⟩,_⟩:=ixV_get p
 refine .indexAddrOwn q j r (by omega) u ?_
 rw[show b.toNat+i.toNat=(b+i).toNat by omega]
 exact h
def S.vFrom{σ0:b6}{env:Env}{ops:Array Oper}{rest:List Oper}{pos:String}{id:Id}{x b:Od}{t e:Ti}{bytes:Nat}{z:Vl}{r:IntKind}{i len o:Int}{j n:Nat}{u w:Unit}[K:TyD g t (.slice e)][L:TyS g e y bytes z](B:vw M i len=some u)(D:cutV len o len=some w)(E:ev env x=some (.c (.own id j n)))(F:j=i.toNat)(G:n=len.toNat)(p:a[id]? =some (some (vec y P M)))(q:ev env b=some (.c (.imm (.val (.int r o)))))(H:h9 k s=true)(h:AOps g σ0 k ops l rest (St.mk (putE env s (.c (.own id (i+o).toNat (len - o).toNat))) a)):AOps g σ0 k ops l (⟨s,.slice t x (some b) none none,d,pos,v,none⟩::rest) (St.mk env a):=by
 have N:=ag3 B;have O:=aw4 D
 subst F G
 have J:o=((o.toNat:Nat):Int):=by omega
 rw[J] at q
 refine AOps.sliceOwnFrom E p q (by omega) H ?_
 rw[show i.toNat+o.toNat=(i+o).toNat by omega,show len.toNat - o.toNat=(len - o).toNat by omega]
 exact h
def S.vTo{σ0:b6}{env:Env}{ops:Array Oper}{rest:List Oper}{pos:String}{id:Id}{x b:Od}{t e:Ti}{bytes:Nat}{z:Vl}{r:IntKind}{i len o:Int}{j n:Nat}{u w:Unit}[K:TyD g t (.slice e)][L:TyS g e y bytes z](B:vw M i len=some u)(D:cutV len 0 o=some w)(E:ev env x=some (.c (.own id j n)))(F:j=i.toNat)(G:n=len.toNat)(p:a[id]? =some (some (vec y P M)))(q:ev env b=some (.c (.imm (.val (.int r o)))))(H:h9 k s=true)(h:AOps g σ0 k ops l rest (St.mk (putE env s (.c (.own id i.toNat o.toNat))) a)):AOps g σ0 k ops l (⟨s,.slice t x none (some b) none,d,pos,v,none⟩::rest) (St.mk env a):=by
 have N:=ag3 B;have O:=aw4 D
 subst F G
 have J:o=((o.toNat:Nat):Int):=by omega
 rw[J] at q
 exact AOps.sliceOwnTo E p q (by omega) H h
def S.v3{σ0:b6}{env:Env}{ops:Array Oper}{rest:List Oper}{pos:String}{id:Id}{x b B:Od}{t e:Ti}{bytes:Nat}{z:Vl}{D q:IntKind}{i len o p:Int}{j n:Nat}{u E:Unit}[O:TyD g t (.slice e)][U:TyS g e y bytes z](F:vw M i len=some u)(G:cutV len o p=some E)(H:ev env x=some (.c (.own id j n)))(J:j=i.toNat)(K:n=len.toNat)(r:a[id]? =some (some (vec y P M)))(L:ev env b=some (.c (.imm (.val (.int D o)))))(w:ev env B=some (.c (.imm (.val (.int q p)))))(N:h9 k s=true)(h:AOps g σ0 k ops l rest (St.mk (putE env s (.c (.own id (i+o).toNat (p - o).toNat))) a)):AOps g σ0 k ops l (⟨s,.slice t x (some b) (some B) none,d,pos,v,none⟩::rest) (St.mk env a):=by
 have V:=ag3 F;have X:=aw4 G
 subst J K
 refine AOps.sliceOwn H r L w (by omega) N ?_
 rw[show i.toNat+o.toNat=(i+o).toNat by omega,show p.toNat - o.toNat=(p - o).toNat by omega]
 exact h
def ReE(env:Env)(t:Nat)(a:C):Env->Prop
 |[]=>True
 |(b,v)::r=>(b=t/\v=.c a\/lookup b env=some v)/\ReE env t a r
def ReE.get{env:Env}{t:Nat}{d:C}:∀{a:Env},ReE env t d a->∀b v,lookup b a=some v->b=t/\v=.c d\/lookup b env=some v
 |[],_,t,v,h=>by simp[lookup] at h
 |(k,x)::r,⟨f,g⟩,b,v,h=>by
  simp only[lookup] at h;split at h;cases h;rename_i e;have:k=b:=by simpa using e
  subst this;exact f;exact ReE.get g b v h
def Sub.reown{σ0:b6}{env env':Env}{id:Id}{k:Nat}{g len:Int}{j n:Nat}{n':Id}{u:Unit}(t:Nat)(hv:vw M g len=some u)(hx:lookup t env=some (.c (.own id j n)))(hj:j=g.toNat)(hn:n=len.toNat)(B:a[id]? =some (some (vec k P M)))(h0:fa (gN σ0) id.1=true)(ac:newF a=some n')(h1:putF a id none=some q)(O:w8 q (.one (vec k P (A9 M g len)))=some p)(Q:ReE env t (.own n' 0 (A9 M g len).length) env'):Sub σ0 ⟨env,a⟩ ⟨env',p⟩:=fun Γ sz U d w a5 L=>by
 have h2:=G6 h1
 have h3:=D6 ac;have h4:=v7 O
 have D:=viewL_len hv
 have a6:=ag3 hv
 subst hj hn h2 h3 h4
 have a1:=b6.lt_of B
 have E:(a.put id none++[.one (vec k P (A9 M g len))])[((gN a,[]):Id)]? =some (some (vec k P (A9 M g len))):=by rw[b6.get_right (by simp)];simp;rfl
 obtain⟨u0,al,G⟩:=L.env t _ hx
 have ho:=H1 G B
 have V:∀(s:Phi) (hk:Kept w w U s a (a.put id none++[.one (vec k P (A9 M g len))]) (Al Γ.N U a) (Al Γ.N s (a.put id none++[.one (vec k P (A9 M g len))]))) (hs:Rs Γ (a.put id none++[.one (vec k P (A9 M g len))]) s w) (y:ad5 w (s (gN a,[])) k (A9 M g len).length 0 (A9 M g len).length u0),
   R Γ sz ⟨env',a.put id none++[.one (vec k P (A9 M g len))]⟩ s d w:=fun s hk hs y=>by
  have X:=L.of hk hs
  refine {toRs:=hs,defers:=X.defers,asize:=L.asize,env:=fun t' v' an=> ?_}
  rcases Q.get t' v' an with⟨rfl,rfl⟩|h
  ·refine⟨u0,al,.c (.own (by simp) (by cases G with|c f=>exact f.one) fun k' ao r=> ?_)⟩
   rw[E] at r
   cases r
   simpa using y
  ·obtain⟨u1,g1,f⟩:=X.env t' v' h
   exact⟨u1,g1,f⟩
 rcases ho with⟨p1,p2,p3,p4⟩|⟨b,z,v,K,l,ad,hp,av,ay,H,aa,a7,F,a8⟩
 ·have J:A9 M g len=[]:=eM (by rw[D,p4])
  have hK:=L.toRs.kill id
  have hV:=hK.2.virt k
  have e1:a.put id none++[.one (vec k P (A9 M g len))]=a.put id none++[.one (.cells k [])]:=by rw[J];rfl
  rw[b6.length_put] at hV
  refine⟨fun i=>if i=(gN a,[]) then none else U i,?_⟩
  have:=V (fun i=>if i=(gN a,[]) then none else U i) (by rw[e1];exact Kept.trans (fp _) hK.1 hV.1) (by rw[e1];exact hV.2) (.inl ⟨by simp,p2,rfl,by rw[J];rfl⟩)
  exact this
 ·obtain⟨a2,a3,q1,q2,q3,q4⟩:=N5 L B hp
  rw[F] at q1;cases q1
  have hO:=Rs.reown (k:=k) (base':=z+g.toNat * k) (es':=((A9 M g len).map P).map (·.map C.imm)) (arr':=K) L.toRs B hp F (fun j e r=>by
    have:((A9 M g len).map P).map (·.map C.imm)=((((M.map P).map (·.map C.imm)).drop g.toNat).take len.toNat):=by simp[A9,gA,gB]
    rw[this,eP] at r;split at r;rw[eU] at r;exact q3 _ e r;cases r) (by
    simp only[eV,D];have:(g.toNat+v) * k=g.toNat * k+v * k:=fP ..;have:len.toNat * k<=v * k:=ff k H;omega) (fun j e o x r hx=>by
    have:((A9 M g len).map P).map (·.map C.imm)=((((M.map P).map (·.map C.imm)).drop g.toNat).take len.toNat):=by simp[A9,gA,gB]
    rw[this,eP] at r;split at r;rw[eU] at r;obtain⟨u2,g1,f⟩:=q4 _ e o x r hx;refine⟨u2,?_,f⟩;rw[<- g1,fP];congr 1;omega;cases r)
  rw[Go.setRow_self w b K l (0,0) F] at hO
  refine⟨fun i=>if i=(gN a,[]) then some (b,z+g.toNat * k) else U i,?_⟩
  refine V _ hO.1 hO.2 (.inr ⟨b,z+g.toNat * k,v,K,l,ad,by simp,?_,fun hc=> ?_,?_,aa,by omega,F,?_⟩)
  ·rw[av,D]
  ·rw[ay hc,fT,fK]
  ·rw[D];exact H
  ·have:(g.toNat+v) * k=g.toNat * k+v * k:=fP ..
   rw[fL];omega
def AWP.reown{σ0:b6}{env env':Env}{id:Id}{k:Nat}{c:Code}{len:Int}{j n:Nat}{o:Id}{u:Unit}(t:Nat)(r:vw M x len=some u)(s:lookup t env=some (.c (.own id j n)))(v:j=x.toNat)(w:n=len.toNat)(e:a[id]? =some (some (vec k P M)))(z:fa (gN σ0) id.1=true)(i:newF a=some o)(B:putF a id none=some q)(b:w8 q (.one (vec k P (A9 M x len)))=some p)(d:ReE env t (.own o 0 (A9 M x len).length) env')(h:AWP g σ0 y c l ⟨env',p⟩):AWP g σ0 y c l ⟨env,a⟩:=
 AWP.sub (Sub.reown t r s v w e z i B b d) h
def zeroCells_one{v:Vl}(n:Nat):(Builtin.zeroCells #[v] n).toList=eN n v:=by
 refine eT fun i=> ?_;simp only[Builtin.zeroCells,Array.toList_map,lM,fg];by_cases h:i<n;have:(Array.range (n * (#[v]:Array Vl).size)).toList[i]? =some i:=by simp[h]
 rw[this,if_pos h];simp[Nat.mod_one];have:(Array.range (n * (#[v]:Array Vl).size)).toList[i]? =none:=by simp;omega
 rw[this,if_neg h];rfl
def S.clear{σ0:b6}{env:Env}{ops:Array Oper}{rest:List Oper}{pos:String}{F:Array Edge}{id:Id}{x:Od}{t e:Ti}{bytes:Nat}{z:Vl}{B len:Int}{j n:Nat}{u:Unit}{a0:A}{c0:C}[ht:TyD g t (.slice e)][hs:TyS g e 1 bytes z](a2:z.cells=#[z])(a3:z.oneCell'=true)(hf:(P a0).map C.imm=[c0])(ac:∀w X σ q,RelC w X σ q c0 z)(hv:vw M B len=some u)(hx:ev env x=some (.c (.own id j n)))(hj:j=B.toNat)(hn:n=len.toNat)(H:a[id]? =some (some (vec 1 P M)))(al:putF a id (some (vec 1 P (clrL M B len a0)))=some p)(h:AOps g σ0 k ops l rest (St.mk env p)):AOps g σ0 k ops l (⟨none,.call ⟨.builtin .clear,#[x],#[t]⟩,d,pos,F,none⟩::rest) (St.mk env a):=by
 have b1:=ag3 hv
 have h2:=G6 al
 subst hj hn h2
 refine .valueW rfl rfl (.tup []) (a.put id (some (vec 1 P (clrL M B len a0)))) (fun Γ X r w hR=> ?_) h
 have U:∀{w X σ q},RelT w X σ q (.tup []) (.tuple #[]):=fun {w X σ q}=>RelT.tup (ts:=[]) (fun _=>undef) fun i t h=>by simp at h
 have ho:=H1 (m9 hR hx) H
 have an:(clrL M B len a0).length=gN M:=by simp[clrL];omega
 have J:len.toNat=0->clrL M B len a0=M:=fun e=>by simp[clrL,e]
 have V:len.toNat=0->(execOp r.eval ⟨none,.call ⟨.builtin .clear,#[x],#[t]⟩,d,pos,F,none⟩).run g w=.ok (.value (.tuple #[])) w->∃u w' K,(execOp r.eval ⟨none,.call ⟨.builtin .clear,#[x],#[t]⟩,d,pos,F,none⟩).run g w=.ok (.value u) w'/\RelT w' K (a.put id (some (vec 1 P (clrL M B len a0)))) (Al Γ.N K (a.put id (some (vec 1 P (clrL M B len a0))))) (.tup []) u/\R Γ k ⟨env,a.put id (some (vec 1 P (clrL M B len a0)))⟩ K r w':=fun e0 ao=>by rw[J e0];have av:=Sub.blk (σ0:=Γ.σ0) (env:=env) (id:=id) (k:=1) (es:=(M.map P).map (·.map C.imm)) (es':=(M.map P).map (·.map C.imm)) H rfl (fun i e' L=>by rcases hR.st.blk _ _ H with⟨_,g2⟩|⟨_,_,_,_,_,_,_,g4,_⟩;rw[g2] at L;simp at L;exact g4 i e' L) (fun i e' o x' L G=>⟨e',x',L,G,fun _ _ _ _ _ hr=>hr⟩);obtain⟨K,a5⟩:=av Γ k X r w rfl hR;exact⟨_,w,K,ao,U,a5⟩
 rcases ho with⟨p1,p2,p3,p4⟩|⟨b,D,a6,O,a7,ad,hp,f,a8,bk,bs,a9,Q,b4⟩
 ·exact V p4 (by simp[execOp,resolve,invoke,builtin,p2,Builtin.clear_,run_underlying ht.h])
 ·by_cases e0:len.toNat=0
  ·refine V e0 ?_
   rw[e0] at f
   simp[execOp,resolve,invoke,builtin,f,Builtin.clear_,run_underlying ht.h]
  ·have be:0<a6:=by omega
   have:=a8 be
   subst this
   obtain⟨bv,bx,q1,q2,q3,q4⟩:=N5 hR H hp
   rw[Q] at q1;cases q1
   simp only[eV] at q2 a9
   have ay:=run_storeCells_at g b (D+B.toNat * 1) a7 (eN len.toNat z) 0 O w Q (by simp;omega) (fun v hv=>by rw[gi hv];exact a3)
   simp only[fK,Nat.mul_one,fS] at ay
   have ca:∀b:A,((P b).map C.imm).length=(P b).length:=fun b=>by simp
   have hW:=Rs.write (k:=1) (es':=((clrL M B len a0).map P).map (·.map C.imm)) (arr':=(O.toList.take (D+B.toNat)++eN len.toNat z++O.toList.drop (D+B.toNat+len.toNat)).toArray) hR.toRs H hp Q (by simp[an]) (by simp;omega) (fun i e' L=>by
     simp only[fu,lM,oM] at L;obtain⟨y,E,rfl⟩:=L;by_cases aa:y ∈ M;obtain⟨i',bi⟩:=fF aa;exact q3 i' _ (by simp[bi]);have E:=fU E;simp only[clrL,List.mem_append] at E;rcases E with(E|E)|E;exact absurd (List.mem_of_mem_take E) aa;rw[gi E];simp only[fJ,hf];rfl;exact absurd (fV E) aa) (by simp;omega) (fun i e' o x' L G=>by
     simp only[fu,lM,oM,fJ] at L;obtain⟨y,E,rfl⟩:=L;simp only[List.getElem?_toArray];have a1:=D3 O.toList (eN len.toNat z) (D+B.toNat) (D+(i * 1+o)) (by simp;omega);simp only[fS] at a1;rw[a1];have bj:(clrL M B len a0)[i]? =if B.toNat<=i/\i<B.toNat+len.toNat then some a0 else M[i]? :=by have:=D3 M (eN len.toNat a0) B.toNat i (by simp;omega);simp only[fS] at this;rw[clrL,this];split;rw[fg,if_pos (by omega)];rfl
     rw[bj] at E;split at E;rename_i hi;cases E;rw[hf] at G;match o with
     |0=>
      cases G
      rw[if_pos (by omega),fg,if_pos (by omega)]
      exact⟨z,rfl,ac _ _ _ _⟩
     |o+1=>simp at G
     rename_i hi;have ho:o=0:=by have h1:=q3 i ((P y).map C.imm) (by simp[E]);have:=(lG.1 G).1;omega
     subst ho;rw[if_neg (by omega)];obtain⟨u2,g1,g2⟩:=q4 i ((P y).map C.imm) 0 x' (by simp[E]) G;exact⟨u2,by simpa using g1,g2⟩)
   have hz:=am6 (P:=g) (t:=e) w
   refine⟨.tuple #[],_,X,?_,U,hR.of hW.1 hW.2⟩
   have cb:¬ (len.toNat=0):=e0
   simp[execOp,resolve,invoke,builtin,f,Builtin.clear_,run_underlying ht.h,hz,a2,zeroCells_one,ay]
section
open Go.Sort
def CmpOk(d:A->A->Option Int)(c:A->A->Int):Prop:=(∀a b,d a b=some (c a b))/\SWO (Go.Proofs.ltOf c)/\∀a b,¬ c a b<0->¬ c b a<0->a=b
noncomputable def sortFL(a:A->A->Option Int)(l:List A):Option (List A):=open Classical in
 if h:gN l<4611686018427387904/\∃b,CmpOk a b then some (l.mergeSort fun x y=>decide (¬ h.2.choose y x<0)) else none
def sortFL_eq{c:A->A->Option Int}{d:A->A->Int}(h:gN M<4611686018427387904)(g:CmpOk c d):sortFL c M=some (M.mergeSort fun x y=>decide (¬ d y x<0)):=by
 unfold sortFL;have f:gN M<4611686018427387904/\∃d,CmpOk c d:=⟨h,d,g⟩;rw[dif_pos f];have e:f.2.choose=d:=by funext a b;have:=f.2.choose_spec.1 a b;rw[g.1 a b] at this;exact(Option.some.inj this).symm
 rw[e]
def lltB:Li->Li->Bool
 |[],[]=>false
 |[],_::_=>true
 |_::_,[]=>false
 |a::l,b::m=>if a<b then true else if a=b then lltB l m else false
def sortLL(l:LL):Option (LL):=if (gN l)<4611686018427387904 then some (srtB lltB l) else none
def sortFL_len{a:A->A->Option Int}{b:List A}(h:sortFL a M=some b):gN M=gN b:=by unfold sortFL at h;split at h;cases h;simp;cases h
def SortFOk(P:Program)(f:FuncId):Prop:=∀{h:Type} {g:FuncId} {j:h->I} {d:h->h->Int},ah5 P g->SWO (Go.Proofs.ltOf d)->(∀a b,¬ d a b<0->¬ d b a<0->a=b)->(∀a b,e9 P g [.c (.imm (j a)),.c (.imm (j b))] (.c (int (d a b))))->
 ∀{σ:b6} {id:Id} {l:List h},σ[id]? =some (some (vec 1 (fun a=>[j a]) l))->gN l<4611686018427387904->
  FnOk P f [.c (.own id 0 (gN l)),.c (.fn g [])] σ fun r e=>r=.tup []/\(gN e)=gN σ/\∀i:Id,e[i]? =(σ.put id (some (vec 1 (fun a=>[j a]) (l.mergeSort fun x y=>decide (¬ d y x<0)))))[i]?
def S.sortF{σ0:b6}{env:Env}{ops:Array Oper}{rest:List Oper}{pos:String}(q:A->I){t:A->A->Option Int}{x:Od}{al:List Od}{D:Array Ti}{e:FuncId}{id:Id}{n:Nat}{H:List A}(B:sortFL t M=some H)(E:P=fun j=>[q j])(u:∀{j b r},t j b=some r->e9 g e [.c (.imm (q j)),.c (.imm (q b))] (.c (int r)))(J:SortFOk g i)(F:ah5 g e)(K:ev env x=some (.c (.fn i [])))(L:evs env al=some [.c (.own id 0 n),.c (.fn e [])])(N:n=gN M)(G:a[id]? =some (some (vec 1 P M)))(O:h9 k s=true)(w:putF a id (some (vec 1 P H))=some p)(h:AOps g σ0 k ops l rest (St.mk (putE env s (.tup [])) p)):
  AOps g σ0 k ops l (⟨s,.call ⟨.value x,al.toArray,D⟩,d,pos,v,none⟩::rest) (St.mk env a):=by
 have U:=G6 w
 subst U N E
 unfold sortFL at B
 split at B
 ·rename_i o
  cases B
  obtain⟨c1,V,X⟩:=o.2.choose_spec
  refine AOps.callS K L O (J F V X (fun j b=>u (c1 j b)) G o.1) ?_
  rintro r z ⟨rfl,Q,f⟩
  refine AOps.sub (s':=⟨putE env s (.tup []),a.put id (some (vec 1 (fun j=>[q j]) (M.mergeSort fun x y=>decide (¬ o.2.choose y x<0))))⟩) ?_ h
  have:=Sub.same (σ0:=σ0) (env:=putE env s (.tup [])) (σ1:=z) (σ2:=a.put id (some (vec 1 (fun j=>[q j]) (M.mergeSort fun x y=>decide (¬ o.2.choose y x<0))))) (by rw[b6.length_put,Q]) f
  cases s<;>exact this
 ·cases B
/-! ### Views in chains -/
def H2(l:List A):vw l 0 (gN l:Int)=some ():=by unfold vw;rw[if_pos];omega
def as0{len a b:Int}{u c:Unit}(h:vw M x len=some u)(d:cutV len a b=some c):vw M (x+a) (b - a)=some ():=by have:=ag3 h;have:=aw4 d;unfold vw;rw[if_pos];omega
def vw_to{len a:Int}{u b:Unit}(h:vw M x len=some u)(c:cutV len 0 a=some b):vw M x a=some ():=by have:=ag3 h;have:=aw4 c;unfold vw;rw[if_pos];omega
def clrL_len{len:Int}{u:Unit}(h:vw M x len=some u):(clrL M x len L).length=gN M:=by have:=ag3 h;simp[clrL];omega
end
def shlW(k:IntKind)(a b:Int):Int:=k.wrap (a * 2 ^ (min b.toNat k.bits))
def chk0(b:Int):Option Unit:=if b<0 then none else some ()
def chkN(b:Int):Option Unit:=if b=0 then none else some ()
def chk0_get{b:Int}{u:Unit}(h:chk0 b=some u):¬ b<0:=by unfold chk0 at h;split at h;cases h;assumption
def chkN_get{b:Int}{u:Unit}(h:chkN b=some u):b ≠ 0:=by unfold chkN at h;split at h;cases h;assumption
section
variable{P:Program}{σ0 σv:b6}{sz:Nat}{Q:Post}{env:Env}{ops:Array Oper}{rest:List Oper}{dst:Option Nat}{ty:Ti}{pos:String}{after:Array Edge}
theorem S.shl{t t':Ti}{x y:Od}{k k':IntKind}{a b:Int}{u:Unit}(hb:chk0 b=some u)(hx:ev env x=some (.c (.imm (.val (.int k a)))))(hy:ev env y=some (.c (.imm (.val (.int k' b)))))(hd:h9 sz dst=true)
  (h:AOps P σ0 sz ops Q rest (St.mk (putE env dst (.c (.imm (.val (.int k (shlW k a b)))))) σv)):AOps P σ0 sz ops Q (⟨dst,.binOp .shl t x y t',ty,pos,after,none⟩::rest) (St.mk env σv):=
 .bin hx hy hd rfl (fun w=>by simp[go_sem]) (fun w=>by simp[binOp,Op.shift,chk0_get hb,shlW]) h
end
def S.quo{σ0:b6}{env:Env}{ops:Array Oper}{rest:List Oper}{pos:String}{t f:Ti}{x y:Od}{k:IntKind}{e b:Int}{u:Unit}(i:chkN b=some u)(j:ev env x=some (.c (.imm (.val (.int k e)))))(o:ev env y=some (.c (.imm (.val (.int k b)))))(p:h9 n s=true)(h:AOps g σ0 n ops l rest (St.mk (putE env s (.c (.imm (.val (.int k (k.wrap (e.tdiv b))))))) a)):AOps g σ0 n ops l (⟨s,.binOp .quo t x y f,d,pos,v,none⟩::rest) (St.mk env a):=.quoW j o p (chkN_get i) h
def S.rem{σ0:b6}{env:Env}{ops:Array Oper}{rest:List Oper}{pos:String}{t f:Ti}{x y:Od}{k:IntKind}{e b:Int}{u:Unit}(i:chkN b=some u)(j:ev env x=some (.c (.imm (.val (.int k e)))))(o:ev env y=some (.c (.imm (.val (.int k b)))))(p:h9 n s=true)(h:AOps g σ0 n ops l rest (St.mk (putE env s (.c (.imm (.val (.int k (e.tmod b)))))) a)):AOps g σ0 n ops l (⟨s,.binOp .rem t x y f,d,pos,v,none⟩::rest) (St.mk env a):=.remW j o p (chkN_get i) h
def Sub.virtB{σ0:b6}{env:Env}{α:Type}(c:Nat)(d:α->List I){b n:Id}{o:Nat}{cs:List C}(L:a[b]? =some (some (.cells k [cs])))(U:cs[o]? =some (.imm (.val (.slice none 0 0))))(V:newF a=some n)(X:w8 a (.one (vec c d []))=some q)(hs:setF cs o (.own n 0 ([]:List α).length)=some f)(s:putF q b (some (.cells k [f]))=some p):Sub σ0 ⟨env,a⟩ ⟨env,p⟩:=fun Γ sz φ l w aa M=>by
 have g1:=D6 V;have g2:=v7 X;have B:=Q7 hs;have g4:=G6 s
 obtain⟨B,ac⟩:=B
 subst g1 g2 B g4
 have D:=b6.lt_of L
 have r:=M.toRs.virt c
 have t:(a++[.one (vec c d [])])[b]? =some (some (.cells k [cs])):=by rw[b6.get_left D];exact L
 have e0:(a++[.one (.cells c [])]:b6)=a++[.one (vec c d [])]:=rfl
 rw[e0] at r
 generalize E:(fun i=>if i=((gN a,[]):Id) then none else φ i)=v at r
 have F:v (gN a,[])=none:=by rw[<- E];simp
 rcases r.2.st.blk _ _ t with⟨_,g⟩|⟨b0,N,y,G,q1,O,q3,q4,P⟩
 ·cases g
 ·have H:=Rs.write (k:=k) (es':=[cs.set o (.own (gN a,[]) 0 ([]:List α).length)]) (arr':=y) r.2 t q1 O rfl rfl (fun j e z=>by
   match j with
   |0=>
    cases z
    rw[lS]
    exact q4 0 cs rfl
   |j+1=>simp at z) (by simpa using q3) (fun j e i x z A=>by
   match j with
   |0=>
    cases z
    rw[fO] at A
    split at A
    ·rename_i e
     subst e
     cases A
     obtain⟨u,hu,K⟩:=P 0 cs o _ rfl U
     refine⟨u,hu,?_⟩
     cases K with|imm K=>cases K with|val h=>
      exact .own (by simp) rfl fun k' J _=>.inl ⟨F,rfl,rfl,rfl⟩
    ·exact P 0 cs i x rfl A
   |j+1=>simp at z)
  rw[Go.setRow_self w b0 y G (0,0) O] at H
  exact⟨v,(M.of r.1 r.2).of H.1 H.2⟩
def AWP.virtB{σ0:b6}{env:Env}{α:Type}{c:Code}(d:Nat)(e:α->List I){b n:Id}{o:Nat}{cs:List C}(j:a[b]? =some (some (.cells y [cs])))(r:cs[o]? =some (.imm (.val (.slice none 0 0))))(s:newF a=some n)(t:w8 a (.one (vec d e []))=some q)(u:setF cs o (.own n 0 ([]:List α).length)=some f)(i:putF q b (some (.cells y [f]))=some p)(h:AWP g σ0 k c l ⟨env,p⟩):AWP g σ0 k c l ⟨env,a⟩:=AWP.sub (Sub.virtB d e j r s t u i) h
def NilB:List C->List C->Prop
 |[],[]=>True
 |c::r,a::b=>(a=c\/c=.imm (.val (.slice none 0 0))/\∃k,a=.imm (.sl k []))/\NilB r b
 |_,_=>False
def NilB.len:∀{l a:List C},NilB l a->gN a=gN l
 |[],[],_=>rfl
 |_::r,_::b,⟨_,h⟩=>by simp[NilB.len h]
 |[],_::_,h=>h.elim
 |_::_,[],h=>h.elim
def NilB.get:∀{l b:List C},NilB l b->∀(o:Nat) (x:C),b[o]? =some x->∃a,l[o]? =some a/\(x=a\/a=.imm (.val (.slice none 0 0))/\∃k,x=.imm (.sl k []))
 |[],[],_,o,x,h=>by simp at h
 |c::r,f::g,⟨d,e⟩,o,x,h=>by
  match o with
  |0=>cases h;exact⟨c,rfl,d⟩
  |o+1=>simpa using NilB.get e o x (by simpa using h)
 |[],_::_,h,_,_,_=>h.elim
 |_::_,[],h,_,_,_=>h.elim
def Sub.nilB{σ0:b6}{env:Env}{b:Id}{cs:List C}(c:List C)(q:a[b]? =some (some (.cells n [cs])))(h:NilB cs c)(d:gN cs=n)(f:putF a b (some (.cells n [c]))=some p):Sub σ0 ⟨env,a⟩ ⟨env,p⟩:=by
 have g:=G6 f;subst g;refine Sub.blk q rfl (fun j e i=> ?_) (fun j e o x i r=> ?_);match j with
 |0=>cases i;rw[h.len,d]
 |j+1=>simp at i
 match j with
 |0=>
  cases i
  obtain⟨s,t,v⟩:=h.get o x r
  refine⟨cs,s,rfl,t,fun w y σ A u l=> ?_⟩
  rcases v with rfl|⟨rfl,k,rfl⟩
  ·exact l
  ·cases l with|imm l=>cases l with|val=>exact .imm .slNil
 |j+1=>simp at i
def AWP.nilB{σ0:b6}{env:Env}{c:Code}{b:Id}{cs:List C}(d:List C)(i:a[b]? =some (some (.cells k [cs])))(h:NilB cs d)(e:gN cs=k)(f:putF a b (some (.cells k [d]))=some p)(j:AWP g σ0 n c l ⟨env,p⟩):AWP g σ0 n c l ⟨env,a⟩:=AWP.sub (Sub.nilB d i h e f) j
abbrev vecS(f:A->List I)(l:List A)(p:Nat)(n:Id)(m:Nat):Blk:=.cells 1 (((l.map f).map (·.map C.imm)).set p [.own n 0 m])
def mem_set{x:A}:∀{l:List A} {p:Nat},x ∈ l.set p L->x ∈ l\/x=L
 |[],_,h=>by simp at h
 |b::l,0,h=>by rcases eR.1 h with h|h;exact .inr h;exact .inl (gu _ h)
 |b::l,p+1,h=>by rcases eR.1 h with h|h;exact .inl (h ▸ fY ..);rcases mem_set h with h|h;exact .inl (gu _ h);exact .inr h
def vs_ok{m:Nat}{n:Id}{N:Nat}(h:fX n.1 N=true):(vecS P M k n m).ok N=true:=by simp only[Blk.ok,eY];intro e b;rcases mem_set b with c|rfl;have:=W9 (n:=N) (g:=P) (l:=M) (k:=1);simp only[vec,Blk.im,Blk.ok,eY] at this;exact this e c;simpa[C.okL,C.ok] using h
def vs_no{f:A->List I}{l:List A}{p m:Nat}{n id:Id}(h:idb n id=false):(vecS f l p n m).no id=true:=by simp only[Blk.no,eY];intro e a;rcases mem_set a with b|rfl;have:=Blk.im_no id 1 (l.map f);simp only[Blk.im,Blk.no,eY] at this;exact this e b;simp[C.noL,C.no,h]
def vs_rl{m:Nat}{r:Nat}(q:Nat):(vecS P M n (k,[]) m).no (r,[q])=true:=vs_no (by simp[idb,lbeq])
def vs_frz{m:Nat}{n:Id}{b:List B}(c:m=gN b)(d:P L=[.sl y (b.map Q)]):Blk.frz n y (b.map Q) (vecS P M k n m)=vec 1 P (M.set k L):=by have h:Blk.frz n y (b.map Q) (vec 1 P M)=vec 1 P M:=Blk.frz_no _ (Blk.im_no _ _ _);subst c;simp only[vec,Blk.im,Blk.frz,Blk.cells.injEq,true_and] at h ⊢;rw[gE,h,gE,gE,d];congr 1;simp[C.frzL,C.frz,O7.2 rfl,fi]
def FrzB.vs{m:Nat}{n id:Id}{X:C->C->Prop}(h:idb n id=false):FrzB id X (.one (vecS P M k n m)) (.one (vecS P M k n m)):=by
 have d:=vs_no (f:=P) (l:=M) (p:=k) (m:=m) h;have imm:∀e ∈ ((M.map P).map (·.map C.imm)).set k [.own n 0 m],FrzL id X e e:=fun e g=>by rcases mem_set g with b|rfl;simp only[fu,List.mem_map,fJ] at b;obtain⟨a,_,rfl⟩:=b;exact FrzL.imm _;exact⟨.inl ⟨rfl,by simp[C.no,h]⟩,Y⟩
 unfold FrzB;split;rename_i b _;cases b;rename_i q e r i b c;simp only[Ent.one.injEq,Blk.cells.injEq] at b c;obtain⟨rfl,b⟩:=b;obtain⟨rfl,c⟩:=c;have:e=i:=by rw[b] at c;simpa using c
 subst this;exact⟨rfl,imm e (by rw[b];simp)⟩;rename_i b c;cases b;cases c;exact⟨rfl,d⟩;rename_i b;cases b;rename_i b c j o;first|exact(j _ _ rfl rfl).elim|exact(o _ _ rfl rfl).elim|exact(c _ _ rfl rfl).elim
inductive FrzE(id:Id)(k:Nat)(es:List (List I))(X:C->C->Prop):Ent->Ent->Prop
 |old {e e':Ent} (h:FrzB id X e e'):FrzE id k es X e e'
 |vs {α:Type} {f:α->List I} {l:List α} {p m:Nat} {b:Blk} (h:Blk.frz id k es (vecS f l p id m)=b):FrzE id k es X (.one (vecS f l p id m)) (.one b)
 |any {e e':Ent} (h:∀p,(e.sub p).map (Blk.frz id k es)=e'.sub p):FrzE id k es X e e'
def FrzS2(id:Id)(k:Nat)(a:List (List I))(X:C->C->Prop):b6->b6->Prop
 |[],[]=>True
 |b::r,c::d=>FrzE id k a X b c/\FrzS2 id k a X r d
 |_,_=>False
def FrzE.get{id:Id}{a:List (List I)}{X:C->C->Prop}(f:∀c b,X c b->c.frz id n a=b){e d:Ent}(h:FrzE id n a X e d)(p:List Nat):(e.sub p).map (Blk.frz id n a)=d.sub p:=by
 cases h with
 |old h=>exact FrzB.get f h p
 |any h=>exact h p
 |vs h=>
  cases p with
  |nil=>simp only[Ent.sub,fe,h]
  |cons=>rfl
def FrzS2.get{id:Id}{b:List (List I)}{X:C->C->Prop}(d:∀c f,X c f->c.frz id n b=f):∀{σ a:b6},FrzS2 id n b X σ a->∀i:Id,(σ[i]?).map (Option.map (Blk.frz id n b))=a[i]?
 |[],[],_,i=>rfl
 |[],_::_,h,_=>h.elim
 |_::_,[],h,_=>h.elim
 |e::r,g::j,h,(0,p)=>by rw[b6.at_eq,b6.at_eq];simp only[b6.at,fA,fe,FrzE.get d h.1 p]
 |e::r,g::j,h,(i+1,p)=>by have:=FrzS2.get d h.2 (i,p);rw[b6.at_eq,b6.at_eq] at this ⊢;simpa[b6.at] using this
def FrzS2.len{id:Id}{b:List (List I)}{X:C->C->Prop}:∀{σ a:b6},FrzS2 id n b X σ a->gN a=gN σ
 |[],[],_=>rfl
 |[],_::_,h=>h.elim
 |_::_,[],h=>h.elim
 |e::r,c::d,h=>by simp[FrzS2.len h.2]
def Sub.frzW{σ0:b6}{env:Env}{id:Id}{M:List A}{env2:Env}{σ2:b6}(h:fa (gN σ0) id.1=true)(j:a[id]? =some (some (vec n P M)))(c:X9 id (XRow id (gN M) (row n P M)) env env2)(q:putF a id none=some p)(d:FrzS2 id n (M.map P) (XRow id (gN M) (row n P M)) p σ2):Sub σ0 ⟨env,a⟩ ⟨env2,σ2⟩:=by have r:=G6 q;subst r;have o:=XRow.eq (f:=P) (l:=M) (id:=id) (k:=n);have u:=Sub.frz (σ0:=σ0) (s:=⟨env,a⟩) id n (M.map P) (eK h) j;have w:Sub σ0 (St.frz ⟨env,a⟩ id n (M.map P)) ⟨env.map fun b=>(b.1,b.2.frz id n (M.map P)),σ2⟩:=Sub.same (by rw[d.len];simp[St.frz]) (fun i=>by rw[<- FrzS2.get o d i,b6.get_map]);refine(u.trans w).trans (fun _ _ x _ _ _ e=>⟨x,{toRs:=e.toRs,defers:=e.defers,asize:=e.asize,env:=fun t v y=>e.env t v ?_}⟩);show lookup t (env.map fun b=>(b.1,b.2.frz id n (M.map P)))=some v;rw[ap0 (fun v=>v.frz id n (M.map P))];exact X9.get o c t v y
def S.storeS{σ0:b6}{env:Env}{ops:Array Oper}{rest:List Oper}{pos:String}{f:A->List I}{m:Nat}{n id:Id}{x b:Od}{t:Ti}{bytes:Nat}{z:Vl}[E:TyS g t 1 bytes z](q:y<gN M)(r:∀i,∃u,f i=[u])(s:ev env x=some (.c (.ptr id y 0)))(w:ev env b=some (.c (.own n 0 m)))(o:a[id]? =some (some (vec 1 f M)))(j:putF a id (some (vecS f M y n m))=some p)(h:AOps g σ0 k ops l rest (St.mk env p)):AOps g σ0 k ops l (⟨none,.store t x b,d,pos,v,none⟩::rest) (St.mk env a):=by
 have B:=G6 j
 subst B
 obtain⟨u,D⟩:=r M[y]
 refine AOps.store (e:=[.imm u]) s w o ?_ (by simp) ?_
 ·simp[q,D]
 ·exact h
def S.loadS{σ0:b6}{env:Env}{ops:Array Oper}{rest:List Oper}{i:Ti}{pos:String}{m:Nat}{n id:Id}{x:Od}{t:Ti}{d:TypeDesc}[u:TyD g t d](j:D8 d=false)(o:y<gN M)(q:ev env x=some (.c (.ptr id y 0)))(b:a[id]? =some (some (vecS P M y n m)))(r:h9 k s=true)(h:AOps g σ0 k ops l rest (St.mk (putE env s (.c (.own n 0 m))) a)):AOps g σ0 k ops l (⟨s,.load t x,i,pos,v,none⟩::rest) (St.mk env a):=
 AOps.load (e:=[.own n 0 m]) j q b (by simp[o]) rfl r h
def S.idxS{σ0:b6}{env:Env}{ops:Array Oper}{rest:List Oper}{pos:String}{m:Nat}{n id:Id}{x b:Od}{t e:Ti}{bytes q:Nat}{z:Vl}{u:IntKind}{i:Int}[G:TyD g t (.slice e)][H:TyS g e 1 bytes z](J:y<gN M)(o:0<=i/\i.toNat=y)(w:ev env x=some (.c (.own id 0 q)))(B:q=gN M)(j:a[id]? =some (some (vecS P M y n m)))(D:ev env b=some (.c (.imm (.val (.int u i)))))(E:h9 k s=true)(h:AOps g σ0 k ops l rest (St.mk (putE env s (.c (.ptr id y 0))) a)):AOps g σ0 k ops l (⟨s,.indexAddr t x b,d,pos,v,none⟩::rest) (St.mk env a):=
 .indexAddrOwn w j D (by obtain⟨F,r⟩:=o;subst B;omega) E (by obtain⟨F,r⟩:=o;rw[fL,r];exact h)
def ix_pos(h:ix M x=some L):0<=x/\x.toNat=x.toNat:=⟨(S4 h).1,rfl⟩
def DatL:List C->List I->Prop
 |[],[]=>True
 |c::r,x::s=>(c=.imm x\/c=.imm (.val (.slice none 0 0))/\∃k,x=.sl k [])/\DatL r s
 |_,_=>False
def DatLL:List (List C)->List (List I)->Prop
 |[],[]=>True
 |c::r,x::s=>DatL c x/\DatLL r s
 |_,_=>False
def DatL.get:∀{l:List C} {m:List I},DatL l m->gN l=gN m/\∀(i:Nat) (x:I),m[i]? =some x->∃c,l[i]? =some c/\∀{w:World} {b:Phi} {σ:b6} {A:Nat->Prop} {u:Vl},RelC w b σ A c u->RelI w A x u
 |[],[],_=>⟨rfl,fun i x h=>by simp at h⟩
 |[],_::_,h=>h.elim
 |_::_,[],h=>h.elim
 |c::r,x::s,⟨e,f⟩=>by
  obtain⟨g,j⟩:=DatL.get f;refine⟨by simp[g],fun i y a=> ?_⟩;cases i with
  |zero=>
   simp only[fA,Option.some.injEq] at a
   subst a
   refine⟨c,rfl,fun {w b σ A u} d=> ?_⟩
   rcases e with rfl|⟨rfl,k,rfl⟩
   ·cases d with|imm h=>exact h
   ·cases d with|imm h=>cases h with|val=>exact .slNil
  |succ i=>simpa using j i y (by simpa using a)
def DatLL.get:∀{l:List (List C)} {m:List (List I)},DatLL l m->gN l=gN m/\∀(i:Nat) (x:List I),m[i]? =some x->∃c,l[i]? =some c/\DatL c x
 |[],[],_=>⟨rfl,fun i x h=>by simp at h⟩
 |[],_::_,h=>h.elim
 |_::_,[],h=>h.elim
 |c::r,x::s,⟨b,d⟩=>by
  obtain⟨e,f⟩:=DatLL.get d;refine⟨by simp[e],fun i y a=> ?_⟩;cases i with
  |zero=>simp only[fA,Option.some.injEq] at a;subst a;exact⟨c,rfl,b⟩
  |succ i=>simpa using f i y (by simpa using a)
def AOps.max3{P:Program}{σ0:b6}{sz:Nat}{Q:Post}{env:Env}{σv:b6}{ops:Array Oper}{rest:List Oper}{dst:Option Nat}{ty:Ti}{pos:String}{after:Array Edge}{x y z:Od}{ts:Array Ti}{k:IntKind}{a1 a2 a3:Int}(h1:ev env x=some (.c (.imm (.val (.int k a1)))))(h2:ev env y=some (.c (.imm (.val (.int k a2)))))(h3:ev env z=some (.c (.imm (.val (.int k a3)))))(hd:h9 sz dst=true)
  (h:AOps P σ0 sz ops Q rest (St.mk (putE env dst (.c (.imm (.val (.int k (max (max a1 a2) a3)))))) σv)):AOps P σ0 sz ops Q (⟨dst,.call ⟨.builtin .max,#[x,y,z],ts⟩,ty,pos,after,none⟩::rest) (St.mk env σv):=
 .value rfl hd _ (fun _ _ a w hR=>⟨.int k (max (max a1 a2) a3),by simp[execOp,z7 hR h1,z7 hR h2,z7 hR h3,resolve,invoke,builtin,Builtin.max_,Builtin.max2];repeat' split;all_goals omega,.c (.imm (.val rfl))⟩) h
def AOps.makeFuncB{σ0:b6}{env:Env}{ops:Array Oper}{rest:List Oper}{pos:String}{k:Array Edge}{b:List Od}{cs:List C}(q:evC env b=some cs)(r:h9 n s=true)(h:AOps g σ0 n ops l rest (St.mk (putE env s (.c (.fnb i cs))) a)):AOps g σ0 n ops l (⟨s,.makeFunc (.func i) b.toArray #[],d,pos,k,none⟩::rest) (St.mk env a):=
 .value rfl r _ (fun z A e w t=>by
  obtain⟨p,u⟩:=evC_rel t q;refine⟨.func (.func i) ((gL (gN cs)).map fun j=>((b.map e.eval)[j]?).getD Go.undef).toArray #[],?_,.c (.fnb _ fun j c o=> ?_)⟩;have:(gL (gN cs)).map (fun j=>((b.map e.eval)[j]?).getD Go.undef)=b.map e.eval:=by apply eT;intro j;by_cases o:j<gN b;simp[p,o];simp[p,o]
  rw[this];simp[execOp,Instr.makeFunc];obtain⟨v,x,y⟩:=u j c o;rw[x];exact y) h
def fnb_inv{w:World}{b:Phi}{σ:b6}{A:Nat->Prop}{u:Vl}(h:RelT w b σ A (.c (.fnb i f)) u):∃vs:List Vl,u=.func (.func i) vs.toArray #[]/\(gN vs)=gN f/\∀(a:Nat) (c:C) (v:Vl),f[a]? =some c->vs[a]? =some v->RelC w b σ A c v:=by
 cases h with|c h=>cases h with|fnb l e=>
  refine⟨_,rfl,by simp,fun a c v g d=> ?_⟩
  rw[lM,oM] at d
  obtain⟨j,k,rfl⟩:=d
  obtain⟨_,rfl⟩:=P8 k
  exact e a c g
def call_enterB{P:Program}{env:Env}{dst:Option Nat}{ty:Ti}{pos:String}{after:Array Edge}{s:Cx}{l:Phi}{b:Act}{w:World}(v:R s n (St.mk env a) l b w){x:Od}{g:List Od}{ats:Array Ti}{o:List T}(A:ev env x=some (.c (.fnb i f)))(B:evs env g=some o)(p : ∃ fn, P.funcs[i]? = some fn /\ (fn.name == "runtime.NumGoroutine")=false/\fn.body.isNone=false):
  ∃vs:List Vl,(execOp b.eval ⟨dst,.call ⟨.value x,g.toArray,ats⟩,ty,pos,after,none⟩).run P w=.ok (.enter i vs.toArray) w/\(f.map T.c++o).length=gN vs/\
   ∀(d:Nat) (t:T) (u:Vl),(f.map T.c++o)[d]? =some t->vs[d]? =some u->RelT w l a (Al s.N l a) t u:=by
 obtain⟨fn,D,E,y⟩:=p
 obtain⟨F,G,z,H⟩:=fnb_inv (m9 v A)
 obtain⟨J,K⟩:=evs_rel v B
 refine⟨F++g.map b.eval,?_,by simp[J,z],fun d t u h j=> ?_⟩
 ·have q:¬ fn.name= "runtime.NumGoroutine" :=by simpa using E
  have r:¬ fn.body=none:=fun e=>by rw[e] at y;cases y
  simp[execOp,resolve,G,Deferred.ofValue,invoke,callFunc,D,q,r]
 ·rw[fG] at h j
  by_cases k:d<gN f
  ·rw[if_pos (by simpa using k)] at h
   rw[if_pos (by omega)] at j
   rw[lM,oM] at h
   obtain⟨c,L,rfl⟩:=h
   exact .c (H d c u L j)
  ·rw[if_neg (by simpa using k)] at h
   rw[if_neg (by omega)] at j
   simp only[eV] at h
   rw[z] at j
   exact K _ t u h j
def AOps.callFB{σ0:b6}{env:Env}{ops:Array Oper}{rest:List Oper}{pos:String}{k:Array Edge}{x:Od}{q:List Od}{o:Array Ti}{z:List T}{A:T}(F:ev env x=some (.c (.fnb i f)))(G:evs env q=some z)(H:h9 n s=true)(B:FnOk g i (f.map T.c++z) a fun r b=>r=A/\b=p)(h:AOps g σ0 n ops l rest (St.mk (putE env s A) p)):
  AOps g σ0 n ops l (⟨s,.call ⟨.value x,q.toArray,o⟩,d,pos,k,none⟩::rest) (St.mk env a):=fun D J j w u t K=>by
  obtain⟨vs,L,M,O⟩:=call_enterB (P:=g) (dst:=s) (ty:=d) (pos:=pos) (after:=k) (ats:=o) t F G B.fn
  refine ad6 rfl (ax3 L ?_)
  refine(B.run ⟨w,D.N,J,a⟩ vs rfl t.toRs.down M O).mono ?_
  rintro e U ⟨v,r,V,y,rfl,⟨rfl,rfl⟩,X,E⟩
  exact h D y _ U u ((t.of E.kept (t.toRs.up E)).put H X) K
/-! ### Maps whose values are structs of plain cells -/
section
variable {P:Program}{σ0:b6}{sz:Nat}{Q:Post}{env:Env}{σv σ':b6}{ops:Array Oper}{rest:List Oper}{dst:Option Nat}{ty:Ti}{pos:String}{after:Array Edge}
variable {K V:Type}[DecidableEq K]{d:TypeDesc}{fk:K->Vl}{gv:V->List Vl}
end
def Rs.adopt{x:Cx}{σ:b6}{p:Phi}{w w':World}(h:Rs x σ p w)(F:w'.os=w.os)(U:w'.tape=w.tape)(hdr:w.drawn<=w'.drawn)(V:w'.output=w.output)(X:w.heap.size<=w'.heap.size)(o:∀b,b<w.heap.size->w'.heap[b]? =w.heap[b]?)
  {k:Nat} {es:List (List C)} {q:Option (Nat×Nat)} (D:∀b c,q=some (b,c)->w.heap.size<=b) (z:∀p σ A,BlkR w' p σ A q (.cells k es)):
  Kept w w' p (fun i=>if i=(gN σ,[]) then q else p i) σ (σ++[.one (.cells k es)]) (Al x.N p σ) (Al x.N (fun i=>if i=(gN σ,[]) then q else p i) (σ++[.one (.cells k es)]))/\
  Rs x (σ++[.one (.cells k es)]) (fun i=>if i=(gN σ,[]) then q else p i) w':=by
 generalize B:(fun i=>if i=(gN σ,[]) then q else p i)=s
 have f:∀i:Id,i.1<gN σ->s i=p i:=fun i l=>by
  have:i ≠ (gN σ,[]):=fun e=>by rw[e] at l;exact Nat.lt_irrefl _ l
  rw[<- B];simp[this]
 have n:s (gN σ,[])=q:=by rw[<- B];simp
 have a:∀(i:Id) blk,(σ++[.one (.cells k es)])[i]? =some (some blk)->(i.1<gN σ/\σ[i]? =some (some blk))\/(i=(gN σ,[])/\blk=.cells k es):=fun i blk l=>b6.get_new l
 have A1:∀b,Al x.N p σ b->b<w.heap.size->Al x.N s (σ++[.one (.cells k es)]) b:=fun b E L=>⟨E.1,fun i blk c l d=>by rcases a i blk l with⟨y,u⟩|⟨rfl,rfl⟩;rw[f i y] at d;exact E.2 i blk c u d;rw[n] at d;have:=D b c d;omega⟩
 have G:Kept w w' p s σ (σ++[.one (.cells k es)]) (Al x.N p σ) (Al x.N s (σ++[.one (.cells k es)])):=
  {imm:=fun b _ L=>o b L,all:=A1,len:=by simp,
   cells:=fun i kk H l v=>by rw[b6.get_left l] at v;exact⟨H,v,rfl,f i l,fun b c J aa d E=>⟨J,(o b (Al.own_lt h.st v d)).trans E,rfl⟩⟩,
   obj:=fun i p' K l v=>by rw[b6.get_left l] at v;exact⟨f i l,p',K,v⟩}
 refine⟨G,?_⟩
 exact {
  good:=h.good
  st:=⟨fun i b l=>by rcases a i b l with⟨y,u⟩|⟨rfl,rfl⟩;rw[f i y];exact(h.st.blk i b u).mono G fun g c d=>o g (Al.own_lt h.st u d);rw[n];exact z _ _ _,
   fun i j M O p1 q1 l hj d r v=>by obtain⟨pb,po⟩:=p1;obtain⟨qb,qo⟩:=q1;dsimp only at v;subst v;rcases a i M l with⟨y,u⟩|⟨rfl,rfl⟩<;>rcases a j O hj with⟨P,Q⟩|⟨rfl,rfl⟩;rw[f i y] at d;rw[f j P] at r;exact h.st.inj i j M O _ _ u Q d r rfl;rw[f i y] at d;rw[n] at r;have:=Al.own_lt h.st u d;have:=D _ _ r;omega;rw[f j P] at r;rw[n] at d;have:=Al.own_lt h.st Q r;have:=D _ _ d;omega;rfl⟩
  keep:=fun i blk b c l d t=>by rcases a i blk l with⟨y,u⟩|⟨rfl,rfl⟩;rw[f i y] at d;exact h.keep i blk b c u d t;rw[n] at d;have:=D _ _ d;have:=t.1;have:=h.size;omega
  os:=F.trans h.os
  tape:=U.trans h.tape
  drawn:=fq h.drawn hdr
  output:=V.trans h.output
  size:=fq h.size X
  block:=fun b t=>(o b (gD t.1 h.size)).trans (h.block b t)
  kept:=Kept.trans h.size h.kept G}
def S.freshL{σ0:b6}{env:Env}{ops:Array Oper}{rest:List Oper}{pos:String}{G:Array Edge}{x:Od}{V:List Od}{L:Array Ti}{ts X:List T}{n:Id}(hg:∀r,((P r).map C.imm).all C.scal=true)(hx:ev env x=some (.c (.fn i f)))(ha:evs env V=some ts)(hl:ao6 a (ts++f.map T.c) X)(hd:h9 k s=true)(hf:p8 g i X y (M.map P))(hn:newF a=some n)(an:w8 a (.one (vec y P M))=some p)(h:AOps g σ0 k ops l rest (St.mk (putE env s (.c (.own n 0 (gN M)))) p)):
  AOps g σ0 k ops l (⟨s,.call ⟨.value x,V.toArray,L⟩,d,pos,G,none⟩::rest) (St.mk env a):=by
 have h1:=D6 hn;have h2:=v7 an
 subst h1 h2
 intro Γ φ r w ao hR ro
 obtain⟨vs,h1,h2,h3⟩:=av0 (P:=g) (dst:=s) (ty:=d) (pos:=pos) (after:=G) (ats:=L) hR hx ha hf.fn
 obtain⟨l1,l2⟩:=hl.get
 refine ad6 rfl (ax3 h1 ?_)
 refine(hf.run (Cx.open w) vs rfl (good_open w) (by rw[l1];exact h2) (fun B t u Q hu=> ?_)).mono ?_
 ·obtain⟨t0,av,N⟩:=l2 B t Q
  exact N.rel hR (al_open w) (h3 B t0 u av hu)
 ·rintro e w' ⟨v,r',a3,aa,rfl,⟨O,rfl,U⟩,J,K⟩
  have H:=H1 J U
  have hb:=K.st.blk _ _ U
  have ac:∀b F,aa O=some (b,F)->w.heap.size<=b:=fun b F hp=>by have:=K.keep O _ b F U hp;rcases fM b w.heap.size with c|c;exact absurd ⟨c,fun B blk F Q=>by simp[Cx.open] at Q⟩ this;exact c
  have ad:∀(j:Nat) (e:List C) (o:Nat) (D:C),((M.map P).map (·.map C.imm))[j]? =some e->e[o]? =some D->D.scal=true:=fun j e o D he hy=>by simp only[fu,lM,oM,fJ] at he;obtain⟨z,_,rfl⟩:=he;have:=eY.1 (hg z);exact this D (fU hy)
  obtain⟨ay,a0⟩:=hR.toRs.adopt (w':=w') K.os K.tape K.drawn K.output K.size (fun b hb=>K.block b ⟨hb,fun B blk F Q=>by simp[Cx.open] at Q⟩) (k:=y) (es:=(M.map P).map (·.map C.imm)) (q:=aa O) ac (fun φ σ E=>by rcases hb with h|⟨b,F,a1,a2,p1,p2,p3,p4,p5⟩;exact .inl h;refine .inr ⟨b,F,a1,a2,p1,p2,p3,p4,fun j e o D he hy=> ?_⟩;obtain⟨u,hu,hr⟩:=p5 j e o D he hy;exact⟨u,hu,C.scal_rel (ad j e o D he hy) hr⟩)
  have al:(M.map P).length=gN M:=eV ..
  refine h Γ _ _ w' ao ((hR.of ay a0).put hd ?_) ro
  refine K0 (k:=y) (es:=(M.map P).map (·.map C.imm)) (b6.get_last _ _) (by cases J with|c hr=>exact hr.one) ?_
  rw[al] at H
  simpa using H
def mvr(r n:Nat)(i:Id):Id:=((match gh i.1 r with|true=>n|false=>i.1),i.2)
def aC0{r n:Nat}(h:c.1=r):mvr r n c=(n,c.2):=by
 have:gh c.1 r=true:=by rw[h];exact Nat.beq_refl r
 simp only[mvr,this]
def mvr_ne{r n:Nat}(h:c.1 ≠ r):mvr r n c=c:=by have:gh c.1 r=false:=as6 h;simp only[mvr,this]
inductive EntR(r n:Nat)(σ:b6)(m i:Nat):Ent->Prop
 |dead:EntR r n σ m i .dead
 |one {b:Blk} (h1:b.ok m=true) (h2:σ[mvr r n (i,[])]? =some (some (b.ren (mvr r n)))):EntR r n σ m i (.one b)
 |vec {α:Type} {k:Nat} {f:α->List I} {l:List α} (h2:σ[mvr r n (i,[])]? =some (some (vec k f l))):EntR r n σ m i (.one (vec k f l))
 |mat {α:Type} {k j:Nat} {f:α->List I} {M:List (List α)} (hj:(mvr r n (i,[])).1=j) (hi:fX i m=true) (h:σ[j]? =some (mat (j,[]) k f M)):EntR r n σ m i (mat (i,[]) k f M)
 |any {e:Ent} (h:∀p b,e.sub p=some b->b.ok m=true/\σ[mvr r n (i,p)]? =some (some (b.ren (mvr r n)))):EntR r n σ m i e
def StR_(r n:Nat)(σ:b6)(m:Nat):Nat->b6->Prop
 |_,[]=>True
 |i,e::l=>EntR r n σ m i e/\StR_ r n σ m (i+1) l
def EntR.get{r n:Nat}{σ:b6}{m i:Nat}{e:Ent}(h:EntR r n σ m i e){b:Blk}(c:e.sub H=some b):b.ok m=true/\σ[mvr r n (i,H)]? =some (some (b.ren (mvr r n))):=by
 cases h with
 |dead=>cases H<;>cases c
 |one o d=>cases H with
  |nil=>cases c;exact⟨o,d⟩
  |cons=>cases c
 |vec d=>cases H with
  |nil=>cases c;exact⟨W9,by rw[Blk.im_ren];exact d⟩
  |cons=>cases c
 |@mat u k j f M s t h=>
  have g:i<m:=by simpa using t
  have e:∀q,mvr r n (i,q)=(j,q):=fun q=>by rw[<- s];rfl
  rw[e,w9 h]
  cases H with
  |nil=>
   cases c
   refine⟨hdr_ok g _,?_⟩
   rw[mat_main]
   congr 2
   simp only[Blk.ren]
   congr 1
   apply eT
   intro q
   rw[lM]
   simp only[hdr,fH,gM]
   cases M[q]? with
   |none=>rfl
   |some row=>simp[C.renL,C.ren,e]
  |cons a q=>
   rw[O0] at c ⊢
   split at c
   ·rename_i row l
    cases q with
    |cons b q=>cases c
    |nil=>cases c;exact⟨W9,by rw[Blk.im_ren]⟩
   ·cases c
 |any h=>exact h H b c
def StR_.get{r n m:Nat}{σ:b6}:∀{i:Nat} {c:b6},StR_ r n σ m i c->∀(j:Nat) (p:List Nat) (b:Blk),c[((j,p):Id)]? =some (some b)->b.ok m=true/\σ[mvr r n (i+j,p)]? =some (some (b.ren (mvr r n)))
 |_,[],_,j,p,b,h=>by simp at h
 |i,e::l,h,0,p,b,a=>by rw[b6.at_eq] at a;simp only[b6.at,fA,Option.some.injEq] at a;exact h.1.get a
 |i,e::l,h,j+1,p,b,a=>by have:=StR_.get (i:=i+1) h.2 j p b (by rw[b6.at_eq] at a ⊢;simpa[b6.at] using a);rwa [show i+1+j=i+(j+1) by omega] at this
def EnvR(r n:Nat)(env:Env):Env->Prop
 |[]=>True
 |(t,v)::l=>lookup t env=some (v.ren (mvr r n))/\EnvR r n env l
def EnvR.get{env:Env}{r n:Nat}:∀{a:Env},EnvR r n env a->∀t v,lookup t a=some v->lookup t env=some (v.ren (mvr r n))
 |[],_,t,v,h=>by simp[lookup] at h
 |(k,x)::l,⟨b,c⟩,t,v,h=>by simp only[lookup] at h;split at h;rename_i d;cases h;rw[<- fE d];exact b;exact EnvR.get c t v h
def deadR(σ:b6)(n:Nat):Bool:=match σ[n]? with
 |some .dead=>true
 |some _=>false
 |none=>true
def Sub.moveM{σ0:b6}{env env':Env}{σ':b6}(r n:Nat)(u:fa (gN σ0) r=true)(w:fa (gN σ0) (gN σ')=true)(k:deadR σ' n=true)(c:EnvR r n env env')(x:V7 (gN σ') env'=true)(o:StR_ r n a (gN σ') 0 σ'):Sub σ0 ⟨env,a⟩ ⟨env',σ'⟩:=by
 have y:=eK u;have q:∀(p:List Nat) b,σ'[((n,p):Id)]? ≠ some (some b):=fun p b d=>by
  rw[b6.at_eq] at d;simp only[b6.at] at d;simp only[deadR] at k;split at d;rename_i e z;rw[z] at k;cases e with
  |dead=>cases p<;>cases d
  |one=>cases k
  |node=>cases k
  cases d
 refine Sub.mk (mvr r n) (fun i l=>mvr_ne (fun e=>by omega)) (eK w) (fun i j b B l A h=> ?_) (fun i b l=> ?_) (fun t v s=>⟨an2 x t v s,c.get t v s⟩);by_cases f:i.1=r<;>by_cases g:j.1=r;rw[aC0 f,aC0 g] at h;exact Prod.ext (f.trans g.symm) (Prod.mk.inj h).2;rw[aC0 f,mvr_ne g] at h;subst h;exact absurd A (q _ _);rw[aC0 g,mvr_ne f] at h;subst h;exact absurd l (q _ _);rwa [mvr_ne f,mvr_ne g] at h;have:=o.get i.1 i.2 b l;rwa [fL] at this
def AWP.moveM{σ0:b6}{env env':Env}{σ':b6}{c:Code}(r n:Nat)(e:fa (gN σ0) r=true)(f:fa (gN σ0) (gN σ')=true)(i:deadR σ' n=true)(b:EnvR r n env env')(j:V7 (gN σ') env'=true)(d:StR_ r n a (gN σ') 0 σ')(h:AWP g σ0 k c l (St.mk env' σ')):AWP g σ0 k c l (St.mk env a):=
 AWP.sub (Sub.moveM r n e f i b j d) h
/-! ### A row of nothing appended to rows -/
def Sub.virtBM{σ0:b6}{env:Env}(c:Nat)(d:A->List I){b:Id}{n o:Nat}{cs:List C}{e g s:b6}(r:a[b]? =some (some (.cells k [cs])))(z:cs[o]? =some (.imm (.val (.slice none 0 0))))(w:newF a=some (n,[]))(B:w8 a (mat (n,[]) c d [])=some e)(D:setF cs o (.own (n,[]) 0 ([]:List (List A)).length)=some f)(h:putF e b (some (.cells k [f]))=some p)(x:w8 a (.one (vec 1 (fun _:A=>([]:List I)) ([]:List A)))=some g)(y:putF g b (some (.cells k [f]))=some s):Sub σ0 ⟨env,a⟩ ⟨env,p⟩:=by
 have E:=D6 w;have F:=v7 B;have G:=G6 h
 cases E
 subst F G
 have H:=v7 x;have J:=G6 y
 subst H J
 have j:=b6.lt_of r
 have t:(a++[.one (vec 1 (fun _:A=>([]:List I)) ([]:List A))])[b]? =some (some (.cells k [cs])):=by rw[b6.get_left j];exact r
 refine(Sub.virtB (α:=A) 1 (fun _=>[]) r z w x D y).trans (Sub.same (by simp) fun i=> ?_)
 have u:(a++[mat (gN a,[]) c d ([]:List (List A))])[b]? =some (some (.cells k [cs])):=by rw[b6.get_left j];exact r
 by_cases v:i=b
 ·subst v
  rw[b6.get_put_eq t,b6.get_put_eq u]
 ·rw[b6.get_put_ne v,b6.get_put_ne v]
  rcases fM i.1 (gN a) with l|l
  ·rw[b6.get_left l,b6.get_left l]
  ·rw[b6.get_right l,b6.get_right l]
   obtain⟨K,q⟩:=i
   rw[b6.at_eq,b6.at_eq]
   simp only[b6.at]
   cases K - (gN a) with
   |zero=>cases q<;>rfl
   |succ m=>rfl
def AWP.virtBM{σ0:b6}{env:Env}{c:Code}(d:Nat)(e:A->List I){b:Id}{n o:Nat}{cs:List C}{i r:b6}(s:a[b]? =some (some (.cells y [cs])))(t:cs[o]? =some (.imm (.val (.slice none 0 0))))(u:newF a=some (n,[]))(v:w8 a (mat (n,[]) d e [])=some q)(w:setF cs o (.own (n,[]) 0 ([]:List (List A)).length)=some f)(j:putF q b (some (.cells y [f]))=some p)(x:w8 a (.one (vec 1 (fun _:A=>([]:List I)) ([]:List A)))=some i)(z:putF i b (some (.cells y [f]))=some r)(h:AWP g σ0 k c l ⟨env,p⟩):AWP g σ0 k c l ⟨env,a⟩:=AWP.sub (Sub.virtBM d e s t u v w j x z) h
/-! ### Calls through an interface -/
class MethF (P:Program) (t:Ti) (name:String) (f:outParam FuncId) (b:outParam Bool):Prop where
 h:((P.info? t).bind fun i=>(i.methods.find? (·.name==name)).map fun m=>(m.path.toList,m.func))=some ([],some (f,b))
def MethF.get{t:Ti}{name:String}{b:Bool}[h:MethF g t name i b]:∃a m,g.info? t=some a/\a.methods.find? (·.name==name)=some m/\m.path=#[]/\m.func=some (i,b):=by obtain⟨a,d,e⟩:=Option.bind_eq_some_iff.1 h.h;obtain⟨m,j,c⟩:=oM.1 e;simp only[Prod.mk.injEq] at c;exact⟨a,m,d,j,by simpa using c.1,c.2⟩
/-! ### Maps: how many keys -/
/-! ### Maps whose values are nothing (sets) -/
/-! ### A struct without fields -/
/-! ### Contracts with two kinds of ends -/
/-! ### Rows and maps of pointers among other blocks -/
section
variable {P:Program}{σ0:b6}{sz:Nat}{Q:Post}{env env':Env}{σv σ':b6}{ops:Array Oper}{rest:List Oper}{dst:Option Nat}{ty:Ti}{pos:String}{after:Array Edge}
/-! ### Rows of pointers -/
/-! ### Entries -/
/-! ### Maps of pointers -/
section
variable {K:Type}[DecidableEq K]{V:Type}{fk:K->Vl}{d:TypeDesc}
end
/-! ### A view becomes a row of its own -/
/-! ### Places told by their bounds alone -/
end
section
variable {K α:Type}[DecidableEq K]
variable {fk:K->Vl}{f:α->List I}{m:List (K×List α)}{r k:Nat}
end
section
variable {P:Program}{σ0:b6}{sz:Nat}{Q:Post}{env env':Env}{σv σ':b6}{ops:Array Oper}{rest:List Oper}{dst:Option Nat}{ty:Ti}{pos:String}{after:Array Edge}
variable {K α:Type}[DecidableEq K]{fk:K->Vl}{d:TypeDesc}{f:α->List I}{m:List (K×List α)}{r k:Nat}
end
def AOps.eqlNil{P:Program}{σ0:b6}{sz:Nat}{Q:Post}{env:Env}{σv:b6}{ops:Array Oper}{rest:List Oper}{dst:Option Nat}{ty:Ti}{pos:String}{after:Array Edge}{x y:Od}{t t' e:Ti}{k:Nat}{es:List (List I)}[ht:TyD P t (.slice e)](hx:ev env x=some (.c (.imm (.sl k es))))(hy:ev env y=some (.c (.imm (.val (.slice none 0 0)))))(hd:h9 sz dst=true)
  (h1:es=[]->AOps P σ0 sz ops Q rest (St.mk (putE env dst (.c (bool true))) σv)) (h2:AOps P σ0 sz ops Q rest (St.mk (putE env dst (.c (bool false))) σv)):
  AOps P σ0 sz ops Q (⟨dst,.binOp .eql t x y t',ty,pos,after,none⟩::rest) (St.mk env σv):=fun Γ φ a w hΓ hR ro=>by
  have hrel:=m9 hR hx
  have hyv:=z7 hR hy
  generalize hu:a.eval x=u at hrel
  cases hrel with|c hrel=>cases hrel with|imm hrel=>
  cases hrel with
  |slNil=>
   have hg:(eqGuard .eql t x y (.slice none 0 0) (.slice none 0 0)).run P w=.ok () w:=rfl
   have hr:(binOp .eql t (.slice none 0 0) (.slice none 0 0)).run P w=.ok (.bool true) w:=by
    show(do pure (Value.bool (<- Op.equal t (.slice none 0 0) (.slice none 0 0)))).run P w=_
    simp[run_equal_slice_nil w t e none 0 0 ht.h]
   have hrun:(execOp a.eval ⟨dst,.binOp .eql t x y t',ty,pos,after,none⟩).run P w=.ok (.value (.bool true)) w:=by simp[execOp,hu,hyv,hg,hr]
   exact ad6 rfl (val_in hrun (h1 rfl Γ φ _ w hΓ (hR.put hd (.c (.imm (.val rfl)))) ro))
  |@sl _ _ ad cap us _ _ _ _ _=>
   have hg:(eqGuard .eql t x y (.slice (some ad) (gN es) cap) (.slice none 0 0)).run P w=.ok () w:=rfl
   have hr:(binOp .eql t (.slice (some ad) (gN es) cap) (.slice none 0 0)).run P w=.ok (.bool false) w:=by
    show(do pure (Value.bool (<- Op.equal t (.slice (some ad) (gN es) cap) (.slice none 0 0)))).run P w=_
    simp[run_equal_slice_nil w t e (some ad) (gN es) cap ht.h]
   have hrun:(execOp a.eval ⟨dst,.binOp .eql t x y t',ty,pos,after,none⟩).run P w=.ok (.value (.bool false)) w:=by simp[execOp,hu,hyv,hg,hr]
   exact ad6 rfl (val_in hrun (h2 Γ φ _ w hΓ (hR.put hd (.c (.imm (.val rfl)))) ro))
section
open Go.Proofs
open Tryz
def B7(s:Li):Option Li:=app 8 [] s
def K5{s r:Li}(h:B7 s=some r):p8 prog 64 [.c (row 1 intI s)] 1 (fC intI r):=by
 unfold p8;refine FnOk.enter (rs:=[.t 2]) func64 rfl ntmps64 results64 rfl ⟨Y,Y⟩ (by kernel_rfl) rfl ?_;refine AWP.j (AWP.aa (AOps.E rfl rfl (AOps.nil (b5 (AWP.j (AWP.j (AWP.aa (AOps.F rfl rfl (AOps.eqlNil rfl rfl rfl (fun a=> ?_) ?_)))))))));have b:s=[]:=by simpa using a
 subst b;have d:r=[]:=by have:=ar0 h;simpa using this.2
 subst d;exact AOps.nil (b5 (AWP.condT rfl (AWP.j (AWP.aa (AOps.E rfl rfl (AOps.nil (b5 (AWP.virtV 1 intI 2 rfl rfl rfl (AWP.ret (e8 (Done.ret rfl (Fresh.mk rfl rfl))))))))))));exact AOps.nil (b5 (AWP.condF rfl (AWP.skip (b5 (AWP.j (AWP.aa (S.lit (f:=intI) (l:=[]) (ess:=[]) rfl rfl rfl rfl rfl rfl rfl Y rfl rfl rfl (AOps.F rfl rfl (S.append (f:=intI) h rfl rfl rfl rfl rfl rfl .row rfl rfl rfl rfl (AOps.E rfl rfl (AOps.nil (b5 (AWP.ret (Done.ret rfl (Fresh.mk rfl rfl)))))))))))))))
end
section
open Go.Proofs
open Tryz
abbrev rowI(l:Li):List I:=[.sl 1 (l.map intI)]
def C9(s:LL):Option (LL):=app 24 [] s
def R9{s r:LL}(h:C9 s=some r):p8 prog 26 [.c (row 1 rowI s)] 1 (fC rowI r):=by
 unfold p8;refine FnOk.enter (rs:=[.t 2]) func26 rfl ntmps26 results26 rfl ⟨Y,Y⟩ (by kernel_rfl) rfl ?_;refine AWP.j (AWP.aa (AOps.E rfl rfl (AOps.nil (b5 (AWP.j (AWP.j (AWP.aa (AOps.F rfl rfl (AOps.eqlNil rfl rfl rfl (fun a=> ?_) ?_)))))))));have b:s=[]:=by simpa using a
 subst b;have d:r=[]:=by have:=ar0 h;simpa using this.2
 subst d;exact AOps.nil (b5 (AWP.condT rfl (AWP.j (AWP.aa (AOps.E rfl rfl (AOps.nil (b5 (AWP.virtV 1 rowI 2 rfl rfl rfl (AWP.ret (e8 (Done.ret rfl (Fresh.mk rfl rfl))))))))))));exact AOps.nil (b5 (AWP.condF rfl (AWP.skip (b5 (AWP.j (AWP.aa (S.lit (f:=rowI) (l:=[]) (ess:=[]) rfl rfl rfl rfl rfl rfl rfl Y rfl rfl rfl (AOps.F rfl rfl (S.append (f:=rowI) h rfl rfl rfl rfl rfl rfl .row rfl rfl rfl rfl (AOps.E rfl rfl (AOps.nil (b5 (AWP.ret (Done.ret rfl (Fresh.mk rfl rfl)))))))))))))))
end
section
open Go.Proofs
open Tryz
set_option maxHeartbeats 4000000
attribute [local irreducible] AWP AOps thn inB Done e9 p8 Sub
abbrev u64(n:Int):C:=.imm (.val (.int .u64 n))
def and32(n:Nat)(a:n<=4294967295):Go.bits .and .u64 (n:Int) 4294967295=n:=by have h:=bits_and_u64_nat n 4294967295 (by omega) (by omega);rw[show(4294967295:Nat)=2 ^ 32 - 1 from rfl,Nat.and_two_pow_sub_one_eq_mod] at h;rw[show((4294967295:Int))=((2 ^ 32 - 1:Nat):Int) from rfl,h];omega
def small_facts(n:Nat)(hn:n<=4294967295):Go.bits .and .u64 (n:Int) 4294967295=n/\Int.fdiv (n:Int) (2 ^ (min (32:Int).toNat (IntKind.bits .u64)))=0/\IntKind.u64.wrap (1 * (n:Int))=n/\IntKind.u64.wrap (0 * (n:Int))=0:=by refine⟨and32 n hn,?_,?_,?_⟩;show Int.fdiv (n:Int) 4294967296=0;rw[Int.fdiv_eq_ediv_of_nonneg _ (by omega)];omega;simp only[IntKind.wrap,IntKind.bits,IntKind.signed,Bool.false_and];simp;omega;simp[IntKind.wrap,IntKind.bits,IntKind.signed]
def l9(n:Nat)(hn:n<=4294967295):e9 prog 130 [.c (u64 1),.c (u64 n)] (.tup [.c (u64 0),.c (u64 n)]):=by
 obtain⟨f1,f2,f3,f4⟩:=small_facts n hn;unfold e9;refine FnOk.enter (rs:=[.t 4,.t 5]) func130 rfl ntmps130 results130 rfl ⟨Y,Y,Y⟩ (by kernel_rfl) rfl ?_;repeat (first|refine AOps.F rfl rfl ?_|refine AOps.E rfl rfl ?_|refine AOps.nil ?_|refine AWP.j ?_|refine AWP.aa ?_|refine b5 ?_|refine AOps.andE (c:=(n:Int)) rfl rfl rfl f1 ?_|refine AOps.andE (c:=1) rfl rfl rfl (by decide) ?_|refine AOps.andE (c:=0) rfl rfl rfl (by decide) ?_|refine AOps.shr (c:=0) rfl rfl rfl (by decide) (by first|exact f2|decide) ?_|refine AOps.mulE (c:=(n:Int)) rfl rfl rfl f3 ?_|refine AOps.mulE (c:=0) rfl rfl rfl (by first|exact f4|decide) ?_|refine AOps.addE (c:=0) rfl rfl rfl (by decide) ?_)
 repeat (first|refine AWP.j ?_|refine AWP.ret ?_|refine e8 ?_|refine i5 ?_|refine AWP.skip ?_|refine b5 ?_|refine d6 ?_|refine AWP.exit ?_|refine i7 ?_|refine f9 ?_|refine ar8 rfl ?_)
 exact Done.ret rfl rfl
def o9(n:Nat)(a:n<=4294967295):e9 prog 106 [.c (u64 1),.c (u64 n)] (.tup [.c (u64 0),.c (u64 n)]):=by
 unfold e9;refine FnOk.enter (rs:=[.t 4,.t 5]) func106 rfl ntmps106 results106 rfl ⟨Y,Y,Y⟩ (by kernel_rfl) rfl ?_;repeat (first|refine AWP.j ?_|refine AWP.u ?_|refine AWP.skip ?_|refine b5 ?_|refine d6 ?_|refine AWP.condT rfl ?_|refine AWP.condF rfl ?_)
 refine AWP.aa (AOps.E rfl rfl (AOps.E rfl rfl (AOps.nil ?_)));repeat (first|refine b5 ?_|refine d6 ?_)
 repeat (first|refine AWP.j ?_|refine AWP.u ?_|refine AWP.skip ?_|refine b5 ?_|refine d6 ?_|refine AWP.condT rfl ?_|refine AWP.condF rfl ?_)
 refine AWP.aa (AOps.F rfl rfl (AOps.F rfl rfl ?_));first|refine AOps.z rfl rfl rfl rfl (l9 n a) rfl ?_|refine AOps.z rfl rfl rfl rfl (l9 n a) rfl ?_|refine AOps.z rfl rfl rfl rfl (l9 n a) rfl ?_|refine AOps.z rfl rfl rfl rfl (l9 n a) rfl ?_|refine AOps.z rfl rfl rfl rfl (l9 n a) rfl ?_|refine AOps.z rfl rfl rfl rfl (l9 n a) rfl ?_|refine AOps.z rfl rfl rfl rfl (l9 n a) rfl ?_|refine AOps.z rfl rfl rfl rfl (l9 n a) rfl ?_|refine AOps.z rfl rfl rfl rfl (l9 n a) rfl ?_|refine AOps.z rfl rfl rfl rfl (l9 n a) rfl ?_|refine AOps.z rfl rfl rfl rfl (l9 n a) rfl ?_|refine AOps.z rfl rfl rfl rfl (l9 n a) rfl ?_|refine AOps.z rfl rfl rfl rfl (l9 n a) rfl ?_|refine AOps.z rfl rfl rfl rfl (l9 n a) rfl ?_|refine AOps.z rfl rfl rfl rfl (l9 n a) rfl ?_|refine AOps.z rfl rfl rfl rfl (l9 n a) rfl ?_|refine AOps.z rfl rfl rfl rfl (l9 n a) rfl ?_|refine AOps.z rfl rfl rfl rfl (l9 n a) rfl ?_|refine AOps.z rfl rfl rfl rfl (l9 n a) rfl ?_|refine AOps.z rfl rfl rfl rfl (l9 n a) rfl ?_|refine AOps.z rfl rfl rfl rfl (l9 n a) rfl ?_|refine AOps.z rfl rfl rfl rfl (l9 n a) rfl ?_|refine AOps.z rfl rfl rfl rfl (l9 n a) rfl ?_|refine AOps.z rfl rfl rfl rfl (l9 n a) rfl ?_|refine AOps.z rfl rfl rfl rfl (l9 n a) rfl ?_|refine AOps.z rfl rfl rfl rfl (l9 n a) rfl ?_|refine AOps.z rfl rfl rfl rfl (l9 n a) rfl ?_|refine AOps.z rfl rfl rfl rfl (l9 n a) rfl ?_|refine AOps.z rfl rfl rfl rfl (l9 n a) rfl ?_|refine AOps.z rfl rfl rfl rfl (l9 n a) rfl ?_|refine AOps.z rfl rfl rfl rfl (l9 n a) rfl ?_|refine AOps.z rfl rfl rfl rfl (l9 n a) rfl ?_|refine AOps.z rfl rfl rfl rfl (l9 n a) rfl ?_|refine AOps.z rfl rfl rfl rfl (l9 n a) rfl ?_|refine AOps.z rfl rfl rfl rfl (l9 n a) rfl ?_|refine AOps.z rfl rfl rfl rfl (l9 n a) rfl ?_|refine AOps.z rfl rfl rfl rfl (l9 n a) rfl ?_|refine AOps.z rfl rfl rfl rfl (l9 n a) rfl ?_|refine AOps.z rfl rfl rfl rfl (l9 n a) rfl ?_|refine AOps.z rfl rfl rfl rfl (l9 n a) rfl ?_|refine AOps.z rfl rfl rfl rfl (l9 n a) rfl ?_|refine AOps.z rfl rfl rfl rfl (l9 n a) rfl ?_|refine AOps.z rfl rfl rfl rfl (l9 n a) rfl ?_|refine AOps.z rfl rfl rfl rfl (l9 n a) rfl ?_|refine AOps.z rfl rfl rfl rfl (l9 n a) rfl ?_|refine AOps.z rfl rfl rfl rfl (l9 n a) rfl ?_|refine AOps.z rfl rfl rfl rfl (l9 n a) rfl ?_|refine AOps.z rfl rfl rfl rfl (l9 n a) rfl ?_
 refine AOps.F rfl rfl (AOps.extract rfl rfl rfl (AOps.extract rfl rfl rfl (AOps.E rfl rfl (AOps.E rfl rfl (AOps.nil ?_)))));repeat (first|refine b5 ?_|refine d6 ?_)
 repeat (first|refine AWP.j ?_|refine AWP.u ?_|refine AWP.skip ?_|refine b5 ?_|refine d6 ?_|refine AWP.condT rfl ?_|refine AWP.condF rfl ?_)
 refine AWP.aa (AOps.F rfl rfl (AOps.F rfl rfl (AOps.E rfl rfl (AOps.E rfl rfl (AOps.nil ?_)))));repeat (first|refine b5 ?_|refine d6 ?_)
 repeat (first|refine AWP.j ?_|refine AWP.ret ?_|refine e8 ?_|refine i5 ?_|refine AWP.skip ?_|refine b5 ?_|refine d6 ?_|refine AWP.exit ?_|refine i7 ?_|refine f9 ?_|refine ar8 rfl ?_)
 exact Done.ret rfl rfl
def wrap_facts(n:Nat)(a:n<=4294967295):IntKind.u64.wrap (n:Int)=n/\IntKind.i64.wrap (n:Int)=n:=by refine⟨?_,wrap_i64 (by omega)⟩;simp only[IntKind.wrap,IntKind.bits,IntKind.signed,Bool.false_and];simp;omega
def repC(c:Int)(n i:Nat):List (List C):=(gL n).map fun j=>[int (if j<i then c else 0)]
def rep_first{c:Int}{n:Nat}(h:1<=n):(eN n [C.imm (.val (.int .i64 0))]).take 0++(([c]:Li).map intI|>.map (·.map C.imm)).take 1++(eN n [C.imm (.val (.int .i64 0))]).drop (0+1)=repC c n 1:=by
 apply eT;intro j;simp only[repC,lM];match j with
 |0=>simp[show 0<n by omega]
 |j+1=>
  simp only[List.take_zero,List.nil_append,List.map_cons,List.map_nil,List.take_succ_cons,List.take_nil,List.cons_append,List.getElem?_cons_succ,eU,fg]
  by_cases a:j+1<n
  ·rw[if_pos (by omega),fW a];simp
  ·rw[if_neg (by omega),fm (by simp;omega)];rfl
def rep_more{c:Int}{n m:Nat}(h:m<=k)(l:k+m<=n):(repC c n k).take (0+k)++(((repC c n k).drop 0).take k).take m++(repC c n k).drop (0+k+m)=repC c n (k+m):=by
 apply eT;intro j;have len:(repC c n k).length=n:=by simp[repC]
 have b:∀a j,(repC c n a)[j]? =if j<n then some [int (if j<a then c else 0)] else none:=fun a j=>by simp only[repC,lM];by_cases d:j<n;rw[fW d,if_pos d];rfl;rw[fm (by simp;omega),if_neg d];rfl
 rw[fL,fN,b];rcases fM j k with f|f;rw[fD,eJ (by simp[len];omega),eP,if_pos f,b];simp[show j<n by omega,f,show j<k+m by omega];rcases fM j (k+m) with g|g;rw[eJ (by simp[len];omega),eL (by simp[len];omega),eP,if_pos (by simp[len];omega),eP,if_pos (by simp[len];omega),b];have e:(gF k (repC c n k)).length=k:=by simp[len];omega
 rw[e,if_pos (by omega),if_pos (by omega),if_pos (by omega),if_pos (by omega)];rw[eL (by simp[len];omega),eU,b];have e:(gF k (repC c n k)++gF m (gF k (repC c n k))).length=k+m:=by simp[len];omega
 rw[e,show k+m+(j - (k+m))=j by omega];split;rw[if_neg (by omega),if_neg (by omega)];rfl
def rep_full(c:Int)(n:Nat):Blk.cells 1 (repC c n n)=Blk.im 1 (eN n [.val (.int .i64 c)]):=by rw[Blk.im,repC];congr 1;apply eT;intro j;simp only[lM,fg];by_cases a:j<n;rw[fW a,if_pos a];simp[a];rw[fm (by simp;omega),if_neg a];rfl
def repeat_ok(c:Int)(n:Nat)(h1:1<=n)(hn:n<=4294967295):p8 prog 71 [.c (ints [c]),.c (int n)] 1 (eN n [.val (.int .i64 c)]):=by
 obtain⟨w1,w2⟩:=wrap_facts n hn;unfold p8;refine FnOk.enter (rs:=[.t 4]) func71 rfl ntmps71 results71 rfl ⟨Y,Y⟩ (by kernel_rfl) rfl ?_;repeat (first|refine AWP.j ?_|refine AWP.u ?_|refine AWP.skip ?_|refine b5 ?_|refine d6 ?_|refine AWP.condT rfl ?_|refine AWP.condF rfl ?_)
 refine AWP.aa (AOps.E rfl rfl (AOps.nil ?_));repeat (first|refine b5 ?_|refine d6 ?_)
 have hd:decide ((n:Int)<0)=false:=decide_eq_false (by omega);repeat (first|refine AWP.j ?_|refine AWP.u ?_|refine AWP.skip ?_|refine b5 ?_|refine d6 ?_|refine AWP.condT rfl ?_|refine AWP.condF rfl ?_)
 refine AWP.aa (AOps.F rfl rfl (AOps.lss rfl rfl rfl (AOps.nil ?_)));repeat (first|refine b5 ?_|refine d6 ?_)
 (repeat (refine AWP.j ?_));first|refine AWP.condD rfl (fun hc=> ?_) (fun hc=> ?_)|refine AWP.condN rfl (fun hc=> ?_) (fun hc=> ?_)|refine AWP.condE rfl (fun hc=> ?_) (fun hc hc'=> ?_)|refine AWP.condB rfl (fun hc=> ?_) (fun hc=> ?_)|refine AWP.cond rfl (fun hc=> ?_) (fun hc=> ?_)
 omega;repeat (first|refine AWP.skip ?_|refine b5 ?_|refine d6 ?_|refine AWP.condT rfl ?_|refine AWP.condF rfl ?_)
 repeat (first|refine AWP.j ?_|refine AWP.u ?_|refine AWP.skip ?_|refine b5 ?_|refine d6 ?_|refine AWP.condT rfl ?_|refine AWP.condF rfl ?_)
 refine AWP.aa (AOps.F rfl rfl ?_);first|refine AOps.lenB rfl rfl (fun _=> ?_)|refine AOps.lenOwnB rfl rfl rfl (fun _=> ?_)|refine AOps.lenNil rfl rfl ?_
 refine AOps.convE (c:=1) rfl rfl (show IntKind.u64.wrap ((1:Nat):Int)=1 by decide) ?_;refine AOps.F rfl rfl (AOps.convE (c:=(n:Int)) rfl rfl w1 ?_);first|refine AOps.z rfl rfl rfl rfl (o9 n hn) rfl ?_|refine AOps.z rfl rfl rfl rfl (o9 n hn) rfl ?_|refine AOps.z rfl rfl rfl rfl (o9 n hn) rfl ?_|refine AOps.z rfl rfl rfl rfl (o9 n hn) rfl ?_|refine AOps.z rfl rfl rfl rfl (o9 n hn) rfl ?_|refine AOps.z rfl rfl rfl rfl (o9 n hn) rfl ?_|refine AOps.z rfl rfl rfl rfl (o9 n hn) rfl ?_|refine AOps.z rfl rfl rfl rfl (o9 n hn) rfl ?_|refine AOps.z rfl rfl rfl rfl (o9 n hn) rfl ?_|refine AOps.z rfl rfl rfl rfl (o9 n hn) rfl ?_|refine AOps.z rfl rfl rfl rfl (o9 n hn) rfl ?_|refine AOps.z rfl rfl rfl rfl (o9 n hn) rfl ?_|refine AOps.z rfl rfl rfl rfl (o9 n hn) rfl ?_|refine AOps.z rfl rfl rfl rfl (o9 n hn) rfl ?_|refine AOps.z rfl rfl rfl rfl (o9 n hn) rfl ?_|refine AOps.z rfl rfl rfl rfl (o9 n hn) rfl ?_|refine AOps.z rfl rfl rfl rfl (o9 n hn) rfl ?_|refine AOps.z rfl rfl rfl rfl (o9 n hn) rfl ?_|refine AOps.z rfl rfl rfl rfl (o9 n hn) rfl ?_|refine AOps.z rfl rfl rfl rfl (o9 n hn) rfl ?_|refine AOps.z rfl rfl rfl rfl (o9 n hn) rfl ?_|refine AOps.z rfl rfl rfl rfl (o9 n hn) rfl ?_|refine AOps.z rfl rfl rfl rfl (o9 n hn) rfl ?_|refine AOps.z rfl rfl rfl rfl (o9 n hn) rfl ?_|refine AOps.z rfl rfl rfl rfl (o9 n hn) rfl ?_|refine AOps.z rfl rfl rfl rfl (o9 n hn) rfl ?_|refine AOps.z rfl rfl rfl rfl (o9 n hn) rfl ?_|refine AOps.z rfl rfl rfl rfl (o9 n hn) rfl ?_|refine AOps.z rfl rfl rfl rfl (o9 n hn) rfl ?_|refine AOps.z rfl rfl rfl rfl (o9 n hn) rfl ?_|refine AOps.z rfl rfl rfl rfl (o9 n hn) rfl ?_|refine AOps.z rfl rfl rfl rfl (o9 n hn) rfl ?_|refine AOps.z rfl rfl rfl rfl (o9 n hn) rfl ?_|refine AOps.z rfl rfl rfl rfl (o9 n hn) rfl ?_|refine AOps.z rfl rfl rfl rfl (o9 n hn) rfl ?_|refine AOps.z rfl rfl rfl rfl (o9 n hn) rfl ?_|refine AOps.z rfl rfl rfl rfl (o9 n hn) rfl ?_|refine AOps.z rfl rfl rfl rfl (o9 n hn) rfl ?_|refine AOps.z rfl rfl rfl rfl (o9 n hn) rfl ?_|refine AOps.z rfl rfl rfl rfl (o9 n hn) rfl ?_|refine AOps.z rfl rfl rfl rfl (o9 n hn) rfl ?_|refine AOps.z rfl rfl rfl rfl (o9 n hn) rfl ?_|refine AOps.z rfl rfl rfl rfl (o9 n hn) rfl ?_|refine AOps.z rfl rfl rfl rfl (o9 n hn) rfl ?_|refine AOps.z rfl rfl rfl rfl (o9 n hn) rfl ?_|refine AOps.z rfl rfl rfl rfl (o9 n hn) rfl ?_|refine AOps.z rfl rfl rfl rfl (o9 n hn) rfl ?_|refine AOps.z rfl rfl rfl rfl (o9 n hn) rfl ?_
 refine AOps.F rfl rfl (AOps.extract rfl rfl rfl (AOps.extract rfl rfl rfl (AOps.E rfl rfl (AOps.E rfl rfl (AOps.nil ?_)))));repeat (first|refine b5 ?_|refine d6 ?_)
 have hd2:decide ((0:Int)<0)=false:=by decide
 repeat (first|refine AWP.j ?_|refine AWP.u ?_|refine AWP.skip ?_|refine b5 ?_|refine d6 ?_|refine AWP.condT rfl ?_|refine AWP.condF rfl ?_)
 refine AWP.aa (AOps.F rfl rfl (AOps.gtr rfl rfl rfl (AOps.F rfl rfl ?_)));first|(refine AOps.guardF rfl rfl rfl (by assumption) ?_)|(refine AOps.guardSkip rfl rfl rfl ?_)|(refine AOps.J rfl rfl rfl (by assumption) ?_;refine AOps.F rfl rfl ?_)
 first|(refine AOps.guardF rfl rfl rfl (by assumption) ?_)|(refine AOps.guardSkip rfl rfl rfl ?_)|(refine AOps.J rfl rfl rfl (by assumption) ?_;refine AOps.gtr rfl rfl rfl ?_)
 first|refine AOps.pickT rfl (by assumption) rfl rfl ?_|refine AOps.pickF rfl (by assumption) rfl rfl ?_
 refine AOps.nil ?_;repeat (first|refine b5 ?_|refine d6 ?_)
 (repeat (refine AWP.j ?_));first|refine AWP.condD rfl (fun hc=> ?_) (fun hc=> ?_)|refine AWP.condN rfl (fun hc=> ?_) (fun hc=> ?_)|refine AWP.condE rfl (fun hc=> ?_) (fun hc hc'=> ?_)|refine AWP.condB rfl (fun hc=> ?_) (fun hc=> ?_)|refine AWP.cond rfl (fun hc=> ?_) (fun hc=> ?_)
 omega;repeat (first|refine AWP.skip ?_|refine b5 ?_|refine d6 ?_|refine AWP.condT rfl ?_|refine AWP.condF rfl ?_)
 repeat (first|refine AWP.j ?_|refine AWP.u ?_|refine AWP.skip ?_|refine b5 ?_|refine d6 ?_|refine AWP.condT rfl ?_|refine AWP.condF rfl ?_)
 refine AWP.aa (AOps.F rfl rfl (AOps.convE (c:=(n:Int)) rfl rfl w2 (W.make rfl rfl rfl (by omega) (by omega) rfl rfl rfl ?_)));refine AOps.E rfl rfl (AOps.nil ?_);repeat (first|refine b5 ?_|refine d6 ?_)
 repeat (first|refine AWP.j ?_|refine AWP.u ?_|refine AWP.skip ?_|refine b5 ?_|refine d6 ?_|refine AWP.condT rfl ?_|refine AWP.condF rfl ?_)
 refine AWP.aa (AOps.F rfl rfl (AOps.F rfl rfl (AOps.copyE (m:=1) (es':=repC c n 1) rfl rfl (by omega) rfl .imm rfl (gm h1) (rep_first h1) rfl (AOps.E rfl rfl (AOps.nil ?_)))));repeat (first|refine b5 ?_|refine d6 ?_)
 refine AWP.j (AWP.u (AWP.loop (X:=Nat) (fun i=>⟨[(7,.c (.own 0 0 n)),(8,.c (int i))],[.one (.cells 1 (repC c n i))]⟩) (fun i=>1<=i/\i<=n) (fun i=>n - i) 1 (Sub.env ⟨rfl,rfl,Y⟩) ⟨fp _,h1⟩ ?_));rintro i ⟨i1,i2⟩;repeat (first|refine AWP.j ?_|refine AWP.u ?_|refine AWP.skip ?_|refine b5 ?_|refine d6 ?_|refine AWP.condT rfl ?_|refine AWP.condF rfl ?_)
 refine AWP.aa (AOps.F rfl rfl (AOps.F rfl rfl ?_));first|refine AOps.lenB rfl rfl (fun _=> ?_)|refine AOps.lenOwnB rfl rfl rfl (fun _=> ?_)|refine AOps.lenNil rfl rfl ?_
 refine AOps.lss rfl rfl rfl (AOps.nil ?_);repeat (first|refine b5 ?_|refine d6 ?_)
 (repeat (refine AWP.j ?_));first|refine AWP.condD rfl (fun hc=> ?_) (fun hc=> ?_)|refine AWP.condN rfl (fun hc=> ?_) (fun hc=> ?_)|refine AWP.condE rfl (fun hc=> ?_) (fun hc hc'=> ?_)|refine AWP.condB rfl (fun hc=> ?_) (fun hc=> ?_)|refine AWP.cond rfl (fun hc=> ?_) (fun hc=> ?_)
 have hi:i<n:=by omega
 obtain⟨m,hm⟩:∃m,m=Nat.min i (n - i):=⟨_,rfl⟩;have hm1:1<=m:=by rw[hm];exact Nat.le_min.2 ⟨i1,by omega⟩
 have hm2:m<=i/\i+m<=n:=by have:=Nat.min_le_left i (n - i);have:=Nat.min_le_right i (n - i);change m=min i (n - i) at hm;omega
 have hcm:Nat.min (((repC c n i).drop 0).take i).length (n - i)=m:=by rw[hm];congr 1;simp[repC];omega
 have hce:(repC c n i).take (0+i)++(((repC c n i).drop 0).take i).take m++(repC c n i).drop (0+i+m)=repC c n (i+m):=rep_more hm2.1 hm2.2;repeat (first|refine AWP.skip ?_|refine b5 ?_|refine d6 ?_|refine AWP.condT rfl ?_|refine AWP.condF rfl ?_)
 repeat (first|refine AWP.j ?_|refine AWP.u ?_|refine AWP.skip ?_|refine b5 ?_|refine d6 ?_|refine AWP.condT rfl ?_|refine AWP.condF rfl ?_)
 refine AWP.drawEI [7] mixed rfl rfl rfl ?_;apply b8.consN;exact rfl;exact rfl;intro E;exact AOps.F rfl rfl (AOps.nil ⟨rfl,rfl⟩);exact rfl;apply b8.consN;exact rfl;exact rfl;intro E;exact AOps.F rfl rfl (AOps.nil ⟨rfl,rfl⟩);exact rfl;apply b8.consN;exact rfl;exact rfl;intro E;exact AOps.F rfl rfl (AOps.nil ⟨rfl,rfl⟩);exact rfl;apply b8.consN;exact rfl;exact rfl;intro E;first|refine AOps.sliceArrI rfl (eK rfl) rfl rfl ?_|refine AOps.sliceOwnTo rfl rfl rfl (by omega) rfl ?_|refine AOps.sliceOwnFrom rfl rfl rfl (by omega) rfl ?_
 exact AOps.nil ⟨rfl,rfl⟩;exact rfl;apply b8.consN;exact rfl;exact rfl;intro E;exact AOps.F rfl rfl (AOps.nil ⟨rfl,rfl⟩);exact rfl;apply b8.consN;exact rfl;exact rfl;intro E;exact AOps.F rfl rfl (AOps.nil ⟨rfl,rfl⟩);exact rfl;apply b8.consN;exact rfl;exact rfl;intro E;first|refine AOps.sliceArrI rfl (eK rfl) rfl rfl ?_|refine AOps.sliceOwnTo rfl rfl rfl (by omega) rfl ?_|refine AOps.sliceOwnFrom rfl rfl rfl (by omega) rfl ?_
 exact AOps.nil ⟨rfl,rfl⟩;exact rfl;apply b8.consE;exact rfl;exact rfl;intro E;exact AOps.copyE rfl rfl (by omega) rfl (Src.own rfl) rfl hcm hce rfl (AOps.nil ⟨rfl,rfl⟩);exact rfl;exact rfl;apply b8.consN;exact rfl;exact rfl;intro E;refine AOps.add rfl rfl rfl (by omega) ?_;exact AOps.nil ⟨rfl,rfl⟩;exact rfl;apply b8.consN;exact rfl;exact rfl;intro E;exact AOps.E rfl rfl (AOps.nil ⟨rfl,rfl⟩);exact rfl;refine b8.done rfl ?_ ?_;apply d8.cons;exact rfl;exact rfl;first|refine d9.skip rfl ?_|(apply d9.go;exact rfl;exact rfl;intro E;(refine AOps.F rfl rfl ?_);exact AOps.nil ⟨rfl,rfl⟩)
 first|refine d9.skip rfl ?_|(apply d9.go;exact rfl;exact rfl;intro E;(refine AOps.F rfl rfl ?_);exact AOps.nil ⟨rfl,rfl⟩)
 exact d9.nil;apply d8.cons;exact rfl;exact rfl;first|refine d9.skip rfl ?_|(apply d9.go;exact rfl;exact rfl;intro E;(refine AOps.F rfl rfl ?_);exact AOps.nil ⟨rfl,rfl⟩)
 first|refine d9.skip rfl ?_|(apply d9.go;exact rfl;exact rfl;intro E;(refine AOps.F rfl rfl ?_);exact AOps.nil ⟨rfl,rfl⟩)
 exact d9.nil;apply d8.cons;exact rfl;exact rfl;first|refine d9.skip rfl ?_|(apply d9.go;exact rfl;exact rfl;intro E;(refine AOps.F rfl rfl ?_);exact AOps.nil ⟨rfl,rfl⟩)
 first|refine d9.skip rfl ?_|(apply d9.go;exact rfl;exact rfl;intro E;(refine AOps.F rfl rfl ?_);exact AOps.nil ⟨rfl,rfl⟩)
 exact d9.nil;apply d8.cons;exact rfl;exact rfl;first|refine d9.skip rfl ?_|(apply d9.go;exact rfl;exact rfl;intro E;(first|refine AOps.sliceArrI rfl (eK rfl) rfl rfl ?_|refine AOps.sliceOwnTo rfl rfl rfl (by omega) rfl ?_|refine AOps.sliceOwnFrom rfl rfl rfl (by omega) rfl ?_);exact AOps.nil ⟨rfl,rfl⟩)
 first|refine d9.skip rfl ?_|(apply d9.go;exact rfl;exact rfl;intro E;(first|refine AOps.sliceArrI rfl (eK rfl) rfl rfl ?_|refine AOps.sliceOwnTo rfl rfl rfl (by omega) rfl ?_|refine AOps.sliceOwnFrom rfl rfl rfl (by omega) rfl ?_);exact AOps.nil ⟨rfl,rfl⟩)
 exact d9.nil;apply d8.cons;exact rfl;exact rfl;first|refine d9.skip rfl ?_|(apply d9.go;exact rfl;exact rfl;intro E;(refine AOps.F rfl rfl ?_);exact AOps.nil ⟨rfl,rfl⟩)
 first|refine d9.skip rfl ?_|(apply d9.go;exact rfl;exact rfl;intro E;(refine AOps.F rfl rfl ?_);exact AOps.nil ⟨rfl,rfl⟩)
 exact d9.nil;apply d8.cons;exact rfl;exact rfl;first|refine d9.skip rfl ?_|(apply d9.go;exact rfl;exact rfl;intro E;(refine AOps.F rfl rfl ?_);exact AOps.nil ⟨rfl,rfl⟩)
 first|refine d9.skip rfl ?_|(apply d9.go;exact rfl;exact rfl;intro E;(refine AOps.F rfl rfl ?_);exact AOps.nil ⟨rfl,rfl⟩)
 exact d9.nil;apply d8.cons;exact rfl;exact rfl;first|refine d9.skip rfl ?_|(apply d9.go;exact rfl;exact rfl;intro E;(first|refine AOps.sliceArrI rfl (eK rfl) rfl rfl ?_|refine AOps.sliceOwnTo rfl rfl rfl (by omega) rfl ?_|refine AOps.sliceOwnFrom rfl rfl rfl (by omega) rfl ?_);exact AOps.nil ⟨rfl,rfl⟩)
 first|refine d9.skip rfl ?_|(apply d9.go;exact rfl;exact rfl;intro E;(first|refine AOps.sliceArrI rfl (eK rfl) rfl rfl ?_|refine AOps.sliceOwnTo rfl rfl rfl (by omega) rfl ?_|refine AOps.sliceOwnFrom rfl rfl rfl (by omega) rfl ?_);exact AOps.nil ⟨rfl,rfl⟩)
 exact d9.nil;refine d8.skip rfl ?_;apply d8.cons;exact rfl;exact rfl;first|refine d9.skip rfl ?_|(apply d9.go;exact rfl;exact rfl;intro E;(refine AOps.add rfl rfl rfl (by omega) ?_);exact AOps.nil ⟨rfl,rfl⟩)
 first|refine d9.skip rfl ?_|(apply d9.go;exact rfl;exact rfl;intro E;(refine AOps.add rfl rfl rfl (by omega) ?_);exact AOps.nil ⟨rfl,rfl⟩)
 exact d9.nil;apply d8.cons;exact rfl;exact rfl;first|refine d9.skip rfl ?_|(apply d9.go;exact rfl;exact rfl;intro E;(refine AOps.E rfl rfl ?_);exact AOps.nil ⟨rfl,rfl⟩)
 first|refine d9.skip rfl ?_|(apply d9.go;exact rfl;exact rfl;intro E;(refine AOps.E rfl rfl ?_);exact AOps.nil ⟨rfl,rfl⟩)
 exact d9.nil;exact d8.nil;dsimp only[g9];repeat (first|refine b5 ?_|refine d6 ?_)
 exact⟨i+m,Sub.env ⟨rfl,rfl,Y⟩,⟨by omega,by omega⟩,by omega⟩;repeat (first|refine AWP.j ?_|refine AWP.ret ?_|refine e8 ?_|refine i5 ?_|refine AWP.skip ?_|refine b5 ?_|refine d6 ?_|refine AWP.exit ?_|refine i7 ?_|refine f9 ?_|refine ar8 rfl ?_)
 repeat (first|refine AWP.j ?_|refine AWP.u ?_|refine AWP.skip ?_|refine b5 ?_|refine d6 ?_|refine AWP.condT rfl ?_|refine AWP.condF rfl ?_)
 refine AWP.aa (AOps.F rfl rfl (AOps.E rfl rfl (AOps.nil ?_)));repeat (first|refine b5 ?_|refine d6 ?_)
 repeat (first|refine AWP.j ?_|refine AWP.ret ?_|refine e8 ?_|refine i5 ?_|refine AWP.skip ?_|refine b5 ?_|refine d6 ?_|refine AWP.exit ?_|refine i7 ?_|refine f9 ?_|refine ar8 rfl ?_)
 have hin:i=n:=by omega
 subst hin;refine Done.ret rfl ⟨0,by simp,?_⟩;show some (some (Blk.cells 1 (repC c i i)))=_;rw[rep_full]
def E9(x:Li)(n:Int):Option Li:=match x with
 |[c]=>if 1<=n/\n<=4294967295 then some (eN n.toNat c) else none
 |_=>none
def ag6{x:Li}{n:Int}{r:Li}(h:E9 x n=some r):p8 prog 71 [.c (row 1 intI x),.c (int n)] 1 (fC intI r):=by unfold E9 at h;split at h;rename_i c;split at h;rename_i a;cases h;have:=repeat_ok c n.toNat (by omega) (by omega);rw[Int.toNat_of_nonneg (by omega)] at this;rwa [List.map_replicate];cases h;cases h
end
set_option linter.all false
section
open Go.Proofs Go.RowKit Go.Lib
open Tryz
def spl(a:Array Vl)(o:Nat)(cs:List Vl):Array Vl:=(a.toList.take o++cs++a.toList.drop (o+gN cs)).toArray
def aq4{a:Array Vl}{o:Nat}{cs:List Vl}(h:o+gN cs<=a.size):(spl a o cs).size=a.size:=by simp[spl];omega
def spl_get{a:Array Vl}{o:Nat}{cs:List Vl}(h:o+gN cs<=a.size)(i:Nat):(spl a o cs)[i]? =if o<=i/\i<o+gN cs then cs[i - o]? else a[i]? :=by have:=D3 a.toList cs o i (by simpa using h);simpa[spl] using this
def ay4{u x e:Ti}{bytes:Nat}{z:Vl}[y:TyD g d (.slice e)][H:TyS g e n bytes z](w:World)(b o l p:Nat)(a:Addr)(c f m:Nat)(i:Array Vl)(t:Ti)(cs:List Vl)(A:Nat.min c l=m)(B:w.heap[b]? =some (.cells i t (0,0)))(D:gN cs=m * n)(q:∀j v,cs[j]? =some v->w.cell? (a.add j)=some v)(r:o+gN cs<=i.size)(E:∀v ∈ cs,v.oneCell'=true):
  (Builtin.copy_ #[d,u] x #[.slice (some ⟨b,o,none⟩) l p,.slice (some a) c f]).run g w=.ok (goInt m) (w.setRow b (spl i o cs)):=by
 have F:(Builtin.firstCells n m (.slice (some a) c f)).run g w=.ok cs.toArray w:=run_firstCells_some w n m a c f cs D q
 have s:=run_storeCells_at g b o t cs 0 i w B (by simpa using r) E
 have G:=p7 (P:=g) (t:=e) w
 simp[Builtin.copy_,run_underlying y.h,G,Builtin.lenOf,A,F,s,spl]
def setRow_alloc(w:World)(r a:Array Vl)(e:Ti):(w.alloc (.cells r e)).setRow w.heap.size a=w.alloc (.cells a e):=by unfold World.setRow World.alloc;congr 1;apply fB;intro i;simp only[fj,Array.getElem?_push];by_cases h:w.heap.size=i;subst h;simp;rw[if_neg h,if_neg (fun e=>h e.symm),if_neg (fun e=>h e.symm)]
def wpL_copy(w:World){ops:Array Oper}{rest:List Oper}{o:Oper}{a:Act}{Q:Exit->Act->World->Prop}(c:o.guard=none)(d s:Od)(t f:Ti)(i:o.op=.call {callee:=.builtin .copy,args:=#[d,s],argTypes:=#[t,f]}){v u e:Vl}(j:a.eval d=v)(k:a.eval s=u)(l:(Builtin.copy_ #[t,f] o.type #[v,u]).run g w=.ok e b)(h:wpList g ops Q rest (a.put o.dst e) b):wpList g ops Q (o::rest) a w:=
 wpList_plain c fun K n=>by
  have:(execOp a.eval o).run g w=.ok (.value e) b:=by simp[execOp,i,resolve,invoke,builtin,j,k,l,Result.andThen]
  unfold Oper.wp;rw[this];exact n _ _ h
def wpS_copy{ops:Array Oper}{o:Oper}{a:Act}{w:World}{K:Act->World->Prop}{Q:Exit->Act->World->Prop}{E:Prop}(c:o.guard=none)(d s:Od)(t f:Ti)(h:o.op=.call {callee:=.builtin .copy,args:=#[d,s],argTypes:=#[t,f]}){v u e:Vl}(i:a.eval d=v)(j:a.eval s=u)(k:(Builtin.copy_ #[t,f] o.type #[v,u]).run g w=.ok e b)(l:K (a.put o.dst e) b):if Region.wanted o (yielded ops a.tmps)=true then Oper.wp g o a w K Q else E:=by
 have n:Region.wanted o (yielded ops a.tmps)=true:=by simp[Region.wanted,c]
 have:(execOp a.eval o).run g w=.ok (.value e) b:=by simp[execOp,h,resolve,invoke,builtin,i,j,k,Result.andThen]
 rw[if_pos n]
 unfold Oper.wp
 rw[this]
 exact l
section
set_option maxHeartbeats 4000000
set_option maxRecDepth 100000
abbrev insF:Nat:=85
abbrev choT:Nat:=95
abbrev I2:Nat:=26
theorem ins_shift(b off n c i vb voff vc:Nat)(arr varr:Array Vl)(ety vety:Ti)(cs vs:List Vl)(w:World)(hi:i<n)(hroom:n+1<=c)(hc63:c<=9223372036854775807)(hvb:vb ≠ b)
  (hb:w.heap[b]? =some (.cells arr ety (0,0))) (hv:w.heap[vb]? =some (.cells varr vety (0,0))) (hfit:off+(n+1) * 2<=arr.size)
  (hcl:cs.length=(n - i) * 2) (hvl:vs.length=1 * 2) (hcs:∀j v,cs[j]? =some v->w.cell? (⟨b,off+i * 2+j,none⟩)=some v) (hvs:∀j v,vs[j]? =some v->w.cell? ⟨vb,voff+j,none⟩=some v) (h1c:∀v ∈ cs,v.oneCell'=true) (h1v:∀v ∈ vs,v.oneCell'=true):
  Calls prog insF #[.slice (some ⟨b,off,none⟩) n c,.int .i64 i,.slice (some ⟨vb,voff,none⟩) 1 vc] w fun e w'=>
   e=.returned (.slice (some ⟨b,off,none⟩) (n+1) c)/\w'=w.drew.setRow b (spl (spl arr (off+(i+1) * 2) cs) (off+i * 2) vs):=by
 have hz2:¬ ((i:Int)=(n:Int)):=by omega
 have hov:∀lb cb,(callFunc 114 #[.slice (some ⟨vb,voff,none⟩) 1 vc,.slice (some ⟨b,off+(i+1) * 2,none⟩) lb cb]).run prog w=.ok (.value (.bool false)) w:=fun lb cb=>by
  rw[run_callFunc_extern func114 (by kernel_rfl) (by kernel_rfl) (by kernel_rfl) (e:=Extern.SlicesOverlaps.overlaps #[I2,I2] #[4]) (by kernel_rfl),
   Lib.run_overlaps_apart w I2 4 choT underlying26 2 (fun w=>p7 w) ⟨vb,voff,none⟩ ⟨b,off+(i+1) * 2,none⟩ 1 vc lb cb hvb vety ety varr.size arr.size (by simp[World.shape?,hv]) (by simp[World.shape?,hb]) (by omega) (by simp[World.frozen?,hv]) (by simp[World.frozen?,hv])]
  rfl
 have mixed:prog.follows .mixedOrders=true:=by kernel_rfl
 have u26:=run_underlying underlying26
 have hw1:IntKind.i64.wrap ((i:Int)+(1:Int))=(i:Int)+(1:Int):=by rw[IntKind.wrap_i64];omega
 have hb1:(0:Int)<=(i:Int)+(1:Int):=by omega
 have hin:i<=n:=by omega
 have htn:((i:Int)+(1:Int)).toNat=i+1:=by omega
 have hb2:¬ (c=i+1):=by omega
 have hb3:(i:Int)<=(n:Int)+(1:Int):=by omega
 have hb4:¬ (c=i):=by omega
 have hcp1:∀ty dc sc,(Builtin.copy_ #[I2,I2] ty #[.slice (some ⟨b,off+(i+1) * 2,none⟩) (n - i) dc,.slice (some ⟨b,off+i * 2,none⟩) (n+1 - i) sc]).run prog w.drew=.ok (goInt (n - i:Nat)) (w.drew.setRow b (spl arr (off+(i+1) * 2) cs)):=fun ty dc sc=>
  ay4 (e:=choT) w.drew _ _ _ _ _ _ _ _ arr ety cs (by simp only[gp];split<;>omega) hb hcl (fun j v hj=>by rw[Addr.add_lit];exact hcs j v hj) (by omega) h1c
 have hcp2:∀ty dc,(Builtin.copy_ #[I2,I2] ty #[.slice (some ⟨b,off+i * 2,none⟩) (n+1 - i) dc,.slice (some ⟨vb,voff,none⟩) 1 vc]).run prog (w.drew.setRow b (spl arr (off+(i+1) * 2) cs))=.ok (goInt 1) ((w.drew.setRow b (spl arr (off+(i+1) * 2) cs)).setRow b (spl (spl arr (off+(i+1) * 2) cs) (off+i * 2) vs)):=fun ty dc=>
  ay4 (e:=choT) _ _ _ _ _ _ _ _ _ _ ety vs (by simp only[gp];split<;>omega) (setRow_heap w.drew b arr _ ety (0,0) hb) hvl (fun j v hj=>by
   rw[Addr.add_lit,World.cell?_of_block (setRow_other w.drew b vb _ hvb)];exact hvs j v hj) (by rw[aq4 (by omega)];omega) h1v
 go_enter func85,ntmps85
 go_wp2_with (simp only[hov])
 go_region_law_o (refine wpS_copy rfl _ _ I2 I2 rfl (by simp[Act.eval,Act.put]) (by simp[Act.eval,Act.put]) (hcp1 _ _ _) ?_)
 go_wp2_with (at_builtin;refine wpL_copy _ rfl _ _ I2 I2 rfl rfl rfl (hcp2 _ _) ?_)
 go_ret
 exact⟨rfl,by rw[setRow_setRow]⟩
theorem ins_grow(b off n c i vb voff vc:Nat)(os cs vs:List Vl)(w:World)(hi:i<n)(hnc:n<=c)(hroom:c<n+1)(hbig:(n+1) * 32<=140737488355328)(hbw:b<w.heap.size)(hvw:vb<w.heap.size)
  (hol:os.length=i * 2) (hcl:cs.length=(n - i) * 2) (hvl:vs.length=1 * 2)
  (hos:∀j v,os[j]? =some v->w.cell? (⟨b,off+j,none⟩)=some v) (hcs:∀j v,cs[j]? =some v->w.cell? (⟨b,off+i * 2+j,none⟩)=some v) (hvs:∀j v,vs[j]? =some v->w.cell? ⟨vb,voff+j,none⟩=some v)
  (h1c:∀v ∈ cs,v.oneCell'=true) (h1v:∀v ∈ vs,v.oneCell'=true):
  Calls prog insF #[.slice (some ⟨b,off,none⟩) n c,.int .i64 i,.slice (some ⟨vb,voff,none⟩) 1 vc] w fun e w'=>
   ∃(G:Nat) (ROW:Array Vl),n+1<=G/\G<=maxLen/\ROW.size=G * 2/\(∀(j:Nat) v,os[j]? =some v->ROW[j]? =some v)/\
   e=.returned (.slice (some ⟨w.heap.size,0,none⟩) (n+1) G)/\w'=w.drew.drew.alloc (.cells (spl (spl ROW (i * 2) vs) ((i+1) * 2) cs) choT):=by
 have hz2:¬ ((i:Int)=(n:Int)):=by omega
 have hz3:(c:Int)<(n:Int)+(1:Int):=by omega
 have mixed:prog.follows .mixedOrders=true:=by kernel_rfl
 have u26:=run_underlying underlying26
 obtain⟨inf,hi1,hi2,hi3,hi4⟩:=(inferInstance:TyS prog choT 2 32 _).h
 have hkk:(n:Int)+(1:Int) - (i:Int)=((n+1 - i:Nat):Int):=by omega
 have hik:i+(n+1 - i)=n+1:=by omega
 have hold:(Builtin.firstCells inf.size i (.slice (some ⟨b,off,none⟩) i c)).run prog w.drew=.ok os.toArray w.drew:=by
  rw[hi2]
  exact run_firstCells_some w.drew 2 i ⟨b,off,none⟩ i c os hol (fun j v hj=>by
   rw[Addr.add_lit]
   exact hos j v hj)
 obtain⟨G,hG⟩:∃G,G=grownCap w (n+1) c choT:=⟨_,rfl⟩
 obtain⟨ROW,hROW⟩:∃ROW:Array Vl,ROW=os.toArray++Builtin.zeroCells (Value.agg #[.slice none 0 0,.int .i64 0]).cells (n+1 - i)++Builtin.zeroCells (Value.agg #[.slice none 0 0,.int .i64 0]).cells (G - (n+1)):=⟨_,rfl⟩
 have hGn:n+1<=G:=by rw[hG];exact grownCap_ge w _ _ _
 have hGm:G<=maxLen:=by
  rw[hG]
  exact grownCap_le_maxLen w (n+1) c choT (by unfold maxLen;omega)
 have hG63:G<=9223372036854775807:=hGm
 have hRl:ROW.size=G * 2:=by
  rw[hROW]
  simp[Builtin.zeroCells,Value.cells,hol]
  omega
 have hRo:∀(j:Nat) v,os[j]? =some v->ROW[j]? =some v:=fun j v hj=>by
  rw[hROW,Array.append_assoc,Array.getElem?_append_left (by simpa using(lG.1 hj).1)]
  simpa using hj
 have hrz:∀ty,(Builtin.append_ #[I2,3] ty #[.slice (some ⟨b,off,none⟩) i c,.int .i64 ((n:Int)+(1:Int) - (i:Int))]).run prog w=
   .ok (.slice (some ⟨w.heap.size,0,none⟩) (n+1) G) (w.drew.alloc (.cells ROW choT)):=fun ty=>by
  have h:=Lib.run_append_grow_zeros w I2 3 ty choT inf _ .i64 .i64 underlying26 underlying3 hi1 hi4 (some ⟨b,off,none⟩) i c os hold (n+1 - i) (by omega) (by omega) (by omega) (by omega) (by rw[hi3];omega) (by rw[hi3,hik];exact growslice_fits hroom hbig)
  rw[hik,<- hG] at h
  rw[hkk,hROW]
  exact h
 have hci:¬ (c=i):=by omega
 have hGi:¬ (G=i):=by omega
 have hGim:¬ (G=i+1):=by omega
 have hw1:IntKind.i64.wrap ((i:Int)+(1:Int))=(i:Int)+(1:Int):=by rw[IntKind.wrap_i64];omega
 have hb1:(0:Int)<=(i:Int)+(1:Int):=by omega
 have hin:i<=n:=by omega
 have htn:((i:Int)+(1:Int)).toNat=i+1:=by omega
 have hb3:(i:Int)<=(n:Int):=by omega
 have hcpA:∀ty dc,(Builtin.copy_ #[I2,I2] ty #[.slice (some ⟨w.heap.size,i * 2,none⟩) (n+1 - i) dc,.slice (some ⟨vb,voff,none⟩) 1 vc]).run prog (w.alloc (.cells ROW choT)).drew=.ok (goInt 1) ((w.alloc (.cells ROW choT)).drew.setRow w.heap.size (spl ROW (i * 2) vs)):=fun ty dc=>
  ay4 (e:=choT) _ _ _ _ _ _ _ _ _ ROW choT vs (by simp only[gp];split<;>omega) (heap_alloc_new w.drew _) hvl (fun j v hj=>by
   rw[Addr.add_lit,World.cell?_of_block (show(w.alloc (.cells ROW choT)).drew.heap[vb]? =w.heap[vb]? from by first|exact heap_alloc_old w.drew _ hvw|exact heap_alloc_old w.drew _ _ hvw)];exact hvs j v hj) (by omega) h1v
 have hcpB:∀ty dc sc,(Builtin.copy_ #[I2,I2] ty #[.slice (some ⟨w.heap.size,(i+1) * 2,none⟩) (n - i) dc,.slice (some ⟨b,off+i * 2,none⟩) (n - i) sc]).run prog ((w.alloc (.cells ROW choT)).drew.setRow w.heap.size (spl ROW (i * 2) vs)).drew=.ok (goInt (n - i:Nat)) (((w.alloc (.cells ROW choT)).drew.setRow w.heap.size (spl ROW (i * 2) vs)).drew.setRow w.heap.size (spl (spl ROW (i * 2) vs) ((i+1) * 2) cs)):=fun ty dc sc=>
  ay4 (e:=choT) _ _ _ _ _ _ _ _ _ (spl ROW (i * 2) vs) choT cs (by simp only[gp];split<;>omega) (setRow_heap _ _ ROW _ choT (0,0) (heap_alloc_new w.drew _)) hcl (fun j v hj=>by
   rw[Addr.add_lit,World.cell?_of_block (show((w.drew.alloc (.cells ROW choT)).setRow w.heap.size (spl ROW (i * 2) vs)).drew.heap[b]? =w.heap[b]? from(setRow_other _ w.heap.size b _ (by omega)).trans (by first|exact heap_alloc_old w.drew _ hbw|exact heap_alloc_old w.drew _ _ hbw))];exact hcs j v hj) (by rw[aq4 (by omega)];omega) h1c
 clear hkk hik hold hG hROW
 go_enter func85,ntmps85
 go_wp2_with (first
  |(at_builtin;refine Lib.wpList_append_run _ rfl _ _ _ _ rfl _ _ rfl rfl _ _ (hrz _) ?_)
  |(at_builtin;refine wpL_copy _ rfl _ _ I2 I2 rfl rfl rfl (hcpA _ _) ?_))
 go_region_law_o (refine wpS_copy rfl _ _ I2 I2 rfl (by simp[Act.eval,Act.put]) (by simp[Act.eval,Act.put]) (hcpB _ _ _) ?_)
 go_wp2
 go_ret
 refine⟨G,ROW,hGn,hGm,hRl,hRo,rfl,?_⟩
 exact(setRow_setRow (w.alloc (.cells ROW choT)).drew.drew w.heap.size (spl ROW (i * 2) vs) (spl (spl ROW (i * 2) vs) ((i+1) * 2) cs)).trans (setRow_alloc w.drew.drew ROW (spl (spl ROW (i * 2) vs) ((i+1) * 2) cs) choT)
theorem ins_end(base:Option Addr)(n c:Nat)(vv r:Vl)(w w':World)(hvv:∃b cv,vv=.slice b 1 cv)(hrun:∀ty,(Builtin.append_ #[I2,I2] ty #[.slice base n c,vv]).run prog w=.ok r w')(hnc:n<=c):
  Calls prog insF #[.slice base n c,.int .i64 n,vv] w fun e w2=>e=.returned r/\w2=w':=by
 obtain⟨vb,vc,rfl⟩:=hvv
 have mixed:prog.follows .mixedOrders=true:=by kernel_rfl
 have u26:=run_underlying underlying26
 go_enter func85,ntmps85
 cases base with
 |none=>
  go_wp2_with (at_builtin;refine Lib.wpList_append_run _ rfl _ _ _ _ rfl _ _ rfl rfl _ _ (hrun _) ?_)
  all_goals (go_ret;exact⟨rfl,rfl⟩)
 |some a=>
  obtain⟨ab,ao,asp⟩:=a
  go_wp2_with (at_builtin;refine Lib.wpList_append_run _ rfl _ _ _ _ rfl _ _ rfl rfl _ _ (hrun _) ?_)
  all_goals (go_ret;exact⟨rfl,rfl⟩)
end
structure Rw(w:World)(φ:Phi)(σ:b6)(A:Nat->Prop)(k:Nat)(es:List (List C))(us:List Vl):Prop where
 len:gN us=gN es * k
 hk:∀(j:Nat) (e:List C),es[j]? =some e->gN e=k
 rel:∀(j:Nat) (e:List C) (o:Nat) (x:C),es[j]? =some e->e[o]? =some x->∃u,us[j * k+o]? =some u/\RelC w φ σ A x u
def ak7.rw{w:World}{a:Phi}{σ:b6}{A:Nat->Prop}{k:Nat}{es:List (List C)}{b:Option Addr}{c:List Vl}(h:ak7 w a σ A k es b c):Rw w a σ A k es c:=⟨h.len,h.hk,h.rel⟩
def Rw.append{w:World}{f:Phi}{σ:b6}{A:Nat->Prop}{i b:List (List C)}{p c:List Vl}(h:Rw w f σ A n i p)(g:Rw w f σ A n b c):Rw w f σ A n (i++b) (p++c):=by refine⟨by rw[fc,fc,h.len,g.len,fP],fun j e a=> ?_,fun j e o x a q=> ?_⟩;rw[fG] at a;split at a;exact h.hk j e a;exact g.hk _ e a;rw[fG] at a;split at a;obtain⟨u,d,l⟩:=h.rel j e o x a q;exact⟨u,by rw[eJ (lG.1 d).1];exact d,l⟩;rename_i s;obtain⟨u,d,l⟩:=g.rel _ e o x a q;have r:=h.len;have t:gN i * n<=j * n:=ff n (by omega);refine⟨u,?_,l⟩;rw[eL (by omega),r];rw[gJ] at d;rw[<- d];congr 1;omega
def Rw.take{w:World}{d:Phi}{σ:b6}{A:Nat->Prop}{b:List (List C)}{f:List Vl}(h:Rw w d σ A n b f)(i:Nat)(g:i<=gN b):Rw w d σ A n (b.take i) (f.take (i * n)):=by have s:=h.len;have t:i * n<=gN b * n:=ff n g;refine⟨by rw[fQ,fQ,gm g,gm (by omega)],fun j e a=> ?_,fun j e o x a l=> ?_⟩;rw[eP] at a;split at a;exact h.hk j e a;cases a;rw[eP] at a;split at a;rename_i p;obtain⟨u,q,r⟩:=h.rel j e o x a l;have:=h.hk j e a;have:=(lG.1 l).1;have c:(j+1) * n<=i * n:=ff n p;rw[fP] at c;exact⟨u,by rw[eP,if_pos (by omega)];exact q,r⟩;cases a
def Rw.drop{w:World}{c:Phi}{σ:b6}{A:Nat->Prop}{b:List (List C)}{d:List Vl}(h:Rw w c σ A n b d)(i:Nat)(q:i<=gN b):Rw w c σ A n (b.drop i) (d.drop (i * n)):=by have f:=h.len;refine⟨by rw[gj,gj,f,gJ],fun j e a=> ?_,fun j e o x a g=> ?_⟩;rw[eU] at a;exact h.hk _ e a;rw[eU] at a;obtain⟨u,l,p⟩:=h.rel _ e o x a g;refine⟨u,?_,p⟩;rw[eU,<- l,fP,Nat.add_assoc]
def Rw.mono{w:World}{d:Phi}{σ:b6}{A:Nat->Prop}{f:List (List C)}{g:List Vl}{c:Phi}{i:Nat->Prop}(H:Kept w b d c σ a A i)(h:Rw w d σ A n f g):Rw b c a i n f g:=
 ⟨h.len,h.hk,fun j e o x l p=>let ⟨u,q,r⟩:=h.rel j e o x l p; ⟨u,q,r.mono H⟩⟩
def ins_lists{f:A->List I}{l:List A}{x:A}{i:Nat}:(((l.map f).map (·.map C.imm)).take i++(([x].map f).map (·.map C.imm))++((l.map f).map (·.map C.imm)).drop i)=((l.take i++x::l.drop i).map f).map (·.map C.imm):=by
 simp[gB,gA]
set_option maxRecDepth 100000 in
theorem ins_fn{α:Type}{f:α->List I}{σ:b6}{id id2:Id}{l:List α}{x:α}{i:Int}(hσ:σ[id]? =some (some (vec 2 f l)))(hσ2:σ[id2]? =some (some (vec 2 f [x])))(hne:id2 ≠ id)(hb:(l.length+1) * 32<=140737488355328)(h0:0<=i)(h1:i<=l.length):
  FnOk prog insF [.c (.own id 0 l.length),.c (int i),.c (.own id2 0 1)] σ fun r σ'=>r=.c (.own (σ.length,[]) 0 (l.take i.toNat++x::l.drop i.toNat).length)/\σ'=σ.put id none++[.one (vec 2 f (l.take i.toNat++x::l.drop i.toNat))]:=by
 refine⟨⟨_,func85,rfl,rfl⟩,fun Γ vs hΓ hG hlen hrel=> ?_⟩
 subst hΓ
 match vs,hlen with
 |[u,iv,v],_=>
 have hu:=H1 (hrel 0 _ u rfl rfl) hσ
 have hv:=H1 (hrel 2 _ v rfl rfl) hσ2
 have hiv:iv=.int .i64 i:=by
  have h:=hrel 1 _ iv rfl rfl
  cases h with|c h=>cases h with|imm h=>cases h with|val=>rfl
 subst hiv
 obtain⟨ni,rfl⟩:∃ni:Nat,i=ni:=⟨i.toNat,by omega⟩
 have hR:R Γ 3 ⟨[(0,.c (.own id 0 l.length)),(1,.c (int ni)),(2,.c (.own id2 0 1))],Γ.σ0⟩ Γ.φ0 ⟨#[u,.int .i64 ni,v],[]⟩ Γ.w0:=
  {toRs:=Rs.refl hG,defers:=.nil,asize:=rfl,env:=fun t x hx=>by
    simp only[lookup] at hx
    split at hx
    ·rename_i e;cases hx
     have:=fE e;subst this
     exact⟨u,rfl,hrel 0 _ u rfl rfl⟩
    ·split at hx
     ·rename_i e;cases hx
      have:=fE e;subst this
      exact⟨_,rfl,hrel 1 _ _ rfl rfl⟩
     ·split at hx
      ·rename_i e;cases hx
       have:=fE e;subst this
       exact⟨v,rfl,hrel 2 _ v rfl rfl⟩
      ·cases hx}
 have vlen:∀{m:List α},((m.map f).map (·.map C.imm)).length=m.length:=by simp
 have nlen:(l.take ni++x::l.drop ni).length=l.length+1:=by simp;omega
 simp only[Int.toNat_natCast] at *
 rw[nlen]
 by_cases hend:ni=l.length
 · -- at the end
  subst hend
  obtain⟨v',w',φ',g1,g2,g3⟩:=append_R (P:=prog) (t:=I2) (e:=choT) (ty:=0) (x:=.tmp 0) (y:=.tmp 2) (new:=([x].map f).map (·.map C.imm)) rfl rfl rfl hσ rfl (by
   have h:=Src.own (j:=0) (n:=1) hσ2
   rwa [fN,fi (by simp)] at h) (by simpa using hb) hR
  obtain⟨b0,cap0,us0,hx1,_,_⟩:=W7 hR hσ hu
  obtain⟨b2,cap2,us2,hy1,_,_⟩:=W7 hR hσ2 hv
  have hnc:l.length<=cap0:=by
   rcases hu with⟨_,h2,_,h4⟩|⟨_,_,cap,_,_,_,_,h2,_,h3,_⟩
   ·rw[hx1] at h2;injection h2 with q1 q2 q3;omega
   ·rw[hx1] at h2;injection h2 with q1 q2 q3;omega
  have e1:(⟨#[u,.int .i64 (l.length:Int),v],[]⟩:Act).eval (.tmp 0)=u:=rfl
  have e2:(⟨#[u,.int .i64 (l.length:Int),v],[]⟩:Act).eval (.tmp 2)=v:=rfl
  rw[e1,e2,hx1] at g1
  have hc:=ins_end b0 l.length cap0 v v' Γ.w0 w' ⟨b2,cap2,hy1⟩ (fun _=>g1) hnc
  rw[hx1]
  refine hc.mono ?_
  rintro e w2 ⟨rfl,rfl⟩
  have e3:=ins_lists (f:=f) (l:=l) (x:=x) (i:=l.length)
  have e4:((((l.map f).map (·.map C.imm)).drop 0).take l.length++([x].map f).map (·.map C.imm))=((l.take l.length++x::l.drop l.length).map f).map (·.map C.imm):=by
   rw[<- e3,fN,List.drop_of_length_le (by simp),List.append_nil]
  have e5:l.length+(([x].map f).map (·.map C.imm)).length=l.length+1:=by simp
  rw[e4] at g2 g3
  rw[e5] at g2
  exact⟨v',.c (.own (Γ.σ0.length,[]) 0 (l.length+1)),_,φ',rfl,⟨rfl,rfl⟩,g2,g3.toRs⟩
 ·have hi:ni<l.length:=by omega
  obtain⟨b0,cap0,us0,hx1,hx2,hx3⟩:=W7 hR hσ hu
  obtain⟨b2,cap2,us2,hy1,hy2,hy3⟩:=W7 hR hσ2 hv
  rcases hu with⟨_,_,_,h4⟩|⟨b,base,cap,arr,ety,ad,hp,hvv,had,hcap,hmax,hjn,hbk,hsz⟩
  ·omega
  rcases hv with⟨_,_,_,h4⟩|⟨c2,base2,cap2',arr2,ety2,ad2,hp2,hvv2,had2,hcap2,hmax2,hjn2,hbk2,hsz2⟩
  ·omega
  rw[hx1] at hvv;cases hvv
  rw[hy1] at hvv2;cases hvv2
  have:=had (by omega);subst this
  have:=had2 (by omega);subst this
  simp only[fT,fK,fL,vlen,fN] at *
  have hvb:c2 ≠ b:=fun e=>hne (hR.st.inj id2 id _ _ _ _ hσ2 hσ hp2 hp (by simpa using e))
  have r1:Rw Γ.w0 Γ.φ0 Γ.σ0 (Al Γ.N Γ.φ0 Γ.σ0) 2 ((l.map f).map (·.map C.imm)) us0:=by
   have:=hx3.rw
   rwa [fi (by simp)] at this
  have r2:Rw Γ.w0 Γ.φ0 Γ.σ0 (Al Γ.N Γ.φ0 Γ.σ0) 2 (([x].map f).map (·.map C.imm)) us2:=by
   have:=hy3.rw
   rwa [fi (by simp)] at this
  have r3:=((r1.take ni (by simp;omega)).append r2).append (r1.drop ni (by simp;omega))
  rw[ins_lists] at r3
  have u0l:us0.length=l.length * 2:=by rw[r1.len];simp
  have u2l:us2.length=1 * 2:=by rw[r2.len];simp
  have cellA:∀j v,us0[j]? =some v->Γ.w0.cell? ⟨b,base+j,none⟩=some v:=fun j v hj=>by
   have:=hx3.cell _ rfl j v hj
   rwa [Addr.add_lit] at this
  have cellB:∀j v,us2[j]? =some v->Γ.w0.cell? ⟨c2,base2+j,none⟩=some v:=fun j v hj=>by
   have:=hy3.cell _ rfl j v hj
   rwa [Addr.add_lit] at this
  have one1:∀v ∈ us0,v.oneCell'=true:=hx3.one
  have one2:∀v ∈ us2,v.oneCell'=true:=hy3.one
  have hdl:(us0.drop (ni * 2)).length=(l.length - ni) * 2:=by rw[gj,u0l,gJ]
  have htl:(us0.take (ni * 2)).length=ni * 2:=by rw[fQ];omega
  have cellD:∀j v,(us0.drop (ni * 2))[j]? =some v->Γ.w0.cell? ⟨b,base+ni * 2+j,none⟩=some v:=fun j v hj=>by
   rw[eU] at hj
   rw[Nat.add_assoc];exact cellA _ v hj
  have hids:id.1<Γ.σ0.length:=b6.lt_of hσ
  rw[hx1,hy1]
  by_cases hroom:l.length+1<=cap0
  · -- room
   have hc:=ins_shift b base l.length cap0 ni c2 base2 cap2 arr arr2 ety ety2 (us0.drop (ni * 2)) us2 Γ.w0 hi hroom (by unfold maxLen at hmax;omega) hvb hbk hbk2 (by omega) hdl u2l cellD cellB (fun v hv=>one1 v (fV hv)) one2
   refine hc.mono ?_
   rintro e w2 ⟨rfl,rfl⟩
   have hK0:=Kept.drew Γ.w0 Γ.φ0 Γ.σ0 (Al Γ.N Γ.φ0 Γ.σ0)
   have s1:(spl arr (base+(ni+1) * 2) (us0.drop (ni * 2))).size=arr.size:=aq4 (by omega)
   have s2:(spl (spl arr (base+(ni+1) * 2) (us0.drop (ni * 2))) (base+ni * 2) us2).size=arr.size:=by rw[aq4 (by omega),s1]
   have hO:=Rs.reown (k:=2) (base':=base) (es':=((l.take ni++x::l.drop ni).map f).map (·.map C.imm)) (arr':=spl (spl arr (base+(ni+1) * 2) (us0.drop (ni * 2))) (base+ni * 2) us2) hR.toRs.drew hσ hp hbk (r3.hk) (by rw[s2];simp only[eV,nlen];omega) (fun j e o y he hy=>by
    obtain⟨uu,hu,hr⟩:=r3.rel j e o y he hy
    refine⟨uu,?_,hr.mono hK0⟩
    have hlt:=(lG.1 hu).1
    simp only[fc,htl,hdl,u2l] at hlt
    rw[spl_get (by omega),spl_get (by omega)]
    by_cases c1:j * 2+o<ni * 2
    ·rw[if_neg (by omega),if_neg (by omega)]
     rw[fD,eJ (by omega),eP,if_pos c1] at hu
     have:=cellA _ _ hu
     rw[U9 hbk] at this
     simpa using this
    ·by_cases c2:j * 2+o<ni * 2+2
     ·rw[if_pos (by omega)]
      rw[fD,eL (by omega),eJ (by omega),htl] at hu
      rw[<- hu];congr 1;omega
     ·rw[if_neg (by omega),if_pos (by omega)]
      rw[eL (by simp[htl,u2l];omega)] at hu
      rw[<- hu]
      simp only[fc,htl,u2l]
      congr 1;omega)
   refine⟨_,_,_,_,rfl,⟨rfl,rfl⟩,?_,hO.2⟩
   refine K0 (k:=2) (es:=((l.take ni++x::l.drop ni).map f).map (·.map C.imm)) (by rw[<- b6.length_put Γ.σ0 id none];exact b6.get_last _ _) rfl (.inr ⟨b,base,cap0,_,ety,⟨b,base,none⟩,by simp,rfl,fun _=>by simp,hroom,hmax,by simp only[eV,nlen];omega,setRow_heap Γ.w0.drew b arr _ ety (0,0) hbk,by rw[s2];omega⟩)
  ·have hc:=ins_grow b base l.length cap0 ni c2 base2 cap2 (us0.take (ni * 2)) (us0.drop (ni * 2)) us2 Γ.w0 hi hcap (by omega) hb (hR.toRs.blk_lt hσ hp) (hR.toRs.blk_lt hσ2 hp2) htl hdl u2l (fun j v hj=>by
    rw[eP] at hj
    split at hj
    ·exact cellA _ v hj
    ·cases hj) cellD cellB (fun v hv=>one1 v (fV hv)) one2
   refine hc.mono ?_
   rintro e w2 ⟨G,ROW,g1,g2,g3,g4,rfl,rfl⟩
   obtain⟨hK1,hR1⟩:=hR.toRs.drew.drew.kill id
   have hK0:Kept Γ.w0 Γ.w0.drew.drew Γ.φ0 Γ.φ0 Γ.σ0 Γ.σ0 (Al Γ.N Γ.φ0 Γ.σ0) (Al Γ.N Γ.φ0 Γ.σ0):=Kept.trans (show Γ.w0.heap.size<=Γ.w0.drew.heap.size from fp _) (Kept.drew Γ.w0 Γ.φ0 Γ.σ0 _) (Kept.drew Γ.w0.drew Γ.φ0 Γ.σ0 _)
   have hK01:=Kept.trans (show Γ.w0.heap.size<=Γ.w0.drew.drew.heap.size from fp _) hK0 hK1
   have s1:(spl ROW (ni * 2) us2).size=G * 2:=by rw[aq4 (by omega)];exact g3
   have s2:(spl (spl ROW (ni * 2) us2) ((ni+1) * 2) (us0.drop (ni * 2))).size=G * 2:=by rw[aq4 (by omega),s1]
   have hA:=Rs.alloc (k:=2) (es:=((l.take ni++x::l.drop ni).map f).map (·.map C.imm)) (arr:=spl (spl ROW (ni * 2) us2) ((ni+1) * 2) (us0.drop (ni * 2))) (ety:=choT) hR1 r3.hk (by rw[s2];simp only[eV,nlen];omega) (fun j e o y he hy=>by
    obtain⟨uu,hu,hr⟩:=r3.rel j e o y he hy
    refine⟨uu,?_,hr.mono hK01⟩
    have hlt:=(lG.1 hu).1
    simp only[fc,htl,hdl,u2l] at hlt
    rw[spl_get (by omega),spl_get (by omega)]
    by_cases c1:j * 2+o<ni * 2
    ·rw[if_neg (by omega),if_neg (by omega)]
     rw[fD,eJ (by omega)] at hu
     exact g4 _ _ hu
    ·by_cases c2:j * 2+o<ni * 2+2
     ·rw[if_neg (by omega),if_pos (by omega)]
      rw[fD,eL (by omega),eJ (by omega),htl] at hu
      exact hu
     ·rw[if_pos (by omega)]
      rw[eL (by simp[htl,u2l];omega)] at hu
      rw[<- hu]
      simp only[fc,htl,u2l]
      congr 1;omega)
   rw[b6.length_put] at hA
   refine⟨_,_,_,_,rfl,⟨rfl,rfl⟩,?_,hA.2⟩
   refine K0 (k:=2) (es:=((l.take ni++x::l.drop ni).map f).map (·.map C.imm)) (by rw[<- b6.length_put Γ.σ0 id none];exact b6.get_last _ _) rfl (.inr ⟨Γ.w0.heap.size,0,G,_,choT,⟨Γ.w0.heap.size,0,none⟩,by simp[r7],rfl,fun _=>by simp,g1,g2,by simp only[eV,nlen];omega,heap_alloc_new Γ.w0.drew.drew _,by rw[s2];omega⟩)
end
section
open Go.Proofs
open Tryz
def insL(l:List A)(i:Int)(x:A):Option (List A):=if 0<=i/\i<=gN l/\(gN l+1) * 32<=140737488355328 then some (l.take i.toNat++x::l.drop i.toNat) else none
def S.insert{σ0:b6}{env:Env}{ops:Array Oper}{rest:List Oper}{pos:String}{f:A->List I}{x:Od}{al:List Od}{u:Array Ti}{id b D:Id}{n m:Nat}{i:Int}{w:List A}(t:insL M i L=some w)(E:ev env x=some (.c (.fn insF [])))(F:evs env al=some [.c (.own id 0 n),.c (int i),.c (.own b 0 m)])(G:n=gN M)(H:m=1)(g:(b.1==id.1)=false)(z:a[id]? =some (some (vec 2 f M)))(j:a[b]? =some (some (vec 2 f [L])))(J:h9 k s=true)(B:newF a=some D)(K:putF a id none=some q)(o:w8 q (.one (vec 2 f w))=some p)(h:AOps prog σ0 k ops l rest (St.mk (putE env s (.c (.own D 0 (gN w)))) p)):
  AOps prog σ0 k ops l (⟨s,.call ⟨.value x,al.toArray,u⟩,d,pos,v,none⟩::rest) (St.mk env a):=by
 have N:=G6 K
 have O:=D6 B;have P:=v7 o
 subst G H N O P
 unfold insL at t
 split at t
 ·rename_i c
  cases t
  refine AOps.callS E F J (ins_fn z j (fun e=>by rw[e] at g;simp at g) c.2.2 c.1 c.2.1) ?_
  rintro r U ⟨rfl,rfl⟩
  cases s<;>exact h
 ·cases t
end
section
open Go.Sort
end
/-! ### A row or a variable ceases to change -/
inductive Fz where
 |r (x:C)
 |b (e:List I)
def XF(id:Id)(m:Nat):Fz->C->C->Prop
 | .r x=>XRow id m x
 | .b e=>XBox id e
def AllN(m:Nat):List Nat->Prop
 |[]=>True
 |n::r=>n=m/\AllN m r
def fzN(id:Id)(c:C)(a:List Nat):Option (C×List Nat):=match c.no id with
 |true=>some (c,a)
 |false=>none
def fzC(id:Id)(y:Fz)(c:C)(a:List Nat):Option (C×List Nat):=match c,y with
 | .own i j n,.r x=>match idb i id,j with
  |true,0=>some (x,n::a)
  |true,_=>none
  |false,_=>some (.own i j n,a)
 | .ptr i j o,.b e=>match idb i id,j with
  |true,0=>match dropF o e with
   |some d=>some (.imm (.ipt d),a)
   |none=>none
  |true,_=>none
  |false,_=>some (.ptr i j o,a)
 |c,_=>fzN id c a
def fzL(id:Id)(y:Fz):List C->List Nat->Option (List C×List Nat)
 |[],a=>some ([],a)
 |c::r,a=>match fzC id y c a with
  |some (b,a)=>match fzL id y r a with
   |some (d,a)=>some (b::d,a)
   |none=>none
  |none=>none
def fzT(id:Id)(y:Fz)(t:T)(a:List Nat):Option (T×List Nat):=match t with
 | .c c=>match fzC id y c a with
  |some (b,a)=>some (.c b,a)
  |none=>none
 | .agg l=>match fzL id y l a with
  |some (d,a)=>some (.agg d,a)
  |none=>none
 |t=>match t.no id with
  |true=>some (t,a)
  |false=>none
def fzE(id:Id)(y:Fz)(env:Env):List Nat->List Nat->Option (Env×List Nat)
 |[],a=>some ([],a)
 |t::r,a=>match lookup t env with
  |some v=>match fzT id y v a with
   |some (b,a)=>match fzE id y env r a with
    |some (e,a)=>some ((t,b)::e,a)
    |none=>none
   |none=>none
  |none=>none
inductive FzL(id:Id)(y:Fz)(m:Nat):b6->b6->Prop
 |n:FzL id y m [] []
 |d {l l':b6} (t:FzL id y m l l'):FzL id y m (.dead::l) (.dead::l')
 |v {l l':b6} {α:Type} {k:Nat} {f:α->List I} {q:List α} (t:FzL id y m l l'):FzL id y m (.one (vec k f q)::l) (.one (vec k f q)::l')
 |o {l l':b6} {k:Nat} {c c':List C} {ns:List Nat} (h:fzL id y c []=some (c',ns)) (hn:AllN m ns) (t:FzL id y m l l'):FzL id y m (.one (.cells k [c])::l) (.one (.cells k [c'])::l')
 |b {l l':b6} {b:Blk} (h:b.no id=true) (t:FzL id y m l l'):FzL id y m (.one b::l) (.one b::l')
 |e {l l':b6} {e e':Ent} (h:FrzB id (XF id m y) e e') (t:FzL id y m l l'):FzL id y m (e::l) (e'::l')
def fzN_ok{id:Id}{X:C->C->Prop}{c b:C}{a:List Nat}(h:fzN id c H=some (b,a)):FrzC id X c b/\a=H:=by unfold fzN at h;split at h;rename_i e;cases h;exact⟨.inl ⟨rfl,e⟩,rfl⟩;cases h
def fzC_ok{id:Id}{y:Fz}{m:Nat}{c f:C}{g d:List Nat}(h:fzC id y c g=some (f,d))(b:AllN m d):FrzC id (XF id m y) c f/\AllN m g:=by unfold fzC at h;split at h;rename_i i j n x;split at h;rename_i e;cases h;rw[O7.1 e];exact⟨.inr ⟨_,rfl,b.1,rfl⟩,b.2⟩;cases h;rename_i e;cases h;exact⟨.inl ⟨rfl,by simp[C.no,e]⟩,b⟩;rename_i i j o l;split at h;rename_i e;split at h;rename_i p k;cases h;rw[O7.1 e];exact⟨.inr ⟨_,_,rfl,k,rfl⟩,b⟩;cases h;cases h;rename_i e;cases h;exact⟨.inl ⟨rfl,by simp[C.no,e]⟩,b⟩;obtain⟨a,rfl⟩:=fzN_ok h;exact⟨a,b⟩
def fzL_ok{id:Id}{y:Fz}{m:Nat}:∀{c f:List C} {g d:List Nat},fzL id y c g=some (f,d)->AllN m d->FrzL id (XF id m y) c f/\AllN m g
 |[],_,_,_,h,e=>by cases h;exact⟨trivial,e⟩
 |c::r,_,_,_,h,e=>by simp only[fzL] at h;split at h;rename_i i;split at h;rename_i j;cases h;have a:=fzL_ok j e;have b:=fzC_ok i a.2;exact⟨⟨b.1,a.1⟩,b.2⟩;cases h;cases h
def fzT_ok{id:Id}{y:Fz}{m:Nat}{t f:T}{a:List Nat}(h:fzT id y t H=some (f,a))(b:AllN m a):FrzT id (XF id m y) t f/\AllN m H:=by
 unfold fzT at h;split at h;split at h;rename_i d;cases h;exact fzC_ok d b;cases h;split at h;rename_i d;cases h;exact fzL_ok d b;cases h;rename_i n1 g;split at h;rename_i e;cases h;cases t with
 |c x=>exact absurd rfl (n1 x)
 |agg l=>exact absurd rfl (g l)
 |tup l=>exact⟨⟨rfl,e⟩,b⟩
 |undef=>exact⟨⟨rfl,e⟩,b⟩
 cases h
def fzE_ok{id:Id}{y:Fz}{m:Nat}{env:Env}:∀{g:List Nat} {c:Env} {f d:List Nat},fzE id y env g f=some (c,d)->AllN m d->X9 id (XF id m y) env c/\AllN m f
 |[],_,_,_,h,e=>by cases h;exact⟨trivial,e⟩
 |t::r,_,_,_,h,e=>by simp only[fzE] at h;split at h;rename_i v i;split at h;rename_i j;split at h;rename_i k;cases h;have a:=fzE_ok k e;have b:=fzT_ok j a.2;exact⟨⟨⟨v,i,b.1⟩,a.1⟩,b.2⟩;cases h;cases h;cases h
def FrzL.refl{id:Id}{X:C->C->Prop}:∀{l:List C},C.noL id l=true->FrzL id X l l
 |[],_=>trivial
 |c::r,h=>by simp only[C.noL,fh] at h;exact⟨.inl ⟨rfl,h.1⟩,FrzL.refl h.2⟩
def FrzB.refl{id:Id}{X:C->C->Prop}{b:Blk}(h:b.no id=true):FrzB id X (.one b) (.one b):=by unfold FrzB;split;trivial;rename_i a c;cases a;cases c;simp only[Blk.no,List.all_cons,List.all_nil,Bool.and_true] at h;exact⟨rfl,FrzL.refl h⟩;rename_i a c;cases a;cases c;exact⟨rfl,h⟩;rename_i a;cases a;rename_i n1 d f e;first|exact d _ _ rfl rfl|exact n1 _ _ rfl rfl|exact e _ _ rfl rfl
def FzL.to{id:Id}{y:Fz}{m:Nat}(h:FzL id y m a p):FrzS id (XF id m y) a p:=by
 induction h with
 |n=>trivial
 |d _ c=>exact⟨trivial,c⟩
 |v _ c=>exact⟨.vec,c⟩
 |o h f _ c=>exact⟨⟨rfl,(fzL_ok h f).1⟩,c⟩
 |b h _ c=>exact⟨FrzB.refl h,c⟩
 |e h _ c=>exact⟨h,c⟩
def Sub.fz{σ0:b6}{env:Env}(id:Id)(d:List Nat)(b:fa (gN σ0) id.1=true)(c:a[id]? =some (some (vec n P M)))(e:putF a id none=some q)(g:fzE id (.r (row n P M)) env d []=some (o,H))(h:AllN (gN M) H)(i:FzL id (.r (row n P M)) (gN M) q p):Sub σ0 ⟨env,a⟩ ⟨o,p⟩:=
 Sub.frzV b c (fzE_ok g h).1 e i.to
def AWP.fz{σ0:b6}{env:Env}{c:Code}(id:Id)(e:List Nat)(b:fa (gN σ0) id.1=true)(d:a[id]? =some (some (vec k P M)))(i:putF a id none=some q)(j:fzE id (.r (row k P M)) env e []=some (o,H))(s:AllN (gN M) H)(t:FzL id (.r (row k P M)) (gN M) q p)(h:AWP g σ0 n c l (St.mk o p)):AWP g σ0 n c l (St.mk env a):=
 AWP.sub (Sub.fz id e b d i j s t) h
def AOps.fz{σ0:b6}{env:Env}{ops:Array Oper}{rest:List Oper}(id:Id)(d:List Nat)(b:fa (gN σ0) id.1=true)(c:a[id]? =some (some (vec k P M)))(e:putF a id none=some q)(i:fzE id (.r (row k P M)) env d []=some (o,H))(j:AllN (gN M) H)(s:FzL id (.r (row k P M)) (gN M) q p)(h:AOps g σ0 n ops l rest (St.mk o p)):AOps g σ0 n ops l rest (St.mk env a):=
 AOps.sub (Sub.fz id d b c e i j s) h
/-! ### Slots and blocks that nothing speaks of -/
inductive CtL(n:Nat):Nat->b6->List Ent->Prop
 |n {j:Nat} {τ:b6}:CtL n j τ []
 |d {j:Nat} {e:Ent} {τ:b6} {l:List Ent} (t:CtL n (j+1) τ l):CtL n j (e::τ) (.dead::l)
 |x {j:Nat} {l:List Ent} (t:CtL n (j+1) [] l):CtL n j [] (.dead::l)
 |v {j:Nat} {τ:b6} {l:List Ent} {α:Type} {k:Nat} {f:α->List I} {q:List α} (t:CtL n (j+1) τ l):CtL n j (.one (vec k f q)::τ) (.one (vec k f q)::l)
 |o {j:Nat} {τ:b6} {l:List Ent} {b:Blk} (h:b.ok n=true) (t:CtL n (j+1) τ l):CtL n j (.one b::τ) (.one b::l)
 |q {j:Nat} {τ:b6} {l:List Ent} {b b':Blk} (h:b'.ok n=true) (h2:b'=b) (t:CtL n (j+1) τ l):CtL n j (.one b::τ) (.one b'::l)
 |e {j:Nat} {τ:b6} {l:List Ent} {e e':Ent} (h:CutE n j (some e) e') (t:CtL n (j+1) τ l):CtL n j (e::τ) (e'::l)
def CtL.to{n j:Nat}{σ:b6}{l:List Ent}(h:CtL n j a l)(g:∀i,a[i]? =σ[j+i]?):CutL n σ j l:=by
 have k:∀{j:Nat} {e:Ent} {a:b6},(∀i,(e::a)[i]? =σ[j+i]?)->σ[j]? =some e/\∀i,a[i]? =σ[j+1+i]? :=fun {j e a} h=>
  ⟨(h 0).symm,fun i=>by rw[show j+1+i=j+(i+1) by omega,<- h (i+1)];rfl⟩
 induction h with
 |n=>trivial
 |d t f=>exact⟨.dead,f (k g).2⟩
 |@x j l t f=>exact⟨.dead,f fun i=>by rw[show j+1+i=j+(i+1) by omega,<- g (i+1)];rfl⟩
 |v t f=>obtain⟨c,b⟩:=k g;exact⟨by rw[c];exact .vec,f b⟩
 |o h t f=>obtain⟨c,b⟩:=k g;exact⟨by rw[c];exact .one h,f b⟩
 |q h p t f=>obtain⟨c,b⟩:=k g;exact⟨by rw[c];exact .eq h p,f b⟩
 |e h t f=>obtain⟨c,b⟩:=k g;exact⟨by rw[c];exact h,f b⟩
def Sub.ctE{σ0:b6}{env:Env}(c:K7 env o)(b:(fa (gN σ0) (gN p) && V7 (gN p) o)=true)(d:CtL (gN p) 0 a p):Sub σ0 ⟨env,a⟩ ⟨o,p⟩:=by rw[fh] at b;exact Sub.cut c b.1 (d.to fun i=>by rw[fL]) b.2
def Sub.ct{σ0:b6}{env:Env}(b:lkL env o=vsL o)(c:(fa (gN σ0) (gN p) && V7 (gN p) o)=true)(d:CtL (gN p) 0 a p):Sub σ0 ⟨env,a⟩ ⟨o,p⟩:=Sub.ctE (lkL_sub b) c d
/-! ### A block takes the place of another one -/
def rkL(a:Id->Id):Env->List (Option T)
 |[]=>[]
 |(_,v)::r=>some (v.ren a)::rkL a r
def rkL_mv{env:Env}{id n:Id}:∀{a:Env},lkL env a=rkL (Ab.mv id n) a->EnvMv id n env a
 |[],_=>trivial
 |(t,v)::r,h=>by simp only[lkL,rkL,List.cons.injEq] at h;exact⟨h.1,rkL_mv h.2⟩
inductive MvL(id n:Id)(σ:b6)(m:Nat):Nat->b6->Prop
 |n {i:Nat}:MvL id n σ m i []
 |d {i:Nat} {l:b6} (t:MvL id n σ m (i+1) l):MvL id n σ m i (.dead::l)
 |v {i:Nat} {l:b6} {α:Type} {k:Nat} {f:α->List I} {q:List α} (h:σ[Ab.mv id n (i,[])]? =some (some (vec k f q))) (t:MvL id n σ m (i+1) l):MvL id n σ m i (.one (vec k f q)::l)
 |o {i:Nat} {l:b6} {b:Blk} (h:b.ok m=true) (h2:σ[Ab.mv id n (i,[])]? =some (some (b.ren (Ab.mv id n)))) (t:MvL id n σ m (i+1) l):MvL id n σ m i (.one b::l)
 |e {i:Nat} {l:b6} {e:Ent} (h:EntMv id n σ m i e) (t:MvL id n σ m (i+1) l):MvL id n σ m i (e::l)
def MvL.to{id n:Id}{σ:b6}{m:Nat}(h:MvL id n σ m k a):StMv id n σ m k a:=by
 induction h with
 |n=>trivial
 |d _ b=>exact⟨trivial,b⟩
 |v h _ b=>exact⟨⟨Blk.im_ok _ _ _,k8 h⟩,b⟩
 |o h c _ b=>exact⟨⟨h,c⟩,b⟩
 |e h _ b=>exact⟨h,b⟩
def Sub.mv{σ0:b6}{env:Env}(id n:Id)(b:(fa (gN σ0) id.1 && fa (gN σ0) (gN p) && deadAt p n && V7 (gN p) o)=true)(c:lkL env o=rkL (Ab.mv id n) o)(d:MvL id n a (gN p) 0 p):Sub σ0 ⟨env,a⟩ ⟨o,p⟩:=by simp only[fh] at b;exact Sub.move id n b.1.1.1 b.1.1.2 b.1.2 (rkL_mv c) b.2 d.to
/-! ### A call that is lent blocks -/
def rtF:List Nat->Nat->Nat->Option Nat
 |[],m,r=>some (m+r)
 |x::_,_,0=>some x
 |_::l,m,r+1=>rtF l m r
def rtF_eq{m:Nat}:∀{a:List Nat} {r x:Nat},rtF a m r=some x->V3 a m r=x
 |[],_,_,h=>by cases h;rfl
 |_::_,0,_,h=>by cases h;rfl
 |_::_,r+1,_,h=>rtF_eq (r:=r) h
def rnI(a:List Nat)(m:Nat)(i:Id):Option Id:=match rtF a m i.1 with
 |some x=>some (x,i.2)
 |none=>none
def rnI_eq{m:Nat}{j:Id}(h:rnI H m c=some j):emb H m c=j:=by unfold rnI at h;split at h;rename_i a;cases h;unfold emb;rw[rtF_eq a];cases h
mutual
def rnC(a:List Nat)(m:Nat):C->Option C
 | .imm x=>some (.imm x)
 | .own i j n=>match rnI a m i with
  |some i=>some (.own i j n)
  |none=>none
 | .ptr i j o=>match rnI a m i with
  |some i=>some (.ptr i j o)
  |none=>none
 | .map i=>match rnI a m i with
  |some i=>some (.map i)
  |none=>none
 | .yld i=>match rnI a m i with
  |some i=>some (.yld i)
  |none=>none
 | .fn f l=>match rnL a m l with
  |some l=>some (.fn f l)
  |none=>none
 | .ifc t l b=>match rnL a m l with
  |some l=>some (.ifc t l b)
  |none=>none
 | .fnb f l=>match rnL a m l with
  |some l=>some (.fnb f l)
  |none=>none
def rnL(a:List Nat)(m:Nat):List C->Option (List C)
 |[]=>some []
 |c::r=>match rnC a m c with
  |some c=>match rnL a m r with
   |some r=>some (c::r)
   |none=>none
  |none=>none
end
mutual
theorem rnC_eq{d:List Nat}{m:Nat}:∀{c e:C},rnC d m c=some e->c.ren (emb d m)=e
 | .imm x,_,h=>by cases h;rfl
 | .own i j n,_,h=>by simp only[rnC] at h;split at h<;>cases h;rename_i a;rw[C.ren,rnI_eq a]
 | .ptr i j n,_,h=>by simp only[rnC] at h;split at h<;>cases h;rename_i a;rw[C.ren,rnI_eq a]
 | .map i,_,h=>by simp only[rnC] at h;split at h<;>cases h;rename_i a;rw[C.ren,rnI_eq a]
 | .yld i,_,h=>by simp only[rnC] at h;split at h<;>cases h;rename_i a;rw[C.ren,rnI_eq a]
 | .fn f l,_,h=>by simp only[rnC] at h;split at h<;>cases h;rename_i a;rw[C.ren,rnL_eq a]
 | .ifc t l b,_,h=>by simp only[rnC] at h;split at h<;>cases h;rename_i a;rw[C.ren,rnL_eq a]
 | .fnb f l,_,h=>by simp only[rnC] at h;split at h<;>cases h;rename_i a;rw[C.ren,rnL_eq a]
theorem rnL_eq{a:List Nat}{m:Nat}:∀{c b:List C},rnL a m c=some b->C.renL (emb a m) c=b
 |[],_,h=>by cases h;rfl
 |c::r,_,h=>by simp only[rnL] at h;split at h;rename_i d;split at h<;>cases h;rename_i e;rw[C.renL,rnC_eq d,rnL_eq e];cases h
end
mutual
def rnT(a:List Nat)(m:Nat):T->Option T
 | .c x=>match rnC a m x with
  |some x=>some (.c x)
  |none=>none
 | .agg l=>match rnL a m l with
  |some l=>some (.agg l)
  |none=>none
 | .tup l=>match rnTs a m l with
  |some l=>some (.tup l)
  |none=>none
 | .undef=>some .undef
def rnTs(a:List Nat)(m:Nat):List T->Option (List T)
 |[]=>some []
 |c::r=>match rnT a m c with
  |some c=>match rnTs a m r with
   |some r=>some (c::r)
   |none=>none
  |none=>none
end
mutual
theorem rnT_eq{b:List Nat}{m:Nat}:∀{c d:T},rnT b m c=some d->c.ren (emb b m)=d
 | .c x,_,h=>by simp only[rnT] at h;split at h<;>cases h;rename_i a;rw[T.ren,rnC_eq a]
 | .agg x,_,h=>by simp only[rnT] at h;split at h<;>cases h;rename_i a;rw[T.ren,rnL_eq a]
 | .tup x,_,h=>by simp only[rnT] at h;split at h<;>cases h;rename_i a;rw[T.ren,rnTs_eq a]
 | .undef,_,h=>by cases h;rfl
theorem rnTs_eq{a:List Nat}{m:Nat}:∀{c b:List T},rnTs a m c=some b->T.renL (emb a m) c=b
 |[],_,h=>by cases h;rfl
 |c::r,_,h=>by simp only[rnTs] at h;split at h;rename_i d;split at h<;>cases h;rename_i e;rw[T.renL,rnT_eq d,rnTs_eq e];cases h
end
inductive LtL(π:Id->Id)(σv:b6)(n:Nat):Nat->List Ent->List Nat->Prop
 |n {r:Nat} {ι:List Nat}:LtL π σv n r [] ι
 |d {r x:Nat} {l:List Ent} {ι:List Nat} (t:LtL π σv n (r+1) l ι):LtL π σv n r (.dead::l) (x::ι)
 |v {r x:Nat} {l:List Ent} {ι:List Nat} {α:Type} {k:Nat} {f:α->List I} {q:List α} (h:σv[x]? =some (.one (vec k f q))) (t:LtL π σv n (r+1) l ι):LtL π σv n r (.one (vec k f q)::l) (x::ι)
 |o {r x:Nat} {l:List Ent} {ι:List Nat} {b:Blk} (h:b.ok n=true) (h2:σv[x]? =some (.one (b.ren π))) (t:LtL π σv n (r+1) l ι):LtL π σv n r (.one b::l) (x::ι)
 |e {r x:Nat} {l:List Ent} {ι:List Nat} {e e':Ent} (h:OkE n r e) (h2:σv[x]? =some e') (h3:RenE π r e x e') (t:LtL π σv n (r+1) l ι):LtL π σv n r (e::l) (x::ι)
inductive MgL(ι:List Nat)(m:Nat)(σv τ:b6):Nat->List Ent->Prop
 |n {j:Nat}:MgL ι m σv τ j []
 |d {j:Nat} {l:List Ent} (t:MgL ι m σv τ (j+1) l):MgL ι m σv τ j (.dead::l)
 |o {j:Nat} {l:List Ent} {e:Ent} (h:(fX j m && !memN j ι)=true) (h2:σv[j]? =some e) (t:MgL ι m σv τ (j+1) l):MgL ι m σv τ j (e::l)
 |v {j:Nat} {l:List Ent} {α:Type} {k:Nat} {f:α->List I} {q:List α} (r:Nat) (h:V3 ι m r=j) (h2:τ[r]? =some (.one (vec k f q))) (t:MgL ι m σv τ (j+1) l):MgL ι m σv τ j (.one (vec k f q)::l)
 |b {j:Nat} {l:List Ent} {k:Nat} {c c':List C} (r:Nat) (h:V3 ι m r=j) (h2:τ[r]? =some (.one (.cells k [c]))) (h3:rnL ι m c=some c') (t:MgL ι m σv τ (j+1) l):MgL ι m σv τ j (.one (.cells k [c'])::l)
 |e {j:Nat} {l:List Ent} {e e0:Ent} (r:Nat) (h:V3 ι m r=j) (h2:τ[r]? =some e0) (h3:RenE (emb ι m) r e0 j e) (t:MgL ι m σv τ (j+1) l):MgL ι m σv τ j (e::l)
def LtL.to{f:Id->Id}{n r:Nat}{l:List Ent}(h:LtL f a n r l H):OkEs n r l/\LentL f a r l H:=by
 induction h with
 |n=>exact⟨trivial,trivial⟩
 |d _ b=>exact⟨⟨.dead,b.1⟩,⟨.dead,b.2⟩⟩
 |v h _ b=>exact⟨⟨.vec,b.1⟩,⟨.live h .vec,b.2⟩⟩
 |o h c _ b=>exact⟨⟨.one h,b.1⟩,⟨.live c (.one rfl),b.2⟩⟩
 |e h c g _ b=>exact⟨⟨h,b.1⟩,⟨.live c g,b.2⟩⟩
def MgL.to{m:Nat}{j:Nat}{l:List Ent}(h:MgL H m a p j l):MrgL H m a p j l:=by
 induction h with
 |n=>trivial
 |d _ c=>exact⟨.dead,c⟩
 |o h f _ c=>
  rw[fh,Bool.not_eq_true'] at h
  exact⟨.old h.1 h.2 f,c⟩
 |v r h f _ c=>exact⟨.new r h f .vec,c⟩
 |b r h f g _ c=>exact⟨.new r h f (.one (by simp only[Blk.ren,List.map_cons,List.map_nil,rnL_eq g])),c⟩
 |e r h f g _ c=>exact⟨.new r h f g,c⟩
def FnOk.ld{args b:List T}{c:b6}{l n:T}{m:Nat}(d:List Nat)(k:FnOk g i b a fun r s=>r=l/\s=q)(t:idF p=some m)(e:(lenB d (gN a) && nodupB d && allLt m d && T.okL (gN a) b)=true)(h:T.renL (emb d m) b=args)(o:LtL (emb d m) p (gN a) 0 a d)(u:rnT d m l=some n)(v:MgL d m p q 0 c)(j:fa (m+(q.length - d.length)) (gN c)=true):FnOk g i args p fun r s=>r=n/\s=c:=by
 simp only[fh] at e
 have w:=ag1 t
 subst w
 exact FnOk.lend0 d k e.1.1.1 e.1.1.2 e.1.2 e.2 o.to.1 h o.to.2 (rnT_eq u) j v.to
/-! ### What follows begins where the present state has these slots, and some more -/
def pkE(env new:Env):List Nat->Option Env
 |[]=>some new
 |t::r=>match lookup t env with
  |some v=>match pkE env new r with
   |some e=>some ((t,v)::e)
   |none=>none
  |none=>none
def AWP.jP{σ0 σ:b6}{env:Env}{c d:Code}(a:List Nat)(new:Env)(h:pkE env new a=some o)(b:AWP g σ0 n c (thn (fun s=>Sub σ0 s (St.mk o σ)) l) (St.mk env σ))(e:AWP g σ0 n d l (St.mk o σ)):AWP g σ0 n (.seq c d) l (St.mk env σ):=AWP.seqJ _ b e
def AWP.jQ{σ0 σ:b6}{env:Env}{c d:Code}(b:List Nat)(new:Env)(a:b6)(h:pkE env new b=some o)(e:AWP g σ0 n c (thn (fun s=>Sub σ0 s (St.mk o a)) l) (St.mk env σ))(f:AWP g σ0 n d l (St.mk o a)):AWP g σ0 n (.seq c d) l (St.mk env σ):=AWP.seqJ _ e f
def oc(pre b:A->List I)(c:C)(a:A):List C:=(pre a).map .imm++c::(b a).map .imm
def ohdr(pre b:A->List I)(g:A->List B)(r:Nat)(M:List A):List (List C):=M.mapIdx fun i a=>oc pre b (.own (r,[i]) 0 (g a).length) a
def omat(r k:Nat)(pre b:A->List I)(g:A->List B)(c:Nat)(d:B->List I)(M:List A):Ent:=.node (some (.cells k (ohdr pre b g r M))) (M.map fun a=>.one (vec c d (g a)))
def oc_ren{pre:A->List I}{b:Id->Id}{c:C}:C.renL b (oc pre P c L)=oc pre P (c.ren b) L:=by
 have h:∀l:List I,C.renL b (l.map .imm)=l.map .imm:=fun l=>by
  induction l with
  |nil=>rfl
  |cons x l d=>simp[C.renL,C.ren,d]
 have e:∀(l:List I) (m:List C),C.renL b (l.map .imm++m)=l.map .imm++C.renL b m:=fun l m=>by
  induction l with
  |nil=>rfl
  |cons x l d=>simp[C.renL,C.ren,d]
 simp only[oc,e,C.renL,h]
def oc_all{pre:A->List I}(p:C->Bool)(b:∀x:I,p (.imm x)=true){c:C}:(oc pre P c L).all p=p c:=by
 have h:∀l:List I,(l.map C.imm).all p=true:=fun l=>by simp[eY,b]
 simp only[oc,List.all_append,List.all_cons,h,Bool.true_and,Bool.and_true]
def oc_ok{pre:A->List I}{n:Nat}{c:C}:C.okL n (oc pre P c L)=c.ok n:=by
 rw[N7];exact oc_all _ (fun _=>rfl)
def oc_no{pre:A->List I}{id:Id}{c:C}:C.noL id (oc pre P c L)=c.no id:=by
 rw[noL_eq];exact oc_all _ (fun _=>rfl)
def ohdr_len{pre:A->List I}{r:Nat}:(ohdr pre P X r M).length=gN M:=by simp[ohdr]
def ohdr_get{pre:A->List I}{r:Nat}{e:List C}(h:(ohdr pre P X r M)[n]? =some e):∃a,M[n]? =some a/\e=oc pre P (.own (r,[n]) 0 (X a).length) a:=by simp only[ohdr,fH,oM] at h;obtain⟨a,b,c⟩:=h;exact⟨a,b,c.symm⟩
def om_sub{pre:A->List I}{r:Nat}{q:List Nat}{b:Blk}(h:(omat r k pre P X n Q M).sub q=some b):(q=[]/\b=.cells k (ohdr pre P X r M))\/∃i a,q=[i]/\M[i]? =some a/\b=vec n Q (X a):=by
 cases q with
 |nil=>exact .inl ⟨rfl,by simpa[omat,Ent.sub] using h.symm⟩
 |cons i q=>
  simp only[omat,Ent.sub,lM] at h
  cases c:M[i]? with
  |none=>simp[c] at h
  |some p=>
   rw[c] at h
   cases q with
   |nil=>simp only[fe,Ent.sub,Option.some.injEq] at h;exact .inr ⟨i,p,rfl,c,h.symm⟩
   |cons=>simp[Ent.sub] at h
def om_main{pre:A->List I}{r:Nat}:(omat r k pre P X n Q M).sub []=some (.cells k (ohdr pre P X r M)):=rfl
def om_row{pre:A->List I}{r:Nat}(h:M[y]? =some L):(omat r k pre P X n Q M).sub [y]=some (vec n Q (X L)):=by simp[omat,Ent.sub,h]
def om_ok{pre:A->List I}{kb r:Nat}{fb:B->List I}{n:Nat}(h:fX r n=true):∀q b,(omat r k pre P X kb fb M).sub q=some b->b.ok n=true:=fun q b c=>by rcases om_sub c with⟨_,rfl⟩|⟨i,p,_,_,rfl⟩;simp only[Blk.ok,eY];intro e d;obtain⟨i,f⟩:=fF d;obtain⟨a,_,rfl⟩:=ohdr_get f;rw[oc_ok];simpa[C.ok] using h;exact W9
def om_no{pre:A->List I}{r:Nat}{id:Id}(h:id.1 ≠ r):∀q b,(omat r k pre P X n Q M).sub q=some b->b.no id=true:=fun q b c=>by rcases om_sub c with⟨_,rfl⟩|⟨i,p,_,_,rfl⟩;simp only[Blk.no,eY];intro e d;obtain⟨i,f⟩:=fF d;obtain⟨a,_,rfl⟩:=ohdr_get f;have:idb ((r,[i]):Id) id=false:=ap7 (fun e=>h (by rw[<- e]));rw[oc_no];simp[C.no,this];exact Blk.im_no _ _ _
def ohdr_ren{pre:A->List I}{r:Nat}{b:Id->Id}(h:∀q,b (r,q)=(k,q)):(Blk.cells n (ohdr pre P X r M)).ren b=.cells n (ohdr pre P X k M):=by
 simp only[Blk.ren];congr 1;apply eT;intro j;simp only[ohdr,lM,fH];cases M[j]? with
 |none=>rfl
 |some a=>simp[oc_ren,C.ren,h]
def EntMv.omat{pre:A->List I}{r:Nat}{id n:Id}{f:Nat}{σ:b6}(h:gh id.1 r=false)(i:fX r f=true)(c:σ[r]? =some (Ab.omat r y pre P X k Q M)):EntMv id n σ f r (Ab.omat r y pre P X k Q M):=by
 have a:id.1 ≠ r:=fun e=>by simp[e] at h
 show ∀(p:List Nat) (b:Blk),(Ab.omat r y pre P X k Q M).sub p=some b->_;intro p b d;have j:mv id n (r,p)=(r,p):=by have:(r,p) ≠ id:=fun e=>a (by rw[<- e]);simp[mv,ap7 this]
 rw[j,w9 c,d];exact⟨om_ok i p b d,by rw[Blk.ren_no _ (om_no a p b d)]⟩
def EntR.omat{pre:A->List I}{a n d i j:Nat}{σ:b6}(h:(mvr a n (i,[])).1=j)(l:fX i d=true)(c:σ[j]? =some (Ab.omat j y pre P X k Q M)):EntR a n σ d i (Ab.omat i y pre P X k Q M):=.any fun p b f=>by
 have e:∀q,mvr a n (i,q)=(j,q):=fun q=>by rw[<- h];rfl
 rw[e,w9 c];refine⟨om_ok l p b f,?_⟩;rcases om_sub f with⟨rfl,rfl⟩|⟨q,r,rfl,o,rfl⟩;rw[om_main,ohdr_ren e];rw[om_row o,an0]
def RenE.omat{pre:A->List I}{r:Nat}{d:Id->Id}(h:∀q,d (r,q)=(y,q)):RenE d r (Ab.omat r k pre P X n Q M) y (Ab.omat y k pre P X n Q M):=.any (fun p b a=>by
  rcases om_sub a with⟨rfl,rfl⟩|⟨q,e,rfl,c,rfl⟩;rw[om_main,ohdr_ren h];rw[om_row c,an0]) (fun p b a=>by
  rcases om_sub a with⟨rfl,rfl⟩|⟨q,e,rfl,c,rfl⟩;exact⟨_,om_main,(ohdr_ren h).symm⟩;exact⟨_,om_row c,an0.symm⟩)
def FrzB.omat{pre:A->List I}{r:Nat}{id:Id}{a:C->C->Prop}(h:gh id.1 r=false):FrzB id a (Ab.omat r k pre P X n Q M) (Ab.omat r k pre P X n Q M):=by
 have c:id.1 ≠ r:=fun e=>by simp[e] at h
 show _=_/\_;exact⟨rfl,fun p b h=>om_no c p b h⟩
def om_head{pre:A->List I}{r:Nat}(h:a[r]? =some (omat r k pre P X n Q M)):a[((r,[]):Id)]? =some (some (.cells k (ohdr pre P X r M))):=by rw[w9 h];rfl
def S.appendO{P:Program}{σ0:b6}{env:Env}{ops:Array Oper}{rest:List Oper}{ty:Ti}{pos:String}{ad:Array Edge}{pre post:A->List I}{g:A->List B}{kb k r:Nat}{fb:B->List I}{x f:Od}{t e:Ti}{bytes m n o t0 q:Nat}{z:Vl}{M':List A}{av ay:b6}[X:TyD P t (.slice e)][ca:TyS P e k bytes z](ha:app bytes M [L]=some M')(a9:(z.cells.size==k)=true)(be:fX 0 bytes=true)(hx:ev env x=some (.c (.own (r,[]) 0 m)))(hm:m=gN M)(al:a[r]? =some (omat r k pre post g kb fb M))(hy:ev env f=some (.c (.own (t0,[]) 0 1)))(bi:a[((t0,[]):Id)]? =some (some (.cells k [oc pre post (.own (o,[]) 0 q) L])))(U:q=(g L).length)(hs:a[((o,[]):Id)]? =some (some (vec kb fb (g L))))(bj:gh o r=false)(hn:newF a=some (n,[]))(h1:setF a r .dead=some av)(h2:setF av o .dead=some ay)(a1:w8 ay (omat n k pre post g kb fb M')=some p)(hd:h9 y s=true)(h0:fa (gN σ0) n=true)(h:AOps P σ0 y ops l rest (St.mk (putE env s (.c (.own (n,[]) 0 (gN M')))) p)):
  AOps P σ0 y ops l (⟨s,.call ⟨.builtin .append,#[x,f],#[t,t]⟩,ty,pos,ad,none⟩::rest) (St.mk env a):=by
 have bk:=(Q7 h1).1;have bs:=(Q7 h2).1;have h3:=D6 hn;have h4:=v7 a1
 cases h3
 subst bk bs h4 hm U
 obtain⟨hb,rfl⟩:=ar0 ha
 have a2:o ≠ r:=fun e=>by simp[e] at bj
 have a3:=(lG.1 al).1
 have a4:o<gN a:=b6.lt_of hs
 have cb:=eK h0
 intro bv φ0 a0 w0 a5 an
 have a6:Src a k (.c (.own (t0,[]) 0 1)) [oc pre post (.own (o,[]) 0 (g L).length) L]:=.own (j:=0) (n:=1) bi
 refine AOps.append a9 be hx (om_head al) hy a6 (by simpa using hb) hd ?_ bv φ0 a0 w0 a5 an
 have e1:((ohdr pre post g r M).drop 0).take (gN M)=ohdr pre post g r M:=by rw[fN,fi (by simp[ohdr_len])]
 rw[e1]
 generalize hX:a.put (r,[]) none++[Ent.one (.cells k (ohdr pre post g r M++[oc pre post (.own (o,[]) 0 (g L).length) L]))]=Q
 have e5:(St.mk env Q).put s (.c (.own (gN a,[]) 0 (gN M+[oc pre post (.own (o,[]) 0 (g L).length) L].length)))=⟨putE env s (.c (.own (gN a,[]) 0 (M++[L]).length)),Q⟩:=by rw[show (gN M)+[oc pre post (.own (o,[]) 0 (g L).length) L].length=(M++[L]).length by simp];cases s<;>rfl
 rw[e5]
 have xn:Q[((gN a,[]):Id)]? =some (some (.cells k (ohdr pre post g r M++[oc pre post (.own (o,[]) 0 (g L).length) L]))):=by rw[<- hX,b6.get_right (by simp)];simp[b6.at_eq,b6.at,Ent.sub]
 have xo:∀i:Id,i.1<gN a->i ≠ (r,[])->Q[i]? =a[i]? :=fun i D bx=>by rw[<- hX,b6.get_left (by simpa using D),b6.get_put_ne bx]
 generalize aa:(fun i:Id=>if i.1=gN a then(if i.2=[] then(gN a,[]) else if i.2=[gN M] then(o,[]) else(r,i.2)) else i)=π
 have E:∀i:Id,i.1 ≠ (gN a)->π i=i:=fun i D=>by rw[<- aa];simp[D]
 have H:π (gN a,[])=(gN a,[]):=by rw[<- aa];simp
 have J:π (gN a,[gN M])=(o,[]):=by rw[<- aa];simp
 have F:∀q,q<gN M->π (gN a,[q])=(r,[q]):=fun q U=>by rw[<- aa];simp;omega
 have ao:(M++[L]).length=gN M+1:=by simp
 have dead:∀(i:Id) b,((a.set r .dead).set o .dead)[i]? =some (some b)->i.1 ≠ r/\i.1 ≠ o/\a[i]? =some (some b):=fun i b D=>by obtain⟨i1,q⟩:=i;rw[b6.at_eq] at D;simp only[b6.at,fO,lS] at D;by_cases e1:o=i1;subst e1;simp[a4,Ent.sub] at D;rw[if_neg e1] at D;by_cases e2:r=i1;subst e2;simp[a3,Ent.sub] at D;rw[if_neg e2] at D;exact⟨fun e=>e2 e.symm,fun e=>e1 e.symm,by rw[b6.at_eq];exact D⟩
 have G:∀(i:Id) b,((a.set r .dead).set o .dead++[omat (gN a) k pre post g kb fb (M++[L])])[i]? =some (some b)->
   (i.1<gN a/\i.1 ≠ r/\i.1 ≠ o/\a[i]? =some (some b))\/(i=(gN a,[])/\b=.cells k (ohdr pre post g (gN a) (M++[L])))\/(∃q c,i=(gN a,[q])/\(M++[L])[q]? =some c/\b=vec kb fb (g c)):=fun i b D=>by
  rcases fM i.1 (gN a) with hl|hl
  ·rw[b6.get_left (by simpa using hl)] at D
   obtain⟨K,g2,g3⟩:=dead i b D
   exact .inl ⟨hl,K,g2,g3⟩
  ·rw[b6.get_right (by simpa using hl)] at D
   obtain⟨i1,q⟩:=i
   simp only[lS] at D hl
   have hz:i1=gN a:=by have:=b6.lt_of D;simp at this;simp at hl;omega
   subst hz
   rw[Nat.sub_self,w9 (e:=omat (gN a) k pre post g kb fb (M++[L])) rfl] at D
   simp only[Option.some.injEq] at D
   rcases om_sub D with⟨rfl,rfl⟩|⟨q',c,rfl,hc,rfl⟩
   ·exact .inr (.inl ⟨rfl,rfl⟩)
   ·exact .inr (.inr ⟨q',c,rfl,hc,rfl⟩)
 refine AOps.sub (s':=⟨putE env s (.c (.own (gN a,[]) 0 (M++[L]).length)),(a.set r .dead).set o .dead++[omat (gN a) k pre post g kb fb (M++[L])]⟩) ?_ h
 have N:((a.set r .dead).set o .dead++[omat (gN a) k pre post g kb fb (M++[L])]).length=gN a+1:=by simp
 have O:∀{q:Nat} {c:A},(M++[L])[q]? =some c->q<gN M+1:=fun hc=>by rw[<- ao];exact(lG.1 hc).1
 refine Sub.mk π (fun i D=>E i (by omega)) (by rw[N];omega) (fun i j b b' D hj w=> ?_) (fun i b D=> ?_) (fun t v X=> ?_)
 ·rcases G i b D with⟨K,g2,a7,_⟩|⟨rfl,_⟩|⟨q,row,rfl,K,_⟩<;>rcases G j b' hj with⟨k1,k2,b0,_⟩|⟨rfl,_⟩|⟨q',b4,rfl,k1,_⟩
  ·rwa [E i (by omega),E j (by omega)] at w
  ·rw[E i (by omega),H] at w;subst w;simp at K
  ·rw[E i (by omega)] at w
   have U:=O k1
   by_cases e:q'=gN M
   ·subst e;rw[J] at w;subst w;exact absurd rfl a7
   ·rw[F q' (by omega)] at w;subst w;exact absurd rfl g2
  ·rw[E j (by omega),H] at w;subst w;simp at k1
  ·rfl
  ·have U:=O k1
   by_cases e:q'=gN M
   ·subst e;rw[H,J] at w;simp at w;omega
   ·rw[H,F q' (by omega)] at w;simp at w
  ·rw[E j (by omega)] at w
   have U:=O K
   by_cases e:q=gN M
   ·subst e;rw[J] at w;subst w;exact absurd rfl b0
   ·rw[F q (by omega)] at w;subst w;exact absurd rfl k2
  ·have U:=O K
   by_cases e:q=gN M
   ·subst e;rw[H,J] at w;simp at w;omega
   ·rw[H,F q (by omega)] at w;simp at w
  ·have U:=O K
   have cc:=O k1
   by_cases e:q=gN M<;>by_cases e':q'=gN M
   ·rw[e,e']
   ·rw[e,J,F q' (by omega)] at w;simp at w
   ·rw[e',J,F q (by omega)] at w;simp at w
   ·rw[F q (by omega),F q' (by omega)] at w
    simp at w;rw[w]
 ·dsimp only
  rw[N]
  rcases G i b D with⟨K,g2,a7,g3⟩|⟨rfl,rfl⟩|⟨q,c,rfl,K,rfl⟩
  ·have V:=an.st.okB g3
   have a8:b.ren π=b:=Blk.ren_ok (m:=gN a) (fun i D=>E i (by omega)) b V
   refine⟨Blk.ok_mono (Nat.le_succ _) b V,?_⟩
   rw[E i (by omega),a8,xo i K (fun e=>g2 (by rw[e]))]
   exact g3
  ·refine⟨om_ok (r:=gN a) (kb:=kb) (fb:=fb) (by simp) [] _ om_main,?_⟩
   rw[H,xn]
   congr 2
   simp only[Blk.ren]
   congr 1
   apply eT
   intro q
   rw[lM]
   simp only[ohdr,fH,gM,fG,List.length_mapIdx]
   by_cases U:q<gN M
   ·rw[if_pos U,if_pos U]
    cases hM:M[q]? with
    |none=>rfl
    |some row=>simp[oc_ren,C.ren,F q U]
   ·rw[if_neg U,if_neg U]
    by_cases b1:q=gN M
    ·subst b1;simp[oc_ren,C.ren,J]
    ·cases hz:q - (gN M) with
     |zero=>omega
     |succ x=>simp
  ·have U:=O K
   refine⟨W9,?_⟩
   rw[an0]
   by_cases e:q=gN M
   ·subst e
    rw[J,xo (o,[]) a4 (fun e=>a2 (by cases e;rfl)),hs]
    rw[eL (fp _),Nat.sub_self] at K
    cases K;rfl
   ·rw[F q (by omega),xo (r,[q]) a3 (by simp)]
    rw[eJ (by omega)] at K
    rw[w9 al,om_row K]
 ·dsimp only at X ⊢
  rw[N]
  have old:∀v,lookup t env=some v->v.ok (gN a+1)=true/\lookup t env=some (v.ren π):=fun v hv=>by obtain⟨u,_,hr⟩:=an.env t v hv;have V:=hr.ok;exact⟨T.ok_mono (Nat.le_succ _) v V,by rw[T.ren_ok (m:=gN a) (fun i D=>E i (by omega)) v V];exact hv⟩
  cases ac:s with
  |none=>rw[ac] at X;exact old v X
  |some d=>
   rw[ac] at X
   simp only[putE,lookup] at X ⊢
   split at X
   ·cases X
    refine⟨by simp[T.ok,C.ok],?_⟩
    simp[T.ren,C.ren,H]
   ·exact old v X
/-! ### Rows cease to change -/
def aq6.set{r:Nat}{e:Ent}(h:aq6 r a):aq6 r (a.set r e):=fun i b d c q=>by refine h i b d ?_ q;obtain⟨f,l⟩:=i;rw[b6.at_eq] at c ⊢;simp only[b6.at,fO] at c ⊢;rwa [if_neg (fun e=>d e.symm)] at c
/-! ### The block with one cell owned elsewhere: looked at, written -/
def S.appendMR{σ0:b6}{env:Env}{o:b6}{ops:Array Oper}{rest:List Oper}{pos:String}{k r:Nat}{f:A->List I}{M:List (List A)}{x b:Od}{t e:Ti}{bytes m n i t0 q:Nat}{z:Vl}{a:List A}{D:List (List A)}{u w:b6}[ht:TyD g t (.slice e)][L:TyS g e 1 bytes z](N:app bytes M [a]=some D)(E:(z.cells.size==1)=true)(F:fX 0 bytes=true)(O:ev env x=some (.c (.own (r,[]) 0 m)))(U:m=gN M)(G:p[r]? =some (mat (r,[]) k f M))(V:ev env b=some (.c (.own (t0,[]) 0 1)))(H:p[((t0,[]):Id)]? =some (some (.cells 1 [[.own (i,[]) 0 q]])))(X:q=gN a)(P:p[((i,[]):Id)]? =some (some (vec k f a)))(J:gh i r=false)(Q:newF p=some (n,[]))(h1:setF p r .dead=some u)(h2:setF u i .dead=some w)(B:w8 w (mat (n,[]) k f D)=some o)(hd:h9 y s=true)(h0:fa (gN σ0) n=true)(h:AOps g σ0 y ops l rest (St.mk (putE env s (.c (.own (n,[]) 0 (gN D)))) o)):
  AOps g σ0 y ops l (⟨s,.call ⟨.builtin .append,#[x,b],#[t,t]⟩,d,pos,v,none⟩::rest) (St.mk env p):=
 S.appendO (pre:=fun _=>[]) (post:=fun _=>[]) (g:=fun a=>a) (kb:=k) (fb:=f) (k:=1) N E F O U G V H X P J Q h1 h2 B hd h0 h
def Sub.virtVM{σ0:b6}{env:Env}(k:Nat)(f:A->List I)(t:Nat){n:Nat}{e:b6}(l:lookup t env=some (.c (.imm (.val (.slice none 0 0)))))(g:newF a=some (n,[]))(b:w8 a (mat (n,[]) k f [])=some p)(h:w8 a (.one (vec 1 (fun _:List A=>([]:List I)) []))=some e):Sub σ0 ⟨env,a⟩ ⟨(t,.c (.own (n,[]) 0 ([]:List (List A)).length))::env,p⟩:=by
 have o:=D6 g;have r:=v7 b;have j:=v7 h
 cases o
 subst r
 refine(Sub.virtV (α:=List A) 1 (fun _=>[]) t l g h).trans (Sub.same (by subst j;simp) fun i=> ?_)
 subst j
 rcases fM i.1 (gN a) with d|d
 ·rw[b6.get_left d,b6.get_left d]
 ·rw[b6.get_right d,b6.get_right d]
  obtain⟨s,q⟩:=i
  rw[b6.at_eq,b6.at_eq]
  simp only[b6.at]
  cases s - (gN a) with
  |zero=>cases q<;>rfl
  |succ m=>rfl
def AWP.virtVM{σ0:b6}{env:Env}{c:Code}(b:Nat)(f:A->List I)(t:Nat){n:Nat}(e:lookup t env=some (.c (.imm (.val (.slice none 0 0)))))(i:newF a=some (n,[]))(d:w8 a (mat (n,[]) b f [])=some p)(j:w8 a (.one (vec 1 (fun _:List A=>([]:List I)) []))=some q)(h:AWP g σ0 k c l (St.mk ((t,.c (.own (n,[]) 0 ([]:List (List A)).length))::env) p)):AWP g σ0 k c l (St.mk env a):=AWP.sub (Sub.virtVM b f t e i d j) h
def S.storeHS{σ0:b6}{env:Env}{ops:Array Oper}{rest:List Oper}{pos:String}{k r:Nat}{f:A->List I}{M:List (List A)}{x y:Od}{t:Ti}{bytes:Nat}{z:Vl}{i:Int}{row:List A}[w:TyS g t 1 bytes z](p:ix M i=some row)(s:ev env x=some (.c (.ptr (r,[]) i.toNat 0)))(u:ev env y=some (.c (.own (r,[i.toNat]) 0 (gN row))))(o:a[r]? =some (mat (r,[]) k f M))(h:AOps g σ0 n ops l rest (St.mk env a)):AOps g σ0 n ops l (⟨none,.store t x y,d,pos,v,none⟩::rest) (St.mk env a):=by
 have p:=(S4 p).2
 refine AOps.store s u (ax0 o) (hdr_get p) (by simp) ?_
 refine AOps.sub (Sub.same (by simp) fun j=> ?_) h
 have e:(hdr (r,[]) M).set i.toNat [.own (r,[i.toNat]) 0 (gN row)]=hdr (r,[]) M:=(hdr_set (id:=(r,[]))).symm.trans (hdr_same p rfl)
 by_cases q:j=(r,[])
 ·subst q
  rw[b6.get_put_eq (ax0 o),ax0 o]
  exact congrArg (fun b=>some (some (Blk.cells 1 b))) e
 ·rw[b6.get_put_ne q]
section
open Go.Proofs
abbrev d7(l:Li):List I:=[.sl 1 (l.map intI)]
structure u6 where
  add:Li
  del:Li
  weight:Int
abbrev B8(v:u6):List I:=[.sl 1 (fC intI v.add),.sl 1 (fC intI v.del),.val (.int .i64 v.weight)]
structure i9 where
  pre:Li
  outcomes:List u6
  cost:Int
abbrev g7(v:i9):List I:=[.sl 1 (fC intI v.pre),.sl 3 (fC B8 v.outcomes),.val (.int .i64 v.cost)]
structure b9 where
  facts:Int
  init:Li
  goal:Li
  operators:List i9
abbrev eTOpenTask(v:b9):List I:=[.val (.int .i64 v.facts),.sl 1 (fC intI v.init),.sl 1 (fC intI v.goal),.sl 3 (fC g7 v.operators)]
structure u5 where
  code:Int
  index:Int
abbrev P3(l:LL):List I:=[.sl 1 (l.map d7)]
structure at9 where
  fx:Int
  fy:Int
  signed:Bool
  code:Int
structure Truntime_boundsError where
  fx:Int
  fy:Int
  signed:Bool
  code:Int
structure Tmsg_string_addr_uintptr where
  msg:ByteArray
  addr:Int
structure Truntime_errorAddressString where
  msg:ByteArray
  addr:Int
structure ar7 where
  facts:Int
  init:Li
  goal:Li
  operators:List i9
structure f8 where
  state:Li
  operator:Int
abbrev j3(v:f8):List I:=[.sl 1 (fC intI v.state),.val (.int .i64 v.operator)]
structure TNum_int_Den_int where
  num:Int
  den:Int
structure s8 where
  num:Int
  den:Int
structure TCode_int_Index_int where
  code:Int
  index:Int
structure aD3 where
  pre:Li
  outcomes:List u6
  cost:Int
structure aa4 where
  pre:Li
  add:Li
  del:Li
  cost:Int
structure at8 where
  facts:Int
  init:Li
  goal:Li
  operators:List aa4
structure TTask where
  facts:Int
  init:Li
  goal:Li
  operators:List aa4
structure au3 where
  fo:b9
  states:LL
  ops:Li
  num:Li
  den:Int
structure Tchance_chooser where
  fo:b9
  states:LL
  ops:Li
  num:Li
  den:Int
structure Tstates_int_rows_int where
  states:LL
  rows:LL
structure Tchance_system where
  states:LL
  rows:LL
structure TAdd_int_Del_int_Weight_int where
  add:Li
  del:Li
  weight:Int
structure TState_int_Operator_int where
  state:Li
  operator:Int
structure aG2 where
  pre:Li
  add:Li
  del:Li
  cost:Int
structure Tspace_arc where
  ffrom:Int
  cost:Int
structure Tspace_Step_uint32 where
  op:Int
  cost:Int
  to:Int
structure TOp_int_Cost_int_To_uint32 where
  op:Int
  cost:Int
  to:Int
structure Tfrom_uint32_cost_int where
  ffrom:Int
  cost:Int
structure aD8 where
  pre:Int
  add:Int
  del:Int
  cost:Int
structure aA4 where
  start:Int
  goal:Int
  ops:List aD8
structure Tspace_Words where
  start:Int
  goal:Int
  ops:List aD8
structure aA0 where
  pre:Int
  add:Int
  del:Int
  cost:Int
structure aE9 where
  item:Int
  key:Int
  time:Int
  fat:Int
structure Topenlist_entry_uint32 where
  item:Int
  key:Int
  time:Int
  fat:Int
def af6(l:Li)(c:Int):Int->Unit->Option (Unit⊕Bool):=fun t3 _=>eI (ix l t3) fun a=>eI (if a<0 then some true else if c<=a then some true else if 0<t3 then eI (ix l (t3 - 1)) fun b=>some (decide (a<=b)) else some false) fun t4=>if t4=true then some (.inr false) else some (.inl ())
def J1(l:Li)(a:Int):Option Bool:=(eI (rngX 0 (gN l:Int) (af6 l a) ()) fun| .inl _=>some true| .inr x=>some x)
def K4(a:Int):Option Bool:=some (!(decide (a=a)))
def ah1(xv:Int)(yv:Int):Option Bool:=eI (eI (K4 xv) fun a6=>if a6=true then eI (K4 yv) fun a9=>if(!a9)=true then some true else some (decide (xv<yv)) else some (decide (xv<yv))) fun t3=>some t3
def R7(a:Int):Option Bool:=some (!(decide (a=a)))
def E8(e:Li)(target:Int):(Int×Int)->Option ((Int×Int)⊕Int):=fun(a,b)=>if a<b then eI (ix e (w64 (shrW .u64 ((IntKind.u64).wrap (w64 (a+b))) 1))) fun c=>eI (ah1 c target) fun d=>if d=true then some (.inl (w64 ((w64 (shrW .u64 ((IntKind.u64).wrap (w64 (a+b))) 1))+1),b)) else some (.inl (a,w64 (shrW .u64 ((IntKind.u64).wrap (w64 (a+b))) 1))) else some (.inr a)
noncomputable def y4(b:Li)(target:Int):Option (Int×Bool):=eI (Loop (E8 b target) (0,(gN b:Int))) fun a=>eI (if a<(gN b:Int) then eI (ix b a) fun c=>if c=target then some true else eI (ix b a) fun d=>eI (R7 d) fun e=>if e=true then eI (R7 target) fun f=>some f else some false else some false) fun t8=>some (a,t8)
noncomputable def ah8(a:Int)(b:Li):Option Bool:=eI (y4 b a) fun c=>some c.2
def B1(c:Li)(d:Int->Option Bool):Int->Unit->Option (Unit⊕Int):=fun t3 _=>eI (ix c t3) fun a=>eI (d a) fun b=>if b=true then some (.inr t3) else some (.inl ())
def F7(a:Li)(b:Int->Option Bool):Option Int:=(eI (rngX 0 (gN a:Int) (B1 a b) ()) fun| .inl _=>some (-1)| .inr x=>some x)
def r8(a:Li)(b:Int->Option Bool):Option Bool:=eI (F7 a b) fun c=>some (decide (0<=c))
noncomputable def ag2(a:Li)(b:Li):Option Bool:=eI (r8 a (fun c=>ah8 c b)) fun d=>some d
noncomputable def J8(ov:i9)(facts:Int):Int->Unit->Option (Unit⊕Int):=fun t6 _=>eI (ix ov.outcomes t6) fun a38=>eI (eI (J1 a38.add facts) fun a44=>if(!a44)=true then some true else eI (J1 a38.del facts) fun a50=>if(!a50)=true then some true else eI (ag2 a38.add a38.del) fun a58=>some a58) fun t7=>if t7=true then some (.inr 5) else if((decide (a38.weight<1))||(decide (6<a38.weight)))=true then some (.inr 3) else some (.inl ())
noncomputable def P6(ov:i9)(facts:Int):Option Int:=eI (J1 ov.pre facts) fun a11=>if(!a11)=true then some 5 else if((decide (ov.cost<0))||(decide (100<ov.cost)))=true then some 3 else if((decide ((gN ov.outcomes:Int)=0))||(decide (4<(gN ov.outcomes:Int))))=true then some 9 else(eI (rngX 0 (gN ov.outcomes:Int) (J8 ov facts) ()) fun| .inl _=>some 0| .inr x=>some x)
noncomputable def T1(c:b9):Int->Unit->Option (Unit⊕u5):=fun t6 _=>eI (ix c.operators t6) fun b=>eI (P6 b c.facts) fun a=>if a=0 then some (.inl ()) else some (.inr (⟨a,t6⟩:u5))
noncomputable def P0(ov:b9):Option u5:=if((decide (ov.facts<0))||(decide (24<ov.facts)))=true then some (⟨3, -1⟩:u5) else eI (J1 ov.init ov.facts) fun a21=>if(!a21)=true then some (⟨5, -2⟩:u5) else eI (J1 ov.goal ov.facts) fun a29=>if(!a29)=true then some (⟨5, -3⟩:u5) else if 40<(gN ov.operators:Int) then some (⟨2, -1⟩:u5) else(eI (rngX 0 (gN ov.operators:Int) (T1 ov) ()) fun| .inl _=>some (⟨0,0⟩:u5)| .inr x=>some x)
def M7(a:Int):Option ByteArray:=if a<10 then eI (subS (⟨#[48,49,50,51,52,53,54,55,56,57,97,98,99,100,101,102,103,104,105,106,107,108,109,110,111,112,113,114,115,116,117,118,119,120,121,122]⟩:ByteArray) a (w64 (a+1))) fun c=>some c else eI (subS (⟨#[48,48,48,49,48,50,48,51,48,52,48,53,48,54,48,55,48,56,48,57,49,48,49,49,49,50,49,51,49,52,49,53,49,54,49,55,49,56,49,57,50,48,50,49,50,50,50,51,50,52,50,53,50,54,50,55,50,56,50,57,51,48,51,49,51,50,51,51,51,52,51,53,51,54,51,55,51,56,51,57,52,48,52,49,52,50,52,51,52,52,52,53,52,54,52,55,52,56,52,57,53,48,53,49,53,50,53,51,53,52,53,53,53,54,53,55,53,56,53,57,54,48,54,49,54,50,54,51,54,52,54,53,54,54,54,55,54,56,54,57,55,48,55,49,55,50,55,51,55,52,55,53,55,54,55,55,55,56,55,57,56,48,56,49,56,50,56,51,56,52,56,53,56,54,56,55,56,56,56,57,57,48,57,49,57,50,57,51,57,52,57,53,57,54,57,55,57,56,57,57]⟩:ByteArray) (w64 (a * 2)) (w64 ((w64 (a * 2))+2))) fun b=>some b
abbrev aj6(b:Int)(a:Int)(l:Li):b6:=[.one (vec 1 eU8 l)]
def E7(d:Int)(a:Int)(l:Li):Option Li:=if a=10 then if d<100 then eI (M7 (w64 d)) fun b=>eI (app 1 l (strL b)) fun c=>some c else none else none
abbrev al9(b:Int)(a:Int)(l:Li):b6:=[.one (vec 1 eU8 l)]
def F0(c:Int)(a:Int)(l:Li):Option Li:=eI (if c<0 then none else some ()) fun _=>eI (E7 ((IntKind.u64).wrap c) a l) fun b=>some b
abbrev ax7(b:Int)(a:Int)(l:Li):b6:=[.one (vec 1 eU8 l)]
def G4(c:Int)(a:Int)(l:Li):Option Li:=eI (F0 c a l) fun b=>some b
def at5(a:Li):Int->Li->Option Li:=fun t5 e=>eI (ix a t5) fun b=>eI (G4 b 10 e) fun c=>eI (app 1 c [44]) fun d=>some d
def at6(l:LL):Int->Li->Option Li:=fun t3 c=>eI (ix l t3) fun a=>(eI (forR 0 (gN a:Int) (at5 a) c) fun d=>eI (app 1 d [59]) fun b=>some b)
def ab3(l:LL):Option ByteArray:=(eI (forR 0 (gN l:Int) (at6 l) []) fun a=>some (strB a))
def N6(d:Li)(b:Int):Int->Option (Int⊕Int):=fun a=>eI (if a<(gN d:Int) then eI (ix d a) fun c=>some (decide (c<b)) else some false) fun t7=>if t7=true then some (.inl (w64 (a+1))) else some (.inr a)
noncomputable def V6(c:Li)(part:Li):Int->Int->Option (Int⊕Bool):=fun t4 d=>eI (ix part t4) fun b=>eI (Loop (N6 c b) d) fun a=>eI (if a=(gN c:Int) then some true else eI (ix c a) fun e=>some (!(decide (e=b)))) fun t11=>if t11=true then some (.inr false) else some (.inl a)
noncomputable def u7(a:Li)(part:Li):Option Bool:=(eI (rngX 0 (gN part:Int) (V6 a part) 0) fun| .inl b=>some true| .inr x=>some x)
noncomputable def ah0(c:b9)(d:Li)(op:Int):Option Bool:=eI (ix c.operators op) fun a=>eI (u7 d a.pre) fun b=>some b
noncomputable def am8(sv:Li)(del:Li):Int->Li->Option Li:=fun t5 c4=>eI (eI (ix sv t5) fun a16=>eI (y4 del a16) fun a21=>if(!a21.2)=true then eI (app 8 c4 [a16]) fun a29=>some a29 else some c4) fun c6=>some c6
noncomputable def P2(c:Li)(add:Li)(del:Li):Option Li:=(eI (forR 0 (gN c:Int) (am8 c del) []) fun d=>eI (app 8 d add) fun a=>eI (sortL a) fun b=>some (al8 b))
def V9(b:Int)(c:Int):Option Int:=eI (K4 b) fun d=>eI (K4 c) fun a=>if d=true then if a=true then some 0 else some (-1) else if a=true then some 1 else if b<c then some (-1) else if c<b then some 1 else some 0
def I3(c:Li)(a:Li):Int->Unit->Option (Unit⊕Int):=fun t3 _=>eI (ix c t3) fun d=>if(gN a:Int)<=t3 then some (.inr 1) else eI (ix a t3) fun e=>eI (V9 d e) fun b=>if b=0 then some (.inl ()) else some (.inr b)
def slices_Compare_int_int(a:Li)(b:Li):Option Int:=(eI (rngX 0 (gN a:Int) (I3 a b) ()) fun| .inl _=>if(gN a:Int)<(gN b:Int) then some (-1) else some 0| .inr x=>some x)
def U3(a:Li)(b:Li):Int->Unit->Option (Unit⊕Bool):=fun t4 _=>eI (ix a t4) fun c=>eI (ix b t4) fun d=>if c=d then some (.inl ()) else some (.inr false)
def G2(a:Li)(b:Li):Option Bool:=if(gN a:Int)=(gN b:Int) then(eI (rngX 0 (gN a:Int) (U3 a b) ()) fun| .inl _=>some true| .inr x=>some x) else some false
def K8(f:LL)(target:Li)(c:Li->Li->Option Int):(Int×Int)->Option ((Int×Int)⊕Int):=fun(a,b)=>if a<b then eI (ix f (w64 (shrW .u64 ((IntKind.u64).wrap (w64 (a+b))) 1))) fun d=>eI (c d target) fun e=>if e<0 then some (.inl (w64 ((w64 (shrW .u64 ((IntKind.u64).wrap (w64 (a+b))) 1))+1),b)) else some (.inl (a,w64 (shrW .u64 ((IntKind.u64).wrap (w64 (a+b))) 1))) else some (.inr a)
noncomputable def p9(c:LL)(target:Li)(b:Li->Li->Option Int):Option (Int×Bool):=eI (Loop (K8 c target b) (0,(gN c:Int))) fun a=>eI (if a<(gN c:Int) then eI (ix c a) fun d=>eI (b d target) fun e=>some (decide (e=0)) else some false) fun t9=>some (a,t9)
abbrev I6(l:LL):b6:=[.one (vec 1 d7 l)]
def B2(l:LL)(kv54:Int):Int->((LL)×Int)->Option ((LL)×Int):=fun k258 (c56,kv57)=>eI (eI (ixV c56 (0+kv54) ((gN l:Int) - kv54) k258) fun a41=>eI (ixV c56 (0+kv54) ((gN l:Int) - kv54) (k258 - 1)) fun a46=>eI (G2 a41 a46) fun a48=>if(!a48)=true then eI (ixV c56 (0+kv54) ((gN l:Int) - kv54) k258) fun a54=>eI (ix c56 kv57) fun a56=>some (c56.set kv57.toNat a54,w64 (kv57+1)) else some (c56,kv57)) fun⟨c59,kv60⟩=>some (c59,kv60)
def x7(l:LL):Int->Unit->Option (Unit⊕(LL)):=fun b _=>eI (ix l b) fun d=>eI (ix l (b - 1)) fun e=>eI (G2 d e) fun f=>if f=true then eI (cutV (gN l:Int) b (gN l:Int)) fun g=>(eI (forR 1 ((gN l:Int) - b) (B2 l b) (l,b)) fun⟨c,a⟩=>eI (cutV (gN c:Int) a (gN c:Int)) fun h=>eI (cutV ((clrL c (0+a) ((gN c:Int) - a) []).length:Int) 0 a) fun u64=>some (.inr (A9 (clrL c (0+a) ((gN c:Int) - a) []) 0 a))) else some (.inl ())
def D0(l:LL):Option (LL):=if(gN l:Int)<2 then some l else(eI (rngX 1 (gN l:Int) (x7 l) ()) fun| .inl _=>some l| .inr x=>some x)
abbrev aE0(l:LL):b6:=[.one (vec 1 d7 l)]
def O8(l:LL):Option (LL):=eI (sortLL l) fun a=>eI (D0 a) fun b=>some b
noncomputable def W1(e:Li)(b:i9):Int->(LL)->Option (LL):=fun t5 f=>eI (ix b.outcomes t5) fun a=>eI (P2 e a.add a.del) fun c=>eI (app 24 f [c]) fun d=>some d
noncomputable def G8(h:LL)(b:(LL))(c:i9):Int->Li->Option Li:=fun t7 d=>eI (ix c.outcomes t7) fun e=>eI (ix h t7) fun f=>eI (p9 b f slices_Compare_int_int) fun a=>eI (ix d a.1) fun g=>eI (ix d a.1) fun i=>some (d.set a.1.toNat (w64 (g+e.weight)))
noncomputable def A8(f:b9)(h:Li)(op:Int):Option ((LL)×Li):=eI (ix f.operators op) fun b=>(eI (forR 0 (gN b.outcomes:Int) (W1 h b) []) fun g=>eI (C9 g) fun d=>eI (O8 d) fun a=>eI (mkL 8 (gN a:Int) 0) fun e=>eI (ix f.operators op) fun c=>(eI (forR 0 (gN c.outcomes:Int) (G8 g a c) e) fun i=>some (a,i)))
def ak8:((LL)×(List (ByteArray×Int)))->Option (((LL)×(List (ByteArray×Int)))⊕((LL)×Bool)):=fun(a,b)=>some (.inl (a,b))
def al3:((LL)×(List (ByteArray×Int)))->Option (((LL)×(List (ByteArray×Int)))⊕((LL)×Bool)):=fun(a,b)=>some (.inl (a,b))
def H4(e:(LL)×Li):Int->((LL)×(List (ByteArray×Int)))->Option (((LL)×(List (ByteArray×Int)))⊕((LL)×Bool)):=fun t15 (a,b)=>eI (ix e.1 t15) fun c=>eI (ab3 [c]) fun d=>if 0<Option.getD (mget b d) 0 then al3 (a,b) else if(gN a:Int)=2000 then some (.inr ([],false)) else eI (app 24 a [c]) fun f=>al3 (f,mset b d 1)
noncomputable def H5(ov:b9)(atv4:Int):Int->((LL)×(List (ByteArray×Int)))->Option (((LL)×(List (ByteArray×Int)))⊕((LL)×Bool)):=fun t9 (c7,c8)=>eI (ix c7 atv4) fun a36=>eI (ah0 ov a36 t9) fun a39=>if(!a39)=true then ak8 (c7,c8) else eI (ix c7 atv4) fun a45=>eI (A8 ov a45 t9) fun a48=>(eI (rngX 0 (a48.1.length:Int) (H4 a48) (c7,c8)) fun| .inl (c13,c14)=>ak8 (c13,c14)| .inr x=>some (.inr x))
noncomputable def U6(c:b9):((LL)×(List (ByteArray×Int))×Int)->Option (((LL)×(List (ByteArray×Int))×Int)⊕((LL)⊕((LL)×Bool))):=fun(b,d,a)=>if a<(gN b:Int) then(eI (rngX 0 (gN c.operators:Int) (H5 c a) (b,d)) fun| .inl (e,f)=>some (.inl (e,f,w64 (a+1)))| .inr x=>some (.inr (.inr x))) else some (.inr (.inl b))
noncomputable def E6(d:b9):Option ((LL)×Bool):=eI (B7 d.init) fun a=>eI (ab3 [a]) fun b=>eI (Loop (U6 d) ([a],mset ([]:List (ByteArray×Int)) b 1,0)) fun| .inl e=>eI (O8 e) fun c=>some (c,true)| .inr x=>some x
noncomputable def N1(ov:b9):Option ((LL)×u5):=eI (P0 ov) fun a8=>if(!((decide (a8.code=0)) && (decide (a8.index=0))))=true then some ([],a8) else eI (E6 ov) fun a15=>if(!a15.2)=true then some ([],(⟨10, -7⟩:u5)) else some (a15.1,(⟨0,0⟩:u5))
def s6(c:List i9)(d:i9->Option Bool):Int->Unit->Option (Unit⊕Int):=fun t3 _=>eI (ix c t3) fun a=>eI (d a) fun b=>if b=true then some (.inr t3) else some (.inl ())
def v6(a:List i9)(b:i9->Option Bool):Option Int:=(eI (rngX 0 (gN a:Int) (s6 a b) ()) fun| .inl _=>some (-1)| .inr x=>some x)
def o7(a:List i9)(b:i9->Option Bool):Option Bool:=eI (v6 a b) fun c=>some (decide (0<=c))
def U5(a:i9):Option Bool:=some (decide (a.cost=0))
noncomputable def F6(all:LL)(b:Li):Option Int:=eI (p9 all b slices_Compare_int_int) fun a=>some a.1
noncomputable def ai4(all:LL)(t6:Int)(b:(LL)×Li):Int->(LL)->Option (LL):=fun t11 a=>eI (ix b.1 t11) fun c=>eI (ix a t6) fun d=>eI (F6 all c) fun e=>eI (app 8 d [e]) fun f=>eI (ix a t6) fun g=>some (a.set t6.toNat f)
noncomputable def ah6(ov:b9)(all:LL)(a21:Li):Int->(LL)->Option (LL):=fun t6 c5=>eI (eI (ah0 ov a21 t6) fun a39=>if(!a39)=true then some c5 else eI (A8 ov a21 t6) fun a45=>(eI (forR 0 (a45.1.length:Int) (ai4 all t6 a45) c5) fun c10=>some c10)) fun c7=>some c7
noncomputable def ai5(a:b9)(all:LL):Int->(List (LL))->Option (List (LL)):=fun t4 d=>eI (ix all t4) fun b=>eI (mkL 24 (gN a.operators:Int) ([]:Li)) fun c=>eI (ix d t4) fun e=>(eI (forR 0 (gN a.operators:Int) (ah6 a all b) c) fun f=>some (d.set t4.toNat f))
noncomputable def aj7(b:b9)(all:LL):Option (List (LL)):=eI (mkL 24 (gN all:Int) []) fun a=>(eI (forR 0 (gN all:Int) (ai5 b all) a) fun c=>some c)
def ad8(a:Int)(b:Li):Option Bool:=eI (ix b a) fun c=>some (decide (c=0))
def ac6(l:Li)(safe:Li):Option Bool:=eI (if 0<(gN l:Int) then eI (r8 l (fun y1=>ad8 y1 safe)) fun a11=>some (!a11) else some false) fun t3=>some t3
def V2(a:Int)(b:Li)(c:Int):Option Bool:=eI (ix b a) fun d=>some (decide (d=w64 (c - 1)))
def K9(l:Li)(b:Li)(c:Li)(d:Int):Option Bool:=eI (eI (ac6 l b) fun e=>if e=true then eI (r8 l (fun f=>V2 f c d)) fun a=>some a else some false) fun t2=>some t2
def C4(c:LL)(d:Li->Option Bool):Int->Unit->Option (Unit⊕Int):=fun t3 _=>eI (ix c t3) fun a=>eI (d a) fun b=>if b=true then some (.inr t3) else some (.inl ())
def A5(a:LL)(b:Li->Option Bool):Option Int:=(eI (rngX 0 (gN a:Int) (C4 a b) ()) fun| .inl _=>some (-1)| .inr x=>some x)
def C6(a:LL)(b:Li->Option Bool):Option Bool:=eI (A5 a b) fun c=>some (decide (0<=c))
noncomputable def X5(d:b9)(all:LL):Int->Li->Option Li:=fun t6 a=>eI (eI (ix all t6) fun b=>eI (u7 b d.goal) fun c=>if c=true then eI (ix a t6) fun e=>some (a.set t6.toNat 0) else some a) fun f=>some f
def X2(c:List (LL))(b:Li)(d:Int):Int->Li->Option Li:=fun t15 a=>eI (eI (eI (ix a t15) fun e=>if 0<=e then some true else eI (ix b t15) fun f=>some (decide (f=0))) fun t18=>if t18=true then some a else eI (ix c t15) fun g=>eI (C6 g (fun j=>K9 j b a d)) fun h=>if h=true then eI (ix a t15) fun k=>some (a.set t15.toNat d) else some a) fun i=>some i
def X8(all:LL)(a:List (LL))(c:Li):(Li×Int)->Option ((Li×Int)⊕Li):=fun(d,b)=>if b<=(gN all:Int) then(eI (forR 0 (gN all:Int) (X2 a c b) d) fun e=>some (.inl (e,w64 (b+1)))) else some (.inr d)
noncomputable def Y6(e:b9)(all:LL)(a:List (LL))(b:Li):Option Li:=eI (E9 [-1] (gN all:Int)) fun c=>(eI (forR 0 (gN all:Int) (X5 e all) c) fun f=>eI (Loop (X8 all a b) (f,1)) fun d=>some d)
def T8(a21:Li):Int->(Li×Bool)->Option (Li×Bool):=fun t6 (c4,same5)=>eI (if same5=true then eI (ix a21 t6) fun a31=>eI (ix c4 t6) fun a36=>some (decide ((decide (0<=a31))=(decide (0<a36)))) else some false) fun same7=>eI (ix a21 t6) fun a45=>eI (ix c4 t6) fun a49=>some (c4.set t6.toNat (min 1 (w64 (a45+1))),same7)
noncomputable def T7(e:b9)(all:LL)(c:(List (LL))):Li->Option (Li⊕Li):=fun d=>eI (Y6 e all c d) fun a=>(eI (forR 0 (gN a:Int) (T8 a) (d,true)) fun⟨f,b⟩=>if b=true then some (.inr a) else some (.inl f))
noncomputable def L8(c:b9)(all:LL):Option Li:=eI (aj7 c all) fun a=>eI (E9 [1] (gN all:Int)) fun b=>eI (Loop (T7 c all a) b) fun x=>some x
noncomputable def U7(a:Li)(b:Li)(c:LL):Option Bool:=eI (F6 c a) fun d=>eI (ix b d) fun e=>some (decide (e<0))
noncomputable def M0(a:Li)(b:b9):Option Bool:=eI (u7 a b.goal) fun c=>some c
def N2:Unit->Option (Unit⊕Int):=fun _=>some (.inl ())
noncomputable def W4(j:Li)(k:LL)(f:Int)(g:(LL)×Li):Int->(Bool×Bool)->Option (Bool×Bool):=fun t6 (c,a)=>eI (eI (ix g.1 t6) fun h=>eI (F6 k h) fun i=>eI (ix j i) fun b=>if c=true then if a=true then some (decide (0<=b),true) else some (decide (0<=b),decide (b=w64 (f - 1))) else if a=true then some (false,true) else some (false,decide (b=w64 (f - 1)))) fun⟨d,e⟩=>some (d,e)
noncomputable def M9(sv:Li)(c2:Li)(c3:LL)(c4:b9)(a19:Int):Int->Unit->Option (Unit⊕Int):=fun t2 _=>eI (ah0 c4 sv t2) fun a30=>if(!a30)=true then N2 () else eI (A8 c4 sv t2) fun a36=>(eI (forR 0 (a36.1.length:Int) (W4 c2 c3 a19 a36) (true,false)) fun⟨sure4,near5⟩=>if(sure4 && near5)=true then some (.inr t2) else N2 ())
noncomputable def w7(c:Li)(d:Li)(e:LL)(f:b9):Option Int:=eI (F6 e c) fun a=>eI (ix d a) fun b=>(eI (rngX 0 (gN f.operators:Int) (M9 c d e f b) ()) fun| .inl _=>some (-1)| .inr x=>some x)
def D7(f:List f8)(target:Li)(c:f8->Li->Option Int):(Int×Int)->Option ((Int×Int)⊕Int):=fun(a,b)=>if a<b then eI (ix f (w64 (shrW .u64 ((IntKind.u64).wrap (w64 (a+b))) 1))) fun d=>eI (c d target) fun e=>if e<0 then some (.inl (w64 ((w64 (shrW .u64 ((IntKind.u64).wrap (w64 (a+b))) 1))+1),b)) else some (.inl (a,w64 (shrW .u64 ((IntKind.u64).wrap (w64 (a+b))) 1))) else some (.inr a)
noncomputable def m6(c:List f8)(target:Li)(b:f8->Li->Option Int):Option (Int×Bool):=eI (Loop (D7 c target b) (0,(gN c:Int))) fun a=>eI (if a<(gN c:Int) then eI (ix c a) fun d=>eI (b d target) fun e=>some (decide (e=0)) else some false) fun t9=>some (a,t9)
def open_Chosen_1(c:f8)(a:Li):Option Int:=eI (slices_Compare_int_int c.state a) fun b=>some b
noncomputable def M6(policy:List f8)(sv:Li):Option Int:=eI (m6 policy sv open_Chosen_1) fun a10=>if(!a10.2)=true then some (-1) else eI (ix policy a10.1) fun a17=>some a17.operator
def L3(c:f8)(a:Li):Option Int:=eI (slices_Compare_int_int c.state a) fun b=>some b
def O5(a:Int):((LL)×(List f8))->Option (((LL)×(List f8)×Int)⊕((List f8)⊕((List f8)×Bool))):=fun(b,c)=>some (.inl (b,c,w64 (a+1)))
noncomputable def af1(n:b9)(choose:Li->Option Int):((LL)×(List f8)×Int)->Option (((LL)×(List f8)×Int)⊕((List f8)⊕((List f8)×Bool))):=fun(e,c,a)=>if a<(gN e:Int) then eI (ix e a) fun b=>eI (eI (u7 b n.goal) fun f=>if f=true then some true else eI (M6 c b) fun g=>some (decide (0<=g))) fun t10=>if t10=true then(O5 a) (e,c) else if(gN c:Int)=200 then some (.inr (.inr ([],false))) else eI (choose b) fun d=>eI (m6 c b L3) fun h=>eI (B7 b) fun i=>eI (insL c h.1 (⟨i,d⟩:f8)) fun j=>eI (A8 n b d) fun k=>eI (app 24 e k.1) fun l=>(O5 a) (l,j) else some (.inr (.inl c))
noncomputable def Y1(a:b9)(choose:Li->Option Int):Option ((List f8)×Bool):=eI (Loop (af1 a choose) ([a.init],[],0)) fun| .inl b=>some (b,true)| .inr x=>some x
noncomputable def F9(ov:b9):Option ((List f8)×Bool×u5):=eI (N1 ov) fun a12=>if(!((decide (a12.2.code=0)) && (decide (a12.2.index=0))))=true then some ([],false,a12.2) else eI (L8 ov a12.1) fun a21=>eI (F6 a12.1 ov.init) fun a26=>eI (ix a21 a26) fun a27=>if a27<0 then some ([],false,(⟨0,0⟩:u5)) else eI (Y1 ov (fun y1=>w7 y1 a21 a12.1 ov)) fun a34=>if(!a34.2)=true then some ([],false,(⟨10, -8⟩:u5)) else some (a34.1,true,(⟨0,0⟩:u5))
noncomputable def U0(ov:b9)(states:LL)(t5:Int)(a31:Int)(a36:(LL)×Li):Int->Li->Option Li:=fun t7 c6=>eI (eI (ix a36.1 t7) fun a44=>eI (ix c6 t5) fun a48=>eI (ix a36.2 t7) fun a52=>eI (ix c6 t5) fun a55=>eI (ix (c6.set t5.toNat (w64 (a48+a52))) (gN states:Int)) fun a59=>eI (ix a36.2 t7) fun a63=>eI (ix ov.operators a31) fun a68=>eI (ix (c6.set t5.toNat (w64 (a48+a52))) (gN states:Int)) fun a73=>eI (u7 a44 ov.goal) fun a77=>if(!a77)=true then eI (F6 states a44) fun a82=>eI (ix ((c6.set t5.toNat (w64 (a48+a52))).set ((gN states:Int).toNat) (w64 (a59+(w64 (a63 * a68.cost))))) a82) fun a83=>eI (ix a36.2 t7) fun a87=>eI (ix ((c6.set t5.toNat (w64 (a48+a52))).set ((gN states:Int).toNat) (w64 (a59+(w64 (a63 * a68.cost))))) a82) fun a90=>some (((c6.set t5.toNat (w64 (a48+a52))).set ((gN states:Int).toNat) (w64 (a59+(w64 (a63 * a68.cost))))).set a82.toNat (w64 (a83 - a87))) else some ((c6.set t5.toNat (w64 (a48+a52))).set ((gN states:Int).toNat) (w64 (a59+(w64 (a63 * a68.cost)))))) fun c8=>some c8
noncomputable def H0(f:b9)(states:LL)(choose:Li->Option Int):Int->(LL)->Option (LL):=fun t5 g=>eI (ix states t5) fun a=>eI (mkL 8 (w64 ((gN states:Int)+1)) 0) fun d=>eI (choose a) fun b=>eI (A8 f a b) fun c=>(eI (forR 0 (c.1.length:Int) (U0 f states t5 b c) d) fun h=>eI (app 24 g [h]) fun e=>some e)
def S8:(Int×Int)->Option ((Int×Int)⊕Int):=fun(b,a)=>if 0<a then eI (chkN a) fun c=>some (.inl (a,(b).tmod a)) else some (.inr b)
noncomputable def G0(num:Int)(den:Int):Option (s8×Bool):=eI (if den<0 then some (w64 (0 - num),w64 (0 - den)) else some (num,den)) fun⟨num3,den4⟩=>eI (Loop S8 (max num3 (w64 (0 - num3)),den4)) fun av9=>eI (chkN av9) fun u28=>eI (chkN av9) fun u31=>some ((⟨w64 ((num3).tdiv av9),w64 ((den4).tdiv av9)⟩:s8),decide (max (max (w64 ((num3).tdiv av9)) (w64 (0 - (w64 ((num3).tdiv av9))))) (w64 ((den4).tdiv av9))<=1000000000))
noncomputable def ac4(num:Int)(den:Int):Option (s8×u5):=eI (G0 num den) fun a11=>if(!a11.2)=true then some ((⟨0,0⟩:s8),(⟨10, -2⟩:u5)) else some (a11.1,(⟨0,0⟩:u5))
abbrev W8(l:LL)(c:LL)(a:Li):b6:=[.one (vec 1 d7 l),.one (.cells 1 [[.own 3 0 (gN a)]]),.one (.cells 1 [[row 1 d7 c]]),.one (vec 1 intI a)]
noncomputable def V5(c:LL)(l3:Li):((LL)×Int×Int)->Option (((LL)×Int×Int)⊕((LL)×Int)):=fun(c56,iv57,j58)=>if j58<(gN c56:Int) then eI (eI (ix c56 j58) fun a24=>eI (U7 a24 l3 c) fun a28=>if(!a28)=true then eI (ix c56 iv57) fun a33=>some (c56.set iv57.toNat a24,w64 (iv57+1)) else some (c56,iv57)) fun⟨c62,iv63⟩=>some (.inl (c62,iv63,w64 (j58+1))) else some (.inr (c56,iv57))
noncomputable def D4(l:LL)(c:LL)(e:Li):Option (LL):=eI (A5 l (fun f=>U7 f e c)) fun d=>if d=(-1) then some l else eI (Loop (V5 c e) (l,d,w64 (d+1))) fun⟨b,a⟩=>eI (cutV (gN b:Int) a (gN b:Int)) fun g=>eI (cutV ((clrL b (0+a) ((gN b:Int) - a) []).length:Int) 0 a) fun h=>some (A9 (clrL b (0+a) ((gN b:Int) - a) []) 0 a)
abbrev U1(l:LL)(b:Int)(c:Li)(d:Li)(a:List i9):b6:=[.one (vec 1 d7 l),.one (.cells 4 [[int b,row 1 intI c,row 1 intI d,row 3 g7 a]])]
noncomputable def U2(Facts:Int)(Init:Li)(Goal:Li)(Operators:List i9):((LL)×Int×Int)->Option (((LL)×Int×Int)⊕((LL)×Int)):=fun(c58,iv59,j60)=>if j60<(gN c58:Int) then eI (eI (ix c58 j60) fun a24=>eI (M0 a24 (⟨Facts,Init,Goal,Operators⟩:b9)) fun a28=>if(!a28)=true then eI (ix c58 iv59) fun a33=>some (c58.set iv59.toNat a24,w64 (iv59+1)) else some (c58,iv59)) fun⟨c64,iv65⟩=>some (.inl (c64,iv65,w64 (j60+1))) else some (.inr (c58,iv59))
noncomputable def L5(l:LL)(d:Int)(e:Li)(f:Li)(a:List i9):Option (LL):=eI (A5 l (fun h=>M0 h (⟨d,e,f,a⟩:b9))) fun g=>if g=(-1) then some l else eI (Loop (U2 d e f a) (l,g,w64 (g+1))) fun⟨c,b⟩=>eI (cutV (gN c:Int) b (gN c:Int)) fun i=>eI (cutV ((clrL c (0+b) ((gN c:Int) - b) []).length:Int) 0 b) fun j=>some (A9 (clrL c (0+b) ((gN c:Int) - b) []) 0 b)
abbrev aD4(a:b9)(l:LL):b6:=[.one (vec 1 d7 l)]
noncomputable def L9(a:b9)(l:LL):Option (LL):=eI (L5 l a.facts a.init a.goal a.operators) fun b=>some b
abbrev T6(states:LL)(l:LL):b6:=[mat (0,[]) 1 intI l]
def F4(l:LL)(t57:Int)(a:LL):Unit->Option (Unit⊕Unit):=fun _=>eI (if t57<(gN l:Int) - 1 then eI (ix a t57) fun b=>eI (ix b t57) fun c=>some (decide (c=0)) else some false) fun t58=>if t58=true then none else some (.inr ())
def F2(t57:Int)(c:Int)(t63:Int):((LL)×Int)->Option (((LL)×Int)⊕(LL)):=fun(a,b)=>if 0<=b then eI (if b=t57 then some a else eI (ix a t63) fun d=>eI (ix a t57) fun f=>eI (ix f t57) fun g=>eI (ix a t63) fun h=>eI (ix h b) fun i=>eI (ix a t63) fun j=>eI (ix j t57) fun k=>eI (ix a t57) fun l=>eI (ix l b) fun e=>eI (chkN c) fun o=>eI (ix d b) fun p=>some (a.set t63.toNat (d.set b.toNat (w64 ((w64 ((w64 (g * i)) - (w64 (k * e)))).tdiv c))))) fun n=>some (.inl (n,w64 (b - 1))) else some (.inr a)
noncomputable def F8(l:LL)(t57:Int)(a:Int):Int->(LL)->Option (LL):=fun t63 c=>eI (if t63=t57 then some c else eI (Loop (F2 t57 a t63) (c,(gN l:Int))) fun d=>eI (ix d t63) fun b=>eI (ix b t57) fun f=>some (d.set t63.toNat (b.set t57.toNat 0))) fun e=>some e
noncomputable def F1(l:LL):Int->((LL)×Int)->Option ((LL)×Int):=fun t57 (a,b)=>eI (Loop (F4 l t57 a) ()) fun _=>eI (ix a t57) fun f=>eI (ix a t57) fun g=>eI (ix a t57) fun h=>eI (ix a t57) fun i=>(eI (forR 0 (gN l:Int) (F8 l t57 b) a) fun c=>eI (ix c t57) fun d=>eI (ix d t57) fun e=>some (c,e))
def J3(l:LL)(d:LL):Int->Li->Option Li:=fun t75 a=>eI (ix d t75) fun b=>eI (ix b (gN l:Int)) fun c=>eI (ix a t75) fun e=>some (a.set t75.toNat c)
noncomputable def D2(states:LL)(l:LL):Option (Li×Int):=(eI (forR 0 (gN l:Int) (F1 l) (l,1)) fun⟨c,a⟩=>eI (mkL 8 (gN l:Int) 0) fun b=>(eI (forR 0 (gN b:Int) (J3 l c) b) fun d=>some (d,a)))
abbrev ae9(c:Li)(op:Int)(a:b9)(states:LL)(den:Int)(l:Li)(b:Li):b6:=[.one (.cells 8 [[int a.facts,row 1 intI a.init,row 1 intI a.goal,row 3 g7 a.operators,row 1 d7 states,.own 1 0 (gN l),.own 2 0 (gN b),int den]]),.one (vec 1 intI l),.one (vec 1 intI b)]
def C0:(Int×Int)->Option ((Int×Int)⊕(Int×Int×Bool)):=fun(a,b)=>some (.inl (a,b))
noncomputable def I4(ov:b9)(states:LL)(l7:Li)(a24:(LL)×Li):Int->(Int×Int)->Option ((Int×Int)⊕(Int×Int×Bool)):=fun t63 (sum61,all62)=>eI (ix a24.1 t63) fun a32=>eI (ix a24.2 t63) fun a37=>eI (u7 a32 ov.goal) fun a46=>if a46=true then C0 (sum61,w64 (all62+a37)) else eI (p9 states a32 slices_Compare_int_int) fun a53=>if(!a53.2)=true then some (.inr (0,0,false)) else eI (ix a24.2 t63) fun a61=>eI (ix l7 a53.1) fun a68=>C0 (w64 (sum61+(w64 (a61 * a68))),w64 (all62+a37))
noncomputable def E2(f:Li)(op:Int)(d:b9)(states:LL)(den:Int)(l:Li)(g:Li):Option (Int×Int×Bool):=eI (A8 d f op) fun c=>(eI (rngX 0 (c.1.length:Int) (I4 d states g c) (0,0)) fun| .inl (b,a)=>eI (ix d.operators op) fun e=>some (w64 (b+(w64 ((w64 (a * e.cost)) * den))),a,true)| .inr x=>some x)
abbrev as1(a:b9)(states:LL)(den:Int)(l:Li)(b:Li):b6:=[.one (.cells 8 [[int a.facts,row 1 intI a.init,row 1 intI a.goal,row 3 g7 a.operators,row 1 d7 states,.own 1 0 (gN l),.own 2 0 (gN b),int den]]),.one (vec 1 intI l),.one (vec 1 intI b)]
noncomputable def D5(ov:b9)(states:LL)(den:Int)(l:Li)(l5:Li)(a27:Li):Int->(Int×Int×Int)->Option (Int×Int×Int):=fun t64 (found61,num62,den63)=>eI (eI (ah0 ov a27 t64) fun a44=>if(!a44)=true then some (found61,num62,den63) else eI (E2 a27 t64 ov states den l l5) fun a50=>if(a50.2.2 && ((decide (found61<0))||(decide (w64 (a50.1 * den63)<w64 (num62 * a50.2.1)))))=true then some (t64,a50.1,a50.2.1) else some (found61,num62,den63)) fun⟨found65,num66,den67⟩=>some (found65,num66,den67)
noncomputable def G7(i:b9)(states:LL)(den:Int)(l:Li)(j:Li):Int->(Li×Bool)->Option (Li×Bool):=fun t60 (f,a)=>eI (ix states t60) fun g=>(eI (forR 0 (gN i.operators:Int) (D5 i states den l j g) (-1,0,1)) fun⟨c,d,e⟩=>eI (if a=true then some true else eI (ix j t60) fun h=>some (decide (d<w64 (h * e)))) fun b=>eI (ix f t60) fun k=>some (f.set t60.toNat c,b))
noncomputable def F3(d:b9)(states:LL)(den:Int)(l:Li)(e:Li):Option (Li×Bool):=eI (B7 l) fun b=>(eI (forR 0 (gN states:Int) (G7 d states den l e) (b,false)) fun⟨c,a⟩=>some (c,a))
abbrev ax6(c:Li)(a:b9)(states:LL)(den:Int)(l:Li)(b:Li):b6:=[.one (.cells 8 [[int a.facts,row 1 intI a.init,row 1 intI a.goal,row 3 g7 a.operators,row 1 d7 states,.own 1 0 (gN l),.own 2 0 (gN b),int den]]),.one (vec 1 intI l),.one (vec 1 intI b)]
noncomputable def x5(c:Li)(d:b9)(states:LL)(den:Int)(l:Li)(e:Li):Option Int:=eI (F6 states c) fun a=>eI (ix l a) fun b=>some b
abbrev az2(d:b9)(states:LL)(b:b9)(a:LL)(den:Int)(l:Li)(c:Li):b6:=[.one (.cells 8 [[int b.facts,row 1 intI b.init,row 1 intI b.goal,row 3 g7 b.operators,row 1 d7 a,.own 1 0 (gN l),.own 2 0 (gN c),int den]]),.one (vec 1 intI l),.one (vec 1 intI c)]
noncomputable def aj8(ov:b9)(states:LL)(t60:Int)(a31:Int)(a36:(LL)×Li):Int->Li->Option Li:=fun t62 c61=>eI (eI (ix a36.1 t62) fun a44=>eI (ix c61 t60) fun a48=>eI (ix a36.2 t62) fun a52=>eI (ix c61 t60) fun a55=>eI (ix (c61.set t60.toNat (w64 (a48+a52))) (gN states:Int)) fun a59=>eI (ix a36.2 t62) fun a63=>eI (ix ov.operators a31) fun a68=>eI (ix (c61.set t60.toNat (w64 (a48+a52))) (gN states:Int)) fun a73=>eI (u7 a44 ov.goal) fun a77=>if(!a77)=true then eI (F6 states a44) fun a82=>eI (ix ((c61.set t60.toNat (w64 (a48+a52))).set ((gN states:Int).toNat) (w64 (a59+(w64 (a63 * a68.cost))))) a82) fun a83=>eI (ix a36.2 t62) fun a87=>eI (ix ((c61.set t60.toNat (w64 (a48+a52))).set ((gN states:Int).toNat) (w64 (a59+(w64 (a63 * a68.cost))))) a82) fun a90=>some (((c61.set t60.toNat (w64 (a48+a52))).set ((gN states:Int).toNat) (w64 (a59+(w64 (a63 * a68.cost))))).set a82.toNat (w64 (a83 - a87))) else some ((c61.set t60.toNat (w64 (a48+a52))).set ((gN states:Int).toNat) (w64 (a59+(w64 (a63 * a68.cost)))))) fun c63=>some c63
noncomputable def aj4(j:b9)(states:LL)(e:b9)(a:LL)(den:Int)(l:Li)(k:Li):Int->(LL)->Option (LL):=fun t60 f=>eI (ix states t60) fun b=>eI (mkL 8 (w64 ((gN states:Int)+1)) 0) fun g=>eI (x5 b e a den l k) fun c=>eI (A8 j b c) fun d=>(eI (forR 0 (d.1.length:Int) (aj8 j states t60 c d) g) fun h=>eI (app 24 f [h]) fun i=>some i)
noncomputable def K6(d:b9)(states:LL)(b:b9)(a:LL)(den:Int)(l:Li)(e:Li):Option (LL):=(eI (forR 0 (gN states:Int) (aj4 d states b a den l e) ([]:LL)) fun c=>some c)
abbrev aj1(c:b9)(a:b9)(states:LL)(den:Int)(l:Li)(b:Li):b6:=[.one (.cells 8 [[int a.facts,row 1 intI a.init,row 1 intI a.goal,row 3 g7 a.operators,row 1 d7 states,.own 1 0 (gN l),.own 2 0 (gN b),int den]]),.one (vec 1 intI l),.one (vec 1 intI b)]
def X7(a:Int):((LL)×(List f8))->Option (((LL)×(List f8)×Int)⊕((List f8)⊕((List f8)×Bool))):=fun(b,c)=>some (.inl (b,c,w64 (a+1)))
noncomputable def au0(p:b9)(f:b9)(states:LL)(den:Int)(l:Li)(q:Li):((LL)×(List f8)×Int)->Option (((LL)×(List f8)×Int)⊕((List f8)⊕((List f8)×Bool))):=fun(d,b,a)=>if a<(gN d:Int) then eI (ix d a) fun c=>eI (eI (u7 c p.goal) fun g=>if g=true then some true else eI (M6 b c) fun h=>some (decide (0<=h))) fun t66=>if t66=true then(X7 a) (d,b) else if(gN b:Int)=200 then some (.inr (.inr ([],false))) else eI (x5 c f states den l q) fun e=>eI (m6 b c L3) fun i=>eI (B7 c) fun j=>eI (insL b i.1 (⟨j,e⟩:f8)) fun k=>eI (A8 p c e) fun n=>eI (app 24 d n.1) fun o=>(X7 a) (o,k) else some (.inr (.inl b))
noncomputable def Y9(c:b9)(a:b9)(states:LL)(den:Int)(l:Li)(d:Li):Option ((List f8)×Bool):=eI (Loop (au0 c a states den l d) ([c.init],[],0)) fun| .inl b=>some (b,true)| .inr x=>some x
noncomputable def aa0(d:b9)(e:(LL)):Int->Li->Option Li:=fun t8 g=>eI (ix e t8) fun a=>eI (F9 (⟨d.facts,a,d.goal,d.operators⟩:b9)) fun f=>eI (M6 f.1 a) fun b=>eI (app 8 g [b]) fun c=>some c
def Y0:Int->Li->Option Li:=fun t22 a=>eI (ix a t22) fun b=>eI (ix a t22) fun c=>some (a.set t22.toNat (w64 (0 - b)))
noncomputable def R1(j:b9)(c:(LL)):(Int×Li×Li×Bool)->Option ((Int×Li×Li×Bool)⊕(Int×Li×Li)):=fun(l,e,f,b)=>if b=true then eI (K6 j c j c l e f) fun g=>eI (D2 c g) fun a=>eI (if a.2<0 then(eI (forR 0 (a.1.length:Int) Y0 a.1) fun k=>some (w64 (0 - a.2),k)) else some (a.2,a.1)) fun⟨h,i⟩=>eI (F3 j c h e i) fun d=>some (.inl (h,d.1,i,d.2)) else some (.inr (l,e,f))
noncomputable def B9(c:b9):Option ((List f8)×s8×Bool×u5):=eI (N1 c) fun a=>if(!((decide (a.2.code=0)) && (decide (a.2.index=0))))=true then some ([],(⟨0,0⟩:s8),false,a.2) else eI (o7 c.operators U5) fun k=>if k=true then some ([],(⟨0,0⟩:s8),false,(⟨3, -5⟩:u5)) else eI (L8 c a.1) fun e=>eI (C9 a.1) fun l=>eI (D4 l a.1 e) fun n=>eI (L9 c n) fun d=>eI (C9 a.1) fun o=>eI (L9 c o) fun p=>if 5<(gN p:Int) then some ([],(⟨0,0⟩:s8),false,(⟨10, -7⟩:u5)) else eI (F6 a.1 c.init) fun q=>eI (ix e q) fun r=>if r<0 then some ([],(⟨0,0⟩:s8),false,(⟨0,0⟩:u5)) else eI (u7 c.init c.goal) fun s=>if s=true then some ([],(⟨0,1⟩:s8),true,(⟨0,0⟩:u5)) else(eI (forR 0 (gN d:Int) (aa0 c d) []) fun u=>eI (Loop (R1 c d) (0,u,[],true)) fun⟨f,t,g⟩=>eI (F6 d c.init) fun h=>eI (ix g h) fun i=>eI (ac4 i f) fun b=>if(!((decide (b.2.code=0)) && (decide (b.2.index=0))))=true then some ([],(⟨0,0⟩:s8),false,b.2) else eI (Y9 c c d f t g) fun j=>some (j.1,b.1,true,(⟨0,0⟩:u5)))
def ai2(b:Int)(low:Int)(a:Int):Option Bool:=some ((decide (low<=b)) && (decide (b<=a)))
def Y3(code:Int)(index:Int):Option u5:=some (⟨code,index⟩:u5)
def al5(l:Li)(nv:Int):Int->Unit->Option (Unit⊕Bool):=fun iv3 _=>eI (eI (ix l iv3) fun a14=>eI (ai2 a14 0 (w64 (nv - 1))) fun a18=>if(!a18)=true then some true else if 0<iv3 then eI (ix l iv3) fun a26=>eI (ix l (iv3 - 1)) fun a31=>some (decide (a26<=a31)) else some false) fun t4=>if t4=true then some (.inr false) else some (.inl ())
def Q1(l:Li)(a:Int):Option Bool:=(eI (rngX 0 (gN l:Int) (al5 l a) ()) fun| .inl _=>some true| .inr x=>some x)
def az4(l:Li)(c:Int):Int->Unit->Option (Unit⊕Bool):=fun a _=>eI (ix l a) fun b=>if b=c then some (.inr true) else some (.inl ())
def S5(l:Li)(a:Int):Option Bool:=(eI (rngX 0 (gN l:Int) (az4 l a) ()) fun| .inl _=>some false| .inr x=>some x)
def am7(d:Li)(e:Li):Int->Unit->Option (Unit⊕Bool):=fun a _=>eI (ix d a) fun b=>eI (S5 e b) fun c=>if c=true then some (.inr false) else some (.inl ())
def ac2(a:Li)(b:Li):Option Bool:=(eI (rngX 0 (gN a:Int) (am7 a b) ()) fun| .inl _=>some true| .inr x=>some x)
def E3(ov:b9)(a42:i9):(Int×Int)->Option ((Int×Int)⊕Int):=fun(ev12,kv13)=>if((decide (kv13<(gN a42.outcomes:Int))) && (decide (ev12=0)))=true then eI (eI (ix a42.outcomes kv13) fun a73=>eI (eI (Q1 a73.add ov.facts) fun a79=>if(!a79)=true then some true else eI (Q1 a73.del ov.facts) fun a86=>if(!a86)=true then some true else eI (ac2 a73.add a73.del) fun a94=>some (!a94)) fun t18=>if t18=true then some 5 else eI (ai2 a73.weight 1 6) fun a99=>if(!a99)=true then some 3 else some ev12) fun ev16=>some (.inl (ev16,w64 (kv13+1))) else some (.inr ev12)
noncomputable def K1(ov:b9):Int->Unit->Option (Unit⊕u5):=fun iv6 _=>eI (ix ov.operators iv6) fun a42=>eI (eI (Q1 a42.pre ov.facts) fun a48=>if(!a48)=true then some 5 else eI (ai2 a42.cost 0 100) fun a52=>if(!a52)=true then some 3 else eI (ai2 (gN a42.outcomes:Int) 1 4) fun a57=>if(!a57)=true then some 9 else some 0) fun ev7=>eI (Loop (E3 ov a42) (ev7,0)) fun ev14=>if ev14=0 then some (.inl ()) else eI (Y3 ev14 iv6) fun a105=>some (.inr a105)
noncomputable def Y8(ov:b9):Option u5:=eI (ai2 ov.facts 0 24) fun a10=>if(!a10)=true then eI (Y3 3 (-1)) fun a12=>some a12 else eI (Q1 ov.init ov.facts) fun a17=>if(!a17)=true then eI (Y3 5 (-2)) fun a19=>some a19 else eI (Q1 ov.goal ov.facts) fun a24=>if(!a24)=true then eI (Y3 5 (-3)) fun a26=>some a26 else if 40<(gN ov.operators:Int) then eI (Y3 2 (-1)) fun a31=>some a31 else(eI (rngX 0 (gN ov.operators:Int) (K1 ov) ()) fun| .inl _=>some (⟨0,0⟩:u5)| .inr x=>some x)
def ao9(c:Li):Int->Int->Option Int:=fun b d=>eI (ix c b) fun a=>eI (chk0 ((IntKind.u64).wrap a)) fun e=>some (w64 (d+(shlW .i64 1 ((IntKind.u64).wrap a))))
def aa1(a:Li):Option Int:=(eI (forR 0 (gN a:Int) (ao9 a) 0) fun b=>some b)
def aq2(part:Li)(l:Li):Int->Unit->Option (Unit⊕Bool):=fun iv3 _=>eI (ix part iv3) fun a15=>eI (S5 l a15) fun a17=>if(!a17)=true then some (.inr false) else some (.inl ())
def ac9(part:Li)(l:Li):Option Bool:=(eI (rngX 0 (gN part:Int) (aq2 part l) ()) fun| .inl _=>some true| .inr x=>some x)
def J6(c:b9)(d:Li)(op:Int):Option Bool:=eI (ix c.operators op) fun a=>eI (ac9 a.pre d) fun b=>some b
def ar3(sv:Li)(xv:u6):Int->Li->Option Li:=fun p5 c4=>eI (eI (eI (S5 xv.add p5) fun a18=>if a18=true then some true else eI (S5 sv p5) fun a22=>if a22=true then eI (S5 xv.del p5) fun a27=>some (!a27) else some false) fun t8=>if t8=true then eI (app 8 c4 [p5]) fun a34=>some a34 else some c4) fun c6=>some c6
def ad0(a:b9)(b:Li)(c:u6):Option Li:=if a.facts<=9223372036854775807 then(eI (forR 0 a.facts (ar3 b c) []) fun d=>some d) else none
def ai7(b:Li)(c:Li):Int->Option (Int⊕(Unit⊕Bool)):=fun a=>if((decide (a<(gN b:Int))) && (decide (a<(gN c:Int))))=true then eI (ix b a) fun d=>eI (ix c a) fun e=>if d=e then some (.inl (w64 (a+1))) else eI (ix b a) fun f=>eI (ix c a) fun g=>some (.inr (.inr (decide (f<g)))) else some (.inr (.inl ()))
noncomputable def ad4(a:Li)(b:Li):Option Bool:=eI (Loop (ai7 a b) 0) fun| .inl _=>some (decide ((gN a:Int)<(gN b:Int)))| .inr x=>some x
def ax4(d:Li)(e:Li):Int->Unit->Option (Unit⊕Bool):=fun a _=>eI (ix d a) fun b=>eI (ix e a) fun c=>if b=c then some (.inl ()) else some (.inr false)
def Q5(a:Li)(b:Li):Option Bool:=if(gN a:Int)=(gN b:Int) then(eI (rngX 0 (gN a:Int) (ax4 a b) ()) fun| .inl _=>some true| .inr x=>some x) else some false
noncomputable def ah9(l:LL)(d:Li):Int->Option (Int⊕Int):=fun a=>eI (if a<(gN l:Int) then eI (ix l a) fun b=>eI (ad4 b d) fun c=>some c else some false) fun t5=>if t5=true then some (.inl (w64 (a+1))) else some (.inr a)
noncomputable def X1(l:LL)(b:Li):Option (LL):=eI (Loop (ah9 l b) 0) fun a=>eI (if a<(gN l:Int) then eI (ix l a) fun c=>eI (Q5 c b) fun d=>some d else some false) fun t9=>if t9=true then some l else eI (subL l 0 a) fun e=>eI (app 24 ([]:LL) e) fun f=>eI (app 24 f [b]) fun g=>eI (subL l a (gN l:Int)) fun h=>eI (app 24 g h) fun i=>some i
def aj9(l:LL)(d:Li):Int->Unit->Option (Unit⊕Int):=fun a _=>eI (ix l a) fun b=>eI (Q5 b d) fun c=>if c=true then some (.inr a) else some (.inl ())
def C8(l:LL)(a:Li):Option Int:=(eI (rngX 0 (gN l:Int) (aj9 l a) ()) fun| .inl _=>some (-1)| .inr x=>some x)
noncomputable def al0(g:b9)(h:Li)(b:i9):Int->(LL)->Option (LL):=fun c a=>eI (ix b.outcomes c) fun d=>eI (ad0 g h d) fun e=>eI (X1 a e) fun f=>some f
def ak4(j:b9)(k:Li)(c:i9)(a:LL):Int->Li->Option Li:=fun d e=>eI (ix c.outcomes d) fun f=>eI (ad0 j k f) fun g=>eI (C8 a g) fun b=>eI (ix e b) fun h=>eI (ix c.outcomes d) fun i=>eI (ix e b) fun l=>some (e.set b.toNat (w64 (h+i.weight)))
noncomputable def J7(c:b9)(e:Li)(op:Int):Option ((LL)×Li):=eI (ix c.operators op) fun b=>(eI (forR 0 (gN b.outcomes:Int) (al0 c e b) []) fun a=>eI (mkL 8 (gN a:Int) 0) fun d=>(eI (forR 0 (gN b.outcomes:Int) (ak4 c e b a) d) fun f=>some (a,f)))
def W2:((LL)×Li)->Option (((LL)×Li)⊕((LL)×Bool)):=fun(a,b)=>some (.inl (a,b))
def W5:((LL)×Li)->Option (((LL)×Li)⊕((LL)×Bool)):=fun(a,b)=>some (.inl (a,b))
def w5(most:Int)(b:(LL)×Li):Int->((LL)×Li)->Option (((LL)×Li)⊕((LL)×Bool)):=fun a (c,d)=>eI (ix b.1 a) fun e=>eI (aa1 e) fun f=>eI (S5 d f) fun g=>if g=true then W5 (c,d) else if most<=(gN c:Int) then some (.inr ([],false)) else eI (ix b.1 a) fun h=>eI (app 24 c [h]) fun i=>eI (ix b.1 a) fun j=>eI (aa1 j) fun k=>eI (app 8 d [k]) fun l=>W5 (i,l)
noncomputable def u9(ov:b9)(most:Int)(iv5:Int):Int->((LL)×Li)->Option (((LL)×Li)⊕((LL)×Bool)):=fun op10 (c8,c9)=>eI (ix c8 iv5) fun a40=>eI (J6 ov a40 op10) fun a43=>if(!a43)=true then W2 (c8,c9) else eI (ix c8 iv5) fun a49=>eI (J7 ov a49 op10) fun a52=>(eI (rngX 0 (a52.1.length:Int) (w5 most a52) (c8,c9)) fun| .inl (c14,c15)=>W2 (c14,c15)| .inr x=>some (.inr x))
noncomputable def v8(c:b9)(most:Int):((LL)×Li×Int)->Option (((LL)×Li×Int)⊕((LL)⊕((LL)×Bool))):=fun(b,d,a)=>if a<(gN b:Int) then(eI (rngX 0 (gN c.operators:Int) (u9 c most a) (b,d)) fun| .inl (e,f)=>some (.inl (e,f,w64 (a+1)))| .inr x=>some (.inr (.inr x))) else some (.inr (.inl b))
noncomputable def W6(e:LL):Int->(LL)->Option (LL):=fun b a=>eI (ix e b) fun c=>eI (X1 a c) fun d=>some d
noncomputable def A7(b:b9)(most:Int):Option ((LL)×Bool):=eI (aa1 b.init) fun c=>eI (app 8 [] [c]) fun d=>eI (Loop (v8 b most) ([b.init],d,0)) fun| .inl e=>(eI (forR 0 (gN e:Int) (W6 e) []) fun a=>some (a,true))| .inr x=>some x
def law8_coin:Option b9:=some (⟨1,[],[0],[(⟨[],[(⟨[0],[],1⟩:u6),(⟨[],[],2⟩:u6)],1⟩:i9)]⟩:b9)
def ao3(av:List f8)(bv:List f8):Int->Unit->Option (Unit⊕Bool):=fun iv4 _=>eI (eI (ix av iv4) fun a19=>eI (ix bv iv4) fun a24=>if(!(decide (a19.operator=a24.operator)))=true then some true else eI (ix av iv4) fun a31=>eI (ix bv iv4) fun a36=>eI (Q5 a31.state a36.state) fun a39=>some (!a39)) fun t5=>if t5=true then some (.inr false) else some (.inl ())
def Y2(a:List f8)(b:List f8):Option Bool:=if(gN a:Int)=(gN b:Int) then(eI (rngX 0 (gN a:Int) (ao3 a b) ()) fun| .inl _=>some true| .inr x=>some x) else some false
noncomputable def J4:Option Bool:=eI (law8_coin) fun c=>eI (B9 c) fun a=>eI (if a.2.2.2.code=0 then if a.2.2.1=true then if((decide (a.2.1.num=3)) && (decide (a.2.1.den=1)))=true then eI (Y2 a.1 ([(⟨[],0⟩:f8)])) fun b=>some b else some false else some false else some false) fun t1=>some t1
def E4(a:b9)(b:Li):Option Bool:=eI (ac9 a.goal b) fun c=>some c
def ae4(ov:b9)(l:LL):Int->(LL)->Option (LL):=fun iv4 c3=>eI (eI (ix l iv4) fun a16=>eI (E4 ov a16) fun a18=>if(!a18)=true then eI (ix l iv4) fun a23=>eI (app 24 c3 [a23]) fun a26=>some a26 else some c3) fun c5=>some c5
def ag4(a:b9)(l:LL):Option (LL):=(eI (forR 0 (gN l:Int) (ae4 a l) []) fun b=>some b)
def ah4(all:LL)(inv:List Bool)(a18:(LL)×Li):Int->Unit->Option (Unit⊕Bool):=fun kv6 _=>eI (ix a18.1 kv6) fun a31=>eI (C8 all a31) fun a33=>eI (ix inv a33) fun a34=>if(!a34)=true then some (.inr false) else some (.inl ())
noncomputable def Q4(c:b9)(all:LL)(b:List Bool)(d:Li)(op:Int):Option Bool:=eI (J7 c d op) fun a=>(eI (rngX 0 (a.1.length:Int) (ah4 all b a) ()) fun| .inl _=>some true| .inr x=>some x)
def al4(all:LL)(a:Li)(d:(LL)×Li):Int->Int->Option Int:=fun e b=>eI (eI (ix d.1 e) fun f=>eI (C8 all f) fun g=>eI (ix a g) fun c=>if c<b then some c else some b) fun h=>some h
noncomputable def ab7(d:b9)(all:LL)(a:Li)(e:Li)(op:Int):Option Int:=eI (J7 d e op) fun b=>(eI (forR 0 (b.1.length:Int) (al4 all a b) 1000000000) fun c=>some c)
def ae5:Int->(List Bool)->Option (List Bool):=fun a b=>eI (ix b a) fun c=>some (b.set a.toNat true)
def ae6(e:b9)(all:LL):Int->Li->Option Li:=fun a b=>eI (eI (ix b a) fun f=>eI (ix all a) fun c=>eI (E4 e c) fun d=>if d=true then eI (ix (b.set a.toNat 1000000000) a) fun g=>some ((b.set a.toNat 1000000000).set a.toNat 0) else some (b.set a.toNat 1000000000)) fun h=>some h
noncomputable def af2(ov:b9)(all:LL)(c5:List Bool)(iv17:Int):(Li×Bool×Int)->Option ((Li×Bool×Int)⊕(Li×Bool)):=fun(c18,again19,op20)=>eI (if op20<(gN ov.operators:Int) then eI (ix c5 iv17) fun a64=>some a64 else some false) fun t23=>if t23=true then eI (eI (eI (ix all iv17) fun a72=>eI (J6 ov a72 op20) fun a75=>if(!a75)=true then some true else eI (ix all iv17) fun a83=>eI (Q4 ov all c5 a83 op20) fun a86=>some (!a86)) fun t30=>if t30=true then some (c18,again19) else eI (ix all iv17) fun a94=>eI (ab7 ov all c18 a94 op20) fun a97=>eI (ix c18 iv17) fun a102=>if w64 (a97+1)<a102 then eI (ix c18 iv17) fun a109=>some (c18.set iv17.toNat (w64 (a97+1)),true) else some (c18,again19)) fun⟨c27,again28⟩=>some (.inl (c27,again28,w64 (op20+1))) else some (.inr (c18,again19))
noncomputable def V0(f:b9)(all:LL)(g:List Bool):Int->(Li×Bool)->Option (Li×Bool):=fun c (d,a)=>eI (Loop (af2 f all g c) (d,a,0)) fun⟨e,b⟩=>some (e,b)
noncomputable def ae2(e:b9)(all:LL)(f:List Bool):(Li×Bool)->Option ((Li×Bool)⊕Li):=fun(c,a)=>if a=true then(eI (forR 0 (gN all:Int) (V0 e all f) (c,false)) fun⟨d,b⟩=>some (.inl (d,b))) else some (.inr c)
def ad9(g:List Bool)(f:Li):Int->Int->Option Int:=fun a b=>eI (eI (eI (ix g a) fun d=>if d=true then eI (ix f a) fun e=>some (decide (1000000000<=e)) else some false) fun t39=>if t39=true then some a else some b) fun c=>some c
def ae3(c5:List Bool):Int->Li->Option Li:=fun iv45 c44=>eI (eI (ix c5 iv45) fun a138=>if(!a138)=true then eI (ix c44 iv45) fun a143=>some (c44.set iv45.toNat 1000000000) else some c44) fun c46=>some c46
noncomputable def af0(f:b9)(all:LL):(List Bool)->Option ((List Bool)⊕Li):=fun b=>eI (mkL 8 (gN all:Int) 0) fun d=>(eI (forR 0 (gN all:Int) (ae6 f all) d) fun h=>eI (Loop (ae2 f all b) (h,true)) fun c=>(eI (forR 0 (gN all:Int) (ad9 b c) (-1)) fun a=>if a<0 then(eI (forR 0 (gN all:Int) (ae3 b) c) fun e=>some (.inr e)) else eI (ix b a) fun g=>some (.inl (b.set a.toNat false))))
noncomputable def S0(b:b9)(all:LL):Option Li:=eI (mkL 1 (gN all:Int) false) fun a=>(eI (forR 0 (gN all:Int) ae5 a) fun c=>eI (Loop (af0 b all) c) fun x=>some x)
def ak6(a:Li):Int->(List Bool)->Option (List Bool):=fun b e=>eI (ix a b) fun c=>eI (app 1 e [decide (c<1000000000)]) fun d=>some d
def aa8(a:Li):Option (List Bool):=(eI (forR 0 (gN a:Int) (ak6 a) []) fun b=>some b)
noncomputable def ao2(f:b9)(all:LL)(b:List Bool)(g:Li):Int->Li->Option Li:=fun a h=>eI (eI (eI (J6 f g a) fun c=>if c=true then eI (Q4 f all b g a) fun d=>some d else some false) fun t9=>if t9=true then eI (app 8 h [a]) fun e=>some e else some h) fun i=>some i
noncomputable def R5(b:b9)(all:LL)(a:List Bool)(c:Li):Option Li:=(eI (forR 0 (gN b.operators:Int) (ao2 b all a c) []) fun d=>some d)
noncomputable def P9(ov:b9)(all:LL)(a11:(List Bool)):Int->Int->Option (Int⊕Int):=fun iv4 nv3=>eI (eI (eI (ix a11 iv4) fun a20=>if a20=true then eI (ix all iv4) fun a26=>eI (E4 ov a26) fun a28=>some (!a28) else some false) fun t7=>if t7=true then eI (ix all iv4) fun a37=>eI (R5 ov all a11 a37) fun a39=>some (w64 (nv3 * (gN a39:Int))) else some nv3) fun nv5=>if 1000<nv5 then some (.inr 1000) else some (.inl nv5)
noncomputable def C7(d:b9)(all:LL):Option Int:=eI (S0 d all) fun a=>eI (aa8 a) fun b=>(eI (rngX 0 (gN all:Int) (P9 d all b) 1) fun| .inl c=>some c| .inr x=>some x)
def ai0(p:List f8)(e:Li):Int->Unit->Option (Unit⊕Int):=fun a _=>eI (ix p a) fun b=>eI (Q5 b.state e) fun c=>if c=true then eI (ix p a) fun d=>some (.inr d.operator) else some (.inl ())
def I7(p:List f8)(a:Li):Option Int:=(eI (rngX 0 (gN p:Int) (ai0 p a) ()) fun| .inl _=>some (-1)| .inr x=>some x)
noncomputable def W0(f:(LL)×Li):Int->((LL)×Bool)->Option ((LL)×Bool):=fun d (a,b)=>eI (eI (ix f.1 d) fun g=>eI (C8 a g) fun h=>if h<0 then eI (ix f.1 d) fun i=>eI (X1 a i) fun j=>some (j,true) else some (a,b)) fun⟨e,c⟩=>some (e,c)
noncomputable def af3(o:b9)(p:List f8):((LL)×Bool×Int)->Option (((LL)×Bool×Int)⊕((LL)×Bool)):=fun(a,b,c)=>if c<(gN a:Int) then eI (eI (ix a c) fun j=>eI (I7 p j) fun h=>eI (if h<0 then some true else eI (ix a c) fun k=>eI (E4 o k) fun l=>some l) fun t16=>if t16=true then some (a,b) else eI (ix a c) fun n=>eI (J7 o n h) fun i=>(eI (forR 0 (i.1.length:Int) (W0 i) (a,b)) fun⟨f,d⟩=>some (f,d))) fun⟨g,e⟩=>some (.inl (g,e,w64 (c+1))) else some (.inr (a,b))
noncomputable def ae8(e:b9)(p:List f8):((LL)×Bool)->Option (((LL)×Bool)⊕(LL)):=fun(c,b)=>if b=true then eI (Loop (af3 e p) (c,false,0)) fun⟨d,a⟩=>some (.inl (d,a)) else some (.inr c)
noncomputable def Y5(b:b9)(p:List f8):Option (LL):=eI (Loop (ae8 b p) ([b.init],true)) fun a=>some a
def al2(ov:b9)(a15:(LL)):Int->Li->Option Li:=fun iv4 c3=>eI (eI (ix a15 iv4) fun a28=>eI (E4 ov a28) fun a30=>if(!a30)=true then eI (ix c3 iv4) fun a34=>some (c3.set iv4.toNat 1000000000) else some c3) fun c5=>some c5
noncomputable def al7(o:b9)(p:List f8)(e:(LL)):Int->(Li×Bool)->Option (Li×Bool):=fun a (c,b)=>eI (eI (ix e a) fun h=>eI (I7 p h) fun f=>eI (ix e a) fun i=>eI (E4 o i) fun j=>if(j||(decide (f<0)))=true then some (c,b) else eI (ix e a) fun k=>eI (ab7 o e c k f) fun g=>eI (ix c a) fun l=>if w64 (g+1)<l then eI (ix c a) fun q=>some (c.set a.toNat (w64 (g+1)),true) else some (c,b)) fun⟨n,d⟩=>some (n,d)
noncomputable def ak3(f:b9)(p:List f8)(c:(LL)):(Li×Bool)->Option ((Li×Bool)⊕Li):=fun(e,b)=>if b=true then(eI (forR 0 (gN c:Int) (al7 f p c) (e,false)) fun⟨d,a⟩=>some (.inl (d,a))) else some (.inr e)
def al6(b:Li):Int->Unit->Option (Unit⊕Bool):=fun a _=>eI (ix b a) fun c=>if 1000000000<=c then some (.inr false) else some (.inl ())
noncomputable def ab9(b:b9)(p:List f8):Option Bool:=eI (Y5 b p) fun a=>eI (mkL 8 (gN a:Int) 0) fun c=>(eI (forR 0 (gN a:Int) (al2 b a) c) fun e=>eI (Loop (ak3 b p a) (e,true)) fun d=>(eI (rngX 0 (gN a:Int) (al6 d) ()) fun| .inl _=>some true| .inr x=>some x))
abbrev an3(m:LL):b6:=[]
def I0(m:LL)(j:Int):Int->(LL)->Option (LL):=fun a c=>eI (ix m a) fun d=>eI (subL d 0 j) fun e=>eI (app 8 ([]:Li) e) fun f=>eI (ix m a) fun b=>eI (subL b (j+1) (gN b:Int)) fun g=>eI (app 8 f g) fun h=>eI (app 24 c [h]) fun i=>some i
def H9(m:LL)(d:(LL)->Option Int):Int->(Int×Int)->Option (Int×Int):=fun e (b,a)=>eI (eI (ix m 0) fun f=>eI (ix f e) fun g=>if g=0 then some b else(eI (forR 1 (gN m:Int) (I0 m e) ([]:LL)) fun h=>eI (ix m 0) fun i=>eI (ix i e) fun j=>eI (d h) fun k=>some (w64 (b+(w64 ((w64 (a * j)) * k)))))) fun c=>some (c,w64 (0 - a))
def A0(b:(LL)->Option Int):(LL)->Option Int:=fun m=>if(gN m:Int)=0 then some 1 else(eI (forR 0 (gN m:Int) (H9 m b) (0,1)) fun⟨a,c⟩=>some a)
noncomputable def N4(m:LL):Option Int:=Rec (A0) m
def R6(ov:b9)(states:LL)(ops:Li)(iv6:Int)(a44:(LL)×Li):Int->(Li×Int)->Option (Li×Int):=fun kv9 (c7,sum8)=>eI (eI (ix c7 iv6) fun a57=>eI (ix a44.2 kv9) fun a61=>eI (ix c7 iv6) fun a64=>eI (ix a44.2 kv9) fun a68=>eI (ix ops iv6) fun a74=>eI (ix ov.operators a74) fun a76=>eI (ix a44.1 kv9) fun a84=>eI (E4 ov a84) fun a86=>if(!a86)=true then eI (ix a44.1 kv9) fun a91=>eI (C8 states a91) fun a93=>eI (ix (c7.set iv6.toNat (w64 (a57+a61))) a93) fun a98=>eI (ix a44.2 kv9) fun a102=>eI (ix (c7.set iv6.toNat (w64 (a57+a61))) a93) fun a105=>some ((c7.set iv6.toNat (w64 (a57+a61))).set a93.toNat (w64 (a98 - a102)),w64 (sum8+(w64 (a68 * a76.cost)))) else some (c7.set iv6.toNat (w64 (a57+a61)),w64 (sum8+(w64 (a68 * a76.cost))))) fun⟨c10,sum11⟩=>some (c10,sum11)
noncomputable def ac0(i:b9)(states:LL)(ops:Li):Int->((LL)×Li)->Option ((LL)×Li):=fun a (j,k)=>eI (mkL 8 (gN states:Int) 0) fun f=>eI (ix states a) fun g=>eI (ix ops a) fun h=>eI (J7 i g h) fun b=>(eI (forR 0 (b.1.length:Int) (R6 i states ops a b) (f,0)) fun⟨l,c⟩=>eI (app 24 j [l]) fun d=>eI (app 8 k [c]) fun e=>some (d,e))
def aa7(i:LL)(j:Li)(c:Int):Int->(LL)->Option (LL):=fun a g=>eI (ix i a) fun d=>eI (app 8 ([]:Li) d) fun b=>eI (ix j a) fun e=>eI (ix b c) fun h=>eI (app 24 g [b.set c.toNat e]) fun f=>some f
noncomputable def ac1(states:LL)(f:LL)(g:Li):Int->Li->Option Li:=fun c d=>(eI (forR 0 (gN states:Int) (aa7 f g c) []) fun e=>eI (N4 e) fun a=>eI (app 8 d [a]) fun b=>some b)
def ab8:Int->Li->Option Li:=fun a b=>eI (ix b a) fun c=>eI (ix b a) fun d=>some (b.set a.toNat (w64 (0 - c)))
noncomputable def U4(g:b9)(states:LL)(ops:Li):Option (Li×Int):=(eI (forR 0 (gN states:Int) (ac0 g states ops) ([],[])) fun⟨f,h⟩=>eI (N4 f) fun a=>(eI (forR 0 (gN states:Int) (ac1 states f h) []) fun c=>eI (if a<0 then(eI (forR 0 (gN states:Int) ab8 c) fun d=>some (d,w64 (0 - a))) else some (c,a)) fun⟨e,b⟩=>some (e,b)))
def ar5:(Int×Int×Int)->Option ((Int×Int×Int)⊕(Int×Int)):=fun(b,c,a)=>if((decide (0<b)) && (!(decide (b=c))))=true then eI (eI (chkN 2) fun d=>if(b).tmod 2=0 then eI (chkN 2) fun e=>some (decide ((c).tmod 2=0)) else some false) fun t9=>if t9=true then eI (chkN 2) fun f=>eI (chkN 2) fun g=>some (.inl (w64 ((b).tdiv 2),w64 ((c).tdiv 2),w64 (2 * a))) else eI (chkN 2) fun h=>if(b).tmod 2=0 then eI (chkN 2) fun i=>some (.inl (w64 ((b).tdiv 2),c,a)) else eI (chkN 2) fun j=>if(c).tmod 2=0 then eI (chkN 2) fun k=>some (.inl (b,w64 ((c).tdiv 2),a)) else if c<b then some (.inl (w64 (b - c),c,a)) else some (.inl (b,w64 (c - b),a)) else some (.inr (c,a))
noncomputable def aq8(c:Int)(d:Int):Option Int:=eI (Loop ar5 (c,d,1)) fun⟨b,a⟩=>some (w64 (b * a))
noncomputable def I8(num:Int)(den:Int):Option s8:=eI (aq8 num den) fun a=>eI (chkN a) fun b=>eI (chkN a) fun c=>some (⟨w64 ((num).tdiv a),w64 ((den).tdiv a)⟩:s8)
def af5(b:(LL)×Li):Int->Int->Option Int:=fun c a=>eI (ix b.2 c) fun d=>some (w64 (a+d))
noncomputable def af4(w:b9)(states:LL)(num:Li)(den:Li)(f:(LL)×Li)(g:Int):Int->(Int×Int)->Option (Int×Int):=fun b (s,c)=>eI (eI (ix f.1 b) fun j=>eI (E4 w j) fun k=>if k=true then some (s,c) else eI (ix f.1 b) fun l=>eI (C8 states l) fun h=>eI (ix num h) fun n=>eI (ix den h) fun o=>eI (I8 n o) fun i=>eI (ix f.2 b) fun p=>eI (I8 (w64 (i.num * p)) (w64 (i.den * g))) fun d=>eI (aq8 c d.den) fun a=>eI (chkN a) fun t=>eI (chkN a) fun u=>eI (chkN a) fun v=>eI (I8 (w64 ((w64 (s * (w64 ((d.den).tdiv a))))+(w64 (d.num * (w64 ((c).tdiv a)))))) (w64 ((w64 ((c).tdiv a)) * d.den))) fun e=>some (e.num,e.den)) fun⟨q,r⟩=>some (q,r)
noncomputable def T5(g:b9)(states:LL)(num:Li)(den:Li)(c:Int)(op:Int):Option Bool:=eI (ix states c) fun h=>eI (J7 g h op) fun a=>eI (ix g.operators op) fun i=>(eI (forR 0 (a.2.length:Int) (af5 a) 0) fun d=>(eI (forR 0 (a.1.length:Int) (af4 g states num den a d) (i.cost,1)) fun⟨k,j⟩=>eI (ix num c) fun e=>eI (ix den c) fun f=>eI (I8 e f) fun b=>some ((decide (k=b.num)) && (decide (j=b.den)))))
def ab1(ov:b9)(all:LL)(a34:(List Bool)):Int->(LL)->Option (LL):=fun iv4 c3=>eI (eI (eI (ix a34 iv4) fun a43=>if a43=true then eI (ix all iv4) fun a49=>eI (E4 ov a49) fun a51=>some (!a51) else some false) fun t7=>if t7=true then eI (ix all iv4) fun a57=>eI (app 24 c3 [a57]) fun a60=>some a60 else some c3) fun c5=>some c5
noncomputable def S3(q:b9)(all:LL)(g:(List Bool))(n:LL):Int->(Li×(List f8)×Int)->Option (Li×(List f8)×Int):=fun c (h,i,a)=>eI (ix n c) fun j=>eI (R5 q all g j) fun b=>eI (chkN (gN b:Int)) fun r=>eI (ix b ((a).tmod (gN b:Int))) fun k=>eI (app 8 h [k]) fun l=>eI (ix n c) fun d=>eI (chkN (gN b:Int)) fun o=>eI (ix b ((a).tmod (gN b:Int))) fun e=>eI (app 32 i [(⟨d,e⟩:f8)]) fun f=>eI (chkN (gN b:Int)) fun p=>some (l,f,w64 ((a).tdiv (gN b:Int)))
noncomputable def T3(f:b9)(h:LL)(g:List f8):Int->Bool->Option Bool:=fun c a=>eI (eI (ix h c) fun d=>if a=true then eI (ab9 (⟨f.facts,d,f.goal,f.operators⟩:b9) g) fun e=>some e else some false) fun b=>some b
def S6(b:Li×Int):Int->(Li×Li)->Option (Li×Li):=fun a (d,c)=>eI (eI (eI (ix c a) fun e=>if e=0 then some true else eI (ix b.1 a) fun f=>eI (ix c a) fun g=>eI (ix d a) fun h=>some (decide (w64 (f * g)<w64 (h * b.2)))) fun t36=>if t36=true then eI (ix b.1 a) fun i=>eI (ix d a) fun l=>eI (ix c a) fun n=>some (d.set a.toNat i,c.set a.toNat b.2) else some (d,c)) fun⟨j,k⟩=>some (j,k)
noncomputable def R4(ov:b9)(all:LL)(a34:(List Bool))(c3:LL):(Li×Li×Int)->Option ((Li×Li×Int)⊕(Li×Li)):=fun(c11,c12,kv13)=>eI (C7 ov all) fun a70=>if kv13<a70 then eI ((eI (forR 0 (gN c3:Int) (S3 ov all a34 c3) ([],[],kv13)) fun⟨c20,c21,rest22⟩=>(eI (forR 0 (gN c3:Int) (T3 ov c3 c21) true) fun proper24=>if(!proper24)=true then some (c11,c12) else eI (U4 ov c3 c20) fun a142=>(eI (forR 0 (gN c3:Int) (S6 a142) (c11,c12)) fun⟨c30,c31⟩=>some (c30,c31))))) fun⟨c17,c18⟩=>some (.inl (c17,c18,w64 (kv13+1))) else some (.inr (c11,c12))
noncomputable def S9(n:b9)(o:LL)(i:Li)(j:Li)(c:Int)(e:Int)(d:Li):(Li×Int)->Option ((Li×Int)⊕Li):=fun(b,a)=>if 0<=a then eI (eI (ix d a) fun f=>eI (T5 n o i j e f) fun g=>if g=true then eI (ix d a) fun h=>eI (ix b c) fun l=>some (b.set c.toNat h) else some b) fun k=>some (.inl (k,w64 (a - 1))) else some (.inr b)
noncomputable def R8(s:b9)(all:LL)(n:(List Bool))(t:LL)(f:Li)(g:Li):Int->(Li×Li×Li)->Option (Li×Li×Li):=fun a (h,e,c)=>eI (eI (ix c a) fun u=>eI (ix all a) fun i=>eI (C8 t i) fun b=>if b<0 then some (h,e,c.set a.toNat 1) else eI (ix f b) fun j=>eI (ix e a) fun v=>eI (ix g b) fun k=>eI (ix (c.set a.toNat 1) a) fun w=>eI (ix all a) fun l=>eI (R5 s all n l) fun d=>eI (Loop (S9 s t f g a b d) (h,(gN d:Int) - 1)) fun o=>some (o,e.set a.toNat j,(c.set a.toNat 1).set a.toNat k)) fun⟨p,q,r⟩=>some (p,q,r)
noncomputable def ac3(e:b9)(all:LL):Option (Li×Li×Li):=eI (S0 e all) fun g=>eI (aa8 g) fun a=>(eI (forR 0 (gN all:Int) (ab1 e all a) []) fun f=>eI (mkL 8 (gN f:Int) 0) fun h=>eI (mkL 8 (gN f:Int) 0) fun i=>eI (Loop (R4 e all a f) (h,i,0)) fun⟨j,k⟩=>eI (mkL 8 (gN all:Int) 0) fun b=>eI (mkL 8 (gN all:Int) 0) fun c=>eI (mkL 8 (gN all:Int) 0) fun d=>(eI (forR 0 (gN all:Int) (R8 e all a f j k) (b,c,d)) fun⟨l,n,o⟩=>some (l,n,o)))
def aa6(a:s8):Option Bool:=some ((decide (1000000000<a.num))||(decide (1000000000<a.den)))
def aD9(all:LL)(a:Li)(d:(LL)×Li):Int->Int->Option Int:=fun e b=>eI (eI (ix d.1 e) fun f=>eI (C8 all f) fun g=>eI (ix a g) fun c=>if b<c then some c else some b) fun h=>some h
noncomputable def ref8_Most(d:b9)(all:LL)(a:Li)(e:Li)(op:Int):Option Int:=eI (J7 d e op) fun b=>(eI (forR 0 (b.1.length:Int) (aD9 all a b) 0) fun c=>some c)
noncomputable def ap3(e:b9)(all:LL)(rank:Li)(f:Li)(b:Int):Int->Unit->Option (Unit⊕Int):=fun a _=>eI (eI (J6 e f a) fun c=>if c=true then eI (ref8_Most e all rank f a) fun d=>some (decide (d=b)) else some false) fun t7=>if t7=true then some (.inr a) else some (.inl ())
noncomputable def ap1(b:b9)(all:LL)(rank:Li)(c:Li):Int->Unit->Option (Unit⊕Int):=fun a _=>(eI (rngX 0 (gN b.operators:Int) (ap3 b all rank c a) ()) fun| .inl _=>some (.inl ())| .inr x=>some (.inr x))
noncomputable def X3(a:b9)(all:LL)(rank:Li)(b:Li):Option Int:=(eI (rngX 0 1000000000 (ap1 a all rank b) ()) fun| .inl _=>some (-1)| .inr x=>some x)
noncomputable def ao8(d:b9)(all:LL)(a:Li)(c:Li):Int->Unit->Option (Unit⊕Int):=fun b _=>eI (eI (J6 d c b) fun e=>if e=true then eI (aa8 a) fun f=>eI (Q4 d all f c b) fun g=>if g=true then eI (ab7 d all a c b) fun h=>eI (C8 all c) fun i=>eI (ix a i) fun j=>some (decide (h<j)) else some false else some false) fun t6=>if t6=true then some (.inr b) else some (.inl ())
noncomputable def X4(b:b9)(all:LL)(a:Li)(c:Li):Option Int:=(eI (rngX 0 (gN b.operators:Int) (ao8 b all a c) ()) fun| .inl _=>some (-1)| .inr x=>some x)
def ak5(ov:b9)(c5:List f8)(a19:(LL)):Int->Int->Option Int:=fun iv7 fresh6=>eI (eI (eI (ix a19 iv7) fun a29=>eI (E4 ov a29) fun a31=>if(!a31)=true then eI (ix a19 iv7) fun a37=>eI (I7 c5 a37) fun a39=>some (decide (a39<0)) else some false) fun t10=>if t10=true then some iv7 else some fresh6) fun fresh8=>some fresh8
noncomputable def ak1(c:List f8)(d:Li):((List f8)×Int)->Option (((List f8)×Int)⊕((List f8)×Int)):=fun(b,a)=>eI (if a<(gN c:Int) then eI (ix c a) fun e=>eI (ad4 e.state d) fun f=>some f else some false) fun t25=>if t25=true then eI (ix c a) fun g=>eI (app 32 b [g]) fun h=>some (.inl (h,w64 (a+1))) else some (.inr (b,a))
noncomputable def al1(l:b9)(all:LL)(a:Li)(d:Int):(List f8)->Option ((List f8)⊕(List f8)):=fun f=>eI (Y5 l f) fun e=>(eI (forR 0 (gN e:Int) (ak5 l f e) (-1)) fun b=>if b<0 then some (.inr f) else eI (ix e b) fun c=>eI (C8 all c) fun n=>eI (ix a n) fun o=>eI (if d=1 then eI (X3 l all a c) fun p=>some p else some o) fun g=>eI (if d=2 then eI (X4 l all a c) fun q=>some q else some g) fun h=>eI (Loop (ak1 f c) ([],0)) fun⟨r,i⟩=>eI (app 32 r [(⟨c,h⟩:f8)]) fun s=>eI (subL f i (gN f:Int)) fun j=>eI (app 32 s j) fun k=>some (.inl k))
noncomputable def ap2(c:b9)(all:LL)(a:Li)(b:Int):Option (List f8):=eI (Loop (al1 c all a b) []) fun x=>some x
def s7(f:b9):(Int×Int×Int)->Option ((Int×Int×Int)⊕(Int×Int)):=fun(c,g,a)=>if((decide (a<(gN f.operators:Int))) && (decide (c=0)))=true then eI (eI (ix f.operators a) fun d=>if d.cost=0 then eI (Y3 3 (-5)) fun b=>some (b.code,b.index) else some (c,g)) fun⟨h,e⟩=>some (.inl (h,e,w64 (a+1))) else some (.inr (c,g))
noncomputable def z8(ov:b9)(a19:(List f8)×s8×Bool×u5)(a25:u5):(LL)->Option Bool:=fun all2=>eI (Loop (s7 ov) (a25.code,a25.index,0)) fun⟨c6,c7⟩=>eI (eI (if c6=0 then eI (ag4 ov all2) fun a64=>some (decide (5<(gN a64:Int))) else some false) fun t16=>if t16=true then eI (Y3 10 (-7)) fun a68=>some (a68.code,a68.index) else some (c6,c7)) fun⟨c13,c14⟩=>if c13=0 then eI (C8 all2 ov.init) fun a95=>eI (S0 ov all2) fun a98=>eI (ix a98 a95) fun a100=>if 1000000000<=a100 then eI (if a19.2.2.2.code=0 then if(!a19.2.2.1)=true then if((decide (a19.2.1.num=0)) && (decide (a19.2.1.den=0)))=true then if(a19.1.length:Int)=0 then eI (J4) fun a121=>some a121 else some false else some false else some false else some false) fun t28=>some t28 else eI (C7 ov all2) fun a125=>if 300<=a125 then eI (J4) fun a127=>some a127 else eI (ac3 ov all2) fun a131=>eI (ix a131.2.1 a95) fun a137=>eI (ix a131.2.2 a95) fun a141=>eI (I8 a137 a141) fun a143=>eI (aa6 a143) fun a145=>if a145=true then eI (eI (Y3 10 (-2)) fun a147=>if((decide (a19.2.2.2.code=a147.code)) && (decide (a19.2.2.2.index=a147.index)))=true then if(!a19.2.2.1)=true then if((decide (a19.2.1.num=0)) && (decide (a19.2.1.den=0)))=true then if(a19.1.length:Int)=0 then eI (J4) fun a164=>some a164 else some false else some false else some false else some false) fun t36=>some t36 else eI (if a19.2.2.2.code=0 then if a19.2.2.1=true then if((decide (a19.2.1.num=a143.num)) && (decide (a19.2.1.den=a143.den)))=true then eI (ap2 ov all2 a131.1 3) fun a182=>eI (Y2 a19.1 a182) fun a183=>if a183=true then eI (J4) fun a186=>some a186 else some false else some false else some false else some false) fun t42=>some t42 else eI (if((decide (a19.2.2.2.code=c13)) && (decide (a19.2.2.2.index=c14)))=true then if(!a19.2.2.1)=true then if((decide (a19.2.1.num=0)) && (decide (a19.2.1.den=0)))=true then if(a19.1.length:Int)=0 then eI (J4) fun a90=>some a90 else some false else some false else some false else some false) fun t21=>some t21
noncomputable def H3(ov:b9):Option Bool:=eI (B9 ov) fun a19=>eI (Y8 ov) fun a25=>if a25.code=0 then eI (A7 ov 60) fun a31=>if(!a31.2)=true then eI (J4) fun a36=>some a36 else(z8 ov a19 a25) a31.1 else(z8 ov a19 a25) []
end
mutual
theorem C.no_ok0{id:Id}:∀c:C,c.ok 0=true->c.no id=true
 | .imm _,_=>rfl
 | .own _ _ _,h=>by simp[C.ok] at h
 | .ptr _ _ _,h=>by simp[C.ok] at h
 | .fn _ a,h=>C.noL_ok0 a h
 | .fnb _ a,h=>C.noL_ok0 a h
 | .ifc _ cs _,h=>C.noL_ok0 cs h
 | .map _,h=>by simp[C.ok] at h
theorem C.noL_ok0{id:Id}:∀l:List C,C.okL 0 l=true->C.noL id l=true
 |[],_=>rfl
 |c::r,h=>by simp only[C.okL,fh] at h;simp only[C.noL,fh];exact⟨C.no_ok0 c h.1,C.noL_ok0 r h.2⟩
end
def fnNo{id:Id}(h:C.okL 0 f=true):(C.fn i f).no id=true:=C.noL_ok0 f h
def fnOk{n:Nat}{f:FuncId}{a:List C}(h:C.okL 0 a=true):(C.fn f a).ok n=true:=C.okL_mono (Nat.zero_le n) a h
def fnMv{b:Id->Id}{o:Option T}(h:C.okL 0 f=true)(e:o=some (.c (.fn i f))):o=some ((T.c (.fn i f)).ren b):=by rw[e];simp only[T.ren,C.ren];rw[C.renL_ok (m:=0) (fun a d=>absurd d (Nat.not_lt_zero _)) f h]
def eOk1{n t:Nat}{v:T}{r:Env}(h:v.ok n=true)(a:V7 n r=true):V7 n ((t,v)::r)=true:=by
 simp only[V7,h,a,Bool.and_self]
section
open Go.Proofs
def XAny(id:Id)(k:Nat)(a:List (List I)):C->C->Prop:=fun c b=>c.frz id k a=b
def AOps.frzB{σ0:b6}{env:Env}{ops:Array Oper}{rest:List Oper}{e:List I}{id:Id}{env2:Env}{σ2:b6}(c:fa (gN σ0) id.1=true)(d:a[id]? =some (some (Blk.im k [e])))(b:X9 id (XAny id k [e]) env env2)(i:putF a id none=some p)(f:FrzS id (XAny id k [e]) p σ2)(h:AOps g σ0 n ops l rest (St.mk env2 σ2)):AOps g σ0 n ops l rest (St.mk env a):=AOps.sub (Sub.frzX (fun _ _ h=>h) c d b i f) h
end
end Ab
section
namespace Go.Proofs
open Go.Shelf
open Tryz
def Tryz.lays189_ren:Go.Shelf.Ren:=⟨fun|189=>135|125=>120|257=>155|128=>147|129=>148|294=>171|295=>172|296=>173|297=>174|298=>175|299=>176|216=>153|300=>177|301=>178|328=>187|329=>158|330=>159|331=>188|332=>189|215=>133|343=>195|n=>n,fun|28=>22|3=>3|46=>137|0=>0|51=>118|53=>207|4=>4|183=>215|182=>214|131=>127|5=>5|9=>9|218=>232|222=>236|228=>249|229=>250|n=>n,fun|n=>n⟩
theorem Tryz.lays189:Go.Proofs.Lays.n189 prog Tryz.lays189_ren:={
 mixed:=by kernel_rfl
 f125:=func120.trans (congrArg some (by kernel_rfl))
 f128:=func147.trans (congrArg some (by kernel_rfl))
 f129:=func148.trans (congrArg some (by kernel_rfl))
 f189:=func135.trans (congrArg some (by kernel_rfl))
 f215:=func133.trans (congrArg some (by kernel_rfl))
 f216:=func153.trans (congrArg some (by kernel_rfl))
 f257:=func155.trans (congrArg some (by kernel_rfl))
 f294:=func171.trans (congrArg some (by kernel_rfl))
 f295:=func172.trans (congrArg some (by kernel_rfl))
 f296:=func173.trans (congrArg some (by kernel_rfl))
 f297:=func174.trans (congrArg some (by kernel_rfl))
 f298:=func175.trans (congrArg some (by kernel_rfl))
 f299:=func176.trans (congrArg some (by kernel_rfl))
 f300:=func177.trans (congrArg some (by kernel_rfl))
 f301:=func178.trans (congrArg some (by kernel_rfl))
 f328:=func187.trans (congrArg some (by kernel_rfl))
 f329:=func158.trans (congrArg some (by kernel_rfl))
 f330:=func159.trans (congrArg some (by kernel_rfl))
 f331:=func188.trans (congrArg some (by kernel_rfl))
 f332:=func189.trans (congrArg some (by kernel_rfl))
 f343:=func195.trans (congrArg some (by kernel_rfl))
 t0:=underlying0
 a0:=isAgg0
 z0:=sizeOf0
 v0:=zeroValue0
 t3:=underlying3
 a3:=isAgg3
 z3:=sizeOf3
 v3:=zeroValue3
 t4:=underlying4
 a4:=isAgg4
 z4:=sizeOf4
 v4:=zeroValue4
 t5:=underlying5
 a5:=isAgg5
 z5:=sizeOf5
 v5:=zeroValue5
 t9:=underlying9
 a9:=isAgg9
 z9:=sizeOf9
 v9:=zeroValue9
 t28:=underlying22
 a28:=isAgg22
 z28:=sizeOf22
 v28:=zeroValue22
 t46:=underlying137
 a46:=isAgg137
 z46:=sizeOf137
 v46:=zeroValue137
 t51:=underlying118
 a51:=isAgg118
 z51:=sizeOf118
 v51:=zeroValue118
 t53:=underlying207
 a53:=isAgg207
 z53:=sizeOf207
 v53:=zeroValue207
 t131:=underlying127
 a131:=isAgg127
 z131:=sizeOf127
 v131:=zeroValue127
 t182:=underlying214
 a182:=isAgg214
 z182:=sizeOf214
 v182:=zeroValue214
 t183:=underlying215
 a183:=isAgg215
 z183:=sizeOf215
 v183:=zeroValue215
 t218:=underlying232
 a218:=isAgg232
 z218:=sizeOf232
 v218:=zeroValue232
 t222:=underlying236
 a222:=isAgg236
 z222:=sizeOf236
 v222:=zeroValue236
 t228:=underlying249
 a228:=isAgg249
 z228:=sizeOf249
 v228:=zeroValue249
 t229:=underlying250
 a229:=isAgg250
 z229:=sizeOf250
 v229:=zeroValue250}
open Go.Sort Go.RowKit in
theorem Tryz.slices_Sort_int(blk off cap:Nat)(zs:List Int)(w:World)(hH:Holds (Value.int .i64) w blk off zs.toArray)(hblk:blk<w.heap.size)(hsz:zs.length<4611686018427387904):
  Calls prog 135 #[.slice (some ⟨blk,off,none⟩) zs.length cap] w fun e w'=>
   e=.returned (.tuple #[])/\∃n os,w'=grow (putRow (Value.int .i64) (Sort.ahead w n) blk off (zs.mergeSort fun x y=>decide (x<=y)).toArray) os:=Any.slices_Sort_int Tryz.lays189 blk off cap zs w hH hblk hsz
def Tryz.laysNm220_ren:Go.Shelf.Ren:=⟨fun|20=>136|n=>n,fun|22=>22|3=>3|4=>4|0=>0|n=>n,fun|n=>n⟩
theorem Tryz.laysNm220:Go.Proofs.Lays2.n20 prog Tryz.laysNm220_ren:={
 mixed:=by kernel_rfl
 f20:=func136.trans (congrArg some (by kernel_rfl))
 t0:=underlying0
 a0:=isAgg0
 z0:=sizeOf0
 v0:=zeroValue0
 t3:=underlying3
 a3:=isAgg3
 z3:=sizeOf3
 v3:=zeroValue3
 t4:=underlying4
 a4:=isAgg4
 z4:=sizeOf4
 v4:=zeroValue4
 t22:=underlying22
 a22:=isAgg22
 z22:=sizeOf22
 v22:=zeroValue22
 i3:=by kernel_rfl}
open Go.RowKit Go.Lib Go.Sort in
theorem Tryz.slices_Compact_int(blk off cap:Nat)(zs:List Int)(w:World)(hH:Holds (Value.int .i64) w blk off zs.toArray)(hsz:zs.length<=9223372036854775807)(hcap:zs.length<=cap):
  Calls prog 136 #[.slice (some ⟨blk,off,none⟩) zs.length cap] w fun e w'=>e=.returned (.slice (some ⟨blk,off,none⟩) (Lib.compact zs).length cap)/\∃q,w'=putRow (Value.int .i64) (Sort.ahead w q) blk off (Lib.compact zs++eN (zs.length - (Lib.compact zs).length) 0).toArray:=Any.slices_Compact_int Tryz.laysNm220 blk off cap zs w hH hsz hcap
open Go.RowKit Go.Lib Go.Sort in
theorem Tryz.slices_Compact_int_empty(a:Option Addr)(cap:Nat)(w:World):
  Calls prog 136 #[.slice a 0 cap] w fun e w'=>e=.returned (.slice a 0 cap)/\w'=w:=Any.slices_Compact_int_empty Tryz.laysNm220 a cap w
open Go.RowKit Go.Sort in
theorem Tryz.slices_Sort_int_none(p:Option Addr)(cap:Nat)(w:World):
  Calls prog 135 #[.slice p 0 cap] w fun e w'=>e=.returned (.tuple #[])/\w'=w:=Any.slices_Sort_int_none Tryz.lays189 p cap w
def Tryz.laysSlF6_f126_ren:Go.Shelf.Ren:=⟨fun|6=>126|15=>120|14=>152|28=>147|29=>148|20=>163|21=>164|22=>165|23=>166|24=>167|25=>168|26=>169|27=>170|46=>184|47=>158|48=>159|49=>185|50=>186|57=>194|n=>n,fun|22=>34|24=>22|25=>129|3=>3|39=>137|0=>0|53=>118|55=>207|4=>4|46=>215|45=>214|50=>127|5=>5|9=>9|66=>232|70=>236|76=>249|77=>250|n=>n,fun|n=>n⟩
theorem Tryz.laysSlF6_f126:Go.Proofs.SlLaysF.n6 prog Tryz.laysSlF6_f126_ren:={
 mixed:=by kernel_rfl
 f6:=⟨Tryz.f126.name,by decide,func126.trans (congrArg some (by kernel_rfl))⟩
 f14:=⟨Tryz.f152.name,by decide,func152.trans (congrArg some (by kernel_rfl))⟩
 f15:=func120.trans (congrArg some (by kernel_rfl))
 f20:=⟨Tryz.f163.name,by decide,func163.trans (congrArg some (by kernel_rfl))⟩
 f21:=⟨Tryz.f164.name,by decide,func164.trans (congrArg some (by kernel_rfl))⟩
 f22:=⟨Tryz.f165.name,by decide,func165.trans (congrArg some (by kernel_rfl))⟩
 f23:=⟨Tryz.f166.name,by decide,func166.trans (congrArg some (by kernel_rfl))⟩
 f24:=⟨Tryz.f167.name,by decide,func167.trans (congrArg some (by kernel_rfl))⟩
 f25:=⟨Tryz.f168.name,by decide,func168.trans (congrArg some (by kernel_rfl))⟩
 f26:=⟨Tryz.f169.name,by decide,func169.trans (congrArg some (by kernel_rfl))⟩
 f27:=⟨Tryz.f170.name,by decide,func170.trans (congrArg some (by kernel_rfl))⟩
 f28:=func147.trans (congrArg some (by kernel_rfl))
 f29:=func148.trans (congrArg some (by kernel_rfl))
 f46:=⟨Tryz.f184.name,by decide,func184.trans (congrArg some (by kernel_rfl))⟩
 f47:=func158.trans (congrArg some (by kernel_rfl))
 f48:=func159.trans (congrArg some (by kernel_rfl))
 f49:=⟨Tryz.f185.name,by decide,func185.trans (congrArg some (by kernel_rfl))⟩
 f50:=⟨Tryz.f186.name,by decide,func186.trans (congrArg some (by kernel_rfl))⟩
 f57:=⟨Tryz.f194.name,by decide,func194.trans (congrArg some (by kernel_rfl))⟩
 t0:=underlying0
 a0:=isAgg0
 z0:=sizeOf0
 v0:=zeroValue0
 t3:=underlying3
 a3:=isAgg3
 z3:=sizeOf3
 v3:=zeroValue3
 t4:=underlying4
 a4:=isAgg4
 z4:=sizeOf4
 v4:=zeroValue4
 t5:=underlying5
 a5:=isAgg5
 z5:=sizeOf5
 v5:=zeroValue5
 t9:=underlying9
 a9:=isAgg9
 z9:=sizeOf9
 v9:=zeroValue9
 t22:=underlying34
 a22:=isAgg34
 z22:=sizeOf34
 v22:=zeroValue34
 a24:=isAgg22
 z24:=sizeOf22
 t25:=underlying129
 a25:=isAgg129
 z25:=sizeOf129
 v25:=zeroValue129
 t39:=underlying137
 a39:=isAgg137
 z39:=sizeOf137
 v39:=zeroValue137
 t45:=underlying214
 a45:=isAgg214
 z45:=sizeOf214
 v45:=zeroValue214
 t46:=underlying215
 a46:=isAgg215
 z46:=sizeOf215
 v46:=zeroValue215
 t50:=underlying127
 a50:=isAgg127
 z50:=sizeOf127
 v50:=zeroValue127
 t53:=underlying118
 a53:=isAgg118
 z53:=sizeOf118
 v53:=zeroValue118
 t55:=underlying207
 a55:=isAgg207
 z55:=sizeOf207
 v55:=zeroValue207
 t66:=underlying232
 a66:=isAgg232
 z66:=sizeOf232
 v66:=zeroValue232
 t70:=underlying236
 a70:=isAgg236
 z70:=sizeOf236
 v70:=zeroValue236
 t76:=underlying249
 a76:=isAgg249
 z76:=sizeOf249
 v76:=zeroValue249
 t77:=underlying250
 a77:=isAgg250
 z77:=sizeOf250
 v77:=zeroValue250}
open Go.RowKit Go.Lib Go.Sort in
theorem Tryz.slices_SortFunc_f126{α:Type}[Inhabited α](enc:α->Value)(h1:OneCell enc)(cf:α->α->Int)(hO:SWO (ltOf cf))(g:Nat)(cb:Array Value)(blk off cap:Nat)(d:Array α)(w:World)(eg:∀args w,(callFunc g args).run prog w=.ok (.enter g args) w)(hcmp:CmpLays1 prog g cb enc cf blk off d.size w)(hH:Holds enc w blk off d)(hblk:blk<w.heap.size)(hsz:d.size<4611686018427387904):
  Calls prog 126 #[.slice (some ⟨blk,off,none⟩) d.size cap,.func (.func g) #[] cb] w fun e w'=>
   e=.returned (.tuple #[])/\∃d' n os,PermIn 0 d.size d d'/\SortedIn (ltOf cf) 0 d.size d'/\w'=sortWorld enc w blk off n d' os:=Any.slices_SortFunc Tryz.laysSlF6_f126 enc h1 cf hO g cb blk off cap d w eg hcmp hH hblk hsz
def Tryz.laysSlF06_f126_ren:Go.Shelf.Ren:=⟨fun|6=>126|15=>120|14=>152|28=>147|29=>148|20=>163|21=>164|22=>165|23=>166|24=>167|25=>168|26=>169|27=>170|46=>184|47=>158|48=>159|49=>185|50=>186|57=>194|n=>n,fun|22=>34|24=>22|25=>129|3=>3|39=>137|0=>0|53=>118|55=>207|4=>4|46=>215|45=>214|50=>127|5=>5|9=>9|66=>232|70=>236|76=>249|77=>250|n=>n,fun|n=>n⟩
theorem Tryz.laysSlF06_f126:Go.Proofs.SlLaysF0.n6 prog Tryz.laysSlF06_f126_ren:={
 mixed:=by kernel_rfl
 f6:=⟨Tryz.f126.name,by decide,func126.trans (congrArg some (by kernel_rfl))⟩
 f14:=⟨Tryz.f152.name,by decide,func152.trans (congrArg some (by kernel_rfl))⟩
 f15:=func120.trans (congrArg some (by kernel_rfl))
 f20:=⟨Tryz.f163.name,by decide,func163.trans (congrArg some (by kernel_rfl))⟩
 f21:=⟨Tryz.f164.name,by decide,func164.trans (congrArg some (by kernel_rfl))⟩
 f22:=⟨Tryz.f165.name,by decide,func165.trans (congrArg some (by kernel_rfl))⟩
 f23:=⟨Tryz.f166.name,by decide,func166.trans (congrArg some (by kernel_rfl))⟩
 f24:=⟨Tryz.f167.name,by decide,func167.trans (congrArg some (by kernel_rfl))⟩
 f25:=⟨Tryz.f168.name,by decide,func168.trans (congrArg some (by kernel_rfl))⟩
 f26:=⟨Tryz.f169.name,by decide,func169.trans (congrArg some (by kernel_rfl))⟩
 f27:=⟨Tryz.f170.name,by decide,func170.trans (congrArg some (by kernel_rfl))⟩
 f28:=func147.trans (congrArg some (by kernel_rfl))
 f29:=func148.trans (congrArg some (by kernel_rfl))
 f46:=⟨Tryz.f184.name,by decide,func184.trans (congrArg some (by kernel_rfl))⟩
 f47:=func158.trans (congrArg some (by kernel_rfl))
 f48:=func159.trans (congrArg some (by kernel_rfl))
 f49:=⟨Tryz.f185.name,by decide,func185.trans (congrArg some (by kernel_rfl))⟩
 f50:=⟨Tryz.f186.name,by decide,func186.trans (congrArg some (by kernel_rfl))⟩
 f57:=⟨Tryz.f194.name,by decide,func194.trans (congrArg some (by kernel_rfl))⟩
 t0:=underlying0
 a0:=isAgg0
 z0:=sizeOf0
 v0:=zeroValue0
 t3:=underlying3
 a3:=isAgg3
 z3:=sizeOf3
 v3:=zeroValue3
 t4:=underlying4
 a4:=isAgg4
 z4:=sizeOf4
 v4:=zeroValue4
 t5:=underlying5
 a5:=isAgg5
 z5:=sizeOf5
 v5:=zeroValue5
 t9:=underlying9
 a9:=isAgg9
 z9:=sizeOf9
 v9:=zeroValue9
 t22:=underlying34
 a22:=isAgg34
 z22:=sizeOf34
 v22:=zeroValue34
 t25:=underlying129
 a25:=isAgg129
 z25:=sizeOf129
 v25:=zeroValue129
 t39:=underlying137
 a39:=isAgg137
 z39:=sizeOf137
 v39:=zeroValue137
 t45:=underlying214
 a45:=isAgg214
 z45:=sizeOf214
 v45:=zeroValue214
 t46:=underlying215
 a46:=isAgg215
 z46:=sizeOf215
 v46:=zeroValue215
 t50:=underlying127
 a50:=isAgg127
 z50:=sizeOf127
 v50:=zeroValue127
 t53:=underlying118
 a53:=isAgg118
 z53:=sizeOf118
 v53:=zeroValue118
 t55:=underlying207
 a55:=isAgg207
 z55:=sizeOf207
 v55:=zeroValue207
 t66:=underlying232
 a66:=isAgg232
 z66:=sizeOf232
 v66:=zeroValue232
 t70:=underlying236
 a70:=isAgg236
 z70:=sizeOf236
 v70:=zeroValue236
 t76:=underlying249
 a76:=isAgg249
 z76:=sizeOf249
 v76:=zeroValue249
 t77:=underlying250
 a77:=isAgg250
 z77:=sizeOf250
 v77:=zeroValue250}
open Go.RowKit Go.Lib Go.Sort in
theorem Tryz.slices_SortFunc_none_f126{α:Type}[Inhabited α](p:Option Addr)(cap:Nat)(fv:Value)(w:World):
  Calls prog 126 #[.slice p 0 cap,fv] w fun e w'=>e=.returned (.tuple #[])/\w'=w:=AnyF.slices_SortFunc_none Tryz.laysSlF06_f126 p cap fv w
end Go.Proofs
end
namespace Ab
open Go
section
open Go.Proofs
open Tryz
variable{a p q:b6}{b:World}{c:Id}{n k y:Nat}{d:Ti}{x:Int}{f:List C}{g:Program}{i:FuncId}{A B:Type}{l:Post}{o:Env}{r:Array Oper}{s:Option Nat}{t:String}{v:Array Edge}{H:List Nat}{L:A}{M:List A}{P V:A->List I}{Q:B->List I}{X:A->List B}
def sort_facts:ah5 prog 135:=⟨_,func135,rfl,rfl⟩
def compact_facts:ah5 prog 136:=⟨_,func136,rfl,rfl⟩
def sortL_ok:SortOk prog 135:=fun b d=>sort_fn sort_facts (fun blk c a e w f g h=>Tryz.slices_Sort_int blk c a e w f g h) (fun p a w=>Tryz.slices_Sort_int_none p a w) b d
def compactL_ok:CompactOk prog 136:=fun c=>compact_fn compact_facts (fun blk d b e w f g h=>Tryz.slices_Compact_int blk d b e w f g h) (fun a b w=>Tryz.slices_Compact_int_empty a b w) c
end
section
open Go.Proofs
open Tryz
def sortF_facts:ah5 prog 126:=⟨_,func126,rfl,rfl⟩
def sortF_LLi64_ok:SortFOk prog 126:=fun e f l n _ _ _ h o=>sortF_fn sortF_facts e f l n (fun x _ i q r f g s blk j a d w t b u c k=>Tryz.slices_SortFunc_f126 i q r f g s blk j a d w t b u c k) (fun p a v w=>Tryz.slices_SortFunc_none_f126 (α:=Unit) p a v w) h o
end
section
open Go.Proofs
end
def j7{a:Type}{l:List a}{k:Nat}:ix l (k:Int)=l[k]? :=by simp[ix]
def j9{b:Type}{l:List b}{i:Int}(c:0<=i)(d:i<gN l):∃a,ix l i=some a/\l[i.toNat]? =some a:=by
 have h:i.toNat<gN l:=by omega
 exact⟨l[i.toNat],by simp[ix,c,h],by simp[h]⟩
def m8{b:Type}{l:List b}{i:Int}{a:b}(h:ix l i=some a):0<=i/\i<gN l/\l[i.toNat]? =some a:=by unfold ix at h;split at h;have:=(lG.1 h).1;exact⟨by assumption,by omega,h⟩;cases h
def k9{n:Int}(a: -9223372036854775808<=n)(b:n<=9223372036854775807):w64 n=n:=w64_eq ⟨a,b⟩
def aB7{S:Type}{body:Int->S->Option S}(P:Int->S->Prop):∀(k:Nat) (i:Int) (s:S),P i s->
  (∀j s,i<=j->j<i+k->P j s->∃a,body j s=some a/\P (j+1) a)->∃a,forN body k i s=some a/\P (i+k) a
 |0,i,s,h,_=>⟨s,rfl,by simpa using h⟩
 |k+1,i,s,h,b=>by obtain⟨s1,c,d⟩:=b i s (gK _) (by omega) h;obtain⟨e,f,g⟩:=aB7 P k (i+1) s1 d (fun j s l n=>b j s (by omega) (by omega));exact⟨e,by simp only[forN,c];exact f,by rw[show i+((k+1:Nat):Int)=i+1+k by omega];exact g⟩
def m5{S:Type}{body:Int->S->Option S}{n:Int}(P:Int->S->Prop){s:S}(g:0<=n)(b:P 0 s)
  (c:∀j s,0<=j->j<n->P j s->∃a,body j s=some a/\P (j+1) a):∃a,forR 0 n body s=some a/\P n a:=by
 obtain⟨a,d,e⟩:=aB7 P (n - 0).toNat 0 s b (fun j s f h=>c j s f (by omega))
 exact⟨a,d,by rwa [show(0:Int)+((n - 0).toNat:Int)=n by omega] at e⟩
def rngN_inv{S O:Type}{body:Int->S->Option (S⊕O)}(P:Int->S->Prop)(Q:O->Prop):∀(k:Nat) (i:Int) (s:S),P i s->
  (∀j s,i<=j->j<i+k->P j s->(∃a,body j s=some (.inl a)/\P (j+1) a)\/∃o,body j s=some (.inr o)/\Q o)->
  (∃a,rngN body k i s=some (.inl a)/\P (i+k) a)\/∃o,rngN body k i s=some (.inr o)/\Q o
 |0,i,s,h,_=>.inl ⟨s,rfl,by simpa using h⟩
 |k+1,i,s,h,f=>by rcases f i s (gK _) (by omega) h with⟨s1,b,c⟩|⟨o,b,c⟩;rcases rngN_inv P Q k (i+1) s1 c (fun j s l n=>f j s (by omega) (by omega)) with⟨g,d,e⟩|⟨o,d,e⟩;exact .inl ⟨g,by simp only[rngN,b];exact d,by rw[show i+((k+1:Nat):Int)=i+1+k by omega];exact e⟩;exact .inr ⟨o,by simp only[rngN,b];exact d,e⟩;exact .inr ⟨o,by simp only[rngN,b],c⟩
def ab5{S O:Type}{body:Int->S->Option (S⊕O)}{n:Int}(P:Int->S->Prop)(Q:O->Prop){s:S}(g:0<=n)(b:P 0 s)
  (c:∀j s,0<=j->j<n->P j s->(∃a,body j s=some (.inl a)/\P (j+1) a)\/∃o,body j s=some (.inr o)/\Q o):
  (∃a,rngX 0 n body s=some (.inl a)/\P n a)\/∃o,rngX 0 n body s=some (.inr o)/\Q o:=by
 rcases rngN_inv P Q (n - 0).toNat 0 s b (fun j s d i=>c j s d (by omega)) with⟨a,e,f⟩|h
 ·exact .inl ⟨a,e,by rwa [show(0:Int)+((n - 0).toNat:Int)=n by omega] at f⟩
 ·exact .inr h
def rngX_all{O:Type}{a:Int->Unit->Option (Unit⊕O)}{n:Int}(b:0<=n)(c:∀j,0<=j->j<n->a j ()=some (.inl ())):rngX 0 n a ()=some (.inl ()):=by rcases ab5 (body:=a) (fun _ _=>True) (fun _=>False) (s:=()) b trivial (fun j s d e _=>.inl ⟨(),c j d e,trivial⟩) with⟨f,h,_⟩|⟨o,_,h⟩;exact h;exact h.elim
def LoopN_inv{S O:Type}{a:S->Option (S⊕O)}(P:S->Prop)(Q:O->Prop)(μ:S->Nat)(e:∀s,P s->(∃b,a s=some (.inl b)/\P b/\μ b<μ s)\/∃o,a s=some (.inr o)/\Q o):
  ∀(k:Nat) (s:S),μ s<k->P s->∃o,LoopN a k s=some o/\Q o
 |0,s,h,_=>by omega
 |k+1,s,h,f=>by rcases e s f with⟨b,c,d,j⟩|⟨o,c,d⟩;obtain⟨o,g,i⟩:=LoopN_inv P Q μ e k b (by omega) d;exact⟨o,by simp only[LoopN,c];exact g,i⟩;exact⟨o,by simp only[LoopN,c],d⟩
def x9{S O:Type}{body:S->Option (S⊕O)}(P:S->Prop)(Q:O->Prop)(μ:S->Nat){s:S}(b:P s)
  (c:∀s,P s->(∃a,body s=some (.inl a)/\P a/\μ a<μ s)\/∃o,body s=some (.inr o)/\Q o):∃o,Loop body s=some o/\Q o:=by
 obtain⟨o,d,e⟩:=LoopN_inv P Q μ c (μ s+1) s (by omega) b
 exact⟨o,S7.2 ⟨_,d⟩,e⟩
/-! ### Two loops that do the same -/
def rngN_eq{S O:Type}{b1 b2:Int->S->Option (S⊕O)}(P:Int->S->Prop):∀(k:Nat) (i:Int) (s:S),P i s->
  (∀j s,i<=j->j<i+k->P j s->b1 j s=b2 j s/\b1 j s ≠ none/\∀a,b1 j s=some (.inl a)->P (j+1) a)->
  rngN b1 k i s=rngN b2 k i s/\rngN b1 k i s ≠ none/\∀a,rngN b1 k i s=some (.inl a)->P (i+k) a
 |0,i,s,h,_=>⟨rfl,by simp[rngN],fun a b=>by simp only[rngN,Option.some.injEq,Sum.inl.injEq] at b;subst b;simpa using h⟩
 |k+1,i,s,h,c=>by
  obtain⟨e,f,g⟩:=c i s (gK _) (by omega) h;simp only[rngN];rw[<- e];cases d:b1 i s with
  |none=>exact absurd d f
  |some x=>
   cases x with
   |inr o=>exact⟨rfl,by simp,fun a b=>by simp at b⟩
   |inl s1=>
    dsimp only
    have:=rngN_eq (b1:=b1) (b2:=b2) P k (i+1) s1 (g s1 d) (fun j s l n=>c j s (by omega) (by omega))
    rwa [show i+1+(k:Int)=i+((k+1:Nat):Int) by omega] at this
def rngX_eq{S O:Type}{a b2:Int->S->Option (S⊕O)}{n:Int}(P:Int->S->Prop){s:S}(f:0<=n)(c:P 0 s)
  (d:∀j s,0<=j->j<n->P j s->a j s=b2 j s/\a j s ≠ none/\∀b,a j s=some (.inl b)->P (j+1) b):
  rngX 0 n a s=rngX 0 n b2 s/\rngX 0 n a s ≠ none/\∀b,rngX 0 n a s=some (.inl b)->P n b:=by
 have:=rngN_eq P (n - 0).toNat 0 s c (fun j s e g=>d j s e (by omega))
 rwa [show(0:Int)+((n - 0).toNat:Int)=n by omega] at this
noncomputable def dec(p:Prop):Bool:=@decide p (Classical.propDecidable p)
@[simp] theorem n7 {p:Prop}:dec p=true↔p:=by simp[dec]
@[simp] theorem dec_false {p:Prop}:dec p=false↔¬ p:=by simp[dec]
@[simp] theorem x8 {p:Prop}:(!dec p)=dec (¬ p):=by by_cases h:p<;>simp[dec,h]
def G3{p:Prop}[Decidable p]:decide p=dec p:=by by_cases h:p<;>simp[dec,h]
def l8{p:Prop}(h:p):dec p=true:=n7.2 h
def o8{p:Prop}(h:¬ p):dec p=false:=dec_false.2 h
def r9{p q:Prop}(h:p↔q):dec p=dec q:=by rw[propext h]
def dec_inj{p q:Prop}:dec p=dec q↔(p↔q):=⟨fun h=>⟨fun a=>n7.1 (h ▸ l8 a),fun b=>n7.1 (h.symm ▸ l8 b)⟩,r9⟩
def dec_and{p q:Prop}:(dec p && dec q)=dec (p/\q):=by by_cases h:p<;>by_cases g:q<;>simp[dec,h,g]
def dec_or{p q:Prop}:(dec p||dec q)=dec (p\/q):=by by_cases h:p<;>by_cases g:q<;>simp[dec,h,g]
def bool_dec(b:Bool):b=dec (b=true):=by cases b<;>simp[dec]
def ifP{c:Type}{p:Prop}{a b:c}(h:p):(if dec p=true then a else b)=a:=if_pos (l8 h)
def ifN{c:Type}{p:Prop}{a b:c}(h:¬ p):(if dec p=true then a else b)=b:=if_neg fun g=>h (n7.1 g)
def ifNN{c:Type}{p:Prop}{a b:c}(h:p):(if dec (¬ p)=true then a else b)=b:=ifN (not_not_intro h)
def j8{b:Type}{l:List b}{i:Int}{a:b}(h:ix l i=some a):a ∈ l:=fU (m8 h).2.2
def n9{b:Type}{l:List b}{a:b}(h:a ∈ l):∃i:Int,0<=i/\i<gN l/\ix l i=some a:=by obtain⟨k,hk⟩:=fF h;exact⟨k,by omega,by have:=(lG.1 hk).1;omega,by rw[j7,hk]⟩
def as3{a:Type}{l:List a}{i j:Int}{x:a}(c:0<=i)(d:i<gN l)(b:0<=j):ix (l.set i.toNat x) j=if j=i then some x else ix l j:=by simp only[ix,b,if_true,fO];by_cases h:j=i;subst h;rw[if_pos rfl,if_pos rfl,if_pos (by omega)];rw[if_neg h,if_neg (by omega)]
def F5{O:Type}{body:Int->Unit->Option (Unit⊕O)}{n:Int}(g:Int->Option O)(k:0<=n)
  (l:∀j,0<=j->j<n->(∀i,0<=i->i<j->g i=none)->body j ()=some (match g j with|none=>.inl ()|some o=>.inr o)):
  (rngX 0 n body ()=some (.inl ())/\∀j,0<=j->j<n->g j=none)\/∃j o,0<=j/\j<n/\g j=some o/\(∀i,0<=i->i<j->g i=none)/\rngX 0 n body ()=some (.inr o):=by
 rcases ab5 (body:=body) (n:=n) (fun j _=>∀i,0<=i->i<j->g i=none) (fun o=>∃j,0<=j/\j<n/\g j=some o/\∀i,0<=i->i<j->g i=none) (s:=()) k (fun i a b=>by omega) (fun j s f a d=>by
  have:=l j f a d;cases c:g j with
  |none=>rw[c] at this;exact .inl ⟨(),this,fun i b e=>by rcases gG (gw e) with h|h;exact d i b h;rw[h,c]⟩
  |some o=>rw[c] at this;exact .inr ⟨o,this,j,f,a,c,d⟩) with⟨r,a,b⟩|⟨o,a,j,b,e,p,q⟩
 ·exact .inl ⟨a,b⟩
 ·exact .inr ⟨j,o,b,e,p,q,a⟩
def rng_list{r O:Type}{l:List r}{c:Int->Unit->Option (Unit⊕O)}(q:r->Prop)(b:O)
  (s:∀j a,ix l j=some a->(q a/\c j ()=some (.inl ()))\/(¬ q a/\c j ()=some (.inr b))):
  rngX 0 (gN l:Int) c ()=some (if dec (∀a ∈ l,q a)=true then .inl () else .inr b):=by
 rcases F5 (body:=c) (n:=(gN l:Int)) (fun j=>match ix l j with|some a=>if dec (q a)=true then none else some b|none=>none) (by omega) (fun j k e _=>by obtain⟨a,d,_⟩:=j9 k e;rw[d];rcases s j a d with⟨p,f⟩|⟨p,f⟩;rw[f];simp[p];rw[f];simp[p]) with⟨e,d⟩|⟨j,o,k,e,d,_,f⟩
 ·rw[e,if_pos]
  rw[n7]
  intro a t
  obtain⟨i,g,u,v⟩:=n9 t
  have:=d i g u
  rw[v] at this
  simpa using this
 ·rw[f]
  obtain⟨a,g,_⟩:=j9 k e
  rw[g] at d
  simp only[n7] at d
  split at d
  ·cases d
  ·rename_i w
   cases d
   rw[if_neg]
   rw[n7]
   exact fun h=>w (l8 (h a (j8 g)))
abbrev Inc(l:Li):Prop:=l.Pairwise (· < ·)
def inc_of_adj:∀{l:Li},(∀(k:Nat) a b,l[k]? =some a->l[k+1]? =some b->a<b)->Inc l
 |[],_=>.nil
 |[_],_=>by simp
 |a::b::l,h=>by have f:Inc (b::l):=inc_of_adj fun k x y g i=>h (k+1) x y (by simpa using g) (by simpa using i);have d:a<b:=h 0 a b rfl rfl;refine eO.2 ⟨fun c e=> ?_,f⟩;rcases eR.1 e with rfl|e;exact d;exact Int.lt_trans d ((eO.1 f).1 c e)
def Inc.get{l:Li}(h:Inc l){i j:Nat}{a b:Int}(d:l[i]? =some a)(e:l[j]? =some b)(c:i<j):a<b:=by obtain⟨f,rfl⟩:=lG.1 d;obtain⟨g,rfl⟩:=lG.1 e;exact gc.1 h i j f g c
def Inc.ext:∀{l m:Li},Inc l->Inc m->(∀x,x ∈ l↔x ∈ m)->l=m
 |[],[],_,_,_=>rfl
 |[],b::m,_,_,h=>absurd ((h b).2 (by simp)) (by simp)
 |a::l,[],_,_,h=>absurd ((h a).1 (by simp)) (by simp)
 |a::l,b::m,i,j,h=>by
  obtain⟨l1,k⟩:=eO.1 i;obtain⟨g,n⟩:=eO.1 j;have d:a=b:=by rcases eR.1 ((h a).1 (by simp)) with e|e;exact e;rcases eR.1 ((h b).2 (by simp)) with f|f;exact f.symm;have:=l1 b f;have:=g a e;omega
  subst d;rw[Inc.ext k n fun x=>⟨fun c=> ?_,fun c=> ?_⟩];rcases eR.1 ((h x).1 (by simp[c])) with e|e;have:=l1 x c;omega;exact e;rcases eR.1 ((h x).2 (by simp[c])) with e|e;have:=g x c;omega;exact e
def Inc.filter{l:Li}(h:Inc l)(p:Int->Bool):Inc (l.filter p):=List.Pairwise.filter p h
def nums(a:Int):Nat->Li
 |0=>[]
 |k+1=>a::nums (a+1) k
def aC7{x:Int}:∀{k:Nat} {a:Int},x ∈ nums a k↔a<=x/\x<a+k
 |0,a=>by simp[nums]
 |k+1,a=>by rw[nums,eR,aC7 (k:=k)];omega
def inc_nums:∀(k:Nat) (a:Int),Inc (nums a k)
 |0,_=>.nil
 |k+1,a=>eO.2 ⟨fun x b=>by have:=aC7.1 b;omega,inc_nums k (a+1)⟩
def len_nums:∀(k:Nat) (a:Int),(nums a k).length=k
 |0,_=>rfl
 |k+1,a=>by simp[nums,len_nums k]
noncomputable def V4(p:Int->Prop)(n:Int):Li:=(nums 0 n.toNat).filter fun x=>dec (p x)
def ah2{p:Int->Prop}{n x:Int}:x ∈ V4 p n↔0<=x/\x<n/\p x:=by rw[V4,List.mem_filter,aC7,n7];constructor;rintro ⟨⟨a,c⟩,b⟩;exact⟨a,by omega,b⟩;rintro ⟨a,c,b⟩;exact⟨⟨a,by omega⟩,b⟩
def as7(p:Int->Prop)(n:Int):Inc (V4 p n):=(inc_nums _ _).filter _
def setOf_congr{p q:Int->Prop}{n:Int}(h:∀x,0<=x->x<n->(p x↔q x)):V4 p n=V4 q n:=by refine List.filter_congr fun x a=>r9 ?_;have:=aC7.1 a;exact h x (by omega) (by omega)
def SetN(l:Li)(n:Int):Prop:=Inc l/\∀x ∈ l,0<=x/\x<n
def aC5(p:Int->Prop)(n:Int):SetN (V4 p n) n:=⟨as7 p n,fun x a=>by have:=ah2.1 a;exact⟨this.1,this.2.1⟩⟩
def SetN.eq{l:Li}{n:Int}(h:SetN l n):l=V4 (· ∈ l) n:=
 h.1.ext (as7 _ _) fun x=>⟨fun a=>ah2.2 ⟨(h.2 x a).1,(h.2 x a).2,a⟩,fun a=>(ah2.1 a).2.2⟩
def SetN.eq_of{l:Li}{n:Int}(h:SetN l n){p:Int->Prop}(a:∀x,0<=x->x<n->(x ∈ l↔p x)):l=V4 p n:=
 h.eq.trans (setOf_congr a)
def SetN.len{l:Li}{n:Int}(h:SetN l n):gN l<=n.toNat:=by rw[h.eq,V4];exact fq (fR _ _) (Nat.le_of_eq (len_nums _ _))
def forR_filter{f:Type}{l:List f}{b:Nat}{d:Int->List f->Option (List f)}(q:f->Prop)
  (o:∀j a c,ix l j=some a->(q a->d j c=app b c [a])/\(¬ q a->d j c=some c)) (c0:List f) (t:(gN c0+gN l) * b<=140737488355328):
  forR 0 (gN l:Int) d c0=some (c0++l.filter fun a=>dec (q a)):=by
 obtain⟨z,i,u⟩:=m5 (body:=d) (n:=(gN l:Int)) (s:=c0) (fun j c=>c=c0++(l.take j.toNat).filter fun a=>dec (q a)) (by omega) (by simp) (fun j c v i k=>by
  obtain⟨a,p,w⟩:=j9 v i;have e:(j+1).toNat=j.toNat+1:=by omega
  have r:l.take (j+1).toNat=l.take j.toNat++[a]:=by rw[e,List.take_add_one,w];rfl
  by_cases h:q a;have g:app b c [a]=some (c++[a]):=by
   rw[app,if_pos];have x:((l.take j.toNat).filter fun a=>dec (q a)).length<=(l.take j.toNat).length:=fR _ _;rw[fQ] at x;have y:gN c+1<=gN c0+gN l:=by rw[k,fc];omega
   refine fq (ff b ?_) t;simpa using y
  refine⟨c++[a],by rw[(o j a c p).1 h,g],?_⟩;rw[r,gH,k];simp[h];refine⟨c,(o j a c p).2 h,?_⟩;rw[r,gH,k];simp[h])
 rw[i,u]
 simp
def forR_setOf{b:Nat}{n:Int}{d:Int->Li->Option Li}(q:Int->Prop)(p:0<=n)(r:n.toNat * b<=140737488355328)
  (g:∀j c,0<=j->j<n->(q j->d j c=app b c [j])/\(¬ q j->d j c=some c)):forR 0 n d []=some (V4 q n):=by
 obtain⟨v,i,t⟩:=m5 (body:=d) (n:=n) (s:=[]) (fun j c=>c=V4 q j) p (by simp[V4,nums]) (fun j c k i l=>by
  have o:V4 q (j+1)=V4 q j++if dec (q j)=true then [j] else []:=by refine(as7 q (j+1)).ext ?_ fun x=> ?_;refine List.pairwise_append.2 ⟨as7 _ _,by split<;>simp,fun a u b g=> ?_⟩;have:=ah2.1 u;split at g;simp at g;omega;cases g;rw[List.mem_append,ah2,ah2];by_cases f:q j;rw[if_pos (l8 f)];simp only[List.mem_singleton];refine⟨fun h=> ?_,fun h=> ?_⟩;by_cases e:x=j;exact .inr e;exact .inl ⟨h.1,by omega,h.2.2⟩;rcases h with h|rfl;exact⟨h.1,by omega,h.2.2⟩;exact⟨k,by omega,f⟩;rw[if_neg (by simpa using f)];simp only[List.not_mem_nil,or_false];refine⟨fun h=>⟨h.1,?_,h.2.2⟩,fun h=>⟨h.1,by omega,h.2.2⟩⟩;rcases gG (gw h.2.1) with e|e;exact e;rw[e] at h;exact absurd h.2.2 f
  by_cases f:q j;refine⟨c++[j],?_,by rw[o,l,if_pos (l8 f)]⟩;rw[(g j c k i).1 f,app,if_pos];have w:gN c<=j.toNat:=by rw[l];exact(aC5 q j).len
  refine fq (ff b ?_) r;simp;omega;refine⟨c,(g j c k i).2 f,?_⟩;rw[o,l,if_neg (by simpa using f),List.append_nil])
 rw[i,t]
end Ab
