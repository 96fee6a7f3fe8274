/-
  Texts that the proof stands on.
-/
import Derived.Test.YtnjdfghkeijgnaaGreatDoorKRwChWo1
import Derived.ProofKit
import Derived.Below
import Derived.ChangeSame
import Derived.OpenShut
import Derived.Test.YtnjdfghkeijgnaaGreatDoorChecked
import Derived.KernelRfl
import Derived.MapKept
import Derived.Lib.AppendStr
import Derived.Laws.BytesArg
set_option linter.all false
open Nat renaming eq_of_beq_eq_true->cE,beq->cJ,zero_add->cO,le_of_ble_eq_true->cQ,lt_or_ge->dh,ble->di,mul_le_mul_right->dj,blt->dp,add_mul->dq,le_refl->du,add_zero->dD,le_trans->dG,mul_one->dJ,lt_of_lt_of_le->dM,zero_mul->dP,min->ey,zero_le->eF
open List renaming getElem?_cons_zero->cG,getElem?_eq_getElem->cK,all_eq_true->cL,replicate->cM,getElem?_mapIdx->cN,getElem?_set->cU,mem_of_getElem?->cV,eq_nil_of_length_eq_zero->cW,take_of_length_le->cX,getElem?_append_right->cY,getElem?_append_left->cZ,ext_getElem?->df,length_map->dr,getElem?_replicate->dt,length_append->dw,getElem?_eq_none->dx,drop_zero->dy,map_cons->dA,append_nil->dB,getElem?_take->dC,getElem?_of_mem->dE,mem_filter->dF,size_toArray->dI,take_zero->dL,mem_cons->dN,flatten_cons->dO,getElem_mem->dQ,length_take->dR,getElem?_set_self->dU,getElem?_toArray->dV,getElem?_set_ne->dW,getElem?_append->dX,map_congr_left->dY,mem_map->et,map_replicate->eu,getElem?_drop->ew,filter_congr->eD,length_drop->eG,length->eJ
open Bool renaming and_eq_true->cH,or_eq_true->dK,not_eq_true'->eB
open Option renaming map_some->cS,bind_eq_some_iff->dm,isSome_iff_exists->dH,map_map->eI
open Array renaming getElem?_replicate->dz,toList_modify->dZ,length_toList->er,toList_push->eE,replicate->eH
open Int renaming eq_ofNat_of_zero_le->dS
open Prod renaming mk->eA
namespace Ab
open Go
variable{a:World}{A:Type}{c:List Nat}{d:Program}{g:Ti}{i q:Nat}{p B:b6}{r:List T}{s:Post}{t:Env}{H:Option Nat}{L:String}{M:Array Edge}{P:Od}{Q:Id}{V:A->List I}{X:List (List A)}
section
open Go.RowKit Go.WideShapes Go.ChangeShapes
inductive Sh where
 |int
 |bool
 |sl (l:List Sh) (b:Nat)
 deriving Inhabited
def ay0(P:Program)(g:Ti->Option (List Sh)):Nat->List Field->Option (List Sh)
 |_,[]=>some []
 |a,f::b=>(g f.type).bind fun L=>if cJ f.offset a && cJ (P.cellsOf f.type) (eJ L) then(ay0 P g (a+eJ L) b).map (L++ ·) else none
def shRep(L:List Sh):Nat->List Sh
 |0=>[]
 |n+1=>L++shRep L n
def ae3(P:Program):Nat->Ti->Option (List Sh)
 |0,_=>none
 |n+1,t=>match P.underlying t with
  |some .bool=>some [.bool]
  |some (.int .i64)=>some [.int]
  |some (.slice e)=>(ae3 P n e).bind fun L=>if cJ (P.cellsOf e) (eJ L) then some [.sl L (P.bytesOf e)] else none
  |some (.struct a)=>(ay0 P (ae3 P n) 0 a.toList).bind fun L=>if cJ (P.cellsOf t) (eJ L) then some L else none
  |some (.array m e)=>(ae3 P n e).bind fun L=>if cJ (P.cellsOf e) (eJ L) && cJ (P.cellsOf t) (shRep L m).length then some (shRep L m) else none
  |_=>none
inductive DecL:List Sh->List I->Prop
 |nil:DecL [] []
 |int {n:Int} {f is} (h1: -9223372036854775808<=n) (h2:n<=9223372036854775807) (h:DecL f is):DecL (.int::f) (.val (.int .i64 n)::is)
 |bool {b:Bool} {f is} (h:DecL f is):DecL (.bool::f) (.val (.bool b)::is)
 |sl {L0 b es f is} (he:∀e ∈ es,DecL L0 e) (hw:eJ es * b<=140737488355328) (h:DecL f is):DecL (.sl L0 b::f) (.sl (eJ L0) es::is)
def DecL.length{L:List Sh}{b:List I}(h:DecL L b):eJ b=eJ L:=by
 induction h with
 |nil=>rfl
 |int _ _ _ a=>simp[a]
 |bool _ a=>simp[a]
 |sl _ _ _ _ a=>simp[a]
def DecL.append{L c:List Sh}{d a:List I}(h:DecL L d)(e:DecL c a):DecL (L++c) (d++a):=by
 induction h with
 |nil=>exact e
 |int f g _ b=>exact .int f g b
 |bool _ b=>exact .bool b
 |sl i j _ _ b=>exact .sl i j b
def Shown(w:World)(A:Nat->Prop)(a:List I)(cs:List Vl):Prop:=eJ a=eJ cs/\∀(i:Nat) (x:I) (v:Vl),a[i]? =some x->cs[i]? =some v->RelI w A x v
def Shown.append{A:Nat->Prop}{f b:List I}{cs c:List Vl}(h:Shown a A f cs)(g:Shown a A b c):Shown a A (f++b) (cs++c):=by refine⟨by simp[h.1,g.1],fun i x v hi e=> ?_⟩;rcases dh i (eJ f) with d|d;rw[cZ d] at hi;rw[cZ (by rw[<- h.1];exact d)] at e;exact h.2 i x v hi e;rw[cY d] at hi;rw[cY (by rw[<- h.1];exact d),<- h.1] at e;exact g.2 _ x v hi e
def Shown.one{A:Nat->Prop}{x:I}{v:Vl}(h:RelI a A x v):Shown a A [x] [v]:=by
 refine⟨rfl,fun i y u hi b=> ?_⟩;match i with
 |0=>cases hi;cases b;exact h
 |i+1=>simp at hi
def ex_list{p:Nat->A->Prop}:∀n:Nat,(∀i,i<n->∃a,p i a)->∃l:List A,eJ l=n/\∀i a,l[i]? =some a->p i a
 |0,_=>⟨[],rfl,fun i a h=>by simp at h⟩
 |n+1,h=>by
  obtain⟨l,d,e⟩:=ex_list n fun i hi=>h i (by omega);obtain⟨a,f⟩:=h n (by omega);refine⟨l++[a],by simp[d],fun i b c=> ?_⟩;rcases dh i n with hi|hi;rw[cZ (by omega)] at c;exact e i b c;rw[cY (by omega)] at c;have:i=n:=by have:=(lG.1 c).1;simp at this;omega
  subst this;simp[d] at c;subst c;exact f
def Fits(l:List Nat):Prop:=l.all (· <=reachBytes)=true
def Fits.app{l:List Nat}(h:Fits (l++c)):Fits l/\Fits c:=by unfold Fits at h;rw[List.all_append,cH] at h;exact h
def fits_all{P:Program}:∀{b:List (DataW A)},Fits (DataW.weightsAll P g b)->∀d ∈ b,Fits (d.weights P g)
 |[],_,d,a=>by cases a
 |x::r,h,d,a=>by unfold DataW.weightsAll at h;obtain⟨c,f⟩:=h.app;rcases dN.1 a with rfl|a;exact c;exact fits_all f d a
def fits_each{P:Program}:∀{c:List Ti} {e:List (DataW A)},Fits (DataW.weightsEach P c e)->∀(i:Nat) (t:Ti) (d:DataW A),c[i]? =some t->e[i]? =some d->Fits (d.weights P t)
 |[],_,_,i,t,d,a,_=>by simp at a
 |_::_,[],_,i,t,d,_,b=>by simp at b
 |t0::c,d0::e,h,i,t,d,a,b=>by
  unfold DataW.weightsEach at h;obtain⟨f,g⟩:=h.app;match i with
  |0=>cases a;cases b;exact f
  |i+1=>exact fits_each g i t d (by simpa using a) (by simpa using b)
def Reads(e:Ti×Vl->A)(P:Program)(w:World)(c:Nat)(b:Nat->Bool)(held:Bool)(a:Nat->Prop)(g:Ti->Option (List Sh)):Prop:=
 ∀(t:Ti) (L:List Sh) (d:Nat) (cs:List Vl) (x:DataW A×List MemPlace),g t=some L->DataW.trod e P w c b held d t cs=some x->Fits (x.1.weights P t)->∃f,DecL L f/\Shown w a f cs
def aG1{H:Type}{k:Ti×Vl->H}{base:Nat}{spare:Nat->Bool}{held:Bool}{A:Nat->Prop}{g:Ti->Option (List Sh)}(s:Reads k d a base spare held A g):∀(n:List Field) (b:Nat) (L:List Sh) (cs:List Vl),ay0 d g b n=some L->
  (∀f ∈ n,∃(c:Nat) (x:DataW H×List MemPlace),DataW.trod k d a base spare held c f.type ((cs.drop f.offset).take (d.cellsOf f.type))=some x/\Fits (x.1.weights d f.type))->
  ∃t,DecL L t/\Shown a A t ((cs.drop b).take (eJ L))
 |[],b,L,cs,h,_=>by simp only[ay0,Option.some.injEq] at h;subst h;exact⟨[],.nil,rfl,fun i x v hi=>by simp at hi⟩
 |f::n,b,L,cs,h,u=>by
  simp only[ay0,dm] at h;obtain⟨o,z,j⟩:=h;split at j;rename_i p;simp only[cH] at p;have B:=cE p.1;have b2:=cE p.2;rw[oM] at j;obtain⟨q,j,rfl⟩:=j;obtain⟨c,x,D,l⟩:=u f (by simp);obtain⟨E,F,y⟩:=s _ _ _ _ _ z D l;obtain⟨G,J,K⟩:=aG1 s n _ q cs j fun M r=>u M (by simp[r]);refine⟨E++G,F.append J,?_⟩;rw[B,b2] at y;have e:(cs.drop b).take (o++q).length=(cs.drop b).take (eJ o)++(cs.drop (b+eJ o)).take (eJ q):=by rw[dw,List.take_add,List.drop_drop]
  rw[e];exact y.append K;cases j
def reads_rep{H:Type}{h:Ti×Vl->H}{base:Nat}{spare:Nat->Bool}{held:Bool}{A:Nat->Prop}{b:Ti->Option (List Sh)}(k:Reads h d a base spare held A b){L:List Sh}(l:b g=some L):∀(m c:Nat) (cs:List Vl),
  (∀i,i<m->∃(f:Nat) (x:DataW H×List MemPlace),DataW.trod h d a base spare held f g ((cs.drop (c+i * (eJ L))).take (eJ L))=some x/\Fits (x.1.weights d g))->
  ∃n,DecL (shRep L m) n/\Shown a A n ((cs.drop c).take (shRep L m).length)
 |0,c,cs,_=>⟨[],.nil,rfl,fun i x v hi=>by simp at hi⟩
 |m+1,c,cs,o=>by
  obtain⟨f,x,p,j⟩:=o 0 (by omega);rw[dP,dD] at p;obtain⟨q,r,s⟩:=k _ _ _ _ _ l p j;obtain⟨t,u,y⟩:=reads_rep k l m (c+eJ L) cs fun i hi=>by have:=o (i+1) (by omega);rwa [show c+(i+1) * (eJ L)=c+eJ L+i * (eJ L) by rw[dq];omega] at this
  refine⟨q++t,r.append u,?_⟩;have g:(cs.drop c).take (shRep L (m+1)).length=(cs.drop c).take (eJ L)++(cs.drop (c+eJ L)).take (shRep L m).length:=by rw[shRep,dw,List.take_add,List.drop_drop]
  rw[g];exact s.append y
section
variable{H:Type}{enc:Ti×Vl->H}{P:Program}{w:World}{base:Nat}{spare:Nat->Bool}{held:Bool}{A:Nat->Prop}
theorem aH6(hA:∀b,A b):∀n:Nat,Reads enc P w base spare held A (ae3 P n)
 |0=>fun t L fuel cs x h=>by simp[ae3] at h
 |n+1=>fun t L fuel cs x h hx hfit=>by
  have ih:=aH6 hA n
  unfold ae3 at h
  split at h
  ·rename_i ht
   cases h
   obtain⟨b,rfl,_⟩:=DataW.trod_bool ht hx
   exact⟨[.val (.bool b)],.bool .nil,.one (.val rfl)⟩
  ·rename_i ht
   cases h
   obtain⟨m,rfl,_,hw⟩:=DataW.trod_int ht hx
   have hb: -9223372036854775808<=m/\m<=9223372036854775807:=by
    simp only[Lit.wf,cH,decide_eq_true_eq] at hw
    simpa[IntKind.min,IntKind.max,IntKind.signed,IntKind.bits] using hw
   exact⟨[.val (.int .i64 m)],.int hb.1 hb.2 .nil,.one (.val rfl)⟩
  ·rename_i e ht
   rw[dm] at h
   obtain⟨L0,h0,h⟩:=h
   split at h
   ·rename_i hb
    have hb:=cE hb
    cases h
    rcases DataW.trod_slice ht hx with⟨rfl,_⟩|⟨a,len,cap,elems,rest,m,_,rfl,hxe,hbase,hl,hm,hlen,hel,_,_⟩
    ·exact⟨[.sl L0.length []],.sl (fun e he=>by simp at he) (by simp) .nil,.one .slNil⟩
    ·have hfit:Fits ((elems.map (·.1)).length.add (rest.map (·.1)).length * P.bytesOf e::(DataW.weightsAll P e (elems.map (·.1))++DataW.weightsAll P e (rest.map (·.1)))):=by
      have:=hfit
      rw[hxe] at this
      dsimp only at this
      unfold DataW.weights at this
      rw[ht] at this
      exact this
     obtain⟨fit1,fit2⟩:=Fits.app (l:=[_]) hfit
     have fit3:=(Fits.app fit2).1
     obtain⟨es,e1,e2⟩:=ex_list (p:=fun j is=>DecL L0 is/\∃cs,(∀o,o<L0.length->w.cell? (a.add (j * L0.length+o))=cs[o]?)/\Shown w A is cs) len fun j hj=>by
      have hj':=hel j hj
      rw[cK (by omega),dm] at hj'
      obtain⟨cs,hcs,hy⟩:=hj'
      obtain⟨_,c1,c2⟩:=World.cells?_some hcs
      obtain⟨is,d1,d2⟩:=ih _ _ _ _ _ h0 hy (fits_all fit3 _ (et.2 ⟨_,dQ _,rfl⟩))
      refine⟨is,d1,cs,fun o ho=> ?_,d2⟩
      rw[<- Addr.add_add,<- hb]
      exact c2 o (by rw[hb];exact ho)
     refine⟨[.sl L0.length es],.sl (fun e he=> ?_) ?_ .nil,.one ?_⟩
     ·obtain⟨i,hi⟩:=dE he
      exact(e2 i e hi).1
     ·simp only[Fits,List.all_cons,List.all_nil,Bool.and_true,decide_eq_true_eq,reachBytes,dr] at fit1
      have:es.length * P.bytesOf e<=elems.length.add rest.length * P.bytesOf e:=dj _ (by rw[e1,hlen];exact Nat.le_add_right _ _)
      exact dG this (dG (of_decide_eq_true fit1) (by decide))
     ·subst e1
      have cell:∀(j:Nat) (e:List I) (o:Nat) (x:I),es[j]? =some e->e[o]? =some x->∃u,w.cell? (a.add (j * L0.length+o))=some u/\RelI w A x u:=fun j e o x hj ho=>by
       obtain⟨d1,cs,c1,c2⟩:=e2 j e hj
       have ho':=(lG.1 ho).1
       rw[d1.length] at ho'
       have hcs:o<cs.length:=by rw[<- c2.1,d1.length];exact ho'
       refine⟨cs[o],by rw[c1 o ho'];simp[hcs],c2.2 o x _ ho (by simp[hcs])⟩
      refine .sl (fun j o=>(w.cell? (a.add (j * L0.length+o))).getD undef) hl hm (fun j e hj=>(e2 j e hj).1.length) (fun j e o x hj ho=> ?_) (fun j e o x hj ho=> ?_)
      ·obtain⟨u,hu,_⟩:=cell j e o x hj ho
       rw[hu];exact⟨hA _,rfl⟩
      ·obtain⟨u,hu,hr⟩:=cell j e o x hj ho
       rw[hu];exact hr
   ·cases h
  ·rename_i fs ht
   rw[dm] at h
   obtain⟨L0,h0,h⟩:=h
   split at h
   ·rename_i hb
    have hb:=cE hb
    cases h
    obtain⟨xs,m,_,hxe,hlen,hxs,hf⟩:=DataW.trod_struct ht hx
    obtain⟨is,d1,d2⟩:=aG1 (H:=H) (base:=base) (spare:=spare) (held:=held) (A:=A) ih fs.toList 0 L cs h0 fun f hf'=>by
     obtain⟨i,hi⟩:=dE hf'
     have hi':fs[i]? =some f:=by simpa using hi
     have hl:i<xs.length:=by
      rw[hxs]
      exact(Array.getElem?_eq_some_iff.1 hi').1
     have hfit:Fits (DataW.weightsEach P (fs.toList.map (·.type)) (xs.map (·.1))):=by
      have:=hfit
      rw[hxe] at this
      dsimp only at this
      unfold DataW.weights at this
      rw[ht] at this
      exact this
     exact⟨m,xs[i],by rw[hf i f hi'];simp[hl],fits_each hfit i _ _ (by rw[lM,hi];rfl) (by simp[hl])⟩
    rw[dy,cX (by omega)] at d2
    exact⟨is,d1,d2⟩
   ·cases h
  ·rename_i m e ht
   rw[dm] at h
   obtain⟨L0,h0,h⟩:=h
   split at h
   ·rename_i hb
    simp only[cH] at hb
    have b1:=cE hb.1
    have b2:=cE hb.2
    cases h
    obtain⟨xs,q,_,hxe,hlen,hxs,hf⟩:=Go.DataW.trod_array ht hx
    obtain⟨is,d1,d2⟩:=reads_rep (H:=H) (base:=base) (spare:=spare) (held:=held) (A:=A) ih h0 m 0 cs fun i hi=>by
     have:=hf i hi
     rw[b1] at this
     have hfit:Fits (DataW.weightsAll P e (xs.map (·.1))):=by
      have:=hfit
      rw[hxe] at this
      dsimp only at this
      unfold DataW.weights at this
      rw[ht] at this
      exact this
     refine⟨q,xs[i]'(by omega),?_,fits_all hfit _ (et.2 ⟨_,dQ _,rfl⟩)⟩
     rw[cO,this]
     simp[hxs,hi]
    rw[dy,cX (by omega)] at d2
    exact⟨is,d1,d2⟩
   ·cases h
  ·cases h
end
def ac1(P:Program)(t:Ti)(a:List I):T:=match P.underlying t with
 |some (.struct _)=>.agg (a.map .imm)
 |some (.array _ _)=>.agg (a.map .imm)
 |_=>match a with
  |x::_=>.c (.imm x)
  |[]=>.undef
def ArgT(P:Program)(t:Ti)(x:T):Prop:=∃L a,ae3 P 9 t=some L/\DecL L a/\x=ac1 P t a
def relT_agg{A:Nat->Prop}{j:Phi}{d:List I}{cs:Array Vl}(h:Shown a A d cs.toList):RelT a j p A (.agg (d.map .imm)) (.agg cs):=by
 have e:cs=((List.range (d.map C.imm).length).map fun i=>(cs.toList[i]?).getD undef).toArray:=by apply Array.ext';simp only[];rw[dr,h.1];apply df;intro i;rw[lM];rcases dh i (eJ cs.toList) with b|b;rw[List.getElem?_range b,cS,cK b];rfl;rw[dx b,dx (by simpa using b)];rfl
 rw[e];refine .agg _ fun i c f=> ?_;rw[lM,oM] at f;obtain⟨x,g,rfl⟩:=f;have b:i<eJ cs.toList:=by rw[<- h.1];exact(lG.1 g).1
 rw[cK b];exact .imm (h.2 i x _ g (cK b))
def argT{H:Type}{enc:Ti×Vl->H}{P:Program}{w:World}{base:Nat}{spare:Nat->Bool}{held:Bool}{A:Nat->Prop}{φ:Phi}{σ:b6}(hA:∀b,A b){r:Reach}{b0:Nat}{t:Ti}{v:Vl}{d:DataW H}{ps:List MemPlace}(hs:(ae3 P 9 t).isSome=true)(hok:Value.okWide P w r b0 t v)(hd:DataW.Trod enc P w base spare held t v d ps)(hfit:Fits (d.weights P t)):
  ∃x,ArgT P t x/\RelT w φ σ A x v:=by
 obtain⟨L,hL⟩:=dH.1 hs
 obtain⟨fuel,hf⟩:=hd
 obtain⟨is,d1,d2⟩:=aH6 hA 9 t L fuel _ _ hL hf hfit
 refine⟨ac1 P t is,⟨L,is,hL,d1,rfl⟩,?_⟩
 have hL0:=hL
 unfold ae3 at hL
 split at hL
 ·rename_i ht
  obtain⟨b,rfl⟩:=okWide_bool ht hok
  cases hL
  have hlen:=d1.length
  match is,hlen with
  |[x],_=>
   have:ac1 P t [x]=.c (.imm x):=by simp[ac1,ht]
   rw[this]
   exact .c (.imm (d2.2 0 x _ rfl rfl))
 ·rename_i ht
  obtain⟨b,rfl⟩:=okWide_int ht hok
  cases hL
  have hlen:=d1.length
  match is,hlen with
  |[x],_=>
   have:ac1 P t [x]=.c (.imm x):=by simp[ac1,ht]
   rw[this]
   exact .c (.imm (d2.2 0 x _ rfl rfl))
 ·rename_i e ht
  obtain⟨a,len,cap,rfl⟩:=okWide_slice ht hok
  rw[dm] at hL
  obtain⟨L0,_,hL⟩:=hL
  split at hL
  ·cases hL
   have hlen:=d1.length
   match is,hlen with
   |[x],_=>
    have:ac1 P t [x]=.c (.imm x):=by simp[ac1,ht]
    rw[this]
    exact .c (.imm (d2.2 0 x _ rfl rfl))
  ·cases hL
 ·rename_i fs ht
  obtain⟨cs,rfl,_⟩:=okWide_struct ht hok
  have:ac1 P t is=.agg (is.map .imm):=by simp[ac1,ht]
  rw[this]
  exact relT_agg d2
 ·rename_i m e ht
  have:∃cs,v=.agg cs:=by simp only[Value.okWide,ht] at hok;obtain⟨cs,h1,_⟩:=hok;exact⟨cs,h1⟩
  obtain⟨cs,rfl⟩:=this
  have:ac1 P t is=.agg (is.map .imm):=by simp[ac1,ht]
  rw[this]
  exact relT_agg d2
 ·cases hL
def ArgsT(P:Program):List Ti->List T->Prop
 |[],[]=>True
 |t::a,x::xs=>ArgT P t x/\ArgsT P a xs
 |_,_=>False
def argsT{s:Ti×Vl->A}{P:Program}{g:Nat->Bool}{held:Bool}{c:Nat->Prop}{φ:Phi}{σ:b6}(F:∀b,c b){r:Reach}{L:Nat}:∀{n:List Ti} {vs:List Vl} {z:List (DataW A)} {G:List MemPlace},(∀t ∈ n,(ae3 P 9 t).isSome=true)->
  (∀(j:Nat) t v,n[j]? =some t->vs[j]? =some v->Value.okWide P a r L t v)->DataW.TrodAll s P a i g held n vs z G->Fits (DataW.weightsEach P n z)->
  ∃xs:List T,ArgsT P n xs/\(eJ xs)=eJ vs/\∀(e:Nat) (x:T) (u:Vl),xs[e]? =some x->vs[e]? =some u->RelT a φ σ c x u
 |[],[],[],_,_,_,_,_=>⟨[],trivial,rfl,fun e x u h=>by simp at h⟩
 |t::n,v::vs,d::z,G,J,o,h,f=>by
  unfold DataW.weightsEach at f;obtain⟨k,l⟩:=f.app;obtain⟨p,q,B,D,_⟩:=h;obtain⟨x,M,N⟩:=argT (φ:=φ) (σ:=σ) F (J t (by simp)) (o 0 t v rfl rfl) B k;obtain⟨xs,O,Q,U⟩:=argsT (φ:=φ) (σ:=σ) F (fun E V=>J E (by simp[V])) (fun j E X B D=>o (j+1) E X (by simpa using B) (by simpa using D)) D l;refine⟨x::xs,⟨M,O⟩,by simp[Q],fun e y u hi K=> ?_⟩;match e with
  |0=>cases hi;cases K;exact N
  |e+1=>exact U e y u (by simpa using hi) (by simpa using K)
 |[],[],_::_,_,_,_,h,_=>h.elim
 |[],_::_,_,_,_,_,h,_=>by cases h
 |_::_,[],_,_,_,_,h,_=>by cases h
 |_::_,_::_,[],_,_,_,h,_=>h.elim
def good_all(W:World):Good ⟨W,fun _=>False,fun _=>none,[]⟩:=
 ⟨⟨fun i b h=>by simp at h,fun i j c d p q h=>by simp at h⟩,fun b h=>h.elim,fun i blk b a h=>by simp at h⟩
def al_all(φ:Phi)(b:Nat):Al (fun _=>False) φ [] b:=⟨id,fun i blk a h=>by simp at h⟩
def law_calls{f:FuncId}{j:List T}{vs:List Vl}(o:FnOk d f j [] fun r _=>r=.c (bool true))(p:eJ j=eJ vs)(q:∀(i:Nat) (x:T) (u:Vl),j[i]? =some x->vs[i]? =some u->RelT a (fun _=>none) [] (Al (fun _=>False) (fun _=>none) []) x u):
  Calls d f vs.toArray a fun e l=>e=.returned (.bool true)/\Below a.heap.size a l:=
 (o.run ⟨a,fun _=>False,fun _=>none,[]⟩ vs rfl (good_all a) p q).mono fun e l ⟨v,r,s,t,y,z,b,g⟩=>by
  subst z;cases b with|c b=>cases b with|imm b=>cases b with|val b=>
   exact⟨y,g.os,g.tape,g.output,g.size,fun k hk=>g.block k ⟨hk,fun i blk n h=>by simp at h⟩⟩
def stays_all{c:Ti×Vl->A}{P:Program}(l:laidOutB P=true){W:World}(n:Below W.heap.size W a){e:Nat->Bool}:∀{g:List Ti} {vs:List Vl} {i:List (DataW A)} {f:List MemPlace},(∀t ∈ g,P.readableRec t=true/\t<P.types.size)->
  DataW.TrodAll c P W 0 (fun _=>true) true g vs i f->(∀p ∈ f,p.block<W.heap.size)->(∀p ∈ f,e p.block=true)->DataW.TrodAll c P a 0 e true g vs i f
 |[],[],[],_,_,h,_,_=>h
 |t::g,v::vs,d::i,f,j,h,o,r=>by
  obtain⟨p,q,s,u,rfl⟩:=h;exact⟨p,q,WideElems.Trod_stays l (j t (by simp)).1 (j t (by simp)).2 s (fun x b=>n.same (o x (by simp[b]))) (fun x b=>r x (by simp[b])),
   stays_all l n (fun w k=>j w (by simp[k])) u (fun x b=>o x (by simp[b])) (fun x b=>r x (by simp[b])),rfl⟩
 |[],[],_::_,_,_,h,_,_=>h.elim
 |[],_::_,_,_,_,h,_,_=>by cases h
 |_::_,[],_,_,_,h,_,_=>by cases h
 |_::_,_::_,[],_,_,h,_,_=>h.elim
def trodAll_len{c:Ti×Vl->A}{b:Nat->Bool}{held:Bool}:∀{e:List Ti} {vs:List Vl} {f:List (DataW A)} {g:List MemPlace},DataW.TrodAll c d a i b held e vs f g->eJ f=eJ e
 |[],[],[],_,_=>rfl
 |_::_,_::_,_::_,_,⟨_,_,_,h,_⟩=>by simp[trodAll_len h]
 |[],[],_::_,_,h=>h.elim
 |[],_::_,_,_,h=>by cases h
 |_::_,[],_,_,h=>by cases h
 |_::_,_::_,[],_,h=>h.elim
def law_contract{H:Type}{enc:Ti×Vl->H}{P:Program}{f:FuncId}{fn:Func}{s:ChangeSpec}{tb:Ti}{apart fresh handsOn again:Bool}(hlo:laidOutB P=true)(hp:∀t ∈ fn.params.toList,(P.readableRec t=true/\t<P.types.size)/\(ae3 P 9 t).isSome=true)(hv:s.vars=[])(hr:fn.resultTypes=#[tb])(hb:P.underlying tb=some .bool)
  (hs:∀ds:List (DataW H),eJ ds=eJ fn.params.toList->s.fn H (ds++[])={results:=[.lit (.bool true)],args:=ds})
  (hlaw:∀xs:List T,ArgsT P fn.params.toList xs->FnOk P f xs [] fun r _=>r=.c (bool true))
  {W:World} {base:Nat} {args:Array Vl} {ds gs:List (DataW H)} {before:List MemPlace} (hz:(DataW.weightsEach P (fn.params.toList++s.plain.varTypes P) (ds++gs)).all (· <=reachBytes)=true) (hval:∀(j:Nat) t v,fn.params[j]? =some t->args[j]? =some v->Value.okWide P W .any base t v) (hW:DataW.Whole enc P fn.params.toList s.vars apart W args.toList ds gs before):
  Calls P f args W fun e W'=>∃v,e=.returned v/\s.post enc P fn apart fresh handsOn again W args v W':=by
 obtain⟨p,q,hA,hV,rfl,hfz,hnd⟩:=id hW
 rw[hv] at hV
 obtain⟨rfl,rfl⟩:=trodVars_none hV
 have hfit:Fits (DataW.weightsEach P fn.params.toList ds):=by
  have e:s.plain.varTypes P=[]:=by simp[DataSpec.varTypes,ChangeSpec.plain,hv]
  rw[e,dB,dB] at hz;exact hz
 obtain⟨xs,x1,x2,x3⟩:=argsT (φ:=fun _=>none) (σ:=[]) (al_all fun _=>none) (fun t ht=>(hp t ht).2) (fun j t v h1 h2=>hval j t v (by simpa using h1) (by simpa using h2)) hA hfit
 refine(law_calls (hlaw xs x1) x2 x3).mono fun e W' ⟨he,hbe⟩=>⟨_,he,?_⟩
 have hlt:∀x ∈ p++[],x.block<W.heap.size:=fun x hx=>hW.lt x hx
 have hS:=hs ds (trodAll_len hA)
 have hres:∀(b:Nat) (sp:Nat->Bool) (hd:Bool),DataW.TrodAll enc P W' b sp hd fn.resultTypes.toList ((Value.bool true).resultList fn.resultTypes.size) (s.fn H (ds++[])).results []:=fun b sp hd=>by rw[hS,hr];exact trodAll_mk1 (shut_bool hb true)
 have hargs:∀sp:Nat->Bool,(∀x ∈ p++[],sp x.block=true)->DataW.TrodAll enc P W' 0 sp true fn.params.toList args.toList (s.fn H (ds++[])).args p:=fun sp hsp=>by rw[hS];exact stays_all hlo hbe (fun t ht=>(hp t ht).1) hA (fun x hx=>hlt x (by simp[hx])) (fun x hx=>hsp x (by simp[hx]))
 have hvars:∀sp:Nat->Bool,DataW.TrodVars enc P W' sp s.vars (s.fn H (ds++[])).vars []:=fun sp=>by rw[hS,hv];rfl
 have hold:∀x ∈ p++[],(fun b=>decide (b<W.heap.size)) x.block=true:=fun x hx=>by simpa using hlt x hx
 refine⟨ds,[],p++[],[],p,[],hW,hres _ _ _,hargs _ hold,hvars _,World.keptBut_mono (fun x hx=>⟨hx,?_⟩) (hbe.frame (· ∈ p++[])),fun _=> ?_⟩
 ·simpa using hx
 ·refine⟨ok_one hr rfl (okWide_bool_mk hb true),_,_,([]++p)++[],⟨[]++p,[],trodAll_append (hargs _ (fun _ _=>rfl)) (hres _ _ _),hvars _,rfl,?_,?_⟩,?_⟩
  ·intro b off hx
   have hin:MemPlace.cell b off ∈ p++[]:=by simpa using hx
   rw[hbe.frozen (hlt _ hin)]
   exact hfz b off hin
  ·intro ha
   simpa using hnd ha
  ·intro x hx _
   simpa using hx
end
theorem AOps.shr{P:Program}{σ0:b6}{sz:Nat}{Q:Post}{env:Env}{σv:b6}{ops:Array Oper}{rest:List Oper}{dst:Option Nat}{ty:Ti}{pos:String}{after:Array Edge}{t t':Ti}{x y:Od}{k k':IntKind}{a b c:Int}(hx:ev env x=some (.c (.imm (.val (.int k a)))))(hy:ev env y=some (.c (.imm (.val (.int k' b)))))(hd:f7 sz dst=true)(hb:¬ b<0)(hr:a.fdiv (2 ^ (min b.toNat k.bits))=c)
  (h:AOps P σ0 sz ops Q rest (St.mk (putE env dst (.c (.imm (.val (.int k c))))) σv)):AOps P σ0 sz ops Q (⟨dst,.binOp .shr t x y t',ty,pos,after,none⟩::rest) (St.mk env σv):=
 .bin hx hy hd rfl (fun w=>by simp[go_sem]) (fun w=>by subst hr;simp[binOp,Op.shift,hb]) h
def AOps.andE{env:Env}{ops:Array Oper}{rest:List Oper}{t e:Ti}{y:Od}{k:IntKind}{a b c:Int}(f:ev env P=some (.c (.imm (.val (.int k a)))))(j:ev env y=some (.c (.imm (.val (.int k b)))))(l:f7 i H=true)(n:Go.bits .and k a b=c)(h:AOps d p i ops s rest (St.mk (putE env H (.c (.imm (.val (.int k c))))) B)):AOps d p i ops s (⟨H,.binOp .and t P y e,g,L,M,none⟩::rest) (St.mk env B):=
 .bits f j l (.inl rfl) (by rw[n];exact h)
def AOps.mulE{env:Env}{ops:Array Oper}{rest:List Oper}{t e:Ti}{y:Od}{k:IntKind}{a b c:Int}(f:ev env P=some (.c (.imm (.val (.int k a)))))(j:ev env y=some (.c (.imm (.val (.int k b)))))(l:f7 i H=true)(n:k.wrap (a * b)=c)(h:AOps d p i ops s rest (St.mk (putE env H (.c (.imm (.val (.int k c))))) B)):AOps d p i ops s (⟨H,.binOp .mul t P y e,g,L,M,none⟩::rest) (St.mk env B):=
 .mulW f j l (by rw[n];exact h)
def AOps.addE{env:Env}{ops:Array Oper}{rest:List Oper}{t e:Ti}{y:Od}{k:IntKind}{a b c:Int}(f:ev env P=some (.c (.imm (.val (.int k a)))))(j:ev env y=some (.c (.imm (.val (.int k b)))))(l:f7 i H=true)(n:k.wrap (a+b)=c)(h:AOps d p i ops s rest (St.mk (putE env H (.c (.imm (.val (.int k c))))) B)):AOps d p i ops s (⟨H,.binOp .add t P y e,g,L,M,none⟩::rest) (St.mk env B):=
 .addW f j l (by rw[n];exact h)
def AOps.copy1{env:Env}{ops:Array Oper}{rest:List Oper}{y:Od}{t t' e:Ti}{bytes:Nat}{z:Vl}{n:Nat}{E new:List (List C)}{v:T}[ht:TyD d t (.slice e)][hs:TyS d e 1 bytes z](hx:ev env P=some (.c (.own Q q n)))(J:B[Q]? =some (some (.cells 1 E)))(bb:0<n)(hy:ev env y=some v)(O:Src B 1 v new)(hd:f7 i H=true)(h:AOps d p i ops s rest (St.mk (putE env H (.c (int ((ey (eJ new) n:Nat):Int)))) (B.put Q (some (.cells 1 (E.take q++new.take (ey (eJ new) n)++E.drop (q+(new.take (ey (eJ new) n)).length))))))):
  AOps d p i ops s (⟨H,.call ⟨.builtin .copy,#[P,y],#[t,t']⟩,g,L,M,none⟩::rest) (St.mk env B):=
 .valueW rfl hd _ _ (fun Γ φ a w U=>by
  obtain⟨b',G,r,av,D⟩:=O.shows U hy;have hv:=H1 (i5 U hx) J;rcases hv with⟨_,_,_,h4⟩|⟨b,A,be,F,ay,ad,hp,hv,a0,a4,a5,bi,K,bj⟩;omega;have:=a0 (by omega);subst this;obtain⟨a6,a7,V,X,x,a1⟩:=J8 U J hp;rw[K] at V;cases V;generalize hm:ey (eJ new) n=m;have bk:m<=n:=by rw[<- hm];exact Nat.min_le_right _ _
  have j:m<=eJ new:=by rw[<- hm];exact Nat.min_le_left _ _
  have bs:eJ r=eJ new:=by rw[D.len,dJ]
  have hf:(Builtin.firstCells 1 m (.slice b' (eJ new) G)).run d w=.ok (r.take m).toArray w:=by
   cases b' with
   |none=>
    have aa:new=[]:=D.none rfl
    have a2:m=0:=by rw[aa] at j;simpa using j
    subst a2
    simp[Builtin.firstCells]
   |some ad=>exact run_firstCells_some w 1 m ad (eJ new) G (r.take m) (by simp;omega) (fun f u hi=>by rw[dC] at hi;split at hi;exact D.cell ad rfl f u hi;cases hi)
  have ac:∀u ∈ r.take m,u.oneCell'=true:=fun u hu=>D.one u (List.mem_of_mem_take hu);have al:=run_storeCells_at d b (A+q * 1) ay (r.take m) 0 F w K (by simp;omega) ac;simp only[dD,dJ] at al;have a3:(r.take m).length=m:=by simp;omega
  have an:(new.take m).length=m:=by simp;omega
  rw[an];have ao:∀f:Nat,(E.take q++new.take m++E.drop (q+m))[f]? =if q<=f/\f<q+m then(new.take m)[f - q]? else E[f]? :=fun f=>by have:=D4 E (new.take m) q f (by omega);rwa [an] at this
  have hW:=Rs.write (k:=1) (es':=E.take q++new.take m++E.drop (q+m)) (arr':=(F.toList.take (A+q)++r.take m++F.toList.drop (A+q+(r.take m).length)).toArray) U.toRs J hp K (by simp;omega) (by simp;omega) (fun f e' l=>by
    rw[ao] at l;split at l;rw[dC] at l;split at l;exact D.hk _ _ l;cases l;exact x _ _ l) X (fun f e' o x' l N=>by
    rw[ao] at l;simp only[dV];rw[D4 F.toList (r.take m) (A+q) (A+(f * 1+o)) (by simp;omega)];have ho:o=0:=by
     have a9:eJ e'=1:=by split at l;rw[dC] at l;split at l;exact D.hk _ _ l;cases l;exact x _ _ l
     have:=(lG.1 N).1;omega
    subst ho;rw[a3];by_cases hi:q<=f/\f<q+m;rw[if_pos hi] at l;rw[if_pos (by omega)];rw[dC,if_pos (by omega)] at l;obtain⟨u,hu,hr⟩:=D.rel _ _ _ _ l N;refine⟨u,?_,hr⟩;rw[dC,if_pos (by omega),<- hu];congr 1;omega;rw[if_neg hi] at l;rw[if_neg (by omega)];obtain⟨u,hu,hr⟩:=a1 _ _ _ _ l N;exact⟨u,by simpa using hu,hr⟩)
  refine⟨.int .i64 m,_,φ,?_,.c (.imm (.val rfl)),U.of hW.1 hW.2⟩;have hz:=u3 (P:=d) (t:=e) w;simp[execOp,resolve,invoke,builtin,hv,av,Builtin.copy_,run_underlying ht.h,hz,Builtin.lenOf,hm,hf,al];rfl) h
def AOps.copyE{env:Env}{ops:Array Oper}{rest:List Oper}{y:Od}{t u e:Ti}{bytes:Nat}{z:Vl}{n m:Nat}{k es' new:List (List C)}{v:T}{a:b6}[F:TyD d t (.slice e)][G:TyS d e 1 bytes z](w:ev env P=some (.c (.own Q q n)))(l:B[Q]? =some (some (.cells 1 k)))(o:0<n)(A:ev env y=some v)(b:Src B 1 v new)(D:f7 i H=true)(r:ey (eJ new) n=m)(E:k.take q++new.take m++k.drop (q+m)=es')(f:B.put Q (some (.cells 1 es'))=a)(h:AOps d p i ops s rest (St.mk (putE env H (.c (int (m:Int)))) a)):
  AOps d p i ops s (⟨H,.call ⟨.builtin .copy,#[P,y],#[t,u]⟩,g,L,M,none⟩::rest) (St.mk env B):=by
 subst f
 subst E
 refine .copy1 w l o A b D ?_
 rw[r]
 have:(new.take m).length=m:=by
  rw[dR];have:m<=eJ new:=by rw[<- r];exact Nat.min_le_left _ _
  omega
 rw[this]
 exact h
def AOps.convE{a:Program}{ops:Array Oper}{rest:List Oper}{src d:Ti}{k b:IntKind}{n c:Int}{dd:TypeDesc}[l:TyD a src dd][o:TyD a d (.int b)](e:ev t P=some (.c (.imm (.val (.int k n)))))(f:f7 i H=true)(j:b.wrap n=c)(h:AOps a p i ops s rest (St.mk (putE t H (.c (.imm (.val (.int b c))))) B)):AOps a p i ops s (⟨H,.convert src d P,g,L,M,none⟩::rest) (St.mk t B):=
 .convInt e f (by rw[j];exact h)
def aH2{ops:Array Oper}{rest:List Oper}{o:Oper}(k:o.guard=none){lo hi:Nat}{j n:Nat}{O:List (List C)}(hx:ev t P=some (.c (.own Q j n)))(g:B[Q]? =some (some (.cells q O)))(hb:lo<=hi/\hi<=n)(hd:f7 i o.dst=true)(key:∀(a:Act) (w:World) (A:Phi) (E:Cx),R E i (St.mk t B) A a w->∀(b:Option Addr) (e:Nat),a.eval P=.slice b n e->n<=e->(execOp a.eval o).run d w=.ok (.value (.slice (if e=lo then b else b.map (·.add (lo * q))) (hi - lo) (e - lo))) w)(h:AOps d p i ops s rest (St.mk (putE t o.dst (.c (.own Q (j+lo) (hi - lo)))) B)):AOps d p i ops s (o::rest) (St.mk t B):=
 .value k hd _ (fun E A a w U=>by
  have l:=i5 U hx;have r:Q.1<eJ B:=b6.lt_of g;have D:=H1 l g;have key:=key a w A E U;generalize hu:a.eval P=u at D key;rcases D with⟨h1,h2,h3,h4⟩|⟨b,v,e,F,G,V,hp,D,H,X,x,aa,J,K⟩;subst h3 h4;have h0:hi=0:=by omega
  have L:lo=0:=by omega
  subst h0 L;exact ⟨.slice none 0 0,by rw[key none 0 h2 (by omega)];simp,.c (.own r rfl fun k' M N=> (.inl ⟨h1,rfl,rfl,rfl⟩))⟩;rw[key _ _ D (by omega)];refine⟨_,rfl,.c (.own r rfl fun k' M N=> ?_)⟩;rw[g] at N;cases N;have y:∀f:Addr,(lo<e->f=V.add (lo * q))->ac9 w (A Q) q (eJ O) (j+lo) (hi - lo) (.slice (some f) (hi - lo) (e - lo)):=fun f h'=>by refine .inr ⟨b,v,e - lo,F,G,f,hp,rfl,fun hc=> ?_,by omega,by omega,by omega,J,?_⟩;rw[h' (by omega),H (by omega),J7,dq,Nat.add_assoc];rw[show j+lo+(e - lo)=j+e by omega];exact K
  by_cases z:e=lo;rw[if_pos z];exact y V (fun h=>by omega);rw[if_neg z];exact y _ (fun _=>rfl)) h
def AOps.sliceOwnTo{env:Env}{ops:Array Oper}{rest:List Oper}{r:Od}{t e:Ti}{bytes:Nat}{z:Vl}{l:IntKind}{hi:Nat}{j n:Nat}{D:List (List C)}[E:TyD d t (.slice e)][U:TyS d e q bytes z](F:ev env P=some (.c (.own Q j n)))(o:B[Q]? =some (some (.cells q D)))(G:ev env r=some (.c (.imm (.val (.int l (hi:Int))))))(J:hi<=n)(K:f7 i H=true)(h:AOps d p i ops s rest (St.mk (putE env H (.c (.own Q j hi))) B)):AOps d p i ops s (⟨H,.slice t P none (some r) none,g,L,M,none⟩::rest) (St.mk env B):=
 aH2 (lo:=0) (hi:=hi) rfl F o ⟨eF _,J⟩ K (fun a w X x N b u O A=>by have v:=am5 (P:=d) w (y:=u) (c:=.sliceAcap) (kk:=l) (i:=(hi:Int)) (by omega);simp[execOp,O,A6 N G,Instr.sliceAt,Instr.slice,Instr.sliceBounds,run_underlying E.h,u3 (t:=e),v];done) (by simpa using h)
def AOps.sliceOwnFrom{env:Env}{ops:Array Oper}{rest:List Oper}{l:Od}{t e:Ti}{bytes:Nat}{z:Vl}{r:IntKind}{o:Nat}{j n:Nat}{D:List (List C)}[E:TyD d t (.slice e)][V:TyS d e q bytes z](F:ev env P=some (.c (.own Q j n)))(u:B[Q]? =some (some (.cells q D)))(G:ev env l=some (.c (.imm (.val (.int r (o:Int))))))(J:o<=n)(K:f7 i H=true)(h:AOps d p i ops s rest (St.mk (putE env H (.c (.own Q (j+o) (n - o)))) B)):AOps d p i ops s (⟨H,.slice t P (some l) none none,g,L,M,none⟩::rest) (St.mk env B):=
 aH2 (lo:=o) (hi:=n) rfl F u ⟨J,du _⟩ K (fun a w X x N b O U A=>by have v:=am5 (P:=d) w (y:=n) (c:=.sliceB) (kk:=r) (i:=(o:Int)) (by omega);simp[execOp,U,A6 N G,Instr.sliceAt,Instr.slice,Instr.sliceBounds,run_underlying E.h,u3 (t:=e),v];done) h
/-! ## Words -/
def w64(n:Int):Int:=IntKind.i64.wrap n
def w64_eq{n:Int}(h: -9223372036854775808<=n/\n<=9223372036854775807):w64 n=n:=wrap_i64 h
def ix(l:List A)(i:Int):Option A:=if 0<=i then l[i.toNat]? else none
def app(b:Nat)(l new:List A):Option (List A):=if(eJ l+eJ new) * b<=140737488355328 then some (l++new) else none
def mkL(b:Nat)(n:Int)(z:A):Option (List A):=if 0<=n/\n<=9223372036854775807/\(b:Int) * n<=281474976710656 then some (cM n.toNat z) else none
def subL(l:List A)(a hi:Int):Option (List A):=if 0<=a/\a<=hi/\hi<=eJ l then some ((l.take hi.toNat).drop a.toNat) else none
def quo(a b:Int):Option Int:=if b=0 then none else some (w64 (a.tdiv b))
def rem(a b:Int):Option Int:=if b=0 then none else some (a.tmod b)
def bind_some{a:Type}{m:Option A}{K:A->Option a}{r:a}(h:m.bind K=some r):∃x,m=some x/\K x=some r:=by
 cases m with
 |none=>cases h
 |some x=>exact⟨x,rfl,h⟩
def b2{a b:Type}{m:Option A}{n:A->Option a}{K:A->a->Option b}{r:b}(h:(m.bind fun x=>(n x).bind (K x))=some r):∃x,m=some x/\∃y,n x=some y/\K x y=some r:=by obtain⟨x,c,d⟩:=bind_some h;obtain⟨y,e,f⟩:=bind_some d;exact⟨x,c,y,e,f⟩
def b3{a b c:Type}{m:Option A}{n:A->Option a}{l:A->a->Option c}{K:A->a->c->Option b}{r:b}(h:(m.bind fun x=>(n x).bind fun y=>(l x y).bind (K x y))=some r):∃x,m=some x/\∃y,n x=some y/\∃z,l x y=some z/\K x y z=some r:=by obtain⟨x,d,e⟩:=bind_some h;obtain⟨y,f,z,g⟩:=b2 e;exact⟨x,d,y,f,z,g⟩
def bB{c:Type}{G:Prop}{m:Option A}{K:A->Option c}{r:c}(h:m.bind K=some r)(k:∀x,m=some x->K x=some r->G):G:=by obtain⟨x,a,b⟩:=bind_some h;exact k x a b
def bC{c d:Type}{G:Prop}{m:Option A}{n:A->Option c}{K:A->c->Option d}{r:d}(h:(m.bind fun x=>(n x).bind (K x))=some r)(k:∀x,m=some x->∀y,n x=some y->K x y=some r->G):G:=
  bB h fun x a h=>bB h fun y b h=>k x a y b h
def bD{d e f:Type}{G:Prop}{m:Option A}{n:A->Option d}{l:A->d->Option f}{K:A->d->f->Option e}{r:e}(h:(m.bind fun x=>(n x).bind fun y=>(l x y).bind (K x y))=some r)(k:∀x,m=some x->∀y,n x=some y->∀z,l x y=some z->K x y z=some r->G):G:=
  bB h fun x a h=>bC h fun y b z c h=>k x a y b z c h
def LoopN{O:Type}(a:A->Option (A⊕O)):Nat->A->Option O
 |0,_=>none
 |n+1,s=>match a s with
  |none=>none
  |some (.inl b)=>LoopN a n b
  |some (.inr o)=>some o
def aF0{O:Type}{a:A->Option (A⊕O)}{o:O}:∀{n m:Nat} {s:A},n<=m->LoopN a n s=some o->LoopN a m s=some o
 |0,m,s,_,h=>by cases h
 |n+1,0,s,c,h=>by omega
 |n+1,m+1,s,c,h=>by
  simp only[LoopN] at h ⊢;cases b:a s with
  |none=>rw[b] at h;cases h
  |some x=>
   rw[b] at h
   cases x with
   |inl d=>exact aF0 (by omega) h
   |inr e=>exact h
def LoopN_det{O:Type}{a:A->Option (A⊕O)}{o d:O}{s:A}(h:LoopN a i s=some o)(b:LoopN a q s=some d):o=d:=by rcases Nat.le_total i q with c|c;rw[aF0 c h] at b;exact Option.some.inj b;rw[aF0 c b] at h;exact(Option.some.inj h).symm
noncomputable def Loop{O:Type}(a:A->Option (A⊕O))(s:A):Option O:=match LoopN a 100000 s with
 |some o=>some o
 |none=>open Classical in if h:∃o n,LoopN a n s=some o then some h.choose else none
def al7{O:Type}{a:A->Option (A⊕O)}{s:A}{o:O}:Loop a s=some o↔∃n,LoopN a n s=some o:=by unfold Loop;constructor;intro h;split at h;rename_i c;exact⟨_,c.trans h⟩;split at h;rename_i b;cases h;exact b.choose_spec;cases h;rintro ⟨n,d⟩;split;rename_i c;rw[LoopN_det c d];have b:∃o n,LoopN a n s=some o:=⟨o,n,d⟩;rw[dif_pos b];obtain⟨m,e⟩:=b.choose_spec;rw[LoopN_det e d]
def av5{O:Type}(a:A->Option (A⊕O))(s:A):Loop a s=match a s with
  |none=>none
  |some (.inl d)=>Loop a d
  |some (.inr o)=>some o:=by
 apply Option.ext
 intro o
 rw[al7]
 constructor
 ·rintro ⟨n,b⟩
  cases n with
  |zero=>cases b
  |succ n=>
   simp only[LoopN] at b
   cases c:a s with
   |none=>rw[c] at b;cases b
   |some x=>
    rw[c] at b
    cases x with
    |inl d=>exact al7.2 ⟨n,b⟩
    |inr e=>exact b
 ·intro h
  cases c:a s with
  |none=>rw[c] at h;cases h
  |some x=>
   rw[c] at h
   cases x with
   |inl d=>
    obtain⟨n,b⟩:=al7.1 h
    exact⟨n+1,by simp only[LoopN,c];exact b⟩
   |inr e=>exact⟨1,by simp only[LoopN,c];exact h⟩
def rngN{O:Type}(a:Int->A->Option (A⊕O)):Nat->Int->A->Option (A⊕O)
 |0,_,s=>some (.inl s)
 |n+1,i,s=>match a i s with
  |none=>none
  |some (.inl b)=>rngN a n (i+1) b
  |some (.inr o)=>some (.inr o)
def rngX{O:Type}(b n:Int)(a:Int->A->Option (A⊕O))(s:A):Option (A⊕O):=rngN a (n - b).toNat b s
def forN(a:Int->A->Option A):Nat->Int->A->Option A
 |0,_,s=>some s
 |n+1,i,s=>match a i s with
  |none=>none
  |some b=>forN a n (i+1) b
def forR(a n:Int)(body:Int->A->Option A)(s:A):Option A:=forN body (n - a).toNat a s
/-! ## Rules for code -/
def AWP.U{a:Program}{f:b6}{c d:Code}{p:Prop}[Decidable p]{b e:Option A}{r:A}(g:ev t P=some (.c (bool (decide p))))(h:(if p then b else e)=some r)(j:p->b=some r->AWP a B i c s (St.mk t f))(k:¬ p->e=some r->AWP a B i d s (St.mk t f)):AWP a B i (.cond P c d) s (St.mk t f):=
 .condD g (fun hp=>j hp (by rwa [if_pos hp] at h)) (fun hp=>k hp (by rwa [if_neg hp] at h))
def AWP.iteN{a:Program}{c d:Code}{b:Prop}[Decidable b]{e f:Option A}{r:A}(g:ev t P=some (.c (bool (!decide b))))(h:(if b then e else f)=some r)(j:¬ b->f=some r->AWP a p i c s (St.mk t B))(k:b->e=some r->AWP a p i d s (St.mk t B)):AWP a p i (.cond P c d) s (St.mk t B):=
 .condN g (fun hp=>j hp (by rwa [if_neg hp] at h)) (fun hp=>k hp (by rwa [if_pos hp] at h))
def AWP.O{a:Program}{c d:Code}{b:Bool}{e f:Option A}{r:A}(g:ev t P=some (.c (bool b)))(h:(if b=true then e else f)=some r)(j:b=true->e=some r->AWP a p i c s (St.mk t B))(k:b=false->f=some r->AWP a p i d s (St.mk t B)):AWP a p i (.cond P c d) s (St.mk t B):=
 .cond g (fun hp=>j hp (by rwa [if_pos hp] at h)) (fun hp=>k hp (by rwa [if_neg (by simp[hp])] at h))
def AWP.weak{c:Code}{b:St}(h:AWP d p i c (fun e st=>∃J,Sub p st J/\s e J) b):AWP d p i c s b:=fun o q a w f r t k=>
 wpIn_mono (h o q a w f r t k) fun e u v ⟨z,l,⟨J,x,y⟩,n⟩=>by obtain⟨g,j⟩:=x o i l u v f n;exact⟨J,g,y,j⟩
def AWP.condP{a:Program}{c d:Code}{b:Prop}[Decidable b](e:ev t P=some (.c (bool (decide b))))(hp:b)(h:AWP a p i c s (St.mk t B)):AWP a p i (.cond P c d) s (St.mk t B):=.condD e (fun _=>h) (fun f=>absurd hp f)
def AWP.condNP{a:Program}{c d:Code}{b:Prop}[Decidable b](e:ev t P=some (.c (bool (decide b))))(hp:¬ b)(h:AWP a p i d s (St.mk t B)):AWP a p i (.cond P c d) s (St.mk t B):=.condD e (fun f=>absurd f hp) (fun _=>h)
def EntOk(n:Nat):Ent->Prop
 | .dead=>True
 | .one b=>b.ok n=true
 | .node m s=>∀(p:List Nat) (b:Blk),(Ent.node m s).sub p=some b->b.ok n=true
def StOk(n:Nat):b6->Prop
 |[]=>True
 |e::r=>EntOk n e/\StOk n r
def EntOk.get{n:Nat}{e:Ent}(h:EntOk n e){p:List Nat}{b:Blk}(a:e.sub p=some b):b.ok n=true:=by
 cases e with
 |dead=>cases p<;>cases a
 |one c=>cases p with
  |nil=>cases a;exact h
  |cons=>cases a
 |node m s=>exact h p b a
def StOk.get{n:Nat}:∀{σ:b6},StOk n σ->∀(i:Id) (b:Blk),σ[i]? =some (some b)->b.ok n=true
 |[],_,i,b,h=>by simp at h
 |e::r,h,(0,p),b,a=>by rw[b6.at_eq] at a;simp only[b6.at,cG,Option.some.injEq] at a;exact h.1.get a
 |e::r,h,(i+1,p),b,a=>StOk.get (σ:=r) h.2 (i,p) b (by rw[b6.at_eq] at a ⊢;simpa[b6.at] using a)
def Sub.tail{env a:Env}{σ:b6}(e:∃c,B=σ++c)(h:S7 env a)(f:di (eJ p) (eJ σ)=true)(g:StOk (eJ σ) σ)(k:X8 (eJ σ) a=true):Sub p ⟨env,B⟩ ⟨a,σ⟩:=by obtain⟨c,rfl⟩:=e;refine Sub.mk (fun i=>i) (fun i _=>rfl) (cQ f) (fun i j b l _ _ h=>h) (fun i b hi=>⟨g.get i b hi,?_⟩) (fun t v d=>⟨am7 k t v d,?_⟩);rw[Blk.ren_id,b6.get_left (b6.lt_of hi)];exact hi;rw[T.ren_id];exact h.get t v d
def AWP.seqJ{P:Program}{c d:Code}(J:St)(b:AWP P p i c (thn (fun a=>Sub p a J) s) (St.mk t B))(f:AWP P p i d s J):AWP P p i (.seq c d) s (St.mk t B):=
 .j (b.mono fun e a h=>by
  cases e with
  |normal=>exact AWP.sub h f
  |_=>exact h)
def AWP.seqF{P:Program}{b:Type}{c d:Code}(j:A->Option b)(r:b)(J:A->St)(f:∀x,j x=some r->AWP P p i d s (J x))(g:AWP P p i c (thn (fun a=>∃x,j x=some r/\Sub p a (J x)) s) (St.mk t B)):AWP P p i (.seq c d) s (St.mk t B):=
 .j (g.mono fun e a h=>by
  cases e with
  |normal=>obtain⟨x,k,l⟩:=h;exact AWP.sub l (f x k)
  |_=>exact h)
def AWP.loopS{O:Type}{c:Code}{b:A->Option (A⊕O)}{u:A}{o:O}(h:Loop b u=some o)(F:A->St)(y:O->Post)(z:Sub p (St.mk t B) (F u))(f:∀a k,b a=some k->AWP d p i c (thn (fun st=>∃r,k=.inl r/\Sub p st (F r)) (fun e st=>∃o,k=.inr o/\y o e st)) (F a))(g:∀e a,y o e a->∃J,Sub p a J/\s e J):AWP d p i (.loop c) s (St.mk t B):=by
 obtain⟨n,D⟩:=al7.1 h
 refine AWP.weak ?_
 refine AWP.loop (X:=A×Nat) (fun x=>F x.1) (fun x=>LoopN b x.2 x.1=some o) (fun x=>x.2) (u,n) z D ?_
 rintro ⟨a,n⟩ hi
 dsimp only at hi ⊢
 cases n with
 |zero=>cases hi
 |succ n=>
  simp only[LoopN] at hi
  cases v:b a with
  |none=>rw[v] at hi;cases hi
  |some x=>
   rw[v] at hi
   refine(f a x v).mono fun e st l=> ?_
   cases x with
   |inl r=>
    cases e with
    |normal=>
     obtain⟨w,j,q⟩:=l
     cases j
     exact⟨(r,n),q,hi,Nat.lt_succ_self n⟩
    |_=>obtain⟨k,j,_⟩:=l;cases j
   |inr k=>
    cases hi
    cases e with
    |normal=>obtain⟨w,j,_⟩:=l;cases j
    |_=>obtain⟨k,j,l⟩:=l;cases j;exact g _ _ l
def AWP.rngS{O:Type}{c:Code}{f:Int->A->Option (A⊕O)}{u n:Int}{E:A}{o:A⊕O}(h:rngX u n f E=some o)(F:Int->A->St)(G:A⊕O->Post)(M:Sub p (St.mk t B) (F u E))(w:∀a b,u<=a->¬ a<n->o=.inl b->AWP d p i c (thn (fun _=>False) (G (.inl b))) (F a b))(j:∀a b v,u<=a->a<n->f a b=some v->AWP d p i c (thn (fun st=>∃D,v=.inl D/\Sub p st (F (a+1) D)) (fun e st=>∃o,v=.inr o/\G (.inr o) e st)) (F a b))(g:∀e b,G o e b->∃J,Sub p b J/\s e J):AWP d p i (.loop c) s (St.mk t B):=by
 refine AWP.weak ?_
 refine AWP.loop (X:=A×Int) (fun x=>F x.2 x.1) (fun x=>u<=x.2/\rngN f (n - x.2).toNat x.2 x.1=some o) (fun x=>(n - x.2).toNat) (E,u) M ⟨Int.le_refl _,h⟩ ?_
 rintro ⟨b,a⟩ ⟨q,hi⟩
 dsimp only at hi q ⊢
 by_cases y:a<n
 ·obtain⟨k,hk⟩:∃k,(n - a).toNat=k+1:=⟨(n - a).toNat - 1,by omega⟩
  have H:(n - (a+1)).toNat=k:=by omega
  rw[hk] at hi
  simp only[rngN] at hi
  cases K:f a b with
  |none=>rw[K] at hi;cases hi
  |some x=>
   rw[K] at hi
   refine(j a b x q y K).mono fun e st l=> ?_
   cases x with
   |inl D=>
    cases e with
    |normal=>
     obtain⟨L,r,z⟩:=l
     cases r
     refine⟨(D,a+1),z,⟨by dsimp only;omega,?_⟩,by dsimp only;omega⟩
     dsimp only
     rw[H];exact hi
    |_=>obtain⟨v,r,_⟩:=l;cases r
   |inr v=>
    cases hi
    cases e with
    |normal=>obtain⟨L,r,_⟩:=l;cases r
    |_=>obtain⟨v,r,l⟩:=l;cases r;exact g _ _ l
 ·have:(n - a).toNat=0:=by omega
  rw[this] at hi
  simp only[rngN] at hi
  cases hi
  refine(w a b q y rfl).mono fun e st l=> ?_
  cases e with
  |normal=>exact l.elim
  |_=>exact g _ _ l
def forN_rng{a:Int->A->Option A}{b:A}:∀{n:Nat} {i:Int} {s:A},forN a n i s=some b->rngN (O:=Empty) (fun i s=>(a i s).map .inl) n i s=some (.inl b)
 |0,i,s,h=>by cases h;rfl
 |n+1,i,s,h=>by
  simp only[forN] at h;simp only[rngN];cases c:a i s with
  |none=>rw[c] at h;cases h
  |some x=>
   rw[c] at h
   exact forN_rng h
def AWP.forS{c:Code}{f:Int->A->Option A}{q n:Int}{z o:A}(h:forR q n f z=some o)(F:Int->A->St)(r:A->Post)(E:Sub p (St.mk t B) (F q z))(l:∀a b,q<=a->¬ a<n->o=b->AWP d p i c (thn (fun _=>False) (r b)) (F a b))(g:∀a b u,q<=a->a<n->f a b=some u->AWP d p i c (thn (fun st=>Sub p st (F (a+1) u)) (fun _ _=>False)) (F a b))(j:∀e b,r o e b->∃J,Sub p b J/\s e J):AWP d p i (.loop c) s (St.mk t B):=by
 refine AWP.rngS (O:=Empty) (forN_rng h) F (fun| .inl b=>r b| .inr e=>e.elim) E (fun a b v w k=>l a b v w (by cases k;rfl)) (fun a b u v w k=> ?_) j
 cases y:f a b with
 |none=>rw[y] at k;cases k
 |some x=>
  rw[y] at k
  cases k
  refine(g a b x v w y).mono fun e st D=> ?_
  cases e with
  |normal=>exact⟨x,rfl,D⟩
  |_=>exact D.elim
/-! ## Rules for operations -/
abbrev row{α:Type}(k:Nat)(f:α->List I)(l:List α):C:=.imm (.sl k (l.map f))
abbrev vec(k:Nat)(f:A->List I)(l:List A):Blk:=Blk.im k (l.map f)
def H6{l:List A}{i:Int}{x:A}(h:ix l i=some x):0<=i/\l[i.toNat]? =some x:=by unfold ix at h;split at h;exact⟨‹_›,h⟩;cases h
def S.idx{env:Env}{ops:Array Oper}{rest:List Oper}{f:A->List I}{l:List A}{y:Od}{t e:Ti}{k bytes:Nat}{z:Vl}{o:IntKind}{b:Int}{a:A}{j:List I}[w:TyD d t (.slice e)][D:TyS d e k bytes z](n:ix l b=some a)(q:ev env P=some (.c (row k f l)))(r:ev env y=some (.c (.imm (.val (.int o b)))))(u:f a=j)(v:f7 i H=true)(h:AOps d p i ops s rest (St.mk (putE env H (.c (.imm (.ipt j)))) B)):AOps d p i ops s (⟨H,.indexAddr t P y,g,L,M,none⟩::rest) (St.mk env B):=
 .indexAddr q r (H6 n).1 (by rw[lM,(H6 n).2,<- u];rfl) v h
def S.len{P:Program}{sz:Nat}{env:Env}{ops:Array Oper}{rest:List Oper}{ty:Ti}{f:A->List I}{l:List A}{x:Od}{t e:Ti}{k:Nat}[d:TyD P t (.slice e)](a:ev env x=some (.c (row k f l)))(b:f7 sz H=true)(h:eJ l<=9223372036854775807->AOps P p sz ops s rest (St.mk (putE env H (.c (int (eJ l)))) B)):AOps P p sz ops s (⟨H,.call ⟨.builtin .len,#[x],#[t]⟩,ty,L,M,none⟩::rest) (St.mk env B):=
 .lenB a b h
def S.add{env:Env}{ops:Array Oper}{rest:List Oper}{t e:Ti}{y:Od}{a b:Int}(f:ev env P=some (.c (int a)))(j:ev env y=some (.c (int b)))(k:f7 i H=true)(h:AOps d p i ops s rest (St.mk (putE env H (.c (int (w64 (a+b))))) B)):AOps d p i ops s (⟨H,.binOp .add t P y e,g,L,M,none⟩::rest) (St.mk env B):=.addW f j k h
def S.sub{env:Env}{ops:Array Oper}{rest:List Oper}{t e:Ti}{y:Od}{a b:Int}(f:ev env P=some (.c (int a)))(j:ev env y=some (.c (int b)))(k:f7 i H=true)(h:AOps d p i ops s rest (St.mk (putE env H (.c (int (w64 (a - b))))) B)):AOps d p i ops s (⟨H,.binOp .sub t P y e,g,L,M,none⟩::rest) (St.mk env B):=.subW f j k h
def S.mul{env:Env}{ops:Array Oper}{rest:List Oper}{t e:Ti}{y:Od}{a b:Int}(f:ev env P=some (.c (int a)))(j:ev env y=some (.c (int b)))(k:f7 i H=true)(h:AOps d p i ops s rest (St.mk (putE env H (.c (int (w64 (a * b))))) B)):AOps d p i ops s (⟨H,.binOp .mul t P y e,g,L,M,none⟩::rest) (St.mk env B):=.mulW f j k h
def S.neg{env:Env}{ops:Array Oper}{rest:List Oper}{a:Int}{t:Ti}(b:ev env P=some (.c (int a)))(e:f7 i H=true)(h:AOps d p i ops s rest (St.mk (putE env H (.c (int (w64 (0 - a))))) B)):AOps d p i ops s (⟨H,.unOp .neg t P,g,L,M,none⟩::rest) (St.mk env B):=.neg b e h
def rv{P:Program}{b:Nat}{z:Vl}{d:TypeDesc}(a:Nat)[h:TyD P i d][k:TyS P i q b z](e:B5 d=true):RV.ok P (.cell a i q):=by obtain⟨c,f,g,_⟩:=k.h;exact⟨d,c,h.h,e,f,g⟩
def V7{p:Prop}[Decidable p]{m k:Option A}{r:A}(a:decide p=true)(h:(if p then m else k)=some r):m=some r:=by rwa [if_pos (of_decide_eq_true a)] at h
def V3{p:Prop}[Decidable p]{m k:Option A}{r:A}(a:decide p=false)(h:(if p then m else k)=some r):k=some r:=by rwa [if_neg (of_decide_eq_false a)] at h
def O6{b:Bool}{m k:Option A}{r:A}(a:b=true)(h:(if b=true then m else k)=some r):m=some r:=by rwa [if_pos a] at h
def P0{b:Bool}{m k:Option A}{r:A}(a:b=false)(h:(if b=true then m else k)=some r):k=some r:=by rwa [if_neg (by simp[a])] at h
def ad9{a b:Bool}(h:a=true):(a && b)=b:=by rw[h];rfl
def aa6{a b:Bool}(h:a=false):(a && b)=false:=by rw[h];rfl
def or_t{a b:Bool}(h:a=true):(a||b)=true:=by rw[h];rfl
def or_f{a b:Bool}(h:a=false):(a||b)=b:=by rw[h];rfl
def ArgsT.len{P:Program}:∀{a:List Ti} {xs:List T},ArgsT P a xs->eJ xs=eJ a
 |[],[],_=>rfl
 |_::_,_::_,h=>by simp[ArgsT.len h.2]
 |[],_::_,h=>h.elim
 |_::_,[],h=>h.elim
def dec_int{L:List Sh}{a:List I}(h:DecL (.int::L) a):∃(n:Int) (r:List I),a=.val (.int .i64 n)::r/\(-9223372036854775808<=n/\n<=9223372036854775807)/\DecL L r:=by
 cases h with
 |int b c h=>exact⟨_,_,rfl,⟨b,c⟩,h⟩
def dec_nil{a:List I}(h:DecL [] a):a=[]:=by cases h;rfl
def dec_list{α:Type}{L0:List Sh}{f:α->List I}{p:α->Prop}(hf:∀e,DecL L0 e->∃a,e=f a/\p a):∀{es:List (List I)},(∀e ∈ es,DecL L0 e)->∃l:List α,es=l.map f/\∀a ∈ l,p a
 |[],_=>⟨[],rfl,fun a h=>by simp at h⟩
 |e::es,h=>by obtain⟨a,rfl,ha⟩:=hf e (h e (by simp));obtain⟨l,rfl,hl⟩:=dec_list hf (es:=es) fun e he=>h e (by simp[he]);exact⟨a::l,rfl,fun b hb=>by rcases dN.1 hb with rfl|hb;exact ha;exact hl b hb⟩
def dec_sl{c L:List Sh}{p:A->Prop}(g:∀e,DecL c e->∃a,e=V a/\p a){d:List I}(h:DecL (.sl c i::L) d):∃(l:List A) (r:List I),d=.sl (eJ c) (l.map V)::r/\(eJ l * i<=140737488355328/\∀a ∈ l,p a)/\DecL L r:=by
 cases h with
 |sl j k h=>
  obtain⟨l,rfl,n⟩:=dec_list g j
  exact⟨l,_,rfl,⟨by simpa using k,n⟩,h⟩
section
open Go.Proofs
open Tryz
theorem TyS.of{t bytes:Nat}{z:Vl}(h:(d.info? t).map (fun a=>(a.size,a.bytes,a.zero))=some (i,bytes,some z)):TyS d t i bytes z:=by obtain⟨a,c,b⟩:=oM.1 h;simp only[eA.injEq] at b;exact⟨a,c,b.1,b.2.1,b.2.2⟩
instance:TyD prog 3 (TypeDesc.int IntKind.i64):=⟨underlying3⟩
instance:TyS prog 3 1 8 (.int .i64 0):=.of (by kernel_rfl)
instance:TyZ prog 3 [.imm (.val (.int .i64 0))]:=.of rfl
instance:TyD prog 4 (TypeDesc.bool):=⟨underlying4⟩
instance:TyD prog 5 (TypeDesc.int IntKind.u8):=⟨underlying5⟩
instance:TyS prog 5 1 1 (.int .u8 0):=.of (by kernel_rfl)
instance:TyZ prog 5 [.imm (.val (.int .u8 0))]:=.of rfl
instance:TyD prog 9 (TypeDesc.string):=⟨underlying9⟩
instance:TyD prog 22 (TypeDesc.slice 3):=⟨underlying22⟩
instance:TyS prog 22 1 24 (.slice none 0 0):=.of (by kernel_rfl)
instance:TyZ prog 22 [.imm (.val (.slice none 0 0))]:=.of rfl
instance:TyD prog 23 (TypeDesc.slice 40):=⟨underlying23⟩
instance:TyS prog 23 1 24 (.slice none 0 0):=.of (by kernel_rfl)
@[reducible, instance] def tyq25 := TyD.mk (P := prog) (t := 25) underlying25
instance:TyS prog 25 4 80 (.agg #[.int .i64 0,.slice none 0 0,.slice none 0 0,.slice none 0 0]):=.of (by kernel_rfl)
instance:TyZ prog 25 [.imm (.val (.int .i64 0)),.imm (.val (.slice none 0 0)),.imm (.val (.slice none 0 0)),.imm (.val (.slice none 0 0))]:=.of rfl
instance:FieldC prog 25 0 0 3:=.of rfl rfl rfl
instance:FieldC prog 25 1 1 22:=.of rfl rfl rfl
instance:FieldC prog 25 2 2 22:=.of rfl rfl rfl
instance:FlatC prog 25 4:=.of rfl rfl
instance:TyD prog 26 (TypeDesc.slice 95):=⟨underlying26⟩
@[reducible, instance] def tyq28 := TyD.mk (P := prog) (t := 28) underlying28
instance:TyS prog 28 2 16 (.agg #[.int .i64 0,.int .i64 0]):=.of (by kernel_rfl)
instance:TyZ prog 28 [.imm (.val (.int .i64 0)),.imm (.val (.int .i64 0))]:=.of rfl
instance:FlatC prog 28 2:=.of rfl rfl
@[reducible, instance] def tyq30 := TyD.mk (P := prog) (t := 30) underlying30
instance:TyS prog 30 2 16 (.agg #[.int .i64 0,.int .i64 0]):=.of (by kernel_rfl)
instance:TyZ prog 30 [.imm (.val (.int .i64 0)),.imm (.val (.int .i64 0))]:=.of rfl
instance:FlatC prog 30 2:=.of rfl rfl
instance:TyD prog 34 (TypeDesc.slice 22):=⟨underlying34⟩
instance:TyS prog 34 1 24 (.slice none 0 0):=.of (by kernel_rfl)
instance:TyZ prog 34 [.imm (.val (.slice none 0 0))]:=.of rfl
instance:TyD prog 38 (TypeDesc.slice 88):=⟨underlying38⟩
instance:TyS prog 38 1 24 (.slice none 0 0):=.of (by kernel_rfl)
@[reducible, instance] def tyq40 := TyD.mk (P := prog) (t := 40) underlying40
instance:TyS prog 40 3 56 (.agg #[.slice none 0 0,.slice none 0 0,.int .i64 0]):=.of (by kernel_rfl)
instance:TyZ prog 40 [.imm (.val (.slice none 0 0)),.imm (.val (.slice none 0 0)),.imm (.val (.int .i64 0))]:=.of rfl
instance:FlatC prog 40 3:=.of rfl rfl
instance:TyD prog 53 (TypeDesc.slice 110):=⟨underlying53⟩
instance:TyS prog 53 1 24 (.slice none 0 0):=.of (by kernel_rfl)
@[reducible, instance] def tyq55 := TyD.mk (P := prog) (t := 55) underlying55
instance:TyS prog 55 4 80 (.agg #[.int .i64 0,.slice none 0 0,.slice none 0 0,.slice none 0 0]):=.of (by kernel_rfl)
instance:TyZ prog 55 [.imm (.val (.int .i64 0)),.imm (.val (.slice none 0 0)),.imm (.val (.slice none 0 0)),.imm (.val (.slice none 0 0))]:=.of rfl
instance:FlatC prog 55 4:=.of rfl rfl
instance:TyD prog 56 (TypeDesc.slice 111):=⟨underlying56⟩
@[reducible, instance] def tyq70 := TyD.mk (P := prog) (t := 70) underlying70
instance:TyS prog 70 8 160 (.agg #[.int .i64 0,.slice none 0 0,.slice none 0 0,.slice none 0 0,.slice none 0 0,.slice none 0 0,.slice none 0 0,.int .i64 0]):=.of (by kernel_rfl)
instance:TyZ prog 70 [.imm (.val (.int .i64 0)),.imm (.val (.slice none 0 0)),.imm (.val (.slice none 0 0)),.imm (.val (.slice none 0 0)),.imm (.val (.slice none 0 0)),.imm (.val (.slice none 0 0)),.imm (.val (.slice none 0 0)),.imm (.val (.int .i64 0))]:=.of rfl
@[reducible, instance] def tyq77 := TyD.mk (P := prog) (t := 77) underlying77
instance:TyS prog 77 2 48 (.agg #[.slice none 0 0,.slice none 0 0]):=.of (by kernel_rfl)
instance:TyZ prog 77 [.imm (.val (.slice none 0 0)),.imm (.val (.slice none 0 0))]:=.of rfl
instance:FlatC prog 77 2:=.of rfl rfl
@[reducible, instance] def tyq88 := TyD.mk (P := prog) (t := 88) underlying88
instance:TyS prog 88 3 56 (.agg #[.slice none 0 0,.slice none 0 0,.int .i64 0]):=.of (by kernel_rfl)
instance:TyZ prog 88 [.imm (.val (.slice none 0 0)),.imm (.val (.slice none 0 0)),.imm (.val (.int .i64 0))]:=.of rfl
instance:FlatC prog 88 3:=.of rfl rfl
@[reducible, instance] def tyq95 := TyD.mk (P := prog) (t := 95) underlying95
instance:TyS prog 95 2 32 (.agg #[.slice none 0 0,.int .i64 0]):=.of (by kernel_rfl)
instance:TyZ prog 95 [.imm (.val (.slice none 0 0)),.imm (.val (.int .i64 0))]:=.of rfl
instance:FlatC prog 95 2:=.of rfl rfl
@[reducible, instance] def tyq110 := TyD.mk (P := prog) (t := 110) underlying110
instance:TyS prog 110 4 80 (.agg #[.slice none 0 0,.slice none 0 0,.slice none 0 0,.int .i64 0]):=.of (by kernel_rfl)
instance:TyZ prog 110 [.imm (.val (.slice none 0 0)),.imm (.val (.slice none 0 0)),.imm (.val (.slice none 0 0)),.imm (.val (.int .i64 0))]:=.of rfl
instance:FlatC prog 110 4:=.of rfl rfl
instance:TyD prog 111 (TypeDesc.array 2 3):=⟨underlying111⟩
instance:TyS prog 111 2 16 (.agg #[.int .i64 0,.int .i64 0]):=.of (by kernel_rfl)
instance:TyZ prog 111 [.imm (.val (.int .i64 0)),.imm (.val (.int .i64 0))]:=.of rfl
instance:TyD prog 112 (TypeDesc.pointer 166):=⟨underlying112⟩
instance:TyD prog 113 (TypeDesc.slice 118):=⟨underlying113⟩
instance:TyS prog 113 1 24 (.slice none 0 0):=.of (by kernel_rfl)
instance:TyZ prog 113 [.imm (.val (.slice none 0 0))]:=.of rfl
instance:TyD prog 116 (TypeDesc.map 118 3):=⟨underlying116⟩
instance:TyD prog 118 (TypeDesc.int IntKind.u32):=⟨underlying118⟩
instance:TyS prog 118 1 4 (.int .u32 0):=.of (by kernel_rfl)
instance:TyZ prog 118 [.imm (.val (.int .u32 0))]:=.of rfl
instance:TyD prog 122 (TypeDesc.slice 34):=⟨underlying122⟩
instance:TyD prog 137 (TypeDesc.int IntKind.u64):=⟨underlying137⟩
instance:TyD prog 148 (TypeDesc.map 118 158):=⟨underlying148⟩
instance:TyS prog 148 1 8 (.map none):=.of (by kernel_rfl)
instance:TyZ prog 148 [.imm (.val (.map none))]:=.of rfl
@[reducible, instance] def tyq157 := TyD.mk (P := prog) (t := 157) underlying157
instance:TyS prog 157 3 24 (.agg #[.int .i64 0,.int .i64 0,.int .u32 0]):=.of (by kernel_rfl)
instance:TyZ prog 157 [.imm (.val (.int .i64 0)),.imm (.val (.int .i64 0)),.imm (.val (.int .u32 0))]:=.of rfl
instance:FlatC prog 157 3:=.of rfl rfl
instance:TyD prog 158 (TypeDesc.slice 160):=⟨underlying158⟩
instance:TyS prog 158 1 24 (.slice none 0 0):=.of (by kernel_rfl)
@[reducible, instance] def tyq160 := TyD.mk (P := prog) (t := 160) underlying160
instance:TyS prog 160 2 16 (.agg #[.int .u32 0,.int .i64 0]):=.of (by kernel_rfl)
instance:TyZ prog 160 [.imm (.val (.int .u32 0)),.imm (.val (.int .i64 0))]:=.of rfl
instance:FlatC prog 160 2:=.of rfl rfl
instance:TyD prog 164 (TypeDesc.slice 179):=⟨underlying164⟩
instance:TyS prog 164 1 24 (.slice none 0 0):=.of (by kernel_rfl)
@[reducible, instance] def tyq166 := TyD.mk (P := prog) (t := 166) underlying166
instance:TyS prog 166 3 32 (.agg #[.int .u32 0,.int .u32 0,.slice none 0 0]):=.of (by kernel_rfl)
instance:TyZ prog 166 [.imm (.val (.int .u32 0)),.imm (.val (.int .u32 0)),.imm (.val (.slice none 0 0))]:=.of rfl
instance:FlatC prog 166 3:=.of rfl rfl
instance:TyD prog 168 (TypeDesc.map 9 3):=⟨underlying168⟩
@[reducible, instance] def tyq179 := TyD.mk (P := prog) (t := 179) underlying179
instance:TyS prog 179 4 24 (.agg #[.int .u32 0,.int .u32 0,.int .u32 0,.int .i64 0]):=.of (by kernel_rfl)
instance:TyZ prog 179 [.imm (.val (.int .u32 0)),.imm (.val (.int .u32 0)),.imm (.val (.int .u32 0)),.imm (.val (.int .i64 0))]:=.of rfl
instance:FieldC prog 179 1 1 118:=.of rfl rfl rfl
instance:FieldC prog 179 2 2 118:=.of rfl rfl rfl
instance:FieldC prog 179 3 3 3:=.of rfl rfl rfl
instance:FlatC prog 179 4:=.of rfl rfl
instance:TyD prog 182 (TypeDesc.struct #[]):=⟨underlying182⟩
instance:TyS prog 182 0 0 (.agg #[]):=.of (by kernel_rfl)
instance:TyZ prog 182 []:=.of rfl
instance:TyD prog 183 (TypeDesc.map 118 182):=⟨underlying183⟩
instance:TyS prog 183 1 8 (.map none):=.of (by kernel_rfl)
instance:TyZ prog 183 [.imm (.val (.map none))]:=.of rfl
instance:TyD prog 187 (TypeDesc.map 118 192):=⟨underlying187⟩
instance:TyS prog 187 1 8 (.map none):=.of (by kernel_rfl)
instance:TyD prog 189 (TypeDesc.slice 192):=⟨underlying189⟩
instance:TyS prog 189 1 24 (.slice none 0 0):=.of (by kernel_rfl)
@[reducible, instance] def tyq191 := TyD.mk (P := prog) (t := 191) underlying191
instance:TyS prog 191 3 40 (.agg #[.slice none 0 0,.map none,.int .i64 0]):=.of (by kernel_rfl)
instance:TyZ prog 191 [.imm (.val (.slice none 0 0)),.imm (.val (.map none)),.imm (.val (.int .i64 0))]:=.of rfl
instance:FlatC prog 191 3:=.of rfl rfl
instance:TyD prog 192 (TypeDesc.pointer 195):=⟨underlying192⟩
instance:TyS prog 192 1 8 (.pointer none):=.of (by kernel_rfl)
@[reducible, instance] def tyq195 := TyD.mk (P := prog) (t := 195) underlying195
instance:TyS prog 195 4 32 (.agg #[.int .u32 0,.int .i64 0,.int .i64 0,.int .i64 0]):=.of (by kernel_rfl)
instance:TyZ prog 195 [.imm (.val (.int .u32 0)),.imm (.val (.int .i64 0)),.imm (.val (.int .i64 0)),.imm (.val (.int .i64 0))]:=.of rfl
instance:FieldC prog 195 0 0 118:=.of rfl rfl rfl
instance:FieldC prog 195 1 1 3:=.of rfl rfl rfl
instance:FieldC prog 195 2 2 3:=.of rfl rfl rfl
instance:FieldC prog 195 3 3 3:=.of rfl rfl rfl
instance:FlatC prog 195 4:=.of rfl rfl
instance:TyD prog 197 (TypeDesc.pointer 189):=⟨underlying197⟩
instance:TyD prog 201 (TypeDesc.slice 5):=⟨underlying201⟩
instance:TyS prog 232 1 8 (.int .u64 0):=.of (by kernel_rfl)
instance:TyZ prog 232 [.imm (.val (.int .u64 0))]:=.of rfl
instance:TyS prog 253 24 24 (.agg #[.int .u8 0,.int .u8 0,.int .u8 0,.int .u8 0,.int .u8 0,.int .u8 0,.int .u8 0,.int .u8 0,.int .u8 0,.int .u8 0,.int .u8 0,.int .u8 0,.int .u8 0,.int .u8 0,.int .u8 0,.int .u8 0,.int .u8 0,.int .u8 0,.int .u8 0,.int .u8 0,.int .u8 0,.int .u8 0,.int .u8 0,.int .u8 0]):=.of (by kernel_rfl)
instance:TyZ prog 253 [.imm (.val (.int .u8 0)),.imm (.val (.int .u8 0)),.imm (.val (.int .u8 0)),.imm (.val (.int .u8 0)),.imm (.val (.int .u8 0)),.imm (.val (.int .u8 0)),.imm (.val (.int .u8 0)),.imm (.val (.int .u8 0)),.imm (.val (.int .u8 0)),.imm (.val (.int .u8 0)),.imm (.val (.int .u8 0)),.imm (.val (.int .u8 0)),.imm (.val (.int .u8 0)),.imm (.val (.int .u8 0)),.imm (.val (.int .u8 0)),.imm (.val (.int .u8 0)),.imm (.val (.int .u8 0)),.imm (.val (.int .u8 0)),.imm (.val (.int .u8 0)),.imm (.val (.int .u8 0)),.imm (.val (.int .u8 0)),.imm (.val (.int .u8 0)),.imm (.val (.int .u8 0)),.imm (.val (.int .u8 0))]:=.of rfl
instance:TyS prog 263 20 160 (.agg #[.int .u64 0,.int .u64 0,.int .u64 0,.int .u64 0,.int .u64 0,.int .u64 0,.int .u64 0,.int .u64 0,.int .u64 0,.int .u64 0,.int .u64 0,.int .u64 0,.int .u64 0,.int .u64 0,.int .u64 0,.int .u64 0,.int .u64 0,.int .u64 0,.int .u64 0,.int .u64 0]):=.of (by kernel_rfl)
instance:TyZ prog 263 [.imm (.val (.int .u64 0)),.imm (.val (.int .u64 0)),.imm (.val (.int .u64 0)),.imm (.val (.int .u64 0)),.imm (.val (.int .u64 0)),.imm (.val (.int .u64 0)),.imm (.val (.int .u64 0)),.imm (.val (.int .u64 0)),.imm (.val (.int .u64 0)),.imm (.val (.int .u64 0)),.imm (.val (.int .u64 0)),.imm (.val (.int .u64 0)),.imm (.val (.int .u64 0)),.imm (.val (.int .u64 0)),.imm (.val (.int .u64 0)),.imm (.val (.int .u64 0)),.imm (.val (.int .u64 0)),.imm (.val (.int .u64 0)),.imm (.val (.int .u64 0)),.imm (.val (.int .u64 0))]:=.of rfl
instance:TyS prog 267 32 32 (.agg #[.int .u8 0,.int .u8 0,.int .u8 0,.int .u8 0,.int .u8 0,.int .u8 0,.int .u8 0,.int .u8 0,.int .u8 0,.int .u8 0,.int .u8 0,.int .u8 0,.int .u8 0,.int .u8 0,.int .u8 0,.int .u8 0,.int .u8 0,.int .u8 0,.int .u8 0,.int .u8 0,.int .u8 0,.int .u8 0,.int .u8 0,.int .u8 0,.int .u8 0,.int .u8 0,.int .u8 0,.int .u8 0,.int .u8 0,.int .u8 0,.int .u8 0,.int .u8 0]):=.of (by kernel_rfl)
instance:TyZ prog 267 [.imm (.val (.int .u8 0)),.imm (.val (.int .u8 0)),.imm (.val (.int .u8 0)),.imm (.val (.int .u8 0)),.imm (.val (.int .u8 0)),.imm (.val (.int .u8 0)),.imm (.val (.int .u8 0)),.imm (.val (.int .u8 0)),.imm (.val (.int .u8 0)),.imm (.val (.int .u8 0)),.imm (.val (.int .u8 0)),.imm (.val (.int .u8 0)),.imm (.val (.int .u8 0)),.imm (.val (.int .u8 0)),.imm (.val (.int .u8 0)),.imm (.val (.int .u8 0)),.imm (.val (.int .u8 0)),.imm (.val (.int .u8 0)),.imm (.val (.int .u8 0)),.imm (.val (.int .u8 0)),.imm (.val (.int .u8 0)),.imm (.val (.int .u8 0)),.imm (.val (.int .u8 0)),.imm (.val (.int .u8 0)),.imm (.val (.int .u8 0)),.imm (.val (.int .u8 0)),.imm (.val (.int .u8 0)),.imm (.val (.int .u8 0)),.imm (.val (.int .u8 0)),.imm (.val (.int .u8 0)),.imm (.val (.int .u8 0)),.imm (.val (.int .u8 0))]:=.of rfl
instance:EqT prog 28:=⟨by kernel_rfl,by kernel_rfl⟩
instance:EqT prog 30:=⟨by kernel_rfl,by kernel_rfl⟩
def mixed:prog.follows .mixedOrders=true:=by kernel_rfl
end
/-! ## No mention of a block -/
mutual
def C.no(id:Id):C->Bool
 | .imm _=>true
 | .own i _ _=> !idb i id
 | .ptr i _ _=> !idb i id
 | .fn _ a=>C.noL id a
 | .ifc _ cs _=>C.noL id cs
 | .map i=> !idb i id
 | .fnb _ a=>C.noL id a
 | .yld i=> !idb i id
def C.noL(id:Id):List C->Bool
 |[]=>true
 |c::r=>C.no id c && C.noL id r
end
mutual
def T.no(id:Id):T->Bool
 | .c x=>x.no id
 | .agg cs=>C.noL id cs
 | .tup a=>T.noL id a
 | .undef=>true
def T.noL(id:Id):List T->Bool
 |[]=>true
 |t::r=>T.no id t && T.noL id r
end
def Blk.no(id:Id):Blk->Bool
 | .cells _ a=>a.all (C.noL id)
 | .obj _ cs=>C.noL id cs
def envNo(id:Id):Env->Bool
 |[]=>true
 |(_,v)::r=>v.no id && envNo id r
def noL_eq(id:Id):∀l:List C,C.noL id l=l.all (C.no id)
 |[]=>rfl
 |c::r=>by rw[C.noL,noL_eq id r];rfl
def an0:∀{env:Env},envNo Q env=true->∀t v,lookup t env=some v->v.no Q=true
 |[],_,t,v,h=>by simp[lookup] at h
 |(k,x)::r,h,t,v,a=>by simp only[envNo,cH] at h;simp only[lookup] at a;split at a;cases a;exact h.1;exact an0 h.2 t v a
def mv(id n:Id):Id->Id:=fun i=>if idb i id then n else i
mutual
theorem C.ren_no{id n:Id}:∀c:C,c.no id=true->c.ren (mv id n)=c
 | .imm _,_=>rfl
 | .own i _ _,h=>by
  have:idb i id=false:=by simpa[C.no] using h
  simp[C.ren,mv,this]
 | .ptr i _ _,h=>by
  have:idb i id=false:=by simpa[C.no] using h
  simp[C.ren,mv,this]
 | .fn _ a,h=>by simp only[C.ren,C.renL_no a h]
 | .ifc _ cs _,h=>by simp only[C.ren,C.renL_no cs h]
 | .map i,h=>by
  have:idb i id=false:=by simpa[C.no] using h
  simp[C.ren,mv,this]
 | .fnb _ a,h=>by simp only[C.ren,C.renL_no a h]
 | .yld i,h=>by
  have:idb i id=false:=by simpa[C.no] using h
  simp[C.ren,mv,this]
theorem C.renL_no{id n:Id}:∀l:List C,C.noL id l=true->C.renL (mv id n) l=l
 |[],_=>rfl
 |c::r,h=>by simp only[C.noL,cH] at h;simp only[C.renL,C.ren_no c h.1,C.renL_no r h.2]
end
mutual
theorem T.ren_no{id n:Id}:∀t:T,t.no id=true->t.ren (mv id n)=t
 | .c x,h=>by simp only[T.ren,C.ren_no x h]
 | .agg cs,h=>by simp only[T.ren,C.renL_no cs h]
 | .tup a,h=>by simp only[T.ren,T.renL_no a h]
 | .undef,_=>rfl
theorem T.renL_no{id n:Id}:∀l:List T,T.noL id l=true->T.renL (mv id n) l=l
 |[],_=>rfl
 |x::r,h=>by simp only[T.noL,cH] at h;simp only[T.renL,T.ren_no x h.1,T.renL_no r h.2]
end
def Blk.ren_no{n:Id}(b:Blk)(h:b.no Q=true):b.ren (mv Q n)=b:=by
 cases b with
 |cells k a=>
  simp only[Blk.no,cL] at h
  simp only[Blk.ren]
  congr 1
  conv=>rhs;rw[<- List.map_id a]
  exact dY fun l c=>C.renL_no l (h l c)
 |obj p cs=>simp only[Blk.ren,C.renL_no cs h]
def noL_imm(id:Id)(l:List I):C.noL id (l.map .imm)=true:=by rw[noL_eq];simp[C.no]
def Blk.im_no(id:Id)(k:Nat)(a:List (List I)):(Blk.im k a).no id=true:=by simp only[Blk.im,Blk.no,List.all_map,cL];exact fun l _=>noL_imm id l
inductive SrcF{α:Type}(σ:b6)(k:Nat)(f:α->List I):T->List α->Prop
 |own {id:Id} {n:Nat} {l:List α} (h:σ[id]? =some (some (vec k f l))) (hn:n=eJ l):SrcF σ k f (.c (.own id 0 n)) l
 |row {l:List α}:SrcF σ k f (.c (row k f l)) l
 |nil:SrcF σ k f (.c (.imm (.val (.slice none 0 0)))) []
def SrcF.src{v:T}{l:List A}(h:SrcF p i V v l):Src p i v ((l.map V).map (·.map .imm)):=by
 cases h with
 |@own id n l h a=>
  subst a
  have:=Src.own (j:=0) (n:=eJ l) h
  have e:List.take (eJ l) (List.drop 0 ((l.map V).map (·.map C.imm)))=(l.map V).map (·.map C.imm):=by rw[dy,cX (by simp)]
  rwa [e] at this
 |row=>exact .imm
 |nil=>exact .nil
def am8{l new r:List A}(h:app i l new=some r):(eJ l+eJ new) * i<=140737488355328/\r=l++new:=by unfold app at h;split at h;cases h;exact⟨‹_›,rfl⟩;cases h
def B7{b:Option Blk}(h:putF p Q b=some B):B=p.put Q b:=putF_eq h
def S.append{env:Env}{σ':b6}{ops:Array Oper}{rest:List Oper}{f:A->List I}{l new o:List A}{y:Od}{t e:Ti}{k bytes:Nat}{z:Vl}{id:Id}{v:T}{a:b6}[ht:TyD d t (.slice e)][hs:TyS d e k bytes z](D:app bytes l new=some o)(r:(z.cells.size==k)=true)(u:dp 0 bytes=true)(E:ev env P=some (.c (.own id 0 q)))(F:q=eJ l)(w:B[id]? =some (some (vec k f l)))(G:ev env y=some v)(b:SrcF B k f v new)(J:newF B=some Q)(K:putF B id none=some a)(j:w6 a (.one (vec k f o))=some σ')(N:f7 i H=true)(h:AOps d p i ops s rest (St.mk (putE env H (.c (.own Q 0 (eJ o)))) σ')):
  AOps d p i ops s (⟨H,.call ⟨.builtin .append,#[P,y],#[t,t]⟩,g,L,M,none⟩::rest) (St.mk env B):=by
 obtain⟨O,rfl⟩:=am8 D
 have U:=B7 K
 have V:=B1 J;have X:=u5 j
 subst F U V X
 refine AOps.append (new:=(new.map f).map (·.map .imm)) r u E w G b.src (by simpa using O) N ?_
 have x:(((((l.map f).map (·.map C.imm)).drop 0).take (eJ l))++(new.map f).map (·.map C.imm))=((l++new).map f).map (·.map C.imm):=by rw[dy,cX (by simp)];simp
 have n:eJ l+((new.map f).map (·.map C.imm)).length=(l++new).length:=by simp
 rw[x,n]
 exact h
inductive ZI:List I->List C->Prop
 |nil:ZI [] []
 |val {v:Vl} {l:List I} {cs:List C} (h:ZI l cs):ZI (.val v::l) (.imm (.val v)::cs)
 |row {k:Nat} {l:List I} {cs:List C} (h:ZI l cs):ZI (.sl k []::l) (.imm (.val (.slice none 0 0))::cs)
def ZI.get{w:World}{φ:Phi}{σ:b6}{A:Nat->Prop}{l:List I}{cs:List C}(h:ZI l cs):∀(o:Nat) (x:I),l[o]? =some x->∃c,cs[o]? =some c/\∀u,RelC w φ σ A c u->RelI w A x u:=by
 induction h with
 |nil=>intro o x h;simp at h
 |@val v l cs _ d=>
  intro o x a
  cases o with
  |zero=>
   simp only[cG,Option.some.injEq] at a
   subst a
   exact⟨_,rfl,fun u b=>by cases b with|imm b=>exact b⟩
  |succ o=>simpa using d o x (by simpa using a)
 |@row k l cs _ d=>
  intro o x a
  cases o with
  |zero=>
   simp only[cG,Option.some.injEq] at a
   subst a
   exact⟨_,rfl,fun u b=>by cases b with|imm b=>cases b;exact .slNil⟩
  |succ o=>simpa using d o x (by simpa using a)
def ZI.len{l:List I}{cs:List C}(h:ZI l cs):eJ l=eJ cs:=by
 induction h with
 |nil=>rfl
 |val _ a=>simp[a]
 |row _ a=>simp[a]
def Sub.blk{σ0:b6}{env:Env}{σv:b6}{id:Id}{k:Nat}{es es':List (List C)}(g:σv[id]? =some (some (.cells k es)))(F:eJ es'=eJ es)(hk:∀(j:Nat) (e:List C),es'[j]? =some e->eJ e=k)
  (P:∀(j:Nat) (e:List C) (o:Nat) (x:C),es'[j]? =some e->e[o]? =some x->∃z B,es[j]? =some z/\z[o]? =some B/\∀w l σ A u,RelC w l σ A B u->RelC w l σ A x u):
  Sub σ0 ⟨env,σv⟩ ⟨env,σv.put id (some (.cells k es'))⟩:=fun t sz l a w Q d=>by
 have O:id.1<eJ σv:=b6.lt_of g
 have get:∀(i:Id) x,(σv.put id (some (.cells k es')))[i]? =some (some x)->(i=id/\x=.cells k es')\/(i ≠ id/\σv[i]? =some (some x)):=fun i x hi=>by rcases b6.get_put g hi with⟨G,r⟩|h;cases r;exact .inl ⟨G,rfl⟩;exact .inr h
 have f:∀(i:Id) x,(σv.put id (some (.cells k es')))[i]? =some (some x)->∃y,σv[i]? =some (some y):=fun i x hi=>by rcases get i x hi with⟨rfl,_⟩|⟨_,h⟩;exact⟨_,g⟩;exact⟨x,h⟩
 have U:∀b,Al t.N l σv b->Al t.N l (σv.put id (some (.cells k es'))) b:=fun b D=>⟨D.1,fun i blk c hi=>by obtain⟨y,H⟩:=f i blk hi;exact D.2 i y c H⟩
 have E:Kept w w l l σv (σv.put id (some (.cells k es'))) (Al t.N l σv) (Al t.N l (σv.put id (some (.cells k es')))):=
  {imm:=fun _ _ _=>rfl,all:=fun b D _=>U b D,len:=by simp,
   cells:=fun i kk J hi s=>by rcases get i _ s with⟨rfl,h⟩|⟨_,h⟩;cases h;exact⟨es,g,F.symm,rfl,fun _ _ n _ _ r=>⟨n,r,rfl⟩⟩;exact⟨J,h,rfl,rfl,fun _ _ n _ _ r=>⟨n,r,rfl⟩⟩,
   obj:=fun i V K hi s=>by rcases get i _ s with⟨_,h⟩|⟨_,h⟩;cases h;exact⟨rfl,V,K,h⟩}
 have L:Rs t (σv.put id (some (.cells k es'))) l w:=
  {good:=d.good
   st:=⟨fun i b hi=>by rcases get i b hi with⟨rfl,rfl⟩|⟨_,h⟩;rcases d.st.blk _ _ g with⟨G,r⟩|⟨b,c,n,M,X,g2,g3,g4,g5⟩;exact .inl ⟨G,by subst r;exact cW (by simpa using F)⟩;refine .inr ⟨b,c,n,M,X,g2,by rw[F];exact g3,hk,fun j e o x s v=> ?_⟩;obtain⟨z,B,k1,k2,k3⟩:=P j e o x s v;obtain⟨u,hu,hr⟩:=g5 j z o B k1 k2;exact⟨u,hu,(k3 _ _ _ _ _ hr).mono E⟩;exact(d.st.blk i b h).mono E fun _ _ _=>rfl,
    fun i j bi bj p q hi hj hp hq s=>by obtain⟨x,v⟩:=f i bi hi;obtain⟨y,H⟩:=f j bj hj;exact d.st.inj i j x y p q v H hp hq s⟩
   keep:=fun i blk b c hi=>by obtain⟨x,v⟩:=f i blk hi;exact d.keep i x b c v
   os:=d.os
   tape:=d.tape
   drawn:=d.drawn
   output:=d.output
   size:=d.size
   block:=d.block
   kept:=Kept.trans d.size d.kept E}
 exact⟨l,d.of E L⟩
def mkL_get{n:Int}{z:A}{r:List A}(h:mkL i n z=some r):(0<=n/\n<=9223372036854775807/\(i:Int) * n<=281474976710656)/\r=cM n.toNat z:=by unfold mkL at h;split at h;cases h;exact⟨‹_›,rfl⟩;cases h
def S.make{env:Env}{σ':b6}{ops:Array Oper}{rest:List Oper}{f:A->List I}{a:A}{l:List A}{y:Od}{t e:Ti}{k bytes:Nat}{z:Vl}{n:Int}{cs:List C}[ht:TyD d t (.slice e)][hz:TyZ d e cs][hs:TyS d e k bytes z](hm:mkL bytes n a=some l)(U:ZI (f a) cs)(hk:idF cs=some k)(N:ev env P=some (.c (int n)))(hy:ev env y=some (.c (int n)))(V:newF B=some Q)(X:w6 B (.one (vec k f l))=some σ')(hd:f7 i H=true)(h:AOps d p i ops s rest (St.mk (putE env H (.c (.own Q 0 (eJ l)))) σ')):AOps d p i ops s (⟨H,.makeSlice t P y,g,L,M,none⟩::rest) (St.mk env B):=by
 obtain⟨⟨h1,h2,h3⟩,rfl⟩:=mkL_get hm
 have g1:=ae4 hk;have g2:=B1 V;have g3:=u5 X
 subst g2 g3
 obtain⟨x,O,z',v,aa,k1,k2⟩:=hz.h
 obtain⟨b,e1,e2,e3,e4⟩:=hs.h
 obtain⟨i',E,ac,ad,F⟩:=aa.h
 rw[e1] at E;cases E
 rw[e4] at F;cases F
 refine AOps.make (hs:=hs) k1 k2 (by rw[g1];simp) N hy h1 h2 h3 hd ?_
 rw[List.length_replicate] at h
 have G:b6.put (B++[.one (Blk.cells k (cM n.toNat cs))]) (eJ B,[]) (some (.cells k (((cM n.toNat a).map f).map (·.map .imm))))=B++[.one (vec k f (cM n.toNat a))]:=b6.put_last _ _ B
 have r:=Sub.blk (σ0:=p) (env:=putE env H (.c (.own (eJ B,[]) 0 n.toNat))) (σv:=B++[.one (Blk.cells k (cM n.toNat cs))]) (id:=(eJ B,[])) (k:=k) (es:=cM n.toNat cs) (es':=((cM n.toNat a).map f).map (·.map .imm)) (b6.get_last _ _) (by simp)
  (fun j e D=>by
   simp only[eu,dt] at D;split at D<;>cases D;rw[dr,U.len,g1]) (fun j e o P D N=>by
   simp only[eu,dt] at D;split at D<;>cases D;rw[lM,oM] at N;obtain⟨x0,J,rfl⟩:=N;cases hc:cs[o]? with
   |none=>
    have:=(lG.1 J).1
    rw[U.len] at this
    rw[List.getElem?_eq_none_iff] at hc
    omega
   |some c=>
    refine⟨cs,c,by rw[dt,if_pos ‹_›],hc,fun w φ σ q u hu=> ?_⟩
    obtain⟨c',K,hr⟩:=U.get (w:=w) (φ:=φ) (σ:=σ) (A:=q) o x0 J
    rw[hc] at K;cases K
    exact .imm (hr u hu))
 rw[G] at r
 exact AOps.sub r h
/-! ### Reading and writing -/
def j8{l:List A}{i:Int}{a:A}(h:ix l i=some a):i.toNat<eJ l:=(lG.1 (H6 h).2).1
def ix_set{l:List A}{i:Int}{a b:A}(h:ix l i=some a):ix (l.set i.toNat b) i=some b:=by have c:=H6 h;have d:=j8 h;simp[ix,c.1,d]
def S.idxO{env:Env}{ops:Array Oper}{rest:List Oper}{f:A->List I}{l:List A}{y:Od}{t e:Ti}{id:Id}{k bytes:Nat}{z:Vl}{r:IntKind}{b:Int}{a:A}[D:TyD d t (.slice e)][E:TyS d e k bytes z](o:ix l b=some a)(u:ev env P=some (.c (.own id 0 q)))(F:q=eJ l)(j:B[id]? =some (some (vec k f l)))(v:ev env y=some (.c (.imm (.val (.int r b)))))(w:f7 i H=true)(h:AOps d p i ops s rest (St.mk (putE env H (.c (.ptr id b.toNat 0))) B)):AOps d p i ops s (⟨H,.indexAddr t P y,g,L,M,none⟩::rest) (St.mk env B):=
 .indexAddrOwn u j v (by have:=H6 o;have:=j8 o;omega) w (by rw[cO];exact h)
def vec_get{l:List A}{a:A}(h:l[i]? =some a):((l.map V).map (·.map C.imm))[i]? =some ((V a).map .imm):=by simp[h]
def S.loadO{b:Program}{env:Env}{ops:Array Oper}{rest:List Oper}{f:A->List I}{l:List A}{t:Ti}{d:TypeDesc}{id:Id}{k o:Nat}{e:Int}{a:A}{c:I}[w:TyD b t d](n:ix l e=some a)(q:B5 d=false)(r:ev env P=some (.c (.ptr id e.toNat o)))(j:B[id]? =some (some (vec k f l)))(u:(f a)[o]? =some c)(v:f7 i H=true)(h:AOps b p i ops s rest (St.mk (putE env H (.c (.imm c))) B)):AOps b p i ops s (⟨H,.load t P,g,L,M,none⟩::rest) (St.mk env B):=
 .load q r j (vec_get (H6 n).2) (by rw[lM,u];rfl) v h
def S.loadOAgg{b:Program}{env:Env}{ops:Array Oper}{rest:List Oper}{l:List A}{t:Ti}{d:TypeDesc}{k size bytes:Nat}{z:Vl}{e:Int}{a:A}{v cs:List I}{w:List C}[J:TyD b t d][K:TyS b t size bytes z](y:ix l e=some a)(D:B5 d=true)(E:ev env P=some (.c (.ptr Q e.toNat q)))(j:B[Q]? =some (some (vec k V l)))(n:dropF q (V a)=some v)(r:takeF size v=some cs)(u:immF cs=some w)(F:f7 i H=true)(h:AOps b p i ops s rest (St.mk (putE env H (.agg w)) B)):AOps b p i ops s (⟨H,.load t P,g,L,M,none⟩::rest) (St.mk env B):=by
 obtain⟨n,N⟩:=aq9 n
 obtain⟨r,G⟩:=aE4 r
 have u:=immF_eq u
 subst n r u
 refine .loadAgg D E j (vec_get (H6 y).2) (by simp at G ⊢;omega) F ?_
 rw[<- List.map_drop,<- List.map_take]
 exact h
def vec_set{l:List A}{a:A}:Blk.cells q (((l.map V).map (·.map C.imm)).set i ((V a).map .imm))=vec q V (l.set i a):=by
 simp only[vec,Blk.im,List.map_set]
def S.storeO{env:Env}{e:b6}{ops:Array Oper}{rest:List Oper}{l:List A}{y:Od}{t:Ti}{bytes:Nat}{z:Vl}{o:Nat}{b:Nat}{a n:A}{c:I}[G:TyS d t 1 bytes z](v:l[b]? =some a)(w:setF (V a) o c=some (V n))(D:ev env P=some (.c (.ptr Q b o)))(E:ev env y=some (.c (.imm c)))(r:B[Q]? =some (some (vec q V l)))(j:putF B Q (some (vec q V (l.set b n)))=some e)(h:AOps d p i ops s rest (St.mk env e)):AOps d p i ops s (⟨none,.store t P y,g,L,M,none⟩::rest) (St.mk env B):=by
 have u:=I7 w
 have F:=B7 j
 subst F
 refine AOps.store D E r (vec_get v) (by simpa using u.2) ?_
 rw[show(((V a).map C.imm).set o (.imm c))=(V n).map .imm by rw[<- List.map_set,<- u.1]]
 rw[vec_set]
 exact h
def S.storeO1{env:Env}{σ':b6}{ops:Array Oper}{rest:List Oper}{f:A->List I}{l:List A}{y:Od}{t:Ti}{bytes:Nat}{z:Vl}{b:Nat}{a':A}{c:I}[D:TyS d t 1 bytes z](hi:b<eJ l)(o:∀a,∃u,f a=[u])(j:f a'=[c])(r:ev env P=some (.c (.ptr Q b 0)))(v:ev env y=some (.c (.imm c)))(n:B[Q]? =some (some (vec q f l)))(e:putF B Q (some (vec q f (l.set b a')))=some σ')(h:AOps d p i ops s rest (St.mk env σ')):AOps d p i ops s (⟨none,.store t P y,g,L,M,none⟩::rest) (St.mk env B):=by
 obtain⟨u,w⟩:=o l[b]
 exact S.storeO (a:=l[b]) (cK hi) (by rw[w,j];rfl) r v n e h
def S.lenO{env:Env}{ops:Array Oper}{rest:List Oper}{f:A->List I}{l:List A}{t e:Ti}{id:Id}{k:Nat}[o:TyD d t (.slice e)](b:ev env P=some (.c (.own id 0 q)))(a:B[id]? =some (some (vec k f l)))(j:f7 i H=true)(h:q<=9223372036854775807->AOps d p i ops s rest (St.mk (putE env H (.c (int q))) B)):AOps d p i ops s (⟨H,.call ⟨.builtin .len,#[P],#[t]⟩,g,L,M,none⟩::rest) (St.mk env B):=
 .lenOwnB b a j h
/-! ### A block takes the place of another one -/
def A8(id n:Id)(σ:b6)(m i:Nat):Ent->Prop
 | .dead=>True
 | .one b=>b.ok m=true/\σ[mv id n (i,[])]? =some (some (b.ren (mv id n)))
 | .node x s=>∀(p:List Nat) (b:Blk),(Ent.node x s).sub p=some b->b.ok m=true/\σ[mv id n (i,p)]? =some (some (b.ren (mv id n)))
def StMv(id n:Id)(σ:b6)(m:Nat):Nat->b6->Prop
 |_,[]=>True
 |i,e::r=>A8 id n σ m i e/\StMv id n σ m (i+1) r
def A8.get{n:Id}{σ:b6}{i:Nat}{e:Ent}(h:A8 Q n σ q i e){p:List Nat}{b:Blk}(a:e.sub p=some b):b.ok q=true/\σ[mv Q n (i,p)]? =some (some (b.ren (mv Q n))):=by
 cases e with
 |dead=>cases p<;>cases a
 |one c=>cases p with
  |nil=>cases a;exact h
  |cons=>cases a
 |node x s=>exact h p b a
def StMv.get{id n:Id}{m:Nat}{σ:b6}:∀{i:Nat} {c:b6},StMv id n σ m i c->∀(j:Nat) (p:List Nat) (b:Blk),c[((j,p):Id)]? =some (some b)->b.ok m=true/\σ[mv id n (i+j,p)]? =some (some (b.ren (mv id n)))
 |_,[],_,j,p,b,h=>by simp at h
 |i,e::r,h,0,p,b,a=>by rw[b6.at_eq] at a;simp only[b6.at,cG,Option.some.injEq] at a;exact h.1.get a
 |i,e::r,h,j+1,p,b,a=>by have:=StMv.get (i:=i+1) h.2 j p b (by rw[b6.at_eq] at a ⊢;simpa[b6.at] using a);rwa [show i+1+j=i+(j+1) by omega] at this
def EnvMv(id n:Id)(env:Env):Env->Prop
 |[]=>True
 |(t,v)::r=>lookup t env=some (v.ren (mv id n))/\EnvMv id n env r
def EnvMv.get{env:Env}{n:Id}:∀{a:Env},EnvMv Q n env a->∀t v,lookup t a=some v->lookup t env=some (v.ren (mv Q n))
 |[],_,t,v,h=>by simp[lookup] at h
 |(k,x)::r,⟨b,c⟩,t,v,h=>by simp only[lookup] at h;split at h;rename_i d;cases h;rw[<- cE d];exact b;exact EnvMv.get c t v h
def deadAt(σ:b6)(n:Id):Bool:=match σ[n]? with
 |some (some _)=>false
 |_=>true
def Sub.move{env env':Env}{σ':b6}(id n:Id)(q:di (eJ p) id.1=true)(r:di (eJ p) (eJ σ')=true)(s:deadAt σ' n=true)(c:EnvMv id n env env')(u:X8 (eJ σ') env'=true)(k:StMv id n B (eJ σ') 0 σ'):Sub p ⟨env,B⟩ ⟨env',σ'⟩:=by
 have w:=cQ q;have l:∀b,σ'[n]? ≠ some (some b):=fun b x=>by simp[deadAt,x] at s
 have d:mv id n id=n:=by simp[mv,H4.2 rfl]
 have a:∀i,i ≠ id->mv id n i=i:=fun i h=>by simp[mv,F2 h]
 refine Sub.mk (mv id n) (fun i hi=>a i (fun e=>by subst e;omega)) (cQ r) (fun i j b z hi y h=> ?_) (fun i b hi=> ?_) (fun t v o=>⟨am7 u t v o,c.get t v o⟩);by_cases f:i=id<;>by_cases g:j=id;rw[f,g];rw[f,d,a j g] at h;subst h;exact absurd y (l _);rw[g,d,a i f] at h;subst h;exact absurd hi (l _);rwa [a i f,a j g] at h;have:=k.get i.1 i.2 b hi;rwa [cO] at this
def AWP.z{P:Program}{env':Env}{σ':b6}{c:Code}(id n:Id)(d:di (eJ p) id.1=true)(e:di (eJ p) (eJ σ')=true)(f:deadAt σ' n=true)(a:EnvMv id n t env')(g:X8 (eJ σ') env'=true)(b:StMv id n B (eJ σ') 0 σ')(h:AWP P p i c s (St.mk env' σ')):AWP P p i c s (St.mk t B):=
 AWP.sub (Sub.move id n d e f a g b) h
def m6{a:Id->Id}{f:A->List I}{l:List A}(h:p[Q]? =some (some (vec i f l))):p[Q]? =some (some ((vec i f l).ren a)):=by rw[Blk.im_ren];exact h
def E3{id:Id}{b:Nat}(h:i=b):some (T.c (C.own id 0 i))=some (T.c (C.own id 0 b)):=by rw[h]
section
variable {P:Program}{σ0:b6}{sz:Nat}{Q:Post}{env env':Env}{σv σ':b6}{ops:Array Oper}{rest:List Oper}{dst:Option Nat}{ty:Ti}{pos:String}{after:Array Edge}
/-! ### A row ceases to change -/
mutual
theorem C.frz_no{id:Id}{k:Nat}{b:List (List I)}:∀c:C,c.no id=true->c.frz id k b=c
 | .imm _,_=>rfl
 | .own i _ _,h=>by
  have:idb i id=false:=by simpa[C.no] using h
  simp[C.frz,this]
 | .ptr i _ _,h=>by
  have:idb i id=false:=by simpa[C.no] using h
  simp[C.frz,this]
 | .fn _ a,h=>by simp only[C.frz,C.frzL_no a h]
 | .ifc _ cs _,h=>by simp only[C.frz,C.frzL_no cs h]
 | .map i,h=>rfl
 | .fnb _ a,h=>by simp only[C.frz,C.frzL_no a h]
 | .yld i,h=>rfl
theorem C.frzL_no{id:Id}{k:Nat}{a:List (List I)}:∀l:List C,C.noL id l=true->C.frzL id k a l=l
 |[],_=>rfl
 |c::r,h=>by simp only[C.noL,cH] at h;simp only[C.frzL,C.frz_no c h.1,C.frzL_no r h.2]
end
mutual
theorem T.frz_no{id:Id}{k:Nat}{a:List (List I)}:∀t:T,t.no id=true->t.frz id k a=t
 | .c x,h=>by simp only[T.frz,C.frz_no x h]
 | .agg cs,h=>by simp only[T.frz,C.frzL_no cs h]
 | .tup b,h=>by simp only[T.frz,T.frzL_no b h]
 | .undef,_=>rfl
theorem T.frzL_no{id:Id}{k:Nat}{a:List (List I)}:∀l:List T,T.noL id l=true->T.frzL id k a l=l
 |[],_=>rfl
 |x::r,h=>by simp only[T.noL,cH] at h;simp only[T.frzL,T.frz_no x h.1,T.frzL_no r h.2]
end
def Blk.frz_no{id:Id}{c:List (List I)}(b:Blk)(h:b.no id=true):b.frz id i c=b:=by
 cases b with
 |cells e a=>
  simp only[Blk.no,cL] at h
  simp only[Blk.frz]
  congr 1
  conv=>rhs;rw[<- List.map_id a]
  exact dY fun l d=>C.frzL_no l (h l d)
 |obj p cs=>simp only[Blk.frz,C.frzL_no cs h]
def FrzC(id:Id)(X:C->C->Prop)(c a:C):Prop:=(a=c/\c.no id=true)\/X c a
def XRow(id:Id)(n:Nat)(x:C):C->C->Prop:=fun c a=>∃m,c=.own id 0 m/\m=n/\a=x
def XBox(id:Id)(e:List I):C->C->Prop:=fun c b=>∃o a,c=.ptr id 0 o/\dropF o e=some a/\b=.imm (.ipt a)
def FrzL(id:Id)(X:C->C->Prop):List C->List C->Prop
 |[],[]=>True
 |c::l,a::b=>FrzC id X c a/\FrzL id X l b
 |_,_=>False
def FrzT(id:Id)(X:C->C->Prop):T->T->Prop
 | .c c,.c a=>FrzC id X c a
 | .agg l,.agg b=>FrzL id X l b
 |t,d=>d=t/\t.no id=true
def ab4(id:Id)(X:C->C->Prop)(env:Env):Env->Prop
 |[]=>True
 |(t,a)::r=>(∃v,lookup t env=some v/\FrzT id X v a)/\ab4 id X env r
def FrzB(id:Id)(X:C->C->Prop):Ent->Ent->Prop
 | .dead,.dead=>True
 | .one (.cells k [e]),.one (.cells c [a])=>c=k/\FrzL id X e a
 | .one b,.one d=>d=b/\b.no id=true
 | .node m s,a=>a=.node m s/\∀(p:List Nat) (b:Blk),(Ent.node m s).sub p=some b->b.no id=true
 |_,_=>False
def FrzS(id:Id)(X:C->C->Prop):b6->b6->Prop
 |[],[]=>True
 |b::r,a::c=>FrzB id X b a/\FrzS id X r c
 |_,_=>False
def FrzC.eq{b:List (List I)}{id:Id}{k:Nat}{X:C->C->Prop}(d:∀c a,X c a->c.frz id k b=a){c a:C}(h:FrzC id X c a):c.frz id k b=a:=by rcases h with⟨rfl,h⟩|h;exact C.frz_no _ h;exact d _ _ h
def FrzL.eq{b:List (List I)}{id:Id}{k:Nat}{X:C->C->Prop}(d:∀c a,X c a->c.frz id k b=a):∀{c a:List C},FrzL id X c a->C.frzL id k b c=a
 |[],[],_=>rfl
 |c::r,a::e,h=>by rw[C.frzL,FrzC.eq d h.1,FrzL.eq d h.2]
 |[],_::_,h=>h.elim
 |_::_,[],h=>h.elim
def FrzT.eq{d:List (List I)}{id:Id}{k:Nat}{X:C->C->Prop}(e:∀c f,X c f->c.frz id k d=f){t a:T}(h:FrzT id X t a):t.frz id k d=a:=by
 cases t<;>cases a<;>simp only[FrzT] at h<;>first
  |(simp only[T.frz,FrzC.eq e h];done)
  |(simp only[T.frz,FrzL.eq e h];done)
  |(obtain⟨b,g⟩:=h;cases b;exact T.frz_no _ g)
  |(obtain⟨b,g⟩:=h;cases b)
def ab4.get{b:List (List I)}{id:Id}{X:C->C->Prop}(d:∀c f,X c f->c.frz id i b=f):∀{env':Env},ab4 id X env env'->∀t v,lookup t env'=some v->(lookup t env).map (fun v=>v.frz id i b)=some v
 |[],_,t,v,a=>by simp[lookup] at a
 |(t0,v0)::r,h,t,v,a=>by simp only[lookup] at a;split at a;rename_i e;have:=cE e;subst this;cases a;obtain⟨l,g,j⟩:=h.1;rw[g];simp only[cS,FrzT.eq d j];exact ab4.get d h.2 t v a
def FrzB.get{d:List (List I)}{id:Id}{X:C->C->Prop}(j:∀c f,X c f->c.frz id i d=f){e g:Ent}(h:FrzB id X e g)(p:List Nat):(e.sub p).map (Blk.frz id i d)=g.sub p:=by
 unfold FrzB at h;split at h;cases p<;>rfl;obtain⟨rfl,a⟩:=h;cases p with
 |nil=>simp only[Ent.sub,cS,Blk.frz,dA,List.map_nil,FrzL.eq j a]
 |cons=>rfl
 obtain⟨rfl,a⟩:=h;cases p with
 |nil=>simp only[Ent.sub,cS,Blk.frz_no _ a]
 |cons=>rfl
 obtain⟨rfl,a⟩:=h;cases l:(Ent.node _ _).sub p with
 |none=>rfl
 |some b=>simp only[cS,Blk.frz_no _ (a p b l)]
 exact h.elim
def FrzS.get{d:List (List I)}{id:Id}{X:C->C->Prop}(f:∀c g,X c g->c.frz id i d=g):∀{σ b:b6},FrzS id X σ b->∀a:Id,(σ[a]?).map (Option.map (Blk.frz id i d))=b[a]?
 |[],[],_,a=>rfl
 |[],_::_,h,_=>h.elim
 |_::_,[],h,_=>h.elim
 |e::r,j::l,h,(0,p)=>by rw[b6.at_eq,b6.at_eq];simp only[b6.at,cG,cS,FrzB.get f h.1 p]
 |e::r,j::l,h,(a+1,p)=>by have:=FrzS.get f h.2 (a,p);rw[b6.at_eq,b6.at_eq] at this ⊢;simpa[b6.at] using this
def FrzS.len{id:Id}{X:C->C->Prop}:∀{σ a:b6},FrzS id X σ a->eJ a=eJ σ
 |[],[],_=>rfl
 |[],_::_,h=>h.elim
 |_::_,[],h=>h.elim
 |e::r,b::c,h=>by simp[FrzS.len h.2]
def Sub.same{env:Env}{σ1 σ2:b6}(A:eJ σ2=eJ σ1)(h:∀i:Id,σ1[i]? =σ2[i]?):Sub σ0 ⟨env,σ1⟩ ⟨env,σ2⟩:=fun f sz e a w t c=>by
 have l:∀b,Al f.N e σ1 b->Al f.N e σ2 b:=fun b g=>⟨g.1,fun i blk d hi=>g.2 i blk d (by rw[h i];exact hi)⟩;have n:Kept w w e e σ1 σ2 (Al f.N e σ1) (Al f.N e σ2):=
  ⟨fun _ _ _=>rfl,fun b g _=>l b g,by omega,fun i k u _ o=>⟨u,by rw[h i];exact o,rfl,rfl,fun _ _ r _ _ v=>⟨r,v,rfl⟩⟩,fun i p cs _ o=>⟨rfl,p,cs,by rw[h i];exact o⟩⟩
 have s:Rs f σ2 e w:={
  good:=c.good
  st:=⟨fun i b hi=>BlkR.mono n (fun _ _ _=>rfl) (c.st.blk i b (by dsimp only;rw[h i];exact hi)),fun i j x y p q hi z=>c.st.inj i j x y p q (by dsimp only;rw[h i];exact hi) (by dsimp only;rw[h j];exact z)⟩
  keep:=fun i blk b d hi=>c.keep i blk b d (by dsimp only;rw[h i];exact hi)
  os:=c.os
  tape:=c.tape
  drawn:=c.drawn
  output:=c.output
  size:=c.size
  block:=c.block
  kept:=Kept.trans c.size c.kept n}
 exact⟨e,c.of n s⟩
def Sub.frzX{e:List (List I)}{id:Id}{X:C->C->Prop}{d:Env}(n:∀c o,X c o->c.frz id i e=o)(j:di (eJ σ0) id.1=true)(l:σv[id]? =some (some (Blk.im i e)))(f:ab4 id X env d)(q:putF σv id none=some p)(g:FrzS id X p B):Sub σ0 ⟨env,σv⟩ ⟨d,B⟩:=by have r:=B7 q;subst r;have u:=Sub.frz (σ0:=σ0) (s:=⟨env,σv⟩) id i e (cQ j) l;have w:Sub σ0 (St.frz ⟨env,σv⟩ id i e) ⟨env.map fun a=>(a.1,a.2.frz id i e),B⟩:=Sub.same (by rw[g.len];simp[St.frz]) (fun b=>by rw[<- FrzS.get n g b,b6.get_map]);refine(u.trans w).trans (fun _ _ x _ _ _ h=>⟨x,{toRs:=h.toRs,defers:=h.defers,asize:=h.asize,env:=fun t v y=>h.env t v ?_}⟩);show lookup t (env.map fun a=>(a.1,a.2.frz id i e))=some v;rw[ao9 (fun v=>v.frz id i e)];exact ab4.get n f t v y
def XRow.eq{f:A->List I}{l:List A}{id:Id}{k:Nat}:∀c a,XRow id (eJ l) (row k f l) c a->c.frz id k (l.map f)=a:=by rintro c a ⟨m,rfl,rfl,rfl⟩;simp[C.frz,row,cX,H4.2 rfl]
def XBox.eq{e:List I}{id:Id}{k:Nat}:∀c a,XBox id e c a->c.frz id k [e]=a:=by rintro c a ⟨o,b,rfl,h,rfl⟩;rw[(aq9 h).1];simp[C.frz,H4.2 rfl]
def Sub.frzV{f:A->List I}{l:List A}{id:Id}{env2:Env}{σ2:b6}(b:di (eJ σ0) id.1=true)(c:σv[id]? =some (some (vec i f l)))(a:ab4 id (XRow id (eJ l) (row i f l)) env env2)(e:putF σv id none=some p)(d:FrzS id (XRow id (eJ l) (row i f l)) p σ2):Sub σ0 ⟨env,σv⟩ ⟨env2,σ2⟩:=Sub.frzX XRow.eq b c a e d
def AWP.frzV{f:A->List I}{l:List A}{id:Id}{c:Code}{env2:Env}{σ2:b6}(b:di (eJ σ0) id.1=true)(d:σv[id]? =some (some (vec i f l)))(a:ab4 id (XRow id (eJ l) (row i f l)) env env2)(g:putF σv id none=some p)(e:FrzS id (XRow id (eJ l) (row i f l)) p σ2)(h:AWP P σ0 sz c Q (St.mk env2 σ2)):AWP P σ0 sz c Q (St.mk env σv):=AWP.sub (Sub.frzV b d a g e) h
def AOps.frzV{f:A->List I}{l:List A}{id:Id}{env2:Env}{σ2:b6}(b:di (eJ σ0) id.1=true)(c:σv[id]? =some (some (vec i f l)))(a:ab4 id (XRow id (eJ l) (row i f l)) env env2)(e:putF σv id none=some p)(d:FrzS id (XRow id (eJ l) (row i f l)) p σ2)(h:AOps P σ0 sz ops Q rest (St.mk env2 σ2)):AOps P σ0 sz ops Q rest (St.mk env σv):=AOps.sub (Sub.frzV b c a e d) h
/-! ### nil -/
def Sub.virtV(k:Nat)(f:A->List I)(t:Nat){n:Id}(b:lookup t env=some (.c (.imm (.val (.slice none 0 0)))))(d:newF σv=some n)(a:w6 σv (.one (vec k f []))=some σ'):Sub σ0 ⟨env,σv⟩ ⟨(t,.c (.own n 0 ([]:List A).length))::env,σ'⟩:=by have e:=B1 d;have g:=u5 a;subst e g;exact Sub.virt (s:=⟨env,σv⟩) t k b
def AWP.virtV{c:Code}(k:Nat)(f:A->List I)(t:Nat){n:Id}(b:lookup t env=some (.c (.imm (.val (.slice none 0 0)))))(d:newF σv=some n)(a:w6 σv (.one (vec k f []))=some σ')(h:AWP P σ0 sz c Q (St.mk ((t,.c (.own n 0 ([]:List A).length))::env) σ')):AWP P σ0 sz c Q (St.mk env σv):=AWP.sub (Sub.virtV k f t b d a) h
def Sub.nilrow(k:Nat)(t:Nat)(f:lookup t env=some (.c (.imm (.val (.slice none 0 0))))):Sub σ0 ⟨env,σv⟩ ⟨(t,.c (.imm (.sl k [])))::env,σv⟩:=by intro n sz g a w h b;refine⟨g,{toRs:=b.toRs,defers:=b.defers,asize:=b.asize,env:= ?_}⟩;intro i v d;simp only[lookup] at d;split at d;rename_i e;have:=cE e;subst this;cases d;obtain⟨u,j,l⟩:=b.env _ _ f;refine⟨u,j,?_⟩;rw[val_inv l];exact .c (.imm .slNil);exact b.env i v d
def AWP.nilrow{c:Code}(k:Nat)(t:Nat)(a:lookup t env=some (.c (.imm (.val (.slice none 0 0)))))(h:AWP P σ0 sz c Q (St.mk ((t,.c (.imm (.sl k [])))::env) σv)):AWP P σ0 sz c Q (St.mk env σv):=AWP.sub (Sub.nilrow k t a) h
/-! ### Lent to a call -/
mutual
inductive LendC(σ:b6):C->C->Prop
 |imm {x:I}:LendC σ (.imm x) (.imm x)
 |own {α:Type} {id:Id} {k n:Nat} {f:α->List I} {l:List α} (h:σ[id]? =some (some (vec k f l))) (hn:n=eJ l):LendC σ (.own id 0 n) (row k f l)
 |nil {k:Nat}:LendC σ (.imm (.val (.slice none 0 0))) (.imm (.sl k []))
 |ptr {id:Id} {o k:Nat} {cs:List C} {es es':List I} (h:σ[id]? =some (some (.cells k [cs]))) (hd:dropF o es=some es') (hl:T1 σ cs (es.map .imm)):LendC σ (.ptr id 0 o) (.imm (.ipt es'))
 |fn {f:FuncId} {caps caps':List C} (h:T1 σ caps caps'):LendC σ (.fn f caps) (.fn f caps')
 |fnI {f:FuncId} {caps:List C} {caps':List I} (h:T1 σ caps (caps'.map .imm)):LendC σ (.fn f caps) (.imm (.fn f caps'))
inductive T1(σ:b6):List C->List C->Prop
 |nil:T1 σ [] []
 |cons {c c':C} {l l':List C} (h:LendC σ c c') (hl:T1 σ l l'):T1 σ (c::l) (c'::l')
end
inductive LendT(σ:b6):T->T->Prop
 |c {x y:C} (h:LendC σ x y):LendT σ (.c x) (.c y)
 |agg {l l':List C} (h:T1 σ l l'):LendT σ (.agg l) (.agg l')
inductive ao4(σ:b6):List T->List T->Prop
 |nil:ao4 σ [] []
 |cons {c c':T} {l l':List T} (h:LendT σ c c') (hl:ao4 σ l l'):ao4 σ (c::l) (c'::l')
def Cx.open(w:World):Cx:=⟨w,fun _=>False,fun _=>none,[]⟩
def good_open(w:World):Good (Cx.open w):=
 {st:=⟨fun i b hi=>by simp[Cx.open] at hi,fun i j c d p q hi=>by simp[Cx.open] at hi⟩,lt:=fun _ h=>h.elim,own:=fun i blk b a hi=>by simp[Cx.open] at hi}
def al_open(w:World)(b:Nat):Al (Cx.open w).N (fun _=>none) [] b:=⟨fun h=>h,fun i blk a hi=>by simp at hi⟩
def lend_own{M:Cx}{d:Act}{G:Phi}{id:Id}{l:List A}(N:R M sz ⟨env,σv⟩ G d a)(h:σv[id]? =some (some (vec i V l))){u:Vl}(r:ac9 a (G id) i ((l.map V).map (·.map C.imm)).length 0 (eJ l) u){g:Nat->Prop}(H:∀b,g b):RelI a g (.sl i (l.map V)) u:=by
 have hs:Src σv i (.c (.own id 0 (eJ l))) ((l.map V).map (·.map .imm)):=(SrcF.own h rfl).src;rcases r with⟨h1,O,_,U⟩|⟨b,q,X,s,w,ad,hp,k,E,t,v,f,y,aa⟩;have:l=[]:=cW U;subst this;subst O;exact .slNil;obtain⟨J,K,z,L,hk,F⟩:=J8 N h hp;rw[y] at z;cases z;subst k;have get:∀(j:Nat) (e:List I),(l.map V)[j]? =some e->((l.map V).map (·.map C.imm))[j]? =some (e.map .imm):=fun j e p=>by rw[lM,p];rfl
 have n:eJ l=(l.map V).length:=by simp
 have key:∀(j:Nat) (e:List I) (o:Nat) (x:I),(l.map V)[j]? =some e->e[o]? =some x->∃u,s[q+(j * i+o)]? =some u/\RelI a g x u:=fun j e o x p B=>by obtain⟨u,r,D⟩:=F j _ o (.imm x) (get j e p) (by rw[lM,B];rfl);cases D with|imm D=>exact⟨u,r,D.mono (fun _ _ _=>rfl) (fun b _ _=>H b)⟩
 rw[n];refine .sl (fun j o=>(s[q+(j * i+o)]?).getD Go.undef) (by rw[<- n];exact t) v (fun j e p=> ?_) (fun j e o x p B=>⟨H _,?_⟩) (fun j e o x p B=> ?_);have:=hk j _ (get j e p);simpa using this;obtain⟨u,r,_⟩:=key j e o x p B;have hj:j<eJ l:=by rw[n];exact(lG.1 p).1
 rw[E (by omega),J7,U1 y];simp only[dP,dD];rw[r];rfl;obtain⟨u,r,D⟩:=key j e o x p B;rw[r];exact D
mutual
theorem LendC.rel{F:Cx}{a:Act}{w:World}{z:Phi}{σ':b6}{j:Phi}{A:Nat->Prop}(t:R F sz ⟨env,σv⟩ z a w)(s:∀b,A b):∀{c G:C},LendC σv c G->∀{u:Vl},RelC w z σv (Al F.N z σv) c u->RelC w j σ' A G u
 |_,_,.imm,u,h=>by cases h with|imm h=>exact .imm (h.mono (fun _ _ _=>rfl) (fun b _ _=>s b))
 |_,_,.own k J,u,h=>by subst J;cases h with|own _ _ h=>exact .imm (lend_own t k (h _ _ k) s)
 |_,_,.nil,u,h=>by cases h with|imm h=>cases h;exact .imm .slNil
 |_,_,.ptr (o:=o) (cs:=cs) (es:=H) k K n,u,h=>by
  obtain⟨L,h2⟩:=aq9 K;subst L;cases h with|ptr M _ h=>
   obtain⟨b,l,hp,rfl⟩:=h _ _ k
   obtain⟨v,O,U,V,hk,B⟩:=J8 t k hp
   have key:∀(o:Nat) (x:I),H[o]? =some x->∃u,v[l+o]? =some u/\RelI w A x u:=fun o x p=>by obtain⟨c,X,d⟩:=T1.get t s (φ':=j) (σ':=σ') n o (.imm x) (by rw[lM,p];rfl);obtain⟨u,y,r⟩:=B 0 cs o c rfl X;have:=d r;cases this with|imm this=>exact⟨u,by simpa using y,this⟩
   refine .imm (.ipt (fun q=>(v[l+(o+q)]?).getD Go.undef) (fun q x p=>⟨s _,?_⟩) (fun q x p=> ?_))
   ·rw[ew] at p
    obtain⟨u,y,_⟩:=key _ x p
    rw[J7,U1 U]
    simp only[dP,cO,Nat.add_assoc]
    rw[y];rfl
   ·rw[ew] at p
    obtain⟨u,y,r⟩:=key _ x p
    rw[y];exact r
 |_,_,.fn (caps:=g) (caps':=f) n,u,h=>by
  cases h with|fn D r=>
   have e:eJ f=eJ g:=T1.len n
   rw[<- e]
   refine .fn D fun i c hi=> ?_
   obtain⟨c0,E,d⟩:=T1.get t s (φ':=j) (σ':=σ') n i c hi
   exact d (r i c0 E)
 |_,_,.fnI (caps:=g) (caps':=f) n,u,h=>by
  cases h with|fn D r=>
   have e:eJ f=eJ g:=by have:=T1.len n;simpa using this
   rw[<- e]
   refine .imm (.fn D fun i c hi=> ?_)
   obtain⟨c0,E,d⟩:=T1.get t s (φ':=j) (σ':=σ') n i (.imm c) (by rw[lM,hi];rfl)
   have:=d (r i c0 E)
   cases this with|imm this=>exact this
theorem T1.get{e:Cx}{a:Act}{w:World}{φ:Phi}{σ':b6}{φ':Phi}{A:Nat->Prop}(f:R e sz ⟨env,σv⟩ φ a w)(g:∀b,A b):∀{l j:List C},T1 σv l j->∀(i:Nat) (d:C),j[i]? =some d->∃c,l[i]? =some c/\∀{u:Vl},RelC w φ σv (Al e.N φ σv) c u->RelC w φ' σ' A d u
 |_,_,.nil,i,d,h=>by simp at h
 |_,_,.cons h k,0,d,hi=>by simp only[cG,Option.some.injEq] at hi;subst hi;exact⟨_,rfl,fun n=>LendC.rel f g h n⟩
 |_,_,.cons h k,i+1,d,hi=>by obtain⟨c,o,p⟩:=T1.get f g (φ':=φ') (σ':=σ') k i d (by simpa using hi);exact⟨c,by simpa using o,p⟩
theorem T1.len:∀{l a:List C},T1 σv l a->eJ a=eJ l
 |_,_,.nil=>rfl
 |_,_,.cons h b=>by simp[T1.len b]
end
def LendT.rel{k:Cx}{d:Act}{j:Phi}{f:Phi}{A:Nat->Prop}(n:R k sz ⟨env,σv⟩ j d a)(o:∀b,A b){c q:T}(h:LendT σv c q){u:Vl}(g:RelT a j σv (Al k.N j σv) c u):RelT a f p A q u:=by
 cases h with
 |c h=>cases g with|c g=>exact .c (h.rel n o g)
 |@agg l r h=>
  cases g with|agg s g=>
   have e:eJ r=eJ l:=T1.len (env:=env) (sz:=sz) h
   rw[<- e]
   refine .agg s fun i c hi=> ?_
   obtain⟨c0,t,v⟩:=h.get n o (φ':=f) (σ':=p) i c hi
   exact v (g i c0 t)
def ao4.get:∀{l b:List T},ao4 σv l b->eJ b=eJ l/\∀(i:Nat) (a:T),b[i]? =some a->∃t,l[i]? =some t/\LendT σv t a
 |_,_,.nil=>⟨rfl,fun i t h=>by simp at h⟩
 |_,_,.cons h c=>⟨by simp[(ao4.get c).1],fun i a hi=>by
   cases i with
   |zero=>
    simp only[cG,Option.some.injEq] at hi
    subst hi
    exact⟨_,rfl,h⟩
   |succ i=>simpa using(ao4.get c).2 i a (by simpa using hi)⟩
def C.scal:C->Bool
 | .imm (.val _)=>true
 |_=>false
def T.scal1:T->Bool
 | .c x=>x.scal
 | .agg cs=>cs.all C.scal
 |_=>false
def T.scal:T->Bool
 | .tup l=>l.all T.scal1
 |t=>t.scal1
def C.scal_rel{e:World}{f b:Phi}{A g:Nat->Prop}{c:C}{v:Vl}(d:c.scal=true)(h:RelC a f p A c v):RelC e b B g c v:=by
 cases h with
 |imm h=>cases h with
  |val h=>exact .imm (.val h)
  |_=>simp[C.scal] at d
 |_=>simp[C.scal] at d
def agg_scal{e:World}{f b:Phi}{A g:Nat->Prop}{cs:List C}{v:Vl}(d:cs.all C.scal=true)(h:RelT a f p A (.agg cs) v):RelT e b B g (.agg cs) v:=by
 cases h with|agg j k=>
  rw[cL] at d
  exact .agg j fun i c hi=>C.scal_rel (d c (cV hi)) (k i c hi)
def T.scal1_rel{e:World}{f b:Phi}{A g:Nat->Prop}{t:T}{v:Vl}(d:t.scal1=true)(h:RelT a f p A t v):RelT e b B g t v:=by
 cases t with
 |c x=>cases h with|c h=>exact .c (C.scal_rel d h)
 |agg cs=>exact agg_scal d h
 |_=>cases d
def T.scal_rel{e:World}{f d:Phi}{A g:Nat->Prop}{t:T}{v:Vl}(b:t.scal=true)(h:RelT a f p A t v):RelT e d B g t v:=by
 cases t with
 |tup l=>
  have b:l.all T.scal1=true:=b
  rw[cL] at b
  cases h with|tup j k=>exact .tup j fun i t hi=>T.scal1_rel (b t (cV hi)) (k i t hi)
 |c x=>exact T.scal1_rel (t:=.c x) b h
 |agg cs=>exact T.scal1_rel (t:=.agg cs) b h
 |undef=>cases b
def Rs.same{f:Cx}{d:Phi}{e:World}(h:Rs f p d a)(o:e.os=a.os)(t:e.tape=a.tape)(hdr:a.drawn<=e.drawn)(u:e.output=a.output)(v:a.heap.size<=e.heap.size)(n:∀b,b<a.heap.size->e.heap[b]? =a.heap[b]?):
  Kept a e d d p p (Al f.N d p) (Al f.N d p)/\Rs f p d e:=by
 have q:Kept a e d d p p (Al f.N d p) (Al f.N d p):=
  ⟨fun b _ x=>n b x,fun _ h _=>h,du _,fun i k y hi s=>⟨y,s,rfl,rfl,fun b j r z hp A=>⟨r,(n b (Al.own_lt h.st s hp)).trans A,rfl⟩⟩,fun _ c cs _ h=>⟨rfl,c,cs,h⟩⟩
 refine⟨q,?_⟩
 exact {
  good:=h.good
  st:=⟨fun i b hi=>BlkR.mono q (fun g j hp=>n g (Al.own_lt h.st hi hp)) (h.st.blk i b hi),h.st.inj⟩
  keep:=h.keep
  os:=o.trans h.os
  tape:=t.trans h.tape
  drawn:=dG h.drawn hdr
  output:=u.trans h.output
  size:=dG h.size v
  block:=fun b l=>(n b (dM l.1 h.size)).trans (h.block b l)
  kept:=Kept.trans h.size h.kept q}
def AOps.ac{x:Od}{l:List Od}{g:Array Ti}{f:FuncId}{d:List C}{A n:List T}{r:T}(E:ev env x=some (.c (.fn f d)))(F:evs env l=some A)(G:ao4 σv (A++d.map T.c) n)(H:f7 sz dst=true)
  (B:f5 P f n r) (J:r.scal=true) (h:AOps P σ0 sz ops Q rest (St.mk (putE env dst r) σv)):
  AOps P σ0 sz ops Q (⟨dst,.call ⟨.value x,l.toArray,g⟩,ty,pos,after,none⟩::rest) (St.mk env σv):=fun K L a w q p M=>by
  obtain⟨vs,N,O,U⟩:=av2 (P:=P) (dst:=dst) (ty:=ty) (pos:=pos) (after:=after) (ats:=g) p E F B.fn
  obtain⟨l1,V⟩:=G.get
  refine W9 rfl (ar0 N ?_)
  refine(B.run (Cx.open w) vs rfl (good_open w) (by rw[l1];exact O) (fun i t u hi X=> ?_)).mono ?_
  ·obtain⟨t0,s,j⟩:=V i t hi
   exact j.rel p (al_open w) (U i t0 u s X)
  ·rintro e w' ⟨v,r',σ',aa,rfl,hq,o,k⟩
   subst hq
   obtain⟨y,z⟩:=p.toRs.same k.os k.tape k.drawn k.output k.size (fun b hb=>k.block b ⟨hb,fun i blk D hi=>by simp[Cx.open] at hi⟩)
   exact h K L _ w' q ((p.of y z).put H (T.scal_rel J o)) M
/-! ### New rows handed back -/
def S.fresh{l:List A}{x:Od}{b:List Od}{d:Array Ti}{f:FuncId}{a:List C}{k:Nat}{n:Id}(j:ev env x=some (.c (.fn f a)))(o:evs env b=some r)(e:T.okL 0 (r++a.map T.c)=true)(p:f7 sz dst=true)(q:w8 P f (r++a.map T.c) k (l.map V))(s:newF σv=some n)(i:w6 σv (.one (vec k V l))=some σ')(h:AOps P σ0 sz ops Q rest (St.mk (putE env dst (.c (.own n 0 (eJ l)))) σ')):
  AOps P σ0 sz ops Q (⟨dst,.call ⟨.value x,b.toArray,d⟩,ty,pos,after,none⟩::rest) (St.mk env σv):=by
 have t:=B1 s;have u:=u5 i
 subst t u
 exact .fresh j o e p q (by rw[dr];exact h)
def Fresh.mk{l:List A}{id:Id}(b:q=eJ l)(h:p[id]? =some (some (vec i V l))):∃a,(T.c (.own id 0 q))=.c (.own a 0 (l.map V).length)/\p[a]? =some (some (Blk.im i (l.map V))):=
 ⟨id,by rw[dr,b],h⟩
def FrzL.imm{id:Id}{X:C->C->Prop}:∀l:List I,FrzL id X (l.map .imm) (l.map .imm)
 |[]=>trivial
 |_::r=>⟨.inl ⟨rfl,rfl⟩,FrzL.imm r⟩
def FrzB.vec{f:A->List I}{l:List A}{id:Id}{k:Nat}{X:C->C->Prop}:FrzB id X (.one (vec k f l)) (.one (vec k f l)):=by
 have h:=Blk.im_no id k (l.map f);unfold FrzB;split;rename_i c _;cases c;rename_i n e o g c d;simp only[vec,Blk.im,Ent.one.injEq,Blk.cells.injEq] at c d;obtain⟨rfl,c⟩:=c;obtain⟨rfl,d⟩:=d;have:e=g:=by rw[c] at d;simpa using d
 subst this;refine⟨rfl,?_⟩;obtain⟨a,rfl⟩:∃a,l=[a]:=by
  cases l with
  |nil=>simp at c
  |cons a l=>cases l with
   |nil=>exact⟨a,rfl⟩
   |cons b l=>simp at c
 simp only[dA,List.map_nil,List.cons.injEq,and_true] at c;rw[<- c];exact FrzL.imm _;rename_i c d;cases c;cases d;exact⟨rfl,h⟩;rename_i c;cases c;rename_i c d i j;first|exact(i _ _ rfl rfl).elim|exact(j _ _ rfl rfl).elim|exact(d _ _ rfl rfl).elim
/-! ### nil where data is asked -/
def NilC(c a:C):Prop:=a=c\/(c=.imm (.val (.slice none 0 0))/\∃k,a=.imm (.sl k []))
def NilL:List C->List C->Prop
 |[],[]=>True
 |c::l,a::b=>NilC c a/\NilL l b
 |_,_=>False
def NilT:T->T->Prop
 | .c c,.c a=>NilC c a
 | .agg l,.agg b=>NilL l b
 |t,d=>d=t
def NilTs:List T->List T->Prop
 |[],[]=>True
 |c::l,a::b=>NilT c a/\NilTs l b
 |_,_=>False
def NilC.rel{d:Phi}{A:Nat->Prop}{c e:C}{u:Vl}(h:NilC c e)(b:RelC a d p A c u):RelC a d p A e u:=by rcases h with rfl|⟨rfl,k,rfl⟩;exact b;cases b with|imm b=>cases b;exact .imm .slNil
def NilL.get{w:World}{φ:Phi}{σ:b6}{A:Nat->Prop}:∀{l a:List C},NilL l a->eJ a=eJ l/\∀(i:Nat) (b:C),a[i]? =some b->∃c,l[i]? =some c/\∀u,RelC w φ σ A c u->RelC w φ σ A b u
 |[],[],_=>⟨rfl,fun i c h=>by simp at h⟩
 |[],_::_,h=>h.elim
 |_::_,[],h=>h.elim
 |c::l,b::a,h=>⟨by simp[(NilL.get (w:=w) (φ:=φ) (σ:=σ) (A:=A) h.2).1],fun i x hi=>by
   cases i with
   |zero=>
    simp only[cG,Option.some.injEq] at hi
    subst hi
    exact⟨c,rfl,fun u d=>h.1.rel d⟩
   |succ i=>simpa using(NilL.get (w:=w) (φ:=φ) (σ:=σ) (A:=A) h.2).2 i x (by simpa using hi)⟩
def NilT.rel{d:Phi}{A:Nat->Prop}{t e:T}{u:Vl}(h:NilT t e)(b:RelT a d p A t u):RelT a d p A e u:=by
 cases t<;>cases e<;>simp only[NilT] at h<;>first
  |(cases b with|c b=>exact .c (h.rel b))
  |(cases b with|agg f b=>
    obtain⟨g,j⟩:=h.get (w:=a) (φ:=d) (σ:=p) (A:=A)
    rw[<- g]
    exact .agg f fun i c hi=>by obtain⟨c0,k,l⟩:=j i c hi;exact l _ (b i c0 k))
  |(cases h;exact b)
  |(cases h)
def NilTs.get:∀{l a:List T},NilTs l a->eJ a=eJ l/\∀(i:Nat) (b:T),a[i]? =some b->∃t,l[i]? =some t/\NilT t b
 |[],[],_=>⟨rfl,fun i c h=>by simp at h⟩
 |[],_::_,h=>h.elim
 |_::_,[],h=>h.elim
 |c::l,d::a,h=>⟨by simp[(NilTs.get h.2).1],fun i x hi=>by
   cases i with
   |zero=>
    simp only[cG,Option.some.injEq] at hi
    subst hi
    exact⟨c,rfl,h.1⟩
   |succ i=>simpa using(NilTs.get h.2).2 i x (by simpa using hi)⟩
def FnOk.nil{f:FuncId}{a:List T}{c:T->b6->Prop}(h:NilTs r a)(d:FnOk P f a p c):FnOk P f r p c:=
 ⟨d.fn,fun e vs b g j k=>by obtain⟨l,n⟩:=h.get;refine d.run e vs b g (by rw[l];exact j) (fun i t u hi o=> ?_);obtain⟨t0,q,s⟩:=n i t hi;exact s.rel (k i t0 u q o)⟩
def f5.nil{f:FuncId}{b a:List T}{r:T}(h:NilTs b a)(c:f5 P f a r):f5 P f b r:=FnOk.nil h c
def w8.nil{f:FuncId}{a:List T}{k:Nat}{es:List (List I)}(h:NilTs r a)(b:w8 P f a k es):w8 P f r k es:=FnOk.nil h b
def w8.data{f:FuncId}{s:List T}{a:List (List I)}(n:w8 P f s i a):f5 P f s (.c (.imm (.sl i a))):=by
 unfold w8 at n;unfold f5;refine⟨n.fn,fun o vs b y z A=>(n.run o vs b y z A).mono ?_⟩;rintro e w ⟨v,r,σ',d,rfl,⟨id,rfl,p⟩,g,B⟩;have D:R o 1 ⟨[(0,.c (.own id 0 (eJ a)))],σ'⟩ d ⟨#[v],[]⟩ w:=
  {toRs:=B,defers:=.nil,asize:=rfl,env:=fun t x l=>by simp only[lookup] at l;split at l;rename_i e;have:=cE e;subst this;cases l;exact⟨v,rfl,g⟩;cases l}
 obtain⟨h,j⟩:=Sub.frz (σ0:=[]) id i a (eF _) p o 1 d _ w b D;obtain⟨u,E,q⟩:=j.env 0 (.c (.imm (.sl i a))) (by simp[St.frz,lookup,T.frz,C.frz,H4.2 rfl]);cases E;exact⟨v,_,_,h,rfl,rfl,q,j.toRs⟩
def an1{b:List C}(d:T.okL 0 r=true)(e:C.okL 0 b=true):T.okL 0 (r++b.map T.c)=true:=by rw[av6,cL] at d ⊢;rw[M8,cL] at e;intro x a;rw[List.mem_append,et] at a;rcases a with a|⟨c,f,rfl⟩;exact d x a;exact e c f
def Sub.look{env env':Env}(h:∀t v,lookup t env'=some v->lookup t env=some v):Sub σ0 ⟨env,σv⟩ ⟨env',σv⟩:=fun _ _ b _ _ _ a=>
 ⟨b,{toRs:=a.toRs,defers:=a.defers,asize:=a.asize,env:=fun t v c=>a.env t v (h t v c)}⟩
end
def flat_get{k:Nat}:∀{l:List (List A)},(∀e ∈ l,eJ e=k)->∀(j:Nat) (e:List A) (o:Nat) (x:A),l[j]? =some e->e[o]? =some x->l.flatten[j * k+o]? =some x
 |[],_,j,e,o,x,h,_=>by simp at h
 |a::l,hk,0,e,o,x,h,b=>by simp only[cG,Option.some.injEq] at h;subst h;rw[dO,dP,cO,cZ (lG.1 b).1];exact b
 |a::l,hk,j+1,e,o,x,h,b=>by have c:=hk a (by simp);have:=flat_get (l:=l) (fun e d=>hk e (List.mem_cons_of_mem _ d)) j e o x (by simpa using h) b;rw[dO,dq,Nat.one_mul,cY (by rw[c];omega),c];rw[show j * k+k+o - k=j * k+o by omega];exact this
def zrep_get{a:List A}(b:0<eJ a):∀(n i:Nat),i<n * (eJ a)->(cM n a).flatten[i]? =a[i % (eJ a)]?
 |0,i,h=>by simp at h
 |n+1,i,h=>by rw[List.replicate_succ,dO];by_cases hi:i<eJ a;rw[cZ hi,Nat.mod_eq_of_lt hi];rw[cY (by omega),zrep_get b n _ (by rw[dq] at h;omega)];congr 1;rw[<- Nat.mod_eq_sub_mod (by omega)]
def NilLL:List (List C)->List (List C)->Prop
 |[],[]=>True
 |c::l,a::b=>NilL c a/\NilLL l b
 |_,_=>False
def NilLL.get:∀{l a:List (List C)},NilLL l a->eJ a=eJ l/\∀(i:Nat) (b:List C),a[i]? =some b->∃c,l[i]? =some c/\NilL c b
 |[],[],_=>⟨rfl,fun i c h=>by simp at h⟩
 |[],_::_,h=>h.elim
 |_::_,[],h=>h.elim
 |c::l,b::a,h=>⟨by simp[(NilLL.get h.2).1],fun i x hi=>by
   cases i with
   |zero=>
    simp only[cG,Option.some.injEq] at hi
    subst hi
    exact⟨c,rfl,h.1⟩
   |succ i=>simpa using(NilLL.get h.2).2 i x (by simpa using hi)⟩
def NilL.len:∀{l a:List C},NilL l a->eJ a=eJ l
 |[],[],_=>rfl
 |[],_::_,h=>h.elim
 |_::_,[],h=>h.elim
 |c::l,b::a,h=>by simp[NilL.len h.2]
def lens(k:Nat):List (List C)->Bool
 |[]=>true
 |e::r=>cJ (eJ e) k && lens k r
def lens_mem:∀{l:List (List C)},lens i l=true->∀e ∈ l,eJ e=i
 |[],_,e,h=>by simp at h
 |a::l,h,e,b=>by simp only[lens,cH] at h;simp only[dN] at b;rcases b with rfl|b;exact cE h.1;exact lens_mem h.2 e b
theorem S.lit{P:Program}{σ0:b6}{sz:Nat}{Q:Post}{env:Env}{σv σ':b6}{ops:Array Oper}{rest:List Oper}{dst:Option Nat}{ty:Ti}{pos:String}{after:Array Edge} {α : Type} {f : α -> List I} {l : List α} {t e : Ti} {id : Id} {k bytes n : Nat} {z : Vl} {zc : List C} {parts : List (Nat × Od)} {ps : List (Nat × T)} {ess : List (List C)} [ht : TyD P t (.slice e)] [hs : TyS P e k bytes z] [hz : TyZ P e zc]
    (hl : cJ (eJ zc) k = true) (hkp : dp 0 k = true) (hsm : di (n * k) 16777216 = true) (hps : evP env parts = some ps) (hf : fillC (fun i => some (i * k, k)) (cM n zc).flatten ps = some ess.flatten) (hlen : lens k ess = true) (hn : cJ (eJ ess) n = true)
    (hnil : NilLL ess ((l.map f).map (·.map .imm))) (hid : newF σv = some id) (hσ : w6 σv (.one (vec k f l)) = some σ') (hd : f7 sz dst = true)
    (h : AOps P σ0 sz ops Q rest (St.mk (putE env dst (.c (.own id 0 (eJ l)))) σ')) : AOps P σ0 sz ops Q (⟨dst, .buildSlice t n parts.toArray, ty, pos, after, none⟩ :: rest) (St.mk env σv) := by
  have g1 := B1 hid; have g2 := u5 hσ
  subst g1 g2
  have hl' : (eJ zc) = k := cE hl
  have hk0 : 0 < k := by simpa using hkp
  have hn' : (eJ ess) = n := cE hn
  have hsm' : ¬ (16777216 < n * k) := by have : n * k <= 16777216 := cQ hsm
                                         omega
  have hle := lens_mem hlen
  obtain ⟨nl1, nl2⟩ := hnil.get
  have hll : (eJ l) = n := by simpa [hn'] using nl1
  have main : AOps P σ0 sz ops Q rest (St.mk (putE env dst (.c (.own (eJ σv, []) 0 n))) (σv ++ [.one (.cells k ess)])) := by
    have hset : b6.put (σv ++ [.one (Blk.cells k ess)]) (eJ σv, []) (some (.cells k ((l.map f).map (·.map .imm)))) = σv ++ [.one (vec k f l)] := b6.put_last _ _ σv
    have hsub := Sub.blk (σ0 := σ0) (env := putE env dst (.c (.own (eJ σv, []) 0 n))) (σv := σv ++ [.one (Blk.cells k ess)]) (id := (eJ σv, [])) (k := k) (es := ess) (es' := (l.map f).map (·.map .imm)) (b6.get_last _ _) nl1
      (fun j e he => by
        obtain ⟨c, hc, hh⟩ := nl2 j e he
        rw [hh.len, hle c (cV hc)]) (fun j e o x he hx => by
        obtain ⟨c, hc, hh⟩ := nl2 j e he
        have hh' : ∀ w φ σ A, _ := fun w φ σ A => (NilL.get (w := w) (φ := φ) (σ := σ) (A := A) hh).2 o x hx
        have ho : o < (eJ c) := by rw [<- hh.len]; exact (lG.1 hx).1
        refine ⟨c, c[o], hc, cK ho, fun w φ σ A u hu => ?_⟩
        obtain ⟨c0, h1, h2⟩ := hh' w φ σ A
        rw [cK ho] at h1
        cases h1
        exact h2 u hu)
    rw [hset] at hsub
    rw [hll] at h
    exact AOps.sub hsub h
  refine AOps.valueW rfl hd (.c (.own (eJ σv, []) 0 n)) (σv ++ [.one (.cells k ess)]) (fun Γ φ a w hR => ?_) (by cases dst <;> exact main)
  obtain ⟨e1, e2⟩ := evP_rel hR hps
  obtain ⟨size', bytes', z', v, hs', k1, k2⟩ := hz.h
  have hzz : z' = z := by
    obtain ⟨i, a1, _, _, a4⟩ := hs.h
    obtain ⟨i', b1, _, _, b4⟩ := hs'.h
    rw [a1] at b1; cases b1
    rw [a4] at b4; cases b4; rfl
  subst hzz
  obtain ⟨zr1, zr2⟩ := Y3 (w := w) (φ := φ) (σ := σv) (A := Al Γ.N φ σv) (ai2 k1) k2
  have hbase : ∀ base, base = (Array.range (n * k)).map (fun i => (if n * k = 0 then (#[] : Array Vl) else z'.cells)[i % (if n * k = 0 then (#[] : Array Vl) else z'.cells).size]!) -> RelL w φ σv (Al Γ.N φ σv) (cM n zc).flatten base := by
    rintro base rfl
    refine ⟨by simp [hl'], fun i c hi => ?_⟩
    have hin : i < n * k := by
      have := (lG.1 hi).1
      simpa [hl'] using this
    have hne : ¬ n * k = 0 := by omega
    rw [zrep_get (by omega) n i (by rw [hl']; exact hin), hl'] at hi
    obtain ⟨u, hu, hr⟩ := zr2 _ c hi
    refine ⟨u, ?_, hr⟩
    have hzs : z'.cells.size = k := by rw [zr1, hl']
    have hlt : i % k < z'.cells.size := by rw [hzs]; exact Nat.mod_lt _ hk0
    simp only [if_neg hne, Array.getElem?_map, Array.getElem?_range, hzs, hin, if_true, cS]
    rw [Array.getElem?_eq_getElem hlt] at hu
    simp [getElem!_pos, hlt, Option.some.inj hu]
  obtain ⟨arr', f1, f2⟩ := aw0 (w := w) e1 e2 (hbase _ rfl) hf
  have hfl : (eJ ess.flatten) = n * k := by
    rw [List.length_flatten]
    have : ess.map eJ = cM n k := by
      rw [<- hn']
      apply df
      intro i
      rw [lM, dt]
      by_cases hi : i < (eJ ess)
      · rw [if_pos hi, cK hi]
        simp only [cS]
        rw [hle _ (dQ hi)]
      · rw [if_neg hi, dx (by omega)]; rfl
    rw [this, List.sum_replicate_nat]
  have hA := Rs.alloc (k := k) (es := ess) (arr := arr') (ety := e) hR.toRs (fun j e he => hle e (cV he)) (by rw [f2.1, hfl, hn']; exact du _) (fun j e o x he hx => f2.2 _ x (flat_get hle j e o x he hx))
  have hnm : n <= maxLen := by
    have : n * 1 <= n * k := Nat.mul_le_mul_left _ hk0
    simp only [maxLen]; omega
  have hnle : 0 + n <= (eJ ess) := by omega
  refine ⟨.slice (some ⟨w.heap.size, 0, none⟩) n n, _, _, ?_, M9 (k := k) (es := ess) (b6.get_last _ _) rfl (.inr ⟨w.heap.size, 0, n, arr', e, ⟨w.heap.size, 0, none⟩, by simp [s8], rfl, fun _ => by simp, du _, hnm, hnle, heap_alloc_new w _, by rw [f2.1, hfl]; simp⟩), hR.of hA.1 hA.2⟩
  have e3 : (execOp a.eval ⟨dst, .buildSlice t n parts.toArray, ty, pos, after, none⟩).run P w = ((Instr.buildSlice t n (parts.map fun p => (p.1, a.eval p.2)).toArray).run P w).andThen fun v w => .ok (.value v) w := by
    simp [execOp]
  rw [e3]
  by_cases h0 : n * k = 0
  · simp only [h0, if_true] at f1
    simp [Instr.buildSlice, run_underlying ht.h, u3 (t := e), h0, newRow]
    simp at f1
    rw [f1]
    simp
  · simp only [if_neg h0] at f1
    have hz2 : (zeroValue e).run P w = .ok z' w := R5 (t := e) w
    simp [Instr.buildSlice, run_underlying ht.h, u3 (t := e), hz2, h0, hsm', newRow]
    try simp at f1
    rw [f1]
    simp
def hdr(id:Id)(M:List (List A)):List (List C):=M.mapIdx fun p row=>[.own (id.1,id.2++[p]) 0 (eJ row)]
def mat{α:Type}(id:Id)(k:Nat)(f:α->List I)(M:List (List α)):Ent:=.node (some (.cells 1 (hdr id M))) (M.map fun row=>.one (vec k f row))
def matD(id:Id)(k:Nat)(f:A->List I)(M:List (List A))(p:Nat):Ent:=.node (some (.cells 1 (hdr id M))) ((M.map fun row=>.one (vec k f row)).set p .dead)
def matSD(id:Id)(k:Nat)(f:A->List I)(M:List (List A))(p:Nat)(n:Id)(m:Nat):Ent:=.node (some (.cells 1 ((hdr id M).set p [.own n 0 m]))) ((M.map fun row=>.one (vec k f row)).set p .dead)
def hdr_get{row:List A}(h:X[i]? =some row):(hdr Q X)[i]? =some [.own (Q.1,Q.2++[i]) 0 (eJ row)]:=by
 simp[hdr,cN,h]
def ax3{e:List C}(h:(hdr Q X)[i]? =some e):∃row,X[i]? =some row/\e=[.own (Q.1,Q.2++[i]) 0 (eJ row)]:=by simp only[hdr,cN,oM] at h;obtain⟨row,a,b⟩:=h;exact⟨row,a,b.symm⟩
@[simp] theorem hdr_length(id:Id)(M:List (List A)):(hdr id M).length=eJ M:=by simp[hdr]
def hdr_set{id:Id}{row:List A}:hdr id (X.set i row)=(hdr id X).set i [.own (id.1,id.2++[i]) 0 (eJ row)]:=by apply df;intro a;by_cases hi:i=a;subst hi;by_cases b:i<eJ X;simp[hdr,cN,cU,b];simp[hdr,cN,cU,b];simp[hdr,cN,cU,hi]
def hdr_same{id:Id}{row b:List A}(h:X[i]? =some row)(c:eJ b=eJ row):hdr id (X.set i b)=hdr id X:=by
 rw[hdr_set,c];apply df;intro a;rw[cU];by_cases hi:i=a;subst hi;have hp:i<(hdr id X).length:=by rw[hdr_length];exact(lG.1 h).1
 rw[if_pos rfl,if_pos hp,hdr_get h];rw[if_neg hi]
def mat_main:(mat Q i V X).sub []=some (.cells 1 (hdr Q X)):=rfl
def Q0{p:Nat}:(mat Q i V X).sub (p::c)=match X[p]? with|some row=>(match c with|[]=>some (vec i V row)|_::_=>none)|none=>none:=by
 simp only[mat,Ent.sub,lM];cases X[p]? with
 |none=>rfl
 |some row=>cases c<;>rfl
def o9{e:Ent}(h:p[i]? =some e)(a:List Nat):p[((i,a):Id)]? =some (e.sub a):=by
 rw[b6.at_eq];simp only[b6.at,h]
def B3{f:A->List I}{k:Nat}(h:p[i]? =some (mat (i,[]) k f X)){a:Int}{row:List A}(b:ix X a=some row):p[((i,[a.toNat]):Id)]? =some (some (vec k f row)):=by
 rw[o9 h,Q0,(H6 b).2]
def ay1(h:p[q]? =some (mat (q,[]) i V X)):p[((q,[]):Id)]? =some (some (.cells 1 (hdr (q,[]) X))):=by rw[o9 h];rfl
/-! ### Reading -/
def S.lenM{env:Env}{ops:Array Oper}{rest:List Oper}{f:A->List I}{k:Nat}{t e:Ti}{n:Nat}[l:TyD d t (.slice e)](b:ev env P=some (.c (.own (q,[]) 0 n)))(a:B[q]? =some (mat (q,[]) k f X))(j:f7 i H=true)(h:n<=9223372036854775807->AOps d p i ops s rest (St.mk (putE env H (.c (int n))) B)):AOps d p i ops s (⟨H,.call ⟨.builtin .len,#[P],#[t]⟩,g,L,M,none⟩::rest) (St.mk env B):=
 .lenOwnB b (ay1 a) j h
def S.loadM{b:Program}{env:Env}{ops:Array Oper}{rest:List Oper}{j:Array Edge}{f:A->List I}{M:List (List A)}{k r:Nat}{t:Ti}{d:TypeDesc}{e:Int}{a:List A}[v:TyD b t d](n:ix M e=some a)(o:B5 d=false)(q:ev env P=some (.c (.ptr (r,[]) e.toNat 0)))(l:B[r]? =some (mat (r,[]) k f M))(u:f7 i H=true)(h:AOps b p i ops s rest (St.mk (putE env H (.c (.own (r,[e.toNat]) 0 (eJ a)))) B)):AOps b p i ops s (⟨H,.load t P,g,L,j,none⟩::rest) (St.mk env B):=
 .load o q (ay1 l) (hdr_get (H6 n).2) rfl u h
/-! ### A row written -/
def ac3{e b:Ent}(h:p[i]? =some e)(a:Id):(p.set i b)[a]? =if a.1=i then some (b.sub a.2) else p[a]? :=by have c:=(lG.1 h).1;rw[b6.at_eq,b6.at_eq];simp only[b6.at,cU];by_cases hi:i=a.1;subst hi;simp[c];rw[if_neg hi,if_neg (fun e=>hi e.symm)]
def mat_put{r:Nat}(h:p[r]? =some (mat (r,[]) i V X)){c:Nat}{row e:List A}(l:X[c]? =some row)(o:eJ e=eJ row)(d:Id):
  (p.put (r,[c]) (some (vec i V e)))[d]? =(p.set r (mat (r,[]) i V (X.set c e)))[d]? :=by
 have g:p[((r,[c]):Id)]? =some (some (vec i V row)):=by rw[o9 h,Q0,l]
 have hp:=(lG.1 l).1
 rw[ac3 h]
 by_cases hi:d=(r,[c])
 ·subst hi
  rw[b6.get_put_eq g,if_pos rfl,Q0]
  simp[hp]
 ·rw[b6.get_put_ne hi]
  by_cases n:d.1=r
  ·obtain⟨s,q⟩:=d
   simp only at n
   subst n
   rw[if_pos rfl,o9 h]
   congr 1
   cases q with
   |nil=>simp only[mat_main];rw[hdr_same l o]
   |cons a q=>
    rw[Q0,Q0,cU]
    by_cases j:c=a
    ·subst j
     cases q with
     |nil=>exact absurd rfl hi
     |cons b q=>rw[if_pos rfl,if_pos hp,l]
    ·rw[if_neg j]
  ·rw[if_neg n]
def S.storeR1{env:Env}{σ':b6}{ops:Array Oper}{rest:List Oper}{f:A->List I}{k:Nat}{y:Od}{t:Ti}{bytes:Nat}{z:Vl}{b e:Nat}{row:List A}{a':A}{c:I}[J:TyS d t 1 bytes z](w:X[b]? =some row)(hi:e<eJ row)(E:∀a,∃u,f a=[u])(v:f a'=[c])(F:ev env P=some (.c (.ptr (q,[b]) e 0)))(G:ev env y=some (.c (.imm c)))(l:B[q]? =some (mat (q,[]) k f X))(n:setF B q (mat (q,[]) k f (X.set b (row.set e a')))=some σ')(h:AOps d p i ops s rest (St.mk env σ')):AOps d p i ops s (⟨none,.store t P y,g,L,M,none⟩::rest) (St.mk env B):=by
 have H:=(I7 n).1
 subst H
 have o:B[((q,[b]):Id)]? =some (some (vec k f row)):=by rw[o9 l,Q0,w]
 obtain⟨u,D⟩:=E row[e]
 refine AOps.store F G o (vec_get (cK hi)) (by rw[D];simp) ?_
 rw[D,show([u].map C.imm).set 0 (.imm c)=(f a').map .imm by rw[v];rfl,vec_set]
 refine AOps.sub (Sub.same (by simp) fun j=>mat_put l w (by simp) j) h
/-! ### Appended to a row -/
def matD_put{r:Nat}(h:p[r]? =some (mat (r,[]) i V X)){c:Nat}{row:List A}(j:X[c]? =some row)(d:Id):
  (p.put (r,[c]) none)[d]? =(p.set r (matD (r,[]) i V X c))[d]? :=by
 have e:p[((r,[c]):Id)]? =some (some (vec i V row)):=by rw[o9 h,Q0,j]
 have hp:=(lG.1 j).1
 rw[ac3 h]
 by_cases hi:d=(r,[c])
 ·subst hi
  rw[b6.get_put_eq e,if_pos rfl]
  simp[matD,Ent.sub,hp]
 ·rw[b6.get_put_ne hi]
  by_cases l:d.1=r
  ·obtain⟨n,q⟩:=d
   simp only at l
   subst l
   rw[if_pos rfl,o9 h]
   congr 1
   cases q with
   |nil=>rfl
   |cons a q=>
    simp only[mat,matD,Ent.sub,cU,dr]
    by_cases g:c=a
    ·subst g
     cases q with
     |nil=>exact absurd rfl hi
     |cons b q=>rw[if_pos rfl,if_pos hp];simp[j,Ent.sub]
    ·rw[if_neg g]
  ·rw[if_neg l]
def S.appendR{env:Env}{b σ':b6}{ops:Array Oper}{rest:List Oper}{j:Array Edge}{f:A->List I}{M:List (List A)}{k r:Nat}{new F row:List A}{y:Od}{t e:Ti}{bytes p:Nat}{z:Vl}{v:T}{l:b6}[ht:TyD d t (.slice e)][hs:TyS d e k bytes z](N:app bytes row new=some F)(K:M[p]? =some row)(G:(z.cells.size==k)=true)(J:dp 0 bytes=true)(O:ev env P=some (.c (.own (r,[p]) 0 q)))(U:q=eJ row)(o:b[r]? =some (mat (r,[]) k f M))(V:ev env y=some v)(u:SrcF b k f v new)(X:newF b=some Q)(x:setF b r (matD (r,[]) k f M p)=some l)(w:w6 l (.one (vec k f F))=some σ')(n:f7 i H=true)(h:AOps d B i ops s rest (St.mk (putE env H (.c (.own Q 0 (eJ F)))) σ')):
  AOps d B i ops s (⟨H,.call ⟨.builtin .append,#[P,y],#[t,t]⟩,g,L,j,none⟩::rest) (St.mk env b):=by
 obtain⟨hb,rfl⟩:=am8 N
 have h2:=(I7 x).1
 have h3:=B1 X;have h4:=u5 w
 subst U h2 h3 h4
 have D:b[((r,[p]):Id)]? =some (some (vec k f row)):=by rw[o9 o,Q0,K]
 refine AOps.append (new:=(new.map f).map (·.map .imm)) G J O D V u.src (by simpa using hb) n ?_
 have e1:(((((row.map f).map (·.map C.imm)).drop 0).take (eJ row))++(new.map f).map (·.map C.imm))=((row++new).map f).map (·.map C.imm):=by rw[dy,cX (by simp)];simp
 have e2:eJ row+((new.map f).map (·.map C.imm)).length=(row++new).length:=by simp
 rw[e1,e2]
 refine AOps.sub (s':=⟨putE env H (.c (.own (eJ b,[]) 0 (row++new).length)),b.set r (matD (r,[]) k f M p)++[.one (vec k f (row++new))]⟩) (Sub.same (by simp) fun a=> ?_) h
 rcases dh a.1 (eJ b) with E|E
 ·rw[b6.get_left (by simpa using E),b6.get_left (by simpa using E),matD_put o K]
 ·rw[b6.get_right (by simpa using E),b6.get_right (by simpa using E),b6.length_put,lS];rfl
def S.storeHD{env:Env}{j σ':b6}{ops:Array Oper}{rest:List Oper}{l:Array Edge}{f:A->List I}{M:List (List A)}{k r:Nat}{y:Od}{t:Ti}{bytes m p:Nat}{z:Vl}{row:List A}[G:TyS d t 1 bytes z](w:M[p]? =some row)(D:ev env P=some (.c (.ptr (r,[]) p 0)))(E:ev env y=some (.c (.own Q 0 m)))(o:j[r]? =some (matD (r,[]) k f M p))(u:setF j r (matSD (r,[]) k f M p Q m)=some σ')(h:AOps d B i ops s rest (St.mk env σ')):AOps d B i ops s (⟨none,.store t P y,g,L,l,none⟩::rest) (St.mk env j):=by
 have F:=(I7 u).1
 subst F
 have e:j[((r,[]):Id)]? =some (some (.cells 1 (hdr (r,[]) M))):=by rw[o9 o];rfl
 refine AOps.store D E e (hdr_get w) (by simp) ?_
 refine AOps.sub (Sub.same (by simp) fun b=> ?_) h
 rw[ac3 o]
 by_cases hi:b=(r,[])
 ·subst hi
  rw[b6.get_put_eq e,if_pos rfl];rfl
 ·rw[b6.get_put_ne hi]
  by_cases v:b.1=r
  ·obtain⟨H,q⟩:=b
   simp only at v
   subst v
   rw[if_pos rfl,o9 o]
   cases q with
   |nil=>exact absurd rfl hi
   |cons a q=>rfl
  ·rw[if_neg v]
/-! ### A row made anew takes its place -/
def K0{n:Nat}{g:A->List I}{l:List A}{k:Nat}:(vec k g l).ok n=true:=Blk.im_ok _ _ _
def hdr_ok(a:i<q)(M:List (List A)):(Blk.cells 1 (hdr (i,[]) M)).ok q=true:=by simp only[Blk.ok,cL];intro e b;obtain⟨j,c⟩:=dE b;obtain⟨row,_,rfl⟩:=ax3 c;simp[C.okL,C.ok,a]
structure MatAt{α:Type}(σ:b6)(r k:Nat)(f:α->List I)(M:List (List α))(p:Nat)(n:Id)(m:Nat):Prop where
 main:σ[((r,[]):Id)]? =some (some (.cells 1 ((hdr (r,[]) M).set p [.own n 0 m])))
 rows:∀(q:Nat) (row:List α),q ≠ p->M[q]? =some row->σ[((r,[q]):Id)]? =some (some (vec k f row))
def matSD_at{f:A->List I}{M:List (List A)}{k r:Nat}{p:Nat}(h:B[r]? =some (matSD (r,[]) k f M p Q i)):MatAt B r k f M p Q i:=
 ⟨by rw[o9 h];rfl,fun q row b c=>by rw[o9 h];have a:¬ p=q:=fun e=>b e.symm;simp only[matSD,Ent.sub,cU,if_neg a,lM,c];rfl⟩
def Sub.moveR{env env':Env}{o σ':b6}{f:A->List I}{M:List (List A)}{k r:Nat}{s p:Nat}{row n:List A}(X:MatAt o r k f M p (s,[]) i)(he:M[p]? =some row)(hm:i=eJ n)(hs:o[((s,[]):Id)]? =some (some (vec k f n)))(h0:di (eJ B) r=true)(hl:di (eJ B) (eJ σ')=true)(L:σ'[r]? =some (mat (r,[]) k f (M.set p n)))(F:σ'[s]? =none\/σ'[s]? =some .dead)(G:∀(d:Id) (b:Blk),d.1 ≠ r->σ'[d]? =some (some b)->o[d]? =some (some b)/\b.ok (eJ σ')=true/\b.no (r,[p])=true)(H:S7 env env')(N:X8 (eJ σ') env'=true)(O:envNo (r,[p]) env'=true):Sub B ⟨env,o⟩ ⟨env',σ'⟩:=by
 subst hm
 have aa:=cQ h0
 have hp:=(lG.1 he).1
 have P:=(lG.1 L).1
 have u:mv (r,[p]) (s,[]) (r,[p])=(s,[]):=by simp[mv,H4.2 rfl]
 have g:∀d,d ≠ (r,[p])->mv (r,[p]) (s,[]) d=d:=fun d h=>by simp[mv,F2 h]
 have J:∀b,σ'[((s,[]):Id)]? ≠ some (some b):=fun b K=>by rw[b6.at_eq] at K;simp only[b6.at] at K;rcases F with h|h<;>rw[h] at K<;>cases K
 have ac:s ≠ r:=fun e=>by subst e;rcases F with h|h<;>rw[L] at h<;>cases h
 have Q:∀c:C,c.no (r,[p])=true->c.ren (mv (r,[p]) (s,[]))=c:=C.ren_no
 refine Sub.mk (mv (r,[p]) (s,[])) (fun d hi=>g d (fun e=>by subst e;simp only at hi;omega)) (cQ hl) (fun d j b b' hi U h=> ?_) (fun d b hi=> ?_) (fun t v V=>⟨am7 N t v V,?_⟩)
 ·by_cases D:d=(r,[p])<;>by_cases E:j=(r,[p])
  ·rw[D,E]
  ·rw[D,u,g j E] at h
   subst h;exact absurd U (J _)
  ·rw[E,u,g d D] at h
   subst h;exact absurd hi (J _)
  ·rwa [g d D,g j E] at h
 ·dsimp only at hi ⊢
  by_cases w:d.1=r
  ·obtain⟨i1,q⟩:=d
   simp only at w
   subst w
   rw[o9 L] at hi
   simp only[Option.some.injEq] at hi
   cases q with
   |nil=>
    cases hi
    refine⟨hdr_ok P _,?_⟩
    rw[g _ (by simp),X.main]
    congr 2
    -- the head of row p
    simp only[Blk.ren]
    congr 1
    apply df
    intro j
    rw[hdr_set,cU,lM,cU]
    by_cases x:p=j
    ·subst x
     simp[hp,C.renL,C.ren,u]
    ·rw[if_neg x,if_neg x]
     cases U:(hdr (i1,[]) M)[j]? with
     |none=>rfl
     |some e=>
      obtain⟨z,g1,rfl⟩:=ax3 U
      simp[C.renL,C.ren,g (i1,[j]) (by simp;exact fun e=>x e.symm)]
   |cons a q=>
    rw[Q0] at hi
    split at hi
    ·rename_i z l
     cases q with
     |cons b q=>cases hi
     |nil=>
      simp only[Option.some.injEq] at hi
      subst hi
      refine⟨K0,?_⟩
      rw[Blk.im_ren]
      by_cases y:a=p
      ·subst y
       rw[u,hs]
       rw[cU,if_pos rfl,if_pos hp] at l
       cases l;rfl
      ·rw[g _ (by simp[y])]
       rw[cU,if_neg (fun e=>y e.symm)] at l
       exact X.rows a z y l
    ·cases hi
  ·obtain⟨D,E,h3⟩:=G d b w hi
   refine⟨E,?_⟩
   rw[g d (fun e=>w (by rw[e])),Blk.ren_no b h3]
   exact D
 ·rw[T.ren_no v (an0 O t v V)]
  exact H.get t v V
/-! ### Made -/
def Rs.allocM{F:Cx}{y:Phi}(h:Rs F p y a){n k:Nat}(f:A->List I){arr:Array Vl}{ety:Ti}(U:n<=arr.size)(hc:∀j,j<n->arr[j]? =some (.slice none 0 0)):
  Kept a (a.alloc (.cells arr ety)) y (s8 (eJ p) (fun i=>if i.1<eJ p then y i else none) a.heap.size) p (p++[mat (eJ p,[]) k f (cM n ([]:List A))]) (Al F.N y p) (Al F.N (s8 (eJ p) (fun i=>if i.1<eJ p then y i else none) a.heap.size) (p++[mat (eJ p,[]) k f (cM n ([]:List A))]))/\
  Rs F (p++[mat (eJ p,[]) k f (cM n ([]:List A))]) (s8 (eJ p) (fun i=>if i.1<eJ p then y i else none) a.heap.size) (a.alloc (.cells arr ety)):=by
 generalize J:s8 (eJ p) (fun i=>if i.1<eJ p then y i else none) a.heap.size=u
 generalize hM:cM n ([]:List A)=M
 have G:∀c row,M[c]? =some row->row=[]:=fun c row hp=>by rw[<- hM,dt] at hp;split at hp<;>cases hp;rfl
 have z:eJ M=n:=by rw[<- hM];simp
 have old:∀b,b<a.heap.size->(a.alloc (.cells arr ety)).heap[b]? =a.heap[b]? :=fun b K=>by first|exact heap_alloc_old a _ K|exact heap_alloc_old a _ _ K
 have new:(a.alloc (.cells arr ety)).heap[a.heap.size]? =some (.cells arr ety (0,0)):=heap_alloc_new a _
 have r:∀i:Id,i.1<eJ p->u i=y i:=fun i hi=>by
  have:i ≠ (eJ p,[]):=fun e=>by rw[e] at hi;exact Nat.lt_irrefl _ hi
  rw[<- J];simp[s8,this,hi]
 have s:u (eJ p,[])=some (a.heap.size,0):=by rw[<- J];simp[s8]
 have prow:∀d q,u (eJ p,d::q)=none:=fun d q=>by rw[<- J];simp[s8]
 have l:∀(i:Id) blk,(p++[mat (eJ p,[]) k f M])[i]? =some (some blk)->(i.1<eJ p/\p[i]? =some (some blk))\/(i=(eJ p,[])/\blk=.cells 1 (hdr (eJ p,[]) M))\/(∃c,c<n/\i=(eJ p,[c])/\blk=vec k f ([]:List A)):=fun i blk hi=>by
  rcases dh i.1 (eJ p) with L|L;rw[b6.get_left L] at hi;exact .inl ⟨L,hi⟩;have O:=b6.lt_of hi;rw[dw] at O;simp only[List.length_cons,List.length_nil] at O;obtain⟨i1,q⟩:=i;have e:i1=eJ p:=by simp only at L O;omega
  subst e;rw[b6.get_right (du _)] at hi;simp only[Nat.sub_self] at hi;rw[o9 (e:=mat (eJ p,[]) k f M) rfl] at hi;simp only[Option.some.injEq] at hi;cases q with
  |nil=>cases hi;exact .inr (.inl ⟨rfl,rfl⟩)
  |cons d q=>
   rw[Q0] at hi
   split at hi
   ·rename_i row P
    cases q with
    |cons b q=>cases hi
    |nil=>
     cases hi
     refine .inr (.inr ⟨d,by rw[<- z];exact(lG.1 P).1,rfl,?_⟩)
     rw[G d row P]
   ·cases hi
 have A1:∀b,Al F.N y p b->b<a.heap.size->Al F.N u (p++[mat (eJ p,[]) k f M]) b:=fun b K L=>⟨K.1,fun i blk t hi hp=>by rcases l i blk hi with⟨H,E⟩|⟨rfl,rfl⟩|⟨c,_,rfl,_⟩;rw[r i H] at hp;exact K.2 i blk t E hp;rw[s] at hp;cases hp;omega;rw[prow] at hp;cases hp⟩
 have V:Kept a (a.alloc (.cells arr ety)) y u p (p++[mat (eJ p,[]) k f M]) (Al F.N y p) (Al F.N u (p++[mat (eJ p,[]) k f M])):=
  {imm:=fun b _ L=>old b L,all:=A1,len:=by simp,
   cells:=fun i kk Q hi v=>by rw[b6.get_left hi] at v;exact⟨Q,v,rfl,r i hi,fun b t arr ety hp K=>⟨arr,(old b (Al.own_lt h.st v hp)).trans K,rfl⟩⟩,
   obj:=fun i p' X hi v=>by rw[b6.get_left hi] at v;exact⟨r i hi,p',X,v⟩}
 refine⟨V,?_⟩
 exact {
  good:=h.good
  st:=⟨fun i b hi=>by
    rcases l i b hi with⟨H,E⟩|⟨rfl,rfl⟩|⟨c,hp,rfl,rfl⟩;rw[r i H];exact(h.st.blk i b E).mono V fun g t hp=>old g (Al.own_lt h.st E hp);rw[s];refine .inr ⟨a.heap.size,0,arr,ety,rfl,new,by simp[z];exact U,fun j e v=> ?_,fun j e o x v w=> ?_⟩;obtain⟨row,_,rfl⟩:=ax3 v;rfl;obtain⟨row,P,rfl⟩:=ax3 v;have aa:j<n:=by rw[<- z];exact(lG.1 P).1
    cases o with
    |succ o=>simp at w
    |zero=>
     simp only[cG,Option.some.injEq] at w
     subst w
     refine⟨.slice none 0 0,by simpa using hc j aa,?_⟩
     rw[G j row P]
     exact .own (by simp) rfl fun k' Q _=>.inl ⟨prow _ _,rfl,rfl,rfl⟩
    rw[prow];exact .inl ⟨rfl,rfl⟩,
   fun i j bi bj c q hi hj hp D v=>by obtain⟨pb,po⟩:=c;obtain⟨qb,qo⟩:=q;dsimp only at v;subst v;rcases l i bi hi with⟨H,E⟩|⟨rfl,rfl⟩|⟨c,_,rfl,_⟩<;>rcases l j bj hj with⟨g1,g2⟩|⟨rfl,rfl⟩|⟨p',_,rfl,_⟩;rw[r i H] at hp;rw[r j g1] at D;exact h.st.inj i j bi bj _ _ E g2 hp D rfl;rw[r i H] at hp;rw[s] at D;cases D;have:=Al.own_lt h.st E hp;omega;rw[prow] at D;cases D;rw[r j g1] at D;rw[s] at hp;cases hp;have:=Al.own_lt h.st g2 D;omega;rfl;rw[prow] at D;cases D;rw[prow] at hp;cases hp;rw[prow] at hp;cases hp;rw[prow] at hp;cases hp⟩
  keep:=fun i blk b t hi hp B=>by rcases l i blk hi with⟨H,E⟩|⟨rfl,rfl⟩|⟨c,_,rfl,_⟩;rw[r i H] at hp;exact h.keep i blk b t E hp B;rw[s] at hp;cases hp;have:=B.1;have:=h.size;omega;rw[prow] at hp;cases hp
  os:=h.os
  tape:=h.tape
  drawn:=h.drawn
  output:=h.output
  size:=dG h.size (by simp)
  block:=fun b B=>(old b (dM B.1 h.size)).trans (h.block b B)
  kept:=Kept.trans h.size h.kept V}
def S.makeM{env:Env}{σ':b6}{ops:Array Oper}{rest:List Oper}{o:Array Edge}{M:List (List A)}{y:Od}{t e:Ti}{bytes:Nat}{n:Int}(k:Nat)(f:A->List I)[J:TyD d t (.slice e)][K:TyS d e 1 bytes (.slice none 0 0)](N:mkL bytes n ([]:List A)=some M)(O:ev env P=some (.c (int n)))(U:ev env y=some (.c (int n)))(u:newF B=some Q)(v:w6 B (mat Q k f M)=some σ')(V:f7 i H=true)(h:AOps d p i ops s rest (St.mk (putE env H (.c (.own Q 0 (eJ M)))) σ')):AOps d p i ops s (⟨H,.makeSlice t P y,g,L,o,none⟩::rest) (St.mk env B):=by
 obtain⟨⟨X,x,h3⟩,rfl⟩:=mkL_get N
 have g2:=B1 u;have g3:=u5 v
 subst g2 g3
 refine .valueW rfl V (.c (.own (eJ B,[]) 0 (cM n.toNat ([]:List A)).length)) (B++[mat (eJ B,[]) k f (cM n.toNat ([]:List A))]) (fun Γ φ a w q=> ?_) (by cases H<;>exact h)
 obtain⟨b,z,D,E,F⟩:=K.h
 have l:=run_make (P:=d) w t e b (.slice none 0 0) J.h z F .i64 .i64 n n X (Int.le_refl _) (by rw[E];exact h3) x
 rw[D,dJ] at l
 have hz:∀j,j<n.toNat->(madeCells (Value.slice none 0 0).cells n.toNat)[j]? =some (.slice none 0 0):=fun j hj=>by simp[madeCells,hj,Value.cells,Nat.mod_one]
 have G:=Rs.allocM (k:=k) (arr:=madeCells (Value.slice none 0 0).cells n.toNat) (ety:=e) (n:=n.toNat) q.toRs f (by simp[size_madeCells]) hz
 refine⟨.slice (some ⟨w.heap.size,0,none⟩) n.toNat n.toNat,_,_,by simp[execOp,A6 q O,A6 q U,l],?_,q.of G.1 G.2⟩
 refine .c (.own (by simp) rfl fun k' ad r=> ?_)
 rw[b6.get_right (du _)] at r
 simp only[Nat.sub_self] at r
 rw[o9 (e:=mat (eJ B,[]) k f (cM n.toNat ([]:List A))) rfl] at r
 cases r
 refine .inr ⟨w.heap.size,0,n.toNat,_,e,⟨w.heap.size,0,none⟩,by simp[s8],by simp,fun _=>by simp,by simp,by simp only[maxLen];omega,by simp,heap_alloc_new w _,by simp[size_madeCells]⟩
/-! ### The whole ceases to change -/
def hdrF(r k:Nat)(f:A->List I)(M:List (List A))(q:Nat):List (List C):=M.mapIdx fun p row=>[if p<q then .imm (.sl k (row.map f)) else .own (r,[p]) 0 (eJ row)]
def matF(r k:Nat)(f:A->List I)(M:List (List A))(q:Nat):Ent:=.node (some (.cells 1 (hdrF r k f M q))) (M.mapIdx fun p row=>if p<q then .dead else .one (vec k f row))
def hdrF_zero:hdrF q i V X 0=hdr (q,[]) X:=by simp[hdrF,hdr]
def matF_zero(p:List Nat):(matF q i V X 0).sub p=(mat (q,[]) i V X).sub p:=by
 cases p with
 |nil=>simp only[matF,mat,Ent.sub,hdrF_zero]
 |cons a p=>simp[matF,mat,Ent.sub,cN]
def frz_row{r:Nat}{row:List A}(d:X[q]? =some row):Blk.frz (r,[q]) i (row.map V) (.cells 1 (hdrF r i V X q))=.cells 1 (hdrF r i V X (q+1)):=by
 simp only[Blk.frz];congr 1;apply df;intro j;simp only[hdrF,lM,cN,eI];cases a:X[j]? with
 |none=>rfl
 |some e=>
  simp only[cS,Function.comp_apply,C.frzL,Option.some.injEq,List.cons.injEq,and_true]
  by_cases b:j<q
  ·rw[if_pos b,if_pos (by omega)];rfl
  ·rw[if_neg b]
   by_cases c:j=q
   ·subst c
    rw[d] at a
    cases a
    rw[if_pos (by omega)]
    simp[C.frz,H4.2 rfl,cX]
   ·rw[if_neg (by omega)]
    have:idb (r,[j]) (r,[q])=false:=F2 (by simp;exact c)
    simp[C.frz,this]
def rowless(r:Nat):C->Bool
 | .imm _=>true
 | .own i _ _=> !(cJ i.1 r)||(match i.2 with|[]=>true|_=>false)
 | .ptr i _ _=> !(cJ i.1 r)||(match i.2 with|[]=>true|_=>false)
 | .fn _ []=>true
 | .fn _ [.ptr i _ _]=> !(cJ i.1 r)
 | .fn _ [.ptr i _ _,.ptr j _ _]=> !(cJ i.1 r) && !(cJ j.1 r)
 | .fn _ [.ptr i _ _,.ptr j _ _,.ptr l _ _]=> !(cJ i.1 r) && !(cJ j.1 r) && !(cJ l.1 r)
 |_=>false
def rowless_no{c:C}(h:rowless i c=true):c.no (i,[q])=true:=by
 have d:∀{b:Id},(!(cJ b.1 i))=true->idb b (i,[q])=false:=fun {b} hi=>F2 (fun e=>by subst e;simp at hi);unfold rowless at h;split at h;rfl;rename_i b _ _;simp only[dK] at h;rcases h with h|h;simp[C.no,d h];obtain⟨a,l⟩:=b;cases l with
 |nil=>simp[C.no,idb,lbeq]
 |cons=>simp at h
 rename_i b _ _;simp only[dK] at h;rcases h with h|h;simp[C.no,d h];obtain⟨a,l⟩:=b;cases l with
 |nil=>simp[C.no,idb,lbeq]
 |cons=>simp at h
 rfl;simp[C.no,C.noL,d h];simp only[cH] at h;simp[C.no,C.noL,d h.1,d h.2];simp only[cH] at h;simp[C.no,C.noL,d h.1.1,d h.1.2,d h.2];cases h
def aD9(r:Nat):List C->Bool
 |[]=>true
 |c::l=>rowless r c && aD9 r l
def rowlessL_no:∀{l:List C},aD9 i l=true->C.noL (i,[q]) l=true
 |[],_=>rfl
 |c::l,h=>by simp only[aD9,cH] at h;simp only[C.noL,rowless_no h.1,rowlessL_no h.2,Bool.and_self]
def rowlessT(r:Nat):T->Bool
 | .c c=>rowless r c
 | .agg l=>aD9 r l
 | .undef=>true
 | .tup _=>false
def aq7(r:Nat):Env->Bool
 |[]=>true
 |(_,v)::l=>rowlessT r v && aq7 r l
def rowlessT_no{t:T}(h:rowlessT i t=true):t.no (i,[q])=true:=by
 cases t with
 |c c=>exact rowless_no h
 |agg l=>exact rowlessL_no h
 |tup=>cases h
 |undef=>rfl
def aG7:∀{env:Env},aq7 i env=true->∀t v,lookup t env=some v->rowlessT i v=true
 |[],_,t,v,h=>by simp[lookup] at h
 |(k,x)::l,h,t,v,a=>by simp only[aq7,cH] at h;simp only[lookup] at a;split at a;cases a;exact h.1;exact aG7 h.2 t v a
def aq4(r:Nat)(σ:b6):Prop:=∀(i:Id) (b:Blk),i.1 ≠ r->σ[i]? =some (some b)->∀q,b.no (r,[q])=true
def Sub.frzRows{env:Env}{r:Nat}(x:di (eJ p) r=true)(e:B[r]? =some (mat (r,[]) i V X))(l:aq4 r B)(y:aq7 r env=true):∀q,q<=eJ X->Sub p ⟨env,B⟩ ⟨env,B.set r (matF r i V X q)⟩
 |0,_=>Sub.same (by simp) fun c=>by rw[ac3 e];by_cases hi:c.1=r;obtain⟨E,d⟩:=c;simp only at hi;subst hi;rw[if_pos rfl,o9 e,matF_zero];rw[if_neg hi]
 |q+1,J=>by
  refine(Sub.frzRows x e l y q (by omega)).trans ?_;have u:r<eJ B:=(lG.1 e).1;have j:X[q]? =some X[q]:=cK (by omega);have n:(B.set r (matF r i V X q))[r]? =some (matF r i V X q):=by rw[cU];simp[u]
  have h:(B.set r (matF r i V X q))[((r,[q]):Id)]? =some (some (Blk.im i (X[q].map V))):=by rw[o9 n];simp[matF,Ent.sub,cN,j]
  have w:=Sub.frz (σ0:=p) (s:=⟨env,B.set r (matF r i V X q)⟩) (r,[q]) i (X[q].map V) (cQ x) h;refine w.trans ((Sub.same (σ2:=B.set r (matF r i V X (q+1))) (by simp[St.frz]) fun c=> ?_).trans (Sub.look fun t v z=> ?_));simp only[St.frz];rw[b6.get_map,ac3 e];by_cases hi:c=(r,[q]);subst hi;rw[b6.get_put_eq h,if_pos rfl];simp[matF,Ent.sub,cN,j];rw[b6.get_put_ne hi,ac3 e];by_cases g:c.1=r;obtain⟨E,d⟩:=c;simp only at g;subst g;rw[if_pos rfl,if_pos rfl];simp only[cS,Option.some.injEq];cases d with
  |nil=>simp only[matF,Ent.sub,cS,frz_row j]
  |cons a d=>
   simp only[matF,Ent.sub,cN]
   cases K:X[a]? with
   |none=>rfl
   |some row=>
    simp only[cS]
    by_cases D:a<q
    ·rw[if_pos D,if_pos (by omega)];cases d<;>rfl
    ·rw[if_neg D]
     by_cases G:a=q
     ·subst G
      rw[if_pos (by omega)]
      cases d with
      |nil=>exact absurd rfl hi
      |cons=>rfl
     ·rw[if_neg (by omega)]
      cases d with
      |nil=>simp only[Ent.sub,cS,Blk.frz_no _ (Blk.im_no _ _ _)]
      |cons=>rfl
  rw[if_neg g,if_neg g];cases H:B[c]? with
  |none=>rfl
  |some o=>
   cases o with
   |none=>rfl
   |some b=>simp only[cS,Blk.frz_no _ (l c b g H q)]
  simp only[St.frz];rw[ao9 (fun v=>v.frz (r,[q]) i (X[q].map V)),z];simp only[cS,T.frz_no v (rowlessT_no (aG7 y t v z))]
def matF_all:hdrF q i V X (eJ X)=(X.map fun row=>[I.sl i (row.map V)]).map (·.map C.imm):=by
 apply df;intro j;simp only[hdrF,cN,lM];cases a:X[j]? with
 |none=>rfl
 |some row=>
  have:=(lG.1 a).1
  simp[this]
def Sub.matV{e:b6}(j:di (eJ p) q=true)(d:B[q]? =some (mat (q,[]) i V X))(h:aq4 q B)(l:aq7 q t=true)(g:setF B q (.one (vec 1 (fun row=>[I.sl i (row.map V)]) X))=some e):Sub p ⟨t,B⟩ ⟨t,e⟩:=by
 have n:=(I7 g).1;subst n;refine(Sub.frzRows j d h l (eJ X) (du _)).trans (Sub.same (by simp) fun b=> ?_);rw[ac3 d,ac3 d];by_cases hi:b.1=q;rw[if_pos hi,if_pos hi];congr 1;obtain⟨s,c⟩:=b;cases c with
 |nil=>simp only[matF,Ent.sub,matF_all];rfl
 |cons a c=>
  simp only[matF,Ent.sub,cN]
  cases o:X[a]? with
  |none=>rfl
  |some row=>
   have:=(lG.1 o).1
   simp only[cS,if_pos this]
   cases c<;>rfl
 rw[if_neg hi,if_neg hi]
def shrW(k:IntKind)(a b:Int):Int:=a.fdiv (2 ^ (min b.toNat k.bits))
def ae8{k:Nat}{b:Blk}(h:(mat (i,[]) k V X).sub c=some b):(c=[]/\b=.cells 1 (hdr (i,[]) X))\/(∃q row,c=[q]/\X[q]? =some row/\b=vec k V row):=by
 cases c with
 |nil=>cases h;exact .inl ⟨rfl,rfl⟩
 |cons a q=>
  rw[Q0] at h
  split at h
  ·rename_i row d
   cases q with
   |nil=>cases h;exact .inr ⟨a,row,rfl,d,rfl⟩
   |cons=>cases h
  ·cases h
def hdr_no(h:Q.1 ≠ i):(Blk.cells 1 (hdr (i,[]) X)).no Q=true:=by simp only[Blk.no,cL];intro e a;obtain⟨j,b⟩:=dE a;obtain⟨row,_,rfl⟩:=ax3 b;have:idb (i,[j]) Q=false:=F2 (fun e=>h (by rw[<- e]));simp[C.noL,C.no,this]
def EntOk.mat{α:Type}{n r k:Nat}{f:α->List I}{M:List (List α)}(h:dp r n=true):EntOk n (mat (r,[]) k f M):=by
 have a:r<n:=by simp[dp] at h;omega
 intro p b c;rcases ae8 c with⟨rfl,rfl⟩|⟨q,row,rfl,_,rfl⟩;exact hdr_ok a M;exact K0
def FrzB.mat{α:Type}{r k:Nat}{f:α->List I}{M:List (List α)}{id:Id}{X:C->C->Prop}(h:cJ id.1 r=false):FrzB id X (mat (r,[]) k f M) (mat (r,[]) k f M):=by
 have a:id.1 ≠ r:=fun e=>by simp[e] at h
 refine⟨rfl,fun p b c=> ?_⟩;rcases ae8 c with⟨rfl,rfl⟩|⟨q,row,rfl,_,rfl⟩;exact hdr_no a;exact Blk.im_no _ _ _
def A8.mat{α:Type}{r k m:Nat}{f:α->List I}{M:List (List α)}{id n:Id}{σ:b6}(h:cJ id.1 r=false)(i:dp r m=true)(c:σ[r]? =some (mat (r,[]) k f M)):A8 id n σ m r (mat (r,[]) k f M):=by
 have a:id.1 ≠ r:=fun e=>by simp[e] at h
 have d:r<m:=by simp[dp] at i;omega
 intro p b g;have j:mv id n (r,p)=(r,p):=by have:(r,p) ≠ id:=fun e=>a (by rw[<- e]);simp[mv,F2 this]
 rw[j,o9 c,show(Ab.mat (r,[]) k f M).sub p=some b from g];rcases ae8 g with⟨rfl,rfl⟩|⟨q,row,rfl,_,rfl⟩;exact⟨hdr_ok d M,by rw[Blk.ren_no _ (hdr_no a)]⟩;exact⟨K0,by rw[Blk.im_ren]⟩
def S.idxH{env:Env}{ops:Array Oper}{rest:List Oper}{f:Array Edge}{M:List (List A)}{r:Nat}{y:Od}{t e:Ti}{bytes:Nat}{z:Vl}{o:IntKind}{b:Int}{a:List A}{k:List (List C)}[E:TyD d t (.slice e)][F:TyS d e 1 bytes z](l:ix M b=some a)(u:ev env P=some (.c (.own (r,[]) 0 q)))(G:q=eJ M)(j:B[((r,[]):Id)]? =some (some (.cells 1 k)))(v:eJ k=eJ M)(w:ev env y=some (.c (.imm (.val (.int o b)))))(D:f7 i H=true)(h:AOps d p i ops s rest (St.mk (putE env H (.c (.ptr (r,[]) b.toNat 0))) B)):AOps d p i ops s (⟨H,.indexAddr t P y,g,L,f,none⟩::rest) (St.mk env B):=
 .indexAddrOwn u j w (by have:=H6 l;have:=j8 l;omega) D (by rw[cO];exact h)
inductive OthE(n r p:Nat):Nat->Option Ent->Ent->Prop
 |self {f b}:OthE n r p r f b
 |dead {j f}:OthE n r p j f .dead
 |one {j b} (h1:b.ok n=true) (h2:b.no (r,[p])=true):OthE n r p j (some (.one b)) (.one b)
 |vec {j} {β:Type} {k:Nat} {o:β->List I} {l:List β}:OthE n r p j (some (.one (vec k o l))) (.one (vec k o l))
 |mat {j} {β:Type} {k:Nat} {o:β->List I} {l:List (List β)} (h1:cJ r j=false) (h2:dp j n=true):OthE n r p j (some (mat (j,[]) k o l)) (mat (j,[]) k o l)
 |any {j e} (h:∀q b,e.sub q=some b->b.ok n=true/\b.no (r,[p])=true):OthE n r p j (some e) e
def OthL(n r p:Nat)(σ:b6):Nat->List Ent->Prop
 |_,[]=>True
 |j,e::l=>OthE n r p j σ[j]? e/\OthL n r p σ (j+1) l
def OthL.get{n p:Nat}{σ:b6}:∀{j:Nat} {l:List Ent},OthL n i p σ j l->∀a e,l[a]? =some e->OthE n i p (j+a) σ[j+a]? e
 |_,[],_,a,e,h=>by simp at h
 |j,_::_,h,0,e,b=>by simp only[cG,Option.some.injEq] at b;subst b;exact h.1
 |j,_::l,h,a+1,e,b=>by have:=OthL.get h.2 a e (by simpa using b);rwa [show j+1+a=j+(a+1) by omega] at this
def OthL.all{n a:Nat}(h:OthL n i a p 0 B)(c:Id)(b:Blk)(hi:c.1 ≠ i)(f:B[c]? =some (some b)):p[c]? =some (some b)/\b.ok n=true/\b.no (i,[a])=true:=by
 obtain⟨j,q⟩:=c;simp only at hi;have w:∃e,B[j]? =some e/\e.sub q=some b:=by
  rw[b6.at_eq] at f;simp only[b6.at] at f;cases k:B[j]? with
  |none=>simp[k] at f
  |some e=>rw[k] at f;simp only[Option.some.injEq] at f;exact⟨e,rfl,f⟩
 obtain⟨e,k,d⟩:=w;have g:=OthL.get h j e k;rw[cO] at g;generalize l:p[j]? =o at g;cases g with
 |self=>exact absurd rfl hi
 |dead=>cases q<;>cases d
 |one s t=>
  rw[o9 l]
  cases q with
  |nil=>cases d;exact⟨rfl,s,t⟩
  |cons=>cases d
 |vec=>
  rw[o9 l]
  cases q with
  |nil=>cases d;exact⟨rfl,K0,Blk.im_no _ _ _⟩
  |cons=>cases d
 |mat s t=>
  rw[o9 l,d]
  have u:j<n:=by simp[dp] at t;omega
  have v:i ≠ j:=fun e=>by simp[e] at s
  rcases ae8 d with⟨rfl,rfl⟩|⟨x,row,rfl,_,rfl⟩
  ·exact⟨rfl,hdr_ok u _,hdr_no (by simpa using v)⟩
  ·exact⟨rfl,K0,Blk.im_no _ _ _⟩
 |any h=>rw[o9 l,d];exact⟨rfl,h q b d⟩
def AWP.moveR{Q:Post}{env':Env}{b σ':b6}{f:A->List I}{M:List (List A)}{k r:Nat}{c:Code}{s p:Nat}{row a:List A}(o:MatAt b r k f M p (s,[]) q)(u:M[p]? =some row)(v:q=eJ a)(w:b[((s,[]):Id)]? =some (some (vec k f a)))(x:di (eJ B) r=true)(y:di (eJ B) (eJ σ')=true)(z:σ'[r]? =some (mat (r,[]) k f (M.set p a)))(j:σ'[s]? =none\/σ'[s]? =some .dead)(e:OthL (eJ σ') r p b 0 σ')(g:S7 t env')(l:X8 (eJ σ') env'=true)(n:envNo (r,[p]) env'=true)(h:AWP d B i c Q (St.mk env' σ')):AWP d B i c Q (St.mk t b):=
 AWP.sub (Sub.moveR o u v w x y z j e.all g l n) h
inductive RlE(r:Nat):Nat->Ent->Prop
 |self {b}:RlE r r b
 |dead {j}:RlE r j .dead
 |one {j b} (h2:∀p,b.no (r,[p])=true):RlE r j (.one b)
 |vec {j} {β:Type} {k:Nat} {f:β->List I} {l:List β}:RlE r j (.one (vec k f l))
 |mat {j} {β:Type} {k:Nat} {f:β->List I} {l:List (List β)} (h1:cJ r j=false):RlE r j (mat (j,[]) k f l)
 |any {j e} (h:∀q b,e.sub q=some b->∀p,b.no (r,[p])=true):RlE r j e
def RlL(r:Nat):Nat->List Ent->Prop
 |_,[]=>True
 |j,e::l=>RlE r j e/\RlL r (j+1) l
def RlL.get:∀{j:Nat} {l:List Ent},RlL i j l->∀a e,l[a]? =some e->RlE i (j+a) e
 |_,[],_,a,e,h=>by simp at h
 |j,_::_,h,0,e,b=>by simp only[cG,Option.some.injEq] at b;subst b;exact h.1
 |j,_::l,h,a+1,e,b=>by have:=RlL.get h.2 a e (by simpa using b);rwa [show j+1+a=j+(a+1) by omega] at this
def RlL.all(h:RlL i 0 p):aq4 i p:=by
 intro a b hi d q;obtain⟨j,t⟩:=a;simp only at hi;have l:∃e,p[j]? =some e/\e.sub t=some b:=by
  rw[b6.at_eq] at d;simp only[b6.at] at d;cases f:p[j]? with
  |none=>simp[f] at d
  |some e=>rw[f] at d;simp only[Option.some.injEq] at d;exact⟨e,rfl,d⟩
 obtain⟨e,f,c⟩:=l;have g:=RlL.get h j e f;rw[cO] at g;cases g with
 |self=>exact absurd rfl hi
 |dead=>cases t<;>cases c
 |one n=>cases t with
  |nil=>cases c;exact n q
  |cons=>cases c
 |vec=>cases t with
  |nil=>cases c;exact Blk.im_no _ _ _
  |cons=>cases c
 |mat o=>
  have k:i ≠ j:=fun e=>by simp[e] at o
  rcases ae8 c with⟨rfl,rfl⟩|⟨s,row,rfl,_,rfl⟩
  ·exact hdr_no (by simpa using k)
  ·exact Blk.im_no _ _ _
 |any h=>exact h t b c q
def Sub.matV'{env':Env}{σ':b6}{f:A->List I}{M:List (List A)}{k:Nat}(r:Nat)(e:di (eJ p) r=true)(a:S7 t env')(c:B[r]? =some (mat (r,[]) k f M))(d:RlL r 0 B)(g:aq7 r env'=true)(b:setF B r (.one (vec 1 (fun row=>[I.sl k (row.map f)]) M))=some σ'):Sub p ⟨t,B⟩ ⟨env',σ'⟩:=
 (Sub.env a).trans (Sub.matV e c d.all g b)
/-! ### Blocks that nothing speaks of are forgotten -/
inductive CutE(n:Nat):Nat->Option Ent->Ent->Prop
 |dead {j f}:CutE n j f .dead
 |one {j b} (h1:b.ok n=true):CutE n j (some (.one b)) (.one b)
 |eq {j b b'} (h1:b'.ok n=true) (h2:b'=b):CutE n j (some (.one b)) (.one b')
 |vec {j} {β:Type} {k:Nat} {o:β->List I} {l:List β}:CutE n j (some (.one (vec k o l))) (.one (vec k o l))
 |mat {j} {β:Type} {k:Nat} {o:β->List I} {l:List (List β)} (h2:dp j n=true):CutE n j (some (mat (j,[]) k o l)) (mat (j,[]) k o l)
 |any {j e} (h:∀q b,e.sub q=some b->b.ok n=true):CutE n j (some e) e
def CutL(n:Nat)(σ:b6):Nat->List Ent->Prop
 |_,[]=>True
 |j,e::l=>CutE n j σ[j]? e/\CutL n σ (j+1) l
def CutL.get{n:Nat}{σ:b6}:∀{j:Nat} {l:List Ent},CutL n σ j l->∀i e,l[i]? =some e->CutE n (j+i) σ[j+i]? e
 |_,[],_,i,e,h=>by simp at h
 |j,_::_,h,0,e,a=>by simp only[cG,Option.some.injEq] at a;subst a;exact h.1
 |j,_::l,h,i+1,e,a=>by have:=CutL.get h.2 i e (by simpa using a);rwa [show j+1+i=j+(i+1) by omega] at this
def Sub.cut{env env':Env}{σ':b6}(d:S7 env env')(w:di (eJ p) (eJ σ')=true)(h:CutL (eJ σ') B 0 σ')(l:X8 (eJ σ') env'=true):Sub p ⟨env,B⟩ ⟨env',σ'⟩:=by
 refine Sub.mk (fun i=>i) (fun i _=>rfl) (cQ w) (fun i j b y _ _ h=>h) (fun i b c=> ?_) (fun t v u=>⟨am7 l t v u,?_⟩);rw[Blk.ren_id];obtain⟨j,q⟩:=i;dsimp only at c ⊢;have x:∃e,σ'[j]? =some e/\e.sub q=some b:=by
  rw[b6.at_eq] at c;simp only[b6.at] at c;cases k:σ'[j]? with
  |none=>simp[k] at c
  |some e=>rw[k] at c;simp only[Option.some.injEq] at c;exact⟨e,rfl,c⟩
 obtain⟨e,k,a⟩:=x;have g:=CutL.get h j e k;rw[cO] at g;generalize f:B[j]? =o at g;cases g with
 |dead=>cases q<;>cases a
 |one n=>
  rw[o9 f]
  cases q with
  |nil=>cases a;exact⟨n,rfl⟩
  |cons=>cases a
 |eq n r=>
  subst r
  rw[o9 f]
  cases q with
  |nil=>cases a;exact⟨n,rfl⟩
  |cons=>cases a
 |vec=>
  rw[o9 f]
  cases q with
  |nil=>cases a;exact⟨K0,rfl⟩
  |cons=>cases a
 |mat r=>
  rw[o9 f,a]
  have s:j<eJ σ':=by simp[dp] at r;omega
  rcases ae8 a with⟨rfl,rfl⟩|⟨z,row,rfl,_,rfl⟩
  ·exact⟨hdr_ok s _,rfl⟩
  ·exact⟨K0,rfl⟩
 |any h=>
  rw[o9 f,a]
  exact⟨h q b a,rfl⟩
 rw[T.ren_id];exact d.get t v u
def feasS(ops:List Oper)(a S:List Nat)(i:Nat):Bool:=
 !memN i S && (a.all fun e=> !anc ops (eJ ops) e i||memN e S) && S.all fun e=> !anc ops (eJ ops) i e
def tabAt(S:List Nat):List (List Nat×b6)->Option b6
 |[]=>none
 |(a,σ)::r=>match lbeq a S with
  |true=>some σ
  |false=>tabAt S r
def h9(P:Program)(σ0:b6)(f:Nat)(ops:List Oper)(b:Env)(V:List T)(a:List Nat)(d:List (List Nat×b6))(S:List Nat)(σ:b6):List Oper->Nat->Prop
 |[],_=>True
 |o::r,i=>(feasS ops a S i=true->∀v,V[i]? =some v->∃c,(memN i a=false->c=σ)/\(memN i a=true->tabAt (a.filter fun e=>memN e S||cJ e i) d=some c)/\∀E:Env,EOk ops V b i E->AOps P σ0 f ops.toArray (Only (St.put ⟨x9 ops V b o++E,c⟩ o.dst v)) [o] ⟨x9 ops V b o++E,σ⟩)/\
  h9 P σ0 f ops b V a d S σ r (i+1)
def T5(P:Program)(σ0:b6)(d:Nat)(ops:List Oper)(a:Env)(V:List T)(b:List Nat)(c:List (List Nat×b6)):List (List Nat×b6)->Prop
 |[]=>True
 |(S,σ)::r=>h9 P σ0 d ops a V b c S σ ops 0/\T5 P σ0 d ops a V b c r
def h9.get{ops:List Oper}{V:List T}{g:List (List Nat×b6)}{S:List Nat}{σ:b6}:∀{r:List Oper} {b:Nat},h9 d p i ops t V c g S σ r b->∀a o,r[a]? =some o->feasS ops c S (b+a)=true->∀v,V[b+a]? =some v->
  ∃f,(memN (b+a) c=false->f=σ)/\(memN (b+a) c=true->tabAt (c.filter fun e=>memN e S||cJ e (b+a)) g=some f)/\∀E:Env,EOk ops V t (b+a) E->AOps d p i ops.toArray (Only (St.put ⟨x9 ops V t o++E,f⟩ o.dst v)) [o] ⟨x9 ops V t o++E,σ⟩
 |[],_,_,a,o,h=>by simp at h
 |_::_,b,h,0,o,j=>by cases j;exact h.1
 |_::r,b,h,a+1,o,j=>by have:=h9.get h.2 a o (by simpa using j);rwa [show b+1+a=b+(a+1) by omega] at this
def lbeq_eq{b:List Nat}(h:lbeq c b=true):c=b:=by
 have:=@H4 (0,c) (0,b);have d:idb (0,c) (0,b)=true:=by simp[idb,h]
 exact(eA.inj (this.1 d)).2
def T5.get{ops:List Oper}{V:List T}{a:List (List Nat×b6)}:∀{r:List (List Nat×b6)},T5 d p i ops t V c a r->∀S σ,tabAt S r=some σ->h9 d p i ops t V c a S σ ops 0
 |[],_,S,σ,h=>by cases h
 |(g,e)::r,h,S,σ,b=>by simp only[tabAt] at b;split at b;rename_i f;cases b;rw[<- lbeq_eq f];exact h.1;exact T5.get h.2 S σ b
def memN_false(h:i ∉ c):memN i c=false:=by
 cases a:memN i c with
 |false=>rfl
 |true=>exact absurd ((L9 i c).1 a) h
def AWP.drawT{ops:List Oper}{b:St}(V:List T)(k:List Nat)(r:List (List Nat×b6))(G:b6)(hm:d.follows .mixedOrders=true)(M:V0 ops=true)(hV:eJ V=eJ ops)(B:(k.all fun e=>dp e (eJ ops))=true)(N:T5 d p i ops b.env V k r r)(h0:tabAt [] r=some b.σ)(he:tabAt k r=some G)(hQ:s .normal ⟨j6 ops V b.env,G⟩):AWP d p i (.region q ops.toArray true) s b:=fun Γ P a w Q y ro _=>by
 have H:∀(c j:Nat) (o f:Oper) (t:Nat),ops[c]? =some o->ops[j]? =some f->c ≠ j->f.dst=some t->o.dst ≠ some t:=fun c j o f t hi n aa O=>((K8 M hi).2 j f t n aa O).1
 obtain⟨e1,e2⟩:=aj4 ops V b.env hV H
 refine wpIn_region_any hm ?_
 rw[dI]
 refine draw_anyS (V:=V) (base:=b.env) (Sg:=fun g σ=>tabAt (k.filter fun e=>g.getD e false) r=some σ) M hV (fun g σ c o v J x _ ho hv L hw hc=> ?_) Q (fun g σ E P a w x U h1 h2 y=> ?_) (eJ ops) (eH (eJ ops) false) b.σ b.env P a _ (by simp) ?_ ⟨fun j n=> ?_,fun j f hp n=> ?_,fun j t n=> ?_,fun t _=>rfl⟩ ?_ (by simp)
 ·have ac:c<g.size:=by rw[J];exact(lG.1 ho).1
  have D:∀e,e ∈ k->memN e (k.filter fun e=>g.getD e false)=g.getD e false:=fun e l=>by
   cases z:g.getD e false with
   |true=>exact(L9 e _).2 (dF.2 ⟨l,z⟩)
   |false=>exact memN_false fun h=>by rw[(dF.1 h).2] at z;cases z
  have ad:feasS ops k (k.filter fun e=>g.getD e false) c=true:=by
   unfold feasS;simp only[cH,cL,eB,dK];refine⟨⟨memN_false (fun h=>by rw[(dF.1 h).2] at L;cases L),fun e l=> ?_⟩,fun e l=> ?_⟩;cases z:anc ops (eJ ops) e c with
   |false=>exact .inl rfl
   |true=>right;rw[D e l];exact av0 J hc _ e c o ho hw z
   cases z:anc ops (eJ ops) c e with
   |false=>rfl
   |true=>
    have al:=(dF.1 l).2
    have X:e<eJ ops:=by have:=cL.1 B e (dF.1 l).1;simpa using this
    have:=av0 J hc _ c e _ (cK X) (hc e _ (cK X) al) z
    rw[L] at this;cases this
  obtain⟨an,k1,k2,k3⟩:=(N.get _ σ x).get c o ho (by rw[cO];exact ad) v (by rw[cO];exact hv)
  rw[cO] at k1 k2 k3
  refine⟨an,?_,k3⟩
  have F:∀e,(g.setIfInBounds c true).getD e false=(g.getD e false||cJ e c):=fun e=>by by_cases n:c=e;subst n;simp[ac];have z:cJ e c=false:=as5 fun h=>n h.symm;rw[z,Bool.or_false];simp[Array.getElem?_setIfInBounds_ne n]
  cases A:memN c k with
  |true=>
   have:=k2 A
   rw[<- this]
   congr 1
   refine eD fun e l=> ?_
   rw[F,D e l]
  |false=>
   rw[k1 A,<- x]
   congr 1
   refine eD fun e l=> ?_
   rw[F]
   have:cJ e c=false:=as5 fun h=>by subst h;rw[(L9 e k).2 l] at A;cases A
   rw[this,Bool.or_false]
 ·have K:(k.filter fun e=>g.getD e false)=k:=List.filter_eq_self.2 fun e l=>U e (by have:=cL.1 B e l;simpa using this)
  rw[K,he] at x
  cases x
  refine⟨⟨j6 ops V b.env,G⟩,P,hQ,{toRs:=y.toRs,defers:=y.defers,asize:=y.asize,env:=fun t v O=>y.env t v ?_}⟩
  rw[<- O]
  by_cases hx:∃j,z6 ops j=some t
  ·obtain⟨j,n⟩:=hx
   exact(h1 j t n).trans (e1 j t n).symm
  ·have L:∀j,z6 ops j ≠ some t:=fun j n=>hx ⟨j,n⟩
   exact(h2 t L).trans (e2 t L).symm
 ·have:(k.filter fun e=>(eH (eJ ops) false).getD e false)=[]:=List.filter_eq_nil_iff.2 fun e _=>by simp[dz];split<;>rfl
  rw[this];exact h0
 ·simp[dz] at n
  split at n<;>simp at n
 ·simp[dz] at n
  split at n<;>simp at n
 ·simp[dz] at n
  split at n<;>simp at n
 ·exact {toRs:=y.toRs.drew,defers:=y.defers,asize:=y.asize,env:=fun t v O=>let ⟨u,hu,hr⟩:=y.env t v O; ⟨u,hu,hr.mono (Kept.drew w P b.σ _)⟩}
def AWP.drawTI{ops:List Oper}(V:List T)(a:List Nat)(b:List (List Nat×b6))(c:b6)(j:d.follows .mixedOrders=true)(h:V0 ops=true)(k:eJ V=eJ ops)(f:(a.all fun e=>dp e (eJ ops))=true)(l:tabAt [] b=some B)(n:tabAt a b=some c)(g:T5 d p i ops t V a b b)(o:s .normal (St.mk (j6 ops V t) c)):AWP d p i (.region q ops.toArray true) s (St.mk t B):=.drawT V a b c j h k f g l n o
def T5.nil{ops:List Oper}{a:List (List Nat×b6)}:T5 d p i ops t r c a []:=trivial
def T5.cons{ops:List Oper}{V:List T}{a r:List (List Nat×b6)}{S:List Nat}(b:h9 d p i ops t V c a S B ops 0)(e:T5 d p i ops t V c a r):T5 d p i ops t V c a ((S,B)::r):=⟨b,e⟩
def h9.nil{ops:List Oper}{a:List (List Nat×b6)}{S:List Nat}{i:Nat}:h9 d p q ops t r c a S B [] i:=trivial
def h9.no{ops:List Oper}{V:List T}{a:List (List Nat×b6)}{S:List Nat}{o:Oper}{r:List Oper}(e:feasS ops c S q=false)(h:h9 d p i ops t V c a S B r (q+1)):h9 d p i ops t V c a S B (o::r) q:=
 ⟨fun b=>(by rw[e] at b;cases b),h⟩
def h9.go{ops:List Oper}{V:List T}{a:List (List Nat×b6)}{S:List Nat}{o:Oper}{r:List Oper}{v:T}{e:Env}(g:memN q c=false)(j:V[q]? =some v)(k:envF ops V t o=some e)(l:∀E:Env,EOk ops V t q E->AOps d p i ops.toArray (Only (St.mk (putE (e++E) o.dst v) B)) [o] (St.mk (e++E) B))(h:h9 d p i ops t V c a S B r (q+1)):h9 d p i ops t V c a S B (o::r) q:=by
 have n:x9 ops V t o=e:=ah5 k
 refine⟨fun _ u b=> ?_,h⟩
 rw[j] at b;cases b
 refine⟨B,fun _=>rfl,fun f=>(by rw[g] at f;cases f),fun E s=> ?_⟩
 rw[n];exact l E s
def h9.eff{ops:List Oper}{V:List T}{a:List (List Nat×b6)}{S:List Nat}{b:b6}{o:Oper}{r:List Oper}{v:T}{e:Env}(j:memN q c=true)(k:V[q]? =some v)(l:tabAt (c.filter fun e=>memN e S||cJ e q) a=some b)(n:envF ops V t o=some e)(s:∀E:Env,EOk ops V t q E->AOps d p i ops.toArray (Only (St.mk (putE (e++E) o.dst v) b)) [o] (St.mk (e++E) B))(h:h9 d p i ops t V c a S B r (q+1)):h9 d p i ops t V c a S B (o::r) q:=by
 have u:x9 ops V t o=e:=ah5 n
 refine⟨fun _ x f=> ?_,h⟩
 rw[k] at f;cases f
 refine⟨b,fun g=>(by rw[j] at g;cases g),fun _=>l,fun E w=> ?_⟩
 rw[u];exact s E w
def vNo(id:Id)(ops:List Oper)(i:Nat):List T->Nat->Bool
 |[],_=>true
 |v::r,j=>(cJ j i||anc ops (eJ ops) i j||v.no id) && vNo id ops i r (j+1)
def vNo_get{ops:List Oper}:∀{V:List T} {j:Nat},vNo Q ops i V j=true->∀k v,V[k]? =some v->j+k ≠ i->anc ops (eJ ops) i (j+k)=false->v.no Q=true
 |[],_,_,k,v,h=>by simp at h
 |x::r,j,h,k,v,c=>fun d b=>by
  simp only[vNo,cH,dK] at h;match k with
  |0=>
   cases c
   rcases h.1 with(a|a)|a
   ·exact absurd (cE a) d
   ·rw[dD] at b;rw[b] at a;cases a
   ·exact a
  |k+1=>exact vNo_get h.2 k v (by simpa using c) (by rw[show j+1+k=j+(k+1) by omega];exact d) (by rw[show j+1+k=j+(k+1) by omega];exact b)
inductive NoE(n:Nat):Ent->Prop
 |dead:NoE n .dead
 |one {b:Blk} (h:b.no (n,[])=true):NoE n (.one b)
 |vec {β:Type} {k:Nat} {f:β->List I} {l:List β}:NoE n (.one (vec k f l))
 |mat {β:Type} {k r:Nat} {f:β->List I} {l:List (List β)} (h:cJ n r=false):NoE n (mat (r,[]) k f l)
 |any {e:Ent} (h:∀q b,e.sub q=some b->b.no (n,[])=true):NoE n e
def NoL(n:Nat):List Ent->Prop
 |[]=>True
 |e::r=>NoE n e/\NoL n r
def NoL.get{n:Nat}:∀{l:List Ent},NoL n l->∀(j:Nat) (e:Ent),l[j]? =some e->NoE n e
 |_::_,h,0,e,a=>by simp only[cG,Option.some.injEq] at a;subst a;exact h.1
 |_::l,h,j+1,e,a=>NoL.get h.2 j e (by simpa using a)
def NoL.all{n:Nat}(h:NoL n p)(i:Id)(b:Blk)(a:p[i]? =some (some b)):b.no (n,[])=true:=by
 obtain⟨j,q⟩:=i;rw[b6.at_eq] at a;simp only[b6.at] at a;cases d:p[j]? with
 |none=>simp[d] at a
 |some e=>
  rw[d] at a;simp only[Option.some.injEq] at a
  have g:=NoL.get h j e d
  cases g with
  |dead=>cases q<;>cases a
  |one c=>cases q with
   |nil=>cases a;exact c
   |cons=>cases a
  |vec=>cases q with
   |nil=>cases a;exact Blk.im_no _ _ _
   |cons=>cases a
  |mat c=>
   rcases ae8 a with⟨rfl,rfl⟩|⟨f,row,rfl,_,rfl⟩
   ·exact hdr_no (fun e=>by simp at e;rw[e] at c;simp at c)
   ·exact Blk.im_no _ _ _
  |any h=>exact h q b a
def AOps.allocAt{P:Program}{ops:List Oper}{F:Env}{G:Array Oper}{rest:List Oper}{e E:Env}{f:Nat}{X:b6}{t:Ti}{cs:List C}{k:Nat}(n:Nat)[hz:TyZ P t cs](hE:EOk ops r F f E)(hb:envNo (n,[]) F=true)(hV:vNo (n,[]) ops f r 0=true)(he:envNo (n,[]) e=true)(hk:idF cs=some k)(ad:setF B n (.one (.cells k [cs]))=some X)(hi:C.okL 0 cs=true)(h0:di (eJ p) n=true)(hs:NoL n B)(hd:f7 i H=true)(h:AOps P p i G s rest (St.mk (putE (e++E) H (.c (.ptr (n,[]) 0 0))) X)):AOps P p i G s (⟨H,.alloc t,g,L,M,none⟩::rest) (St.mk (e++E) B):=fun Γ φ a w al hR=>by
 have h1:=ae4 hk;have h3:=I7 ad
 subst h1
 obtain⟨rfl,Q⟩:=h3
 obtain⟨size,bytes,z,v,an,J,K⟩:=hz.h
 refine AOps.alloc (hs:=an) J K hd (AOps.sub (s':=St.mk (putE (e++E) H (.c (.ptr (n,[]) 0 0))) (B.set n (.one (.cells (eJ cs) [cs])))) ?_ h) Γ φ a w al hR
 have av:=cQ h0
 have N:(Blk.cells (eJ cs) [cs]).ok 0=true:=by simp[Blk.ok,hi]
 have V:∀(t:Nat) (v:T),lookup t (e++E)=some v->v.ok (eJ B)=true:=fun t v o=>by obtain⟨u,_,hr⟩:=hR.env t v o;exact hr.ok
 have aa:∀(t:Nat) (v:T),lookup t (e++E)=some v->v.no (n,[])=true:=fun t v o=>by
  rw[J1] at o;cases hx:lookup t e with
  |some x=>
   rw[hx] at o;cases o
   exact an0 he t v hx
  |none=>
   rw[hx] at o
   rcases hE t v o with l|⟨j,J,K,g3⟩
   ·exact an0 hb t v l
   ·exact vNo_get hV j v g3 (by rw[cO];exact J) (by rw[cO];exact K)
 have D:mv (n,[]) (eJ B,[]) (n,[])=(eJ B,[]):=by simp[mv,H4.2 rfl]
 have y:∀f:Id,f ≠ (n,[])->mv (n,[]) (eJ B,[]) f=f:=fun f h=>by simp[mv,F2 h]
 have A:∀(f:Id) (b:Blk),(B.set n (.one (.cells (eJ cs) [cs])))[f]? =some (some b)->f.1<eJ B:=fun f b hi=>by have:=b6.lt_of hi;simpa using this
 refine Sub.mk (mv (n,[]) (eJ B,[])) (fun f hi=>y f (fun e=>by subst e;simp at hi;omega)) (by simp;omega) (fun f j b b' hi hj h=> ?_) (fun f b hi=> ?_) (fun t v o=> ?_)
 ·have l1:=A f b hi
  have l2:=A j b' hj
  by_cases J:f=(n,[])<;>by_cases K:j=(n,[])
  ·rw[J,K]
  ·rw[J,D,y j K] at h
   rw[<- h] at l2;simp at l2
  ·rw[K,D,y f J] at h
   rw[h] at l1;simp at l1
  ·rwa [y f J,y j K] at h
 ·have ao:=A f b hi
  obtain⟨j,q⟩:=f
  by_cases hj:j=n
  ·subst hj
   have ac:(Ent.one (.cells (eJ cs) [cs])).sub q=some b:=by rw[b6.at_eq] at hi;simp only[b6.at,dU Q,Option.some.injEq] at hi;exact hi
   cases q with
   |cons=>cases ac
   |nil=>
    cases ac
    refine⟨Blk.ok_mono (eF _) _ N,?_⟩
    rw[D,Blk.ren_ok (m:=0) (fun f hi=>by omega) _ N]
    exact b6.get_last B _
  ·have U:B[((j,q):Id)]? =some (some b):=by rw[b6.at_eq] at hi ⊢;simp only[b6.at] at hi ⊢;rwa [dW (fun e=>hj e.symm)] at hi
   refine⟨Blk.ok_mono (by simp) _ (hR.st.okB U),?_⟩
   rw[y (j,q) (fun e=>hj (by cases e;rfl)),Blk.ren_no _ (hs.all _ _ U)]
   show(B++_)[_]? =_
   rw[b6.get_left ao];exact U
 ·have rest:∀v,lookup t (e++E)=some v->v.ok (B.set n (Ent.one (.cells (eJ cs) [cs]))).length=true/\lookup t (e++E)=some (v.ren (mv (n,[]) (eJ B,[]))):=fun v hv=>
   ⟨by simpa using V t v hv,by rw[T.ren_no v (aa t v hv)];exact hv⟩
  cases O:H with
  |none=>rw[O] at o;exact rest v o
  |some d=>
   rw[O] at o
   simp only[putE,lookup] at o ⊢
   split at o
   ·cases o
    refine⟨by simp[T.ok,C.ok,Q],?_⟩
    simp only[T.ren,C.ren,D]
   ·exact rest v o
def X2:List Nat->Nat->Nat->Nat
 |[],m,r=>m+r
 |x::_,_,0=>x
 |_::l,m,r+1=>X2 l m r
def emb(a:List Nat)(m:Nat):Id->Id:=fun i=>(X2 a m i.1,i.2)
def ag1{m:Nat}:∀{ι:List Nat} {r:Nat},r<ι.length->∃x,ι[r]? =some x/\X2 ι m r=x
 |x::_,0,_=>⟨x,rfl,rfl⟩
 |_::l,r+1,h=>by obtain⟨x,h1,h2⟩:=ag1 (m:=m) (ι:=l) (r:=r) (by simpa using h);exact⟨x,by simpa using h1,h2⟩
def T8:∀{a:List Nat} {r:Nat},a.length<=r->X2 a i r=i+(r - a.length)
 |[],r,_=>by simp[X2]
 |_::l,r+1,h=>by simp only[X2];rw[T8 (by simpa using h)];simp
 |_::_,0,h=>by simp at h
def emb_inj(k:c.Nodup)(a:∀r ∈ c,r<i){j:Id}(h:emb c i Q=emb c i j):Q=j:=by obtain⟨r,p⟩:=Q;obtain⟨s,q⟩:=j;simp only[emb,eA.injEq] at h;obtain⟨b,rfl⟩:=h;congr 1;rcases dh r c.length with d|d<;>rcases dh s c.length with e|e;obtain⟨x,f,g⟩:=ag1 (m:=i) d;obtain⟨y,l,n⟩:=ag1 (m:=i) e;rw[g,n] at b;subst b;obtain⟨_,o⟩:=lG.1 f;obtain⟨_,t⟩:=lG.1 l;exact(List.getElem_inj k).1 (o.trans t.symm);obtain⟨x,f,g⟩:=ag1 (m:=i) d;rw[g,T8 e] at b;have:=a x (cV f);omega;obtain⟨x,f,g⟩:=ag1 (m:=i) e;rw[g,T8 d] at b;have:=a x (cV f);omega;rw[T8 d,T8 e] at b;omega
structure MergeOk(ι:List Nat)(σv σ' σ'':b6):Prop where
 len:eJ σv+(eJ σ' - ι.length)<=eJ σ''
 blk:∀(j:Id) b,σ''[j]? =some (some b)->(j.1<eJ σv/\j.1 ∉ ι/\σv[j]? =some (some b))\/∃i b',j=emb ι (eJ σv) i/\σ'[i]? =some (some b')/\b=b'.ren (emb ι (eJ σv))
def FnOk.frame{P:Program}{f:FuncId}{args:List T}{B:b6}{Qc:T->b6->Prop}(h:FnOk P f args B Qc)(d:List Nat)(X:b6)(hl:d.length=eJ B)(hd:d.Nodup)(a1:∀r ∈ d,r<eJ X)
  (av:T.okL (eJ B) args=true) (a8:∀(i:Id) b,B[i]? =some (some b)->b.ok (eJ B)=true) (c:∀(i:Id) b,B[i]? =some (some b)->X[emb d (eJ X) i]? =some (some (b.ren (emb d (eJ X)))))
  (a9:T) (y:b6) (hq:∀r' O,Qc r' O->a9=r'.ren (emb d (eJ X))/\MergeOk d X O y):FnOk P f (T.renL (emb d (eJ X)) args) X fun r s=>r=a9/\s=y:=by
 refine⟨h.fn,fun l vs bs hG bb be=> ?_⟩
 subst bs
 generalize hm:l.σ0.length=m at *
 have inj:∀{i j:Id},emb d m i=emb d m j->i=j:=fun h=>emb_inj hd a1 h
 have L:∀{i:Id},i.1<eJ B->(emb d m i).1 ∈ d:=fun {i} hi=>by obtain⟨x,x1,x2⟩:=ag1 (m:=m) (ι:=d) (r:=i.1) (by omega);show X2 d m i.1 ∈ d;rw[x2];exact cV x1
 have A1:∀b,Al l.N l.φ0 l.σ0 b->Al (fun b=>b<l.w0.heap.size/\(l.N b\/∃(j:Id) (blk:Blk) (a:Nat),j.1 ∉ d/\l.σ0[j]? =some (some blk)/\l.φ0 j=some (b,a))) (fun i=>l.φ0 (emb d m i)) B b:=fun b D=>
  ⟨fun hN=>by rcases hN.2 with hN|⟨j,blk,a,_,g1,g2⟩;exact D.1 hN;exact D.2 j blk a g1 g2,fun i blk a hi hp=>D.2 _ _ a (c i blk hi) hp⟩
 have ac:Back l.w0 l.φ0 (fun i=>l.φ0 (emb d m i)) l.σ0 B (Al l.N l.φ0 l.σ0) (Al (fun b=>b<l.w0.heap.size/\(l.N b\/∃(j:Id) (blk:Blk) (a:Nat),j.1 ∉ d/\l.σ0[j]? =some (some blk)/\l.φ0 j=some (b,a))) (fun i=>l.φ0 (emb d m i)) B) (emb d m):=
  ⟨fun b D _=>A1 b D,fun i b _ hi=>⟨c i b hi,rfl⟩⟩
 have bv:∀{n k:Nat} {es:List (List C)} {j o:Nat} {e:List C} {x:C},(Blk.cells k es).ok n=true->es[j]? =some e->e[o]? =some x->x.ok n=true:=by intro n k es j o e x z w A;simp only[Blk.ok,cL] at z;have:=z e (cV w);rw[M8,cL] at this;exact this x (cV A)
 have bx:Good ⟨l.w0,fun b=>b<l.w0.heap.size/\(l.N b\/∃(j:Id) (blk:Blk) (a:Nat),j.1 ∉ d/\l.σ0[j]? =some (some blk)/\l.φ0 j=some (b,a)),fun i=>l.φ0 (emb d m i),B⟩:=by
  refine⟨⟨fun i b hi=> ?_,fun i j bi bj p q hi V hp hq K=> ?_⟩,fun b D=>D.1,fun i blk b a hi hp hN=> ?_⟩;have hs:=c i b hi;have D:=hG.st.blk _ _ hs;have ho:=a8 i b hi;cases b with
  |cells k es=>
   simp only[Blk.ren] at D hs
   rcases D with⟨z,w⟩|⟨b,a,ad,ao,z,w,A,h4,h5⟩
   ·exact .inl ⟨z,by simpa using w⟩
   ·refine .inr ⟨b,a,ad,ao,z,w,by simpa using A,fun j e K=> ?_,fun j e o x K M=> ?_⟩
    ·have:=h4 j (C.renL (emb d m) e) (by simp[K])
     rw[y7] at this;simpa using this
    ·obtain⟨u,hu,hr⟩:=h5 j (C.renL (emb d m) e) o (x.ren (emb d m)) (by simp[K]) (by rw[y7];simp[M])
     exact⟨u,hu,hr.back ac (bv (k:=k) ho K M)⟩
  |obj p cs=>
   simp only[Blk.ren] at D hs
   obtain⟨b,o,us,z,w,A,h4⟩:=D
   refine⟨b,o,us,z,w,A,fun i x M=> ?_⟩
   obtain⟨u,hu,hr⟩:=h4 i (x.ren (emb d m)) (by rw[y7];simp[M])
   have b4:x.ok (eJ B)=true:=by simp only[Blk.ok,M8,cL] at ho;exact ho x (cV M)
   exact⟨u,hu,hr.back ac b4⟩
  exact inj (hG.st.inj _ _ _ _ p q (c i bi hi) (c j bj V) hp hq K);rcases hN.2 with hN|⟨j,E,H,g0,g1,g2⟩;exact hG.own _ _ b a (c i blk hi) hp hN;have:=hG.st.inj _ _ _ _ _ _ (c i blk hi) g1 hp g2 rfl;rw[<- this] at g0;exact g0 (L (b6.lt_of hi))
 have a2:∀t ∈ args,t.ok (eJ B)=true:=by rw[av6,cL] at av;exact av
 refine(h.run _ vs rfl bx (by rw[<- bb,al6];simp) (fun i t u ht hu=> ?_)).mono ?_
 ·exact(be i (t.ren (emb d m)) u (by rw[al6];simp[ht]) hu).back ac (a2 t (cV ht))
 ·rintro e w' ⟨v,r',O,al,rfl,ca,hr,hs⟩
  obtain⟨rfl,hM⟩:=hq r' O ca
  have Q:∀(j:Id) b,y[j]? =some (some b)->(j.1<m/\j.1 ∉ d/\l.σ0[j]? =some (some b))\/∃i b',j=emb d m i/\O[i]? =some (some b')/\b=b'.ren (emb d m):=by have:=hM.blk;rwa [hm] at this
  have ce:m+(eJ O - d.length)<=eJ y:=by have:=hM.len;rwa [hm] at this
  have hk:=hs.kept
  have a3:=hk.len
  dsimp only at a3
  classical
  let J:Phi:=fun j=>if M:∃i:Id,emb d m i=j then al M.choose else l.φ0 j
  have F:∀i:Id,J (emb d m i)=al i:=fun i=>by have M:∃i':Id,emb d m i'=emb d m i:=⟨i,rfl⟩;show(if M:∃i':Id,emb d m i'=emb d m i then al M.choose else _)=_;rw[dif_pos M,inj M.choose_spec]
  have G:∀j:Id,j.1<m->j.1 ∉ d->J j=l.φ0 j:=fun j z w=>by show(if M:∃i':Id,emb d m i'=j then al M.choose else _)=_;rw[dif_neg];rintro ⟨i,rfl⟩;rcases dh i.1 d.length with hi|hi;exact w (L (by omega));have:(emb d m i).1=m+(i.1 - d.length):=T8 hi;omega
  have hK:∀b,b<l.w0.heap.size->(∀(i:Id) blk a,B[i]? =some (some blk)->l.φ0 (emb d m i) ≠ some (b,a))->w'.heap[b]? =l.w0.heap[b]? :=fun b z w=>hs.block b ⟨z,w⟩
  have aa:∀(j:Id) blk b a,j.1 ∉ d->l.σ0[j]? =some (some blk)->l.φ0 j=some (b,a)->w'.heap[b]? =l.w0.heap[b]? :=fun j blk b a V z w=>
   hK b (Al.own_lt hG.st z w) fun i E H hi hp=>by have:=hG.st.inj _ _ _ _ _ _ (c i E hi) z hp w rfl;rw[<- this] at V;exact V (L (b6.lt_of hi))
  have A2:∀b,Al l.N l.φ0 l.σ0 b->b<l.w0.heap.size->Al l.N J y b:=fun b D a1=>⟨D.1,fun j blk a V hp=>by rcases Q j blk V with⟨z,w,A⟩|⟨i,b',rfl,w,_⟩;rw[G j z w] at hp;exact D.2 j blk a A hp;rw[F] at hp;exact hs.keep i b' b a w hp ⟨a1,fun i' E H U an=>D.2 _ _ H (c i' E U) an⟩⟩
  have A3:∀b,Al (fun b=>b<l.w0.heap.size/\(l.N b\/∃(j:Id) (blk:Blk) (a:Nat),j.1 ∉ d/\l.σ0[j]? =some (some blk)/\l.φ0 j=some (b,a))) al O b->b<w'.heap.size->Al l.N J y b:=fun b D _=>⟨fun hN=>D.1 ⟨hG.lt b hN,.inl hN⟩,fun j blk a V hp=>by rcases Q j blk V with⟨z,w,A⟩|⟨i,b',rfl,w,_⟩;rw[G j z w] at hp;exact D.1 ⟨Al.own_lt hG.st A hp,.inr ⟨j,blk,a,w,A,hp⟩⟩;rw[F] at hp;exact D.2 i b' a w hp⟩
  have ay:Fwd w' al J O y (Al (fun b=>b<l.w0.heap.size/\(l.N b\/∃(j:Id) (blk:Blk) (a:Nat),j.1 ∉ d/\l.σ0[j]? =some (some blk)/\l.φ0 j=some (b,a))) al O) (Al l.N J y) (emb d m):=by refine⟨A3,fun i hi=>⟨?_,F i,fun b' cb=> ?_⟩⟩;rcases dh i.1 d.length with g|g;have:=a1 _ (L (i:=i) (by omega));omega;have:(emb d m i).1=m+(i.1 - d.length):=T8 g;omega;rcases Q _ _ cb with⟨z,w,_⟩|⟨i',b0,K,w,A⟩;exfalso;rcases dh i.1 d.length with g|g;exact w (L (by omega));have:(emb d m i).1=m+(i.1 - d.length):=T8 g;omega;rw[inj K];exact⟨b0,w,A⟩
  have a0:Kept l.w0 w' l.φ0 J l.σ0 y (Al l.N l.φ0 l.σ0) (Al l.N J y):=by
   refine⟨fun b D hl=>hK b hl fun i blk a hi hp=>D.2 _ _ a (c i blk hi) hp,A2,?_,fun j k cc V K=> ?_,fun j p' cd V K=> ?_⟩;rw[hm];omega;rw[hm] at V;rcases Q j _ K with⟨z,w,A⟩|⟨i,b',rfl,w,A⟩;refine⟨cc,A,rfl,G j z w,fun b a ad ao hp D=>⟨ad,?_,rfl⟩⟩;rw[aa j _ b a w A hp];exact D;have hi:i.1<eJ B:=by rcases dh i.1 d.length with g|g;omega;have:(emb d m i).1=m+(i.1 - d.length):=T8 g;omega
   cases b' with
   |obj p cs=>simp[Blk.ren] at A
   |cells k2 bk=>
    simp only[Blk.ren,Blk.cells.injEq] at A
    obtain⟨rfl,rfl⟩:=A
    obtain⟨es,g1,g2,g3,g4⟩:=hk.cells i k bk hi w
    refine⟨es.map (C.renL (emb d m)),?_,by simpa using g2,by rw[F];exact g3,fun b a ad ao hp D=>g4 b a ad ao hp D⟩
    have:=c i _ g1
    simpa[Blk.ren] using this
   rw[hm] at V;rcases Q j _ K with⟨z,w,A⟩|⟨i,b',rfl,w,A⟩;exact⟨G j z w,p',cd,A⟩;have hi:i.1<eJ B:=by rcases dh i.1 d.length with g|g;omega;have:(emb d m i).1=m+(i.1 - d.length):=T8 g;omega
   cases b' with
   |cells k2 bk=>simp[Blk.ren] at A
   |obj p cs=>
    obtain⟨g1,p0,cf,g2⟩:=hk.obj i p cs hi w
    exact⟨by rw[F];exact g1,p0,_,c i _ g2⟩
  refine⟨v,_,y,J,rfl,⟨rfl,rfl⟩,hr.fwd ay,⟨hG,⟨fun j b V=> ?_,fun i j bi bj p q hi V hp hq K=> ?_⟩,fun j blk b a V hp a4=> ?_,hs.os,hs.tape,hs.drawn,hs.output,hs.size,fun b D=>hK b D.1 fun i blk a hi hp=>D.2 _ _ a (c i blk hi) hp,a0⟩⟩
  ·rcases Q j b V with⟨z,w,A⟩|⟨i,b',rfl,w,rfl⟩
   ·rw[G j z w]
    exact(hG.st.blk j b A).mono a0 fun g a hp=>aa j b g a w A hp
   ·rw[F]
    have D:=hs.st.blk i b' w
    cases b' with
    |cells k es=>
     rcases D with⟨z,a5⟩|⟨b,a,ad,ao,z,a5,A,h4,h5⟩
     ·exact .inl ⟨z,by simpa using a5⟩
     ·refine .inr ⟨b,a,ad,ao,z,a5,by simpa using A,fun j e K=> ?_,fun j e o x K M=> ?_⟩
      ·rw[lM,oM] at K
       obtain⟨e0,a6,rfl⟩:=K
       rw[y7,dr]
       exact h4 j e0 a6
      ·rw[lM,oM] at K
       obtain⟨e0,a6,rfl⟩:=K
       rw[y7,lM,oM] at M
       obtain⟨x0,a7,rfl⟩:=M
       obtain⟨u,hu,hr⟩:=h5 j e0 o x0 a6 a7
       exact⟨u,hu,hr.fwd ay⟩
    |obj p cs=>
     obtain⟨b,o,us,g1,g2,g3,g4⟩:=D
     refine⟨b,o,us,g1,g2,g3,fun i x M=> ?_⟩
     rw[y7,lM,oM] at M
     obtain⟨x0,a7,rfl⟩:=M
     obtain⟨u,hu,hr⟩:=g4 i x0 a7
     exact⟨u,hu,hr.fwd ay⟩
  ·rcases Q i bi hi with⟨z,w,A⟩|⟨i',b1,rfl,w,_⟩<;>rcases Q j bj V with⟨g1,g2,g3⟩|⟨j',b2,rfl,g2,_⟩
   ·rw[G i z w] at hp
    rw[G j g1 g2] at hq
    exact hG.st.inj _ _ _ _ p q A g3 hp hq K
   ·exfalso
    rw[G i z w] at hp
    rw[F] at hq
    obtain⟨p1,p2⟩:=p
    obtain⟨q1,q2⟩:=q
    simp only at K
    subst K
    refine hs.keep j' b2 p1 q2 g2 hq ⟨Al.own_lt hG.st A hp,fun i' E H U an=> ?_⟩
    have:=hG.st.inj _ _ _ _ _ _ (c i' E U) A an hp rfl
    rw[<- this] at w
    exact w (L (b6.lt_of U))
   ·exfalso
    rw[G j g1 g2] at hq
    rw[F] at hp
    obtain⟨p1,p2⟩:=p
    obtain⟨q1,q2⟩:=q
    simp only at K
    subst K
    refine hs.keep i' b1 p1 p2 w hp ⟨Al.own_lt hG.st g3 hq,fun i' E H U an=> ?_⟩
    have:=hG.st.inj _ _ _ _ _ _ (c i' E U) g3 an hq rfl
    rw[<- this] at g2
    exact g2 (L (b6.lt_of U))
   ·rw[F] at hp hq
    rw[hs.st.inj _ _ _ _ p q w g2 hp hq K]
  ·rcases Q j blk V with⟨z,w,A⟩|⟨i,b',rfl,w,_⟩
   ·rw[G j z w] at hp
    exact a4.2 j blk a A hp
   ·rw[F] at hp
    exact hs.keep i b' b a w hp ⟨a4.1,fun i' E H U an=>a4.2 _ _ H (c i' E U) an⟩
/-! ### The same by lists of entries -/
def I6{a:Id->Id}{l:List A}:(vec i V l).ren a=vec i V l:=Blk.im_ren _ _ _
def hdr_emb{a:Id->Id}(h:∀p,a (i,p)=(q,p)):(Blk.cells 1 (hdr (i,[]) X)).ren a=.cells 1 (hdr (q,[]) X):=by
 simp only[Blk.ren];congr 1;apply df;intro j;simp only[hdr,lM,cN,eI];cases X[j]? with
 |none=>rfl
 |some row=>simp[C.renL,C.ren,h]
inductive RenE(π:Id->Id):Nat->Ent->Nat->Ent->Prop
 |one {r r':Nat} {b b':Blk} (h:b.ren π=b'):RenE π r (.one b) r' (.one b')
 |vec {r r':Nat} {α:Type} {k:Nat} {f:α->List I} {l:List α}:RenE π r (.one (vec k f l)) r' (.one (vec k f l))
 |mat {r r':Nat} {α:Type} {k:Nat} {f:α->List I} {M:List (List α)}:RenE π r (mat (r,[]) k f M) r' (mat (r',[]) k f M)
 |any {r r':Nat} {e e':Ent} (h1:∀p b,e.sub p=some b->e'.sub p=some (b.ren π)) (h2:∀p b,e'.sub p=some b->∃b0,e.sub p=some b0/\b=b0.ren π):RenE π r e r' e'
def RenE.fwd{c:Id->Id}{f:Nat}{e g:Ent}(h:RenE c i e f g)(d:∀p,c (i,p)=(f,p)):∀p b,e.sub p=some b->g.sub p=some (b.ren c):=by
 intro p b a;cases h with
 |one h=>cases p with
  |nil=>cases a;rw[h];rfl
  |cons=>cases a
 |vec=>cases p with
  |nil=>cases a;rw[I6];rfl
  |cons=>cases a
 |mat=>
  rcases ae8 a with⟨rfl,rfl⟩|⟨q,row,rfl,j,rfl⟩
  ·rw[hdr_emb d];rfl
  ·rw[I6,Q0,j]
 |any k l=>exact k p b a
def RenE.bwd{c:Id->Id}{f:Nat}{e g:Ent}(h:RenE c i e f g)(d:∀p,c (i,p)=(f,p)):∀p b,g.sub p=some b->∃j,e.sub p=some j/\b=j.ren c:=by
 intro p b a;cases h with
 |one h=>cases p with
  |nil=>cases a;exact⟨_,rfl,h.symm⟩
  |cons=>cases a
 |vec=>cases p with
  |nil=>cases a;exact⟨_,rfl,I6.symm⟩
  |cons=>cases a
 |mat=>
  rcases ae8 a with⟨rfl,rfl⟩|⟨q,row,rfl,k,rfl⟩
  ·exact⟨_,rfl,(hdr_emb d).symm⟩
  ·exact⟨Ab.vec _ _ row,by rw[Q0,k],I6.symm⟩
 |any n l=>exact l p b a
inductive LentE(π:Id->Id)(σv:b6):Nat->Ent->Nat->Prop
 |dead {r x:Nat}:LentE π σv r .dead x
 |live {r x:Nat} {e e':Ent} (h:σv[x]? =some e') (he:RenE π r e x e'):LentE π σv r e x
def LentL(b:Id->Id)(a:b6):Nat->List Ent->List Nat->Prop
 |_,[],_=>True
 |r,e::l,x::c=>LentE b a r e x/\LentL b a (r+1) l c
 |_,_::_,[]=>False
def LentL.get{c:Id->Id}:∀{r:Nat} {l:List Ent} {b:List Nat},LentL c p r l b->∀j e,l[j]? =some e->∃x,b[j]? =some x/\LentE c p (r+j) e x
 |_,_::_,x::_,h,0,e,a=>by simp only[cG,Option.some.injEq] at a;subst a;exact⟨x,rfl,h.1⟩
 |r,_::l,_::b,h,j+1,e,a=>by obtain⟨x,d,f⟩:=LentL.get h.2 j e (by simpa using a);exact⟨x,by simpa using d,by rwa [show r+1+j=r+(j+1) by omega] at f⟩
 |_,_::_,[],h,_,_,_=>h.elim
inductive MrgE(ι:List Nat)(m:Nat)(σv σ':b6):Nat->Ent->Prop
 |dead {j:Nat}:MrgE ι m σv σ' j .dead
 |old {j:Nat} {e:Ent} (h1:dp j m=true) (h2:memN j ι=false) (h3:σv[j]? =some e):MrgE ι m σv σ' j e
 |new {j:Nat} {e e0:Ent} (r:Nat) (h1:X2 ι m r=j) (h2:σ'[r]? =some e0) (h3:RenE (emb ι m) r e0 j e):MrgE ι m σv σ' j e
def MrgL(c:List Nat)(m:Nat)(a b:b6):Nat->List Ent->Prop
 |_,[]=>True
 |j,e::l=>MrgE c m a b j e/\MrgL c m a b (j+1) l
def MrgL.get{σ':b6}:∀{j:Nat} {l:List Ent},MrgL c i p σ' j l->∀a e,l[a]? =some e->MrgE c i p σ' (j+a) e
 |_,_::_,h,0,e,b=>by simp only[cG,Option.some.injEq] at b;subst b;exact h.1
 |j,_::l,h,a+1,e,b=>by have:=MrgL.get h.2 a e (by simpa using b);rwa [show j+1+a=j+(a+1) by omega] at this
def dead_sub{b:Blk}(h:Ent.dead.sub c=some b):False:=by cases c<;>cases h
def ent_of{b:Blk}(h:p[Q]? =some (some b)):∃e,p[Q.1]? =some e/\e.sub Q.2=some b:=by
 rw[b6.at_eq] at h;simp only[b6.at] at h;cases a:p[Q.1]? with
 |none=>simp[a] at h
 |some e=>rw[a] at h;simp only[Option.some.injEq] at h;exact⟨e,rfl,h⟩
def lenB:List Nat->Nat->Bool
 |[],n=>cJ n 0
 |_::l,n+1=>lenB l n
 |_::_,0=>false
def nodupB:List Nat->Bool
 |[]=>true
 |x::l=> !memN x l && nodupB l
def nodupB_iff:∀{l:List Nat},nodupB l=true->l.Nodup
 |[],_=>.nil
 |x::l,h=>by simp only[nodupB,cH,eB] at h;refine List.nodup_cons.2 ⟨fun a=> ?_,nodupB_iff h.2⟩;rw[(L9 x l).2 a] at h;cases h.1
def allLt(m:Nat):List Nat->Bool
 |[]=>true
 |x::l=>dp x m && allLt m l
def allLt_iff:∀{l:List Nat},allLt i l=true->∀r ∈ l,r<i
 |x::l,h,r,a=>by simp only[allLt,cH] at h;rcases dN.1 a with rfl|a;simpa using h.1;exact allLt_iff h.2 r a
inductive OkE(n:Nat):Nat->Ent->Prop
 |dead {r:Nat}:OkE n r .dead
 |one {r:Nat} {b:Blk} (h:b.ok n=true):OkE n r (.one b)
 |vec {r:Nat} {α:Type} {k:Nat} {f:α->List I} {l:List α}:OkE n r (.one (vec k f l))
 |mat {r:Nat} {α:Type} {k:Nat} {f:α->List I} {M:List (List α)} (h:dp r n=true):OkE n r (mat (r,[]) k f M)
 |any {r:Nat} {e:Ent} (h:∀p b,e.sub p=some b->b.ok n=true):OkE n r e
def OkEs(n:Nat):Nat->List Ent->Prop
 |_,[]=>True
 |r,e::l=>OkE n r e/\OkEs n (r+1) l
def OkEs.get{n:Nat}:∀{r:Nat} {l:List Ent},OkEs n r l->∀j e,l[j]? =some e->OkE n (r+j) e
 |_,_::_,h,0,e,a=>by simp only[cG,Option.some.injEq] at a;subst a;exact h.1
 |r,_::l,h,j+1,e,a=>by have:=OkEs.get h.2 j e (by simpa using a);rwa [show r+1+j=r+(j+1) by omega] at this
def OkEs.all{n:Nat}(h:OkEs n 0 p)(i:Id)(b:Blk)(hi:p[i]? =some (some b)):b.ok n=true:=by
 obtain⟨e,c,a⟩:=ent_of hi;have:=OkEs.get h _ _ c;rw[cO] at this;cases this with
 |dead=>exact(dead_sub a).elim
 |one h=>cases hp:i.2 with
  |nil=>rw[hp] at a;cases a;exact h
  |cons=>rw[hp] at a;cases a
 |vec=>cases hp:i.2 with
  |nil=>rw[hp] at a;cases a;exact K0
  |cons=>rw[hp] at a;cases a
 |mat h=>
  rcases ae8 a with⟨_,rfl⟩|⟨q,row,_,_,rfl⟩
  ·exact hdr_ok (by simpa using h) _
  ·exact K0
 |any h=>exact h _ _ a
def FnOk.lend0{P:Program}{f:FuncId}{args d:List T}{g a o k:b6}{M N:T}(c:List Nat)(G:FnOk P f d g fun r s=>r=M/\s=o)
  (hl:lenB c (eJ g)=true) (O:nodupB c=true) (z:allLt (eJ a) c=true) (u:T.okL (eJ g) d=true) (A:OkEs (eJ g) 0 g) (q:T.renL (emb c (eJ a)) d=args) (Q:LentL (emb c (eJ a)) a 0 g c)
  (U:M.ren (emb c (eJ a))=N) (t:di (eJ a+(o.length - c.length)) (eJ k)=true) (V:MrgL c (eJ a) a o 0 k):FnOk P f args a fun r s=>r=N/\s=k:=by
 have X:c.length=eJ g:=by
  clear Q O z V t U q;have:∀(l:List Nat) n,lenB l n=true->eJ l=n:=by
   intro l;induction l with
   |nil=>intro n h;exact(cE h).symm
   |cons x l ih=>intro n h;cases n with
    |zero=>cases h
    |succ n=>simp[ih n h]
  exact this _ _ hl
 have H:=nodupB_iff O
 have B:=allLt_iff z
 have v:∀r p,emb c (eJ a) (r,p)=(X2 c (eJ a) r,p):=fun _ _=>rfl
 subst q U
 have J:MergeOk c a o k:=by
  refine⟨cQ t,fun j b hj=> ?_⟩;obtain⟨e,K,w⟩:=ent_of hj;have D:=MrgL.get V _ _ K;rw[cO] at D;cases D with
  |dead=>exact(dead_sub w).elim
  |old E F L=>
   refine .inl ⟨by simpa using E,fun hx=> ?_,?_⟩
   ·rw[(L9 _ _).2 hx] at F;cases F
   ·show a[((j.1,j.2):Id)]? =_
    rw[o9 L,w]
  |new r E F L=>
   obtain⟨b0,k1,k2⟩:=L.bwd (fun p=>by rw[v,E]) _ _ w
   refine .inr ⟨(r,j.2),b0,?_,?_,k2⟩
   ·rw[v,E]
   ·rw[o9 F,k1]
 refine FnOk.frame G c a X H B u (fun i b hi=>A.all i b hi) (fun i b hi=> ?_) _ _ (fun r' aa hq=>⟨by rw[hq.1],by rw[hq.2];exact J⟩)
 ·obtain⟨e,K,w⟩:=ent_of hi
  obtain⟨x,D,h4⟩:=LentL.get Q _ _ K
  rw[cO] at h4
  obtain⟨y,g1,g2⟩:=ag1 (m:=eJ a) (ι:=c) (r:=i.1) (by rw[X];exact b6.lt_of hi)
  rw[D] at g1;cases g1
  cases h4 with
  |dead=>exact(dead_sub w).elim
  |live h he=>
   have:=he.fwd (fun p=>by rw[v,g2]) _ _ w
   show a[((X2 c (eJ a) i.1,i.2):Id)]? =_
   rw[g2,o9 h,this]
def AOps.callF{ops:Array Oper}{rest:List Oper}{j:List Od}{k:Array Ti}{f:FuncId}{b:List C}{l:List T}{n:T}{e:b6}(o:ev t P=some (.c (.fn f b)))(q:evs t j=some l)(u:f7 i H=true)(v:FnOk d f (l++b.map T.c) B fun r a=>r=n/\a=e)(h:AOps d p i ops s rest (St.mk (putE t H n) e)):
  AOps d p i ops s (⟨H,.call ⟨.value P,j.toArray,k⟩,g,L,M,none⟩::rest) (St.mk t B):=
 .callS o q u v fun r a ⟨w,y⟩=>by subst w y;exact h
def AOps.newAt{P:Program}{ops:List Oper}{G:Env}{z:Array Oper}{rest:List Oper}{o:Oper}{e E:Env}{f m:Nat}{k X:b6}{c':T}(n:Nat)(c:T)(blk:Blk)(N:k=B\/∃id,putF B id .none=some k)(hm:idF B=some m)(hE:EOk ops r G f E)(hb:envNo (n,[]) G=true)(hV:vNo (n,[]) ops f r 0=true)(he:envNo (n,[]) e=true)(an:setF k n (.one blk)=some X)(ao:NoE n (.one blk))(av:OkE m n (.one blk))(ay:c.ok m=true)(a0:c.ren (mv (n,[]) (m,[]))=c')(h0:di (eJ p) n=true)(hs:NoL n k)(K:AOps P p i z s rest (St.mk (putE (e++E) H c') (k++[.one blk]))->AOps P p i z s (o::rest) (St.mk (e++E) B))(h:AOps P p i z s rest (St.mk (putE (e++E) H c) X)):AOps P p i z s (o::rest) (St.mk (e++E) B):=fun Γ φ a w a1 hR=>by
 have a2:=ae4 hm;have h3:=I7 an
 subst a2
 obtain⟨rfl,Q⟩:=h3
 have l:eJ k=eJ B:=by rcases N with rfl|⟨id,N⟩;rfl;rw[putF_eq N,b6.length_put]
 have a5:n<eJ B:=by omega
 have V:∀(f:Id) (b:Blk),k[f]? =some (some b)->B[f]? =some (some b):=fun f b hi=>by rcases N with rfl|⟨id,N⟩;exact hi;rw[putF_eq N] at hi;exact(b6.get_kill hi).2
 have D:∃n0,n0=eJ B/\blk.ok n0=true:=⟨_,rfl,by
  cases av with
  |one h=>exact h
  |vec=>exact Blk.im_ok _ _ _
  |any h=>exact h [] blk rfl⟩
 have aa:blk.no (n,[])=true:=by
  cases ao with
  |one h=>exact h
  |vec=>exact Blk.im_no _ _ _
  |any h=>exact h [] blk rfl
 obtain⟨n0,a3,D⟩:=D
 refine K (AOps.sub (s':=St.mk (putE (e++E) H c) (k.set n (.one blk))) ?_ h) Γ φ a w a1 hR
 have a6:=cQ h0
 have ac:∀(t:Nat) (v:T),lookup t (e++E)=some v->v.ok (eJ B)=true:=fun t v y=>by obtain⟨u,_,hr⟩:=hR.env t v y;exact hr.ok
 have ad:∀(t:Nat) (v:T),lookup t (e++E)=some v->v.no (n,[])=true:=fun t v y=>by
  rw[J1] at y;cases hx:lookup t e with
  |some x=>
   rw[hx] at y;cases y
   exact an0 he t v hx
  |none=>
   rw[hx] at y
   rcases hE t v y with g|⟨j,O,U,g3⟩
   ·exact an0 hb t v g
   ·exact vNo_get hV j v g3 (by rw[cO];exact O) (by rw[cO];exact U)
 have L:mv (n,[]) (eJ B,[]) (n,[])=(eJ B,[]):=by simp[mv,H4.2 rfl]
 have A:∀f:Id,f ≠ (n,[])->mv (n,[]) (eJ B,[]) f=f:=fun f h=>by simp[mv,F2 h]
 have F:∀(f:Id) (b:Blk),(k.set n (.one blk))[f]? =some (some b)->f.1<eJ B:=fun f b hi=>by have:=b6.lt_of hi;rw[lS,l] at this;exact this
 refine Sub.mk (mv (n,[]) (eJ B,[])) (fun f hi=>A f (fun e=>by subst e;simp at hi;omega)) (by simp only[lS];omega) (fun f j b b' hi hj h=> ?_) (fun f b hi=> ?_) (fun t v y=> ?_)
 ·have l1:=F f b hi
  have l2:=F j b' hj
  by_cases O:f=(n,[])<;>by_cases U:j=(n,[])
  ·rw[O,U]
  ·rw[O,L,A j U] at h
   rw[<- h] at l2;simp at l2
  ·rw[U,L,A f O] at h
   rw[h] at l1;simp at l1
  ·rwa [A f O,A j U] at h
 ·have a4:=F f b hi
  obtain⟨j,q⟩:=f
  by_cases hj:j=n
  ·subst hj
   have al:(Ent.one blk).sub q=some b:=by rw[b6.at_eq] at hi;simp only[b6.at,dU Q,Option.some.injEq] at hi;exact hi
   cases q with
   |cons=>cases al
   |nil=>
    cases al
    refine⟨by rw[lS,l,<- a3];exact D,?_⟩
    rw[L,Blk.ren_no _ aa,<- l]
    exact b6.get_last k _
  ·have M:k[((j,q):Id)]? =some (some b):=by rw[b6.at_eq] at hi ⊢;simp only[b6.at] at hi ⊢;rwa [dW (fun e=>hj e.symm)] at hi
   refine⟨by rw[lS,l];exact hR.st.okB (V _ _ M),?_⟩
   rw[A (j,q) (fun e=>hj (by cases e;rfl)),Blk.ren_no _ (hs.all _ _ M)]
   show(k++_)[_]? =_
   rw[b6.get_left (by rw[l];exact a4)];exact M
 ·have rest:∀v,lookup t (e++E)=some v->v.ok (k.set n (Ent.one blk)).length=true/\lookup t (e++E)=some (v.ren (mv (n,[]) (eJ B,[]))):=fun v hv=>
   ⟨by rw[lS,l];exact ac t v hv,by rw[T.ren_no v (ad t v hv)];exact hv⟩
  cases J:H with
  |none=>rw[J] at y;exact rest v y
  |some d=>
   rw[J] at y
   simp only[putE,lookup] at y ⊢
   split at y
   ·cases y
    refine⟨by rw[lS,l];exact ay,?_⟩
    rw[a0]
   ·exact rest v y
def AOps.nilCheck{ops:Array Oper}{rest:List Oper}{o k:Nat}{n:List (List C)}(r:ev t P=some (.c (.ptr Q q o)))(e:B[Q]? =some (some (.cells k n)))(u:f7 i H=true)(h:AOps d p i ops s rest (St.mk (putE t H (.c (.ptr Q q o))) B)):AOps d p i ops s (⟨H,.nilCheck P,g,L,M,none⟩::rest) (St.mk t B):=
 .value rfl u _ (fun A D a w v=>by have f:=i5 v r;obtain⟨y,b,l,hp,z⟩:=an2 f e;exact⟨a.eval P,by simp[execOp,z],f⟩) h
def AOps.nilCheckI{ops:Array Oper}{rest:List Oper}{cs:List I}(e:ev t P=some (.c (.imm (.ipt cs))))(f:f7 i H=true)(h:AOps d p i ops s rest (St.mk (putE t H (.c (.imm (.ipt cs)))) B)):AOps d p i ops s (⟨H,.nilCheck P,g,L,M,none⟩::rest) (St.mk t B):=
 .value rfl f _ (fun n o a w j=>by have b:=i5 j e;obtain⟨q,r,k,l⟩:=ipt_inv b;exact⟨a.eval P,by simp[execOp,k],b⟩) h
def AOps.nilCheckF{ops:Array Oper}{rest:List Oper}{f:FuncId}{b:List C}(k:ev t P=some (.c (.fn f b)))(n:f7 i H=true)(h:AOps d p i ops s rest (St.mk (putE t H (.c (.fn f b))) B)):AOps d p i ops s (⟨H,.nilCheck P,g,L,M,none⟩::rest) (St.mk t B):=
 .value rfl n _ (fun q r a w o=>by
  have e:=i5 o k;have j:∃l,a.eval P=.func (.func f) #[] l:=by generalize a.eval P=v at e;cases e with|c e=>cases e with|fn u h=>exact⟨_,rfl⟩
  obtain⟨l,j⟩:=j;exact⟨a.eval P,by simp[execOp,j],e⟩) h
def W.buildP{env:Env}{ops:Array Oper}{rest:List Oper}{t:Ti}{k:Array Field}{parts:List (Nat×Od)}{l:List (Nat×T)}{f cs:List C}{b:List (Nat×Nat)}[A:TyD d t (.struct k)][hp:PlacesC d k.toList b][o:TyZ d t f](q:di 2 (eJ f)=true)(j:evP env parts=some l)(r:fillC (fun a=>b[a]?) f l=some cs)(u:f7 i H=true)(h:AOps d p i ops s rest (St.mk (putE env H (.agg cs)) B)):AOps d p i ops s (⟨H,.build t parts.toArray,g,L,M,none⟩::rest) (St.mk env B):=by
 obtain⟨size,bytes,z,v,n,w,e⟩:=o.h
 cases v with
 |c x=>cases e;cases q
 |agg y=>cases e;exact AOps.build (hs:=n) w j r u h
 |tup _=>cases e
 |undef=>cases e
section
open Go.Proofs
open Tryz
def oneL:List Nat:=[3,4,5,22,23,34,38,53,112,113,118,148,164,183,187,189,192,207,232]
def aggL:List (Nat×Nat):=[(25,4),(28,2),(30,2),(40,3),(55,4),(77,2),(88,3),(95,2),(110,4),(157,3),(160,2),(179,4),(182,0),(263,20),(267,32)]
def fldL:List (Nat×List Nat):=[(25,[0,1,2,3]),(28,[0,1]),(30,[0,1]),(40,[0,1,2]),(55,[0,1,2,3]),(70,[0,4,5,6,7]),(77,[0,1]),(88,[0,1,2]),(95,[0,1]),(110,[0,1,2,3]),(157,[0,1,2]),(160,[0,1]),(166,[0,1,2]),(179,[0,1,2,3]),(191,[0,1,2]),(195,[0,1,2,3])]
def zerL:List (Nat×List C):=[(3,[.imm (.val (.int .i64 0))]),(22,[.imm (.val (.slice none 0 0))]),(25,[.imm (.val (.int .i64 0)),.imm (.val (.slice none 0 0)),.imm (.val (.slice none 0 0)),.imm (.val (.slice none 0 0))]),(28,[.imm (.val (.int .i64 0)),.imm (.val (.int .i64 0))]),(30,[.imm (.val (.int .i64 0)),.imm (.val (.int .i64 0))]),(34,[.imm (.val (.slice none 0 0))]),(40,[.imm (.val (.slice none 0 0)),.imm (.val (.slice none 0 0)),.imm (.val (.int .i64 0))]),(55,[.imm (.val (.int .i64 0)),.imm (.val (.slice none 0 0)),.imm (.val (.slice none 0 0)),.imm (.val (.slice none 0 0))]),(70,[.imm (.val (.int .i64 0)),.imm (.val (.slice none 0 0)),.imm (.val (.slice none 0 0)),.imm (.val (.slice none 0 0)),.imm (.val (.slice none 0 0)),.imm (.val (.slice none 0 0)),.imm (.val (.slice none 0 0)),.imm (.val (.int .i64 0))]),(77,[.imm (.val (.slice none 0 0)),.imm (.val (.slice none 0 0))]),(88,[.imm (.val (.slice none 0 0)),.imm (.val (.slice none 0 0)),.imm (.val (.int .i64 0))]),(95,[.imm (.val (.slice none 0 0)),.imm (.val (.int .i64 0))]),(110,[.imm (.val (.slice none 0 0)),.imm (.val (.slice none 0 0)),.imm (.val (.slice none 0 0)),.imm (.val (.int .i64 0))]),(111,[.imm (.val (.int .i64 0)),.imm (.val (.int .i64 0))]),(113,[.imm (.val (.slice none 0 0))]),(118,[.imm (.val (.int .u32 0))]),(148,[.imm (.val (.map none))]),(157,[.imm (.val (.int .i64 0)),.imm (.val (.int .i64 0)),.imm (.val (.int .u32 0))]),(160,[.imm (.val (.int .u32 0)),.imm (.val (.int .i64 0))]),(166,[.imm (.val (.int .u32 0)),.imm (.val (.int .u32 0)),.imm (.val (.slice none 0 0))]),(179,[.imm (.val (.int .u32 0)),.imm (.val (.int .u32 0)),.imm (.val (.int .u32 0)),.imm (.val (.int .i64 0))]),(182,[]),(183,[.imm (.val (.map none))]),(191,[.imm (.val (.slice none 0 0)),.imm (.val (.map none)),.imm (.val (.int .i64 0))]),(195,[.imm (.val (.int .u32 0)),.imm (.val (.int .i64 0)),.imm (.val (.int .i64 0)),.imm (.val (.int .i64 0))]),(232,[.imm (.val (.int .u64 0))]),(253,[.imm (.val (.int .u8 0)),.imm (.val (.int .u8 0)),.imm (.val (.int .u8 0)),.imm (.val (.int .u8 0)),.imm (.val (.int .u8 0)),.imm (.val (.int .u8 0)),.imm (.val (.int .u8 0)),.imm (.val (.int .u8 0)),.imm (.val (.int .u8 0)),.imm (.val (.int .u8 0)),.imm (.val (.int .u8 0)),.imm (.val (.int .u8 0)),.imm (.val (.int .u8 0)),.imm (.val (.int .u8 0)),.imm (.val (.int .u8 0)),.imm (.val (.int .u8 0)),.imm (.val (.int .u8 0)),.imm (.val (.int .u8 0)),.imm (.val (.int .u8 0)),.imm (.val (.int .u8 0)),.imm (.val (.int .u8 0)),.imm (.val (.int .u8 0)),.imm (.val (.int .u8 0)),.imm (.val (.int .u8 0))]),(263,[.imm (.val (.int .u64 0)),.imm (.val (.int .u64 0)),.imm (.val (.int .u64 0)),.imm (.val (.int .u64 0)),.imm (.val (.int .u64 0)),.imm (.val (.int .u64 0)),.imm (.val (.int .u64 0)),.imm (.val (.int .u64 0)),.imm (.val (.int .u64 0)),.imm (.val (.int .u64 0)),.imm (.val (.int .u64 0)),.imm (.val (.int .u64 0)),.imm (.val (.int .u64 0)),.imm (.val (.int .u64 0)),.imm (.val (.int .u64 0)),.imm (.val (.int .u64 0)),.imm (.val (.int .u64 0)),.imm (.val (.int .u64 0)),.imm (.val (.int .u64 0)),.imm (.val (.int .u64 0))]),(267,[.imm (.val (.int .u8 0)),.imm (.val (.int .u8 0)),.imm (.val (.int .u8 0)),.imm (.val (.int .u8 0)),.imm (.val (.int .u8 0)),.imm (.val (.int .u8 0)),.imm (.val (.int .u8 0)),.imm (.val (.int .u8 0)),.imm (.val (.int .u8 0)),.imm (.val (.int .u8 0)),.imm (.val (.int .u8 0)),.imm (.val (.int .u8 0)),.imm (.val (.int .u8 0)),.imm (.val (.int .u8 0)),.imm (.val (.int .u8 0)),.imm (.val (.int .u8 0)),.imm (.val (.int .u8 0)),.imm (.val (.int .u8 0)),.imm (.val (.int .u8 0)),.imm (.val (.int .u8 0)),.imm (.val (.int .u8 0)),.imm (.val (.int .u8 0)),.imm (.val (.int .u8 0)),.imm (.val (.int .u8 0)),.imm (.val (.int .u8 0)),.imm (.val (.int .u8 0)),.imm (.val (.int .u8 0)),.imm (.val (.int .u8 0)),.imm (.val (.int .u8 0)),.imm (.val (.int .u8 0)),.imm (.val (.int .u8 0)),.imm (.val (.int .u8 0))])]
def flaL:List (Nat×Nat):=[(25,4),(28,2),(30,2),(40,3),(55,4),(77,2),(88,3),(95,2),(110,4),(157,3),(160,2),(166,3),(179,4),(191,3),(195,4)]
def intL:List (Nat×IntKind):=[(2,.i64),(3,.i64),(5,.u8),(118,.u32),(137,.u64),(207,.u64),(232,.u64)]
def tyOne(P : Program)(t : Nat) : Bool := (match P.underlying t with
 |some d=>(B5 d).not
 |none=>false) && match P.info? t with
 |some i=>cJ i.size 1 && i.zero.isSome
 |none=>false
def tyAgg(P : Program)(p : Nat × Nat) : Bool := (match P.underlying p.1 with
 |some d=>B5 d
 |none=>false) && match P.info? p.1 with
 |some i=>cJ i.size p.2 && i.zero.isSome
 |none=>false
def tyFld(P:Program):List Field->List Nat->Bool
 |[],[]=>true
 | a :: r, o :: os => cJ a.offset o && (match P.info? a.type with
  |some i=>i.size !=0 && i.zero.isSome
  |none=>false) && tyFld P r os
 |_,_=>false
def tyStr(P:Program)(p:Nat×List Nat):Bool:=match P.underlying p.1 with
 |some (.struct a)=>tyFld P a.toList p.2
 |_=>false
def kN:IntKind->Nat
 | .i8=>0| .i16=>1| .i32=>2| .i64=>3| .u8=>4| .u16=>5| .u32=>6| .u64=>7
def tyInt(P:Program)(p:Nat×IntKind):Bool:=match P.underlying p.1 with
 |some (.int k)=>cJ (kN k) (kN p.2)
 |_=>false
def tyZer(P:Program):List (Nat×List C)->Prop
 |[]=>True
 |(t,z)::r=>TyZ P t z/\tyZer P r
def tyFla(P:Program):List (Nat×Nat)->Prop
 |[]=>True
 |(t,z)::r=>FlatC P t z/\tyFla P r
def oneL_all:oneL.all (tyOne prog)=true:=by kernel_rfl
def aggL_all:aggL.all (tyAgg prog)=true:=by kernel_rfl
def fldL_all:fldL.all (tyStr prog)=true:=by kernel_rfl
def intL_all:intL.all (tyInt prog)=true:=by kernel_rfl
def zerL_all:tyZer prog zerL:=⟨inferInstance,inferInstance,inferInstance,inferInstance,inferInstance,inferInstance,inferInstance,inferInstance,inferInstance,inferInstance,inferInstance,inferInstance,inferInstance,inferInstance,inferInstance,inferInstance,inferInstance,inferInstance,inferInstance,inferInstance,inferInstance,inferInstance,inferInstance,inferInstance,inferInstance,inferInstance,inferInstance,inferInstance,inferInstance,trivial⟩
def flaL_all:tyFla prog flaL:=⟨inferInstance,inferInstance,inferInstance,inferInstance,inferInstance,inferInstance,inferInstance,inferInstance,inferInstance,inferInstance,inferInstance,inferInstance,inferInstance,inferInstance,inferInstance,trivial⟩
end
section
open Go.Proofs
open Tryz
def memN_mem:∀{l:List Nat},memN i l=true->i ∈ l
 |[],h=>by cases h
 |m::r,h=>by simp only[memN] at h;split at h;rename_i e;rw[cE e];exact .head _;exact .tail _ (memN_mem h)
def ldC(σ:b6):C->Option C
 | .imm (.ipt (c::_))=>some (.imm c)
 | .ptr id j o=>match b6.at σ id with
  |some (some (.cells _ a))=>match a[j]? with
   |some e=>e[o]?
   |none=>none
  |_=>none
 |_=>none
def fAd(σ:b6)(a:Nat):C->Option C
 | .ptr id j 0=>match b6.at σ id with
  |some (some (.cells _ _))=>some (.ptr id j a)
  |_=>none
 | .imm (.ipt cs)=>match dropF a cs with
  |some b=>some (.imm (.ipt b))
  |none=>none
 |_=>none
def offOf(t f:Nat):List (Nat×List Nat)->Option Nat
 |[]=>none
 |(s,os)::r=>match cJ s t with
  |true=>os[f]?
  |false=>offOf t f r
def all_get{l:List A}{f:A->Bool}(h:l.all f=true){x:A}(a:x ∈ l):f x=true:=cL.1 h x a
theorem size_get(h : (match d.info? i with
 |some a=>cJ a.size q && a.zero.isSome
 |none=>false)=true):∃b z,TyS d i q b z:=by
 split at h
 ·rename_i a hi
  simp only[cH,dH] at h
  obtain⟨c,z,e⟩:=h
  exact⟨_,z,⟨a,hi,cE c,rfl,e⟩⟩
 ·cases h
theorem tyOne_get{P:Program}(h:tyOne P i=true):(∃d,P.underlying i=some d/\B5 d=false)/\∃b z,TyS P i 1 b z:=by unfold tyOne at h;rw[cH] at h;obtain⟨h,a⟩:=h;refine⟨?_,size_get a⟩;split at h;exact⟨_,by assumption,by simpa using h⟩;cases h
theorem oneL_ok(h:i ∈ oneL):(∃d,prog.underlying i=some d/\B5 d=false)/\∃b z,TyS prog i 1 b z:=tyOne_get (all_get oneL_all h)
def aa9(t:Nat):List (Nat×A)->Option A
 |[]=>none
 |(s,n)::r=>match cJ s t with
  |true=>some n
  |false=>aa9 t r
def numOf_mem{n:A}:∀{l:List (Nat×A)},aa9 i l=some n->(i,n) ∈ l
 |[],h=>by cases h
 |(s,m)::r,h=>by simp only[aa9] at h;split at h;rename_i e;cases h;rw[<- cE e];exact .head _;exact .tail _ (numOf_mem h)
theorem tyAgg_get{P:Program}(h:tyAgg P (i,q)=true):(∃d,P.underlying i=some d/\B5 d=true)/\∃b z,TyS P i q b z:=by unfold tyAgg at h;rw[cH] at h;obtain⟨h,a⟩:=h;refine⟨?_,size_get a⟩;split at h;exact⟨_,by assumption,h⟩;cases h
theorem aggL_ok(h:aa9 i aggL=some q):(∃d,prog.underlying i=some d/\B5 d=true)/\∃b z,TyS prog i q b z:=tyAgg_get (all_get aggL_all (numOf_mem h))
def tyInt_get{k:IntKind}(h:tyInt d (i,k)=true):d.underlying i=some (.int k):=by
 unfold tyInt at h;split at h;rename_i a hk;rw[hk];have h:=cE h;congr 2;revert h;cases k<;>cases a<;>intro h<;>first|rfl|cases h
 cases h
def intL_ok{k:IntKind}(h:aa9 i intL=some k):prog.underlying i=some (.int k):=tyInt_get (all_get intL_all (numOf_mem h))
theorem tyZer_get{z:List C}:∀{l:List (Nat×List C)},tyZer d l->aa9 i l=some z->TyZ d i z
 |(s,m)::r,a,h=>by simp only[aa9] at h;split at h;rename_i e;cases h;rw[<- cE e];exact a.1;exact tyZer_get (l:=r) a.2 h
theorem tyFla_get:∀{l:List (Nat×Nat)},tyFla d l->aa9 i l=some q->FlatC d i q
 |(s,m)::r,a,h=>by simp only[aa9] at h;split at h;rename_i e;cases h;rw[<- cE e];exact a.1;exact tyFla_get (l:=r) a.2 h
def offOf_mem{a:Nat}:∀{l:List (Nat×List Nat)},offOf i q l=some a->∃os,(i,os) ∈ l/\os[q]? =some a
 |[],h=>by cases h
 |(s,os)::r,h=>by simp only[offOf] at h;split at h;rename_i e;rw[<- cE e];exact⟨os,.head _,h⟩;obtain⟨x,b,c⟩:=offOf_mem h;exact⟨x,.tail _ b,c⟩
def tyFld_get{P:Program}:∀{fs:List Field} {os:List Nat} {f off:Nat},tyFld P fs os=true->os[f]? =some off->∃fd,fs[f]? =some fd/\fd.offset=off/\∃i,P.info? fd.type=some i/\i.size ≠ 0/\∃z,i.zero=some z
 |[],[],f,off,_,h=>by simp at h
 |[],_::_,_,_,h,_=>by cases h
 |_::_,[],_,_,h,_=>by cases h
 |fd::r,o::os,f,off,h,hf=>by
  simp only[tyFld,cH] at h;cases f with
  |succ f=>exact tyFld_get (fs:=r) (os:=os) h.2 hf
  |zero=>
   cases hf
   refine⟨fd,rfl,cE h.1.1,?_⟩
   have h3:=h.1.2
   split at h3
   ·rename_i i hi
    simp only[cH,bne_iff_ne,ne_eq,dH] at h3
    exact⟨i,hi,h3⟩
   ·cases h3
def tyStr_get{b:Nat}(h:tyStr d (i,c)=true)(j:c[q]? =some b):∃g e,d.underlying i=some (.struct g)/\g[q]? =some e/\e.offset=b/\∃a,d.info? e.type=some a/\a.size ≠ 0/\∃z,a.zero=some z:=by unfold tyStr at h;split at h;rename_i g k;obtain⟨e,l,n⟩:=tyFld_get h j;exact⟨g,e,k,by simpa using l,n⟩;cases h
def fldL_ok{b:Nat}(h:offOf i q fldL=some b):∃d c,prog.underlying i=some (.struct d)/\d[q]? =some c/\c.offset=b/\∃a,prog.info? c.type=some a/\a.size ≠ 0/\∃z,a.zero=some z:=by obtain⟨os,e,g⟩:=offOf_mem h;exact tyStr_get (all_get fldL_all e) g
def kN_inj{k a:IntKind}(h:cJ (kN k) (kN a)=true):k=a:=by have h:=cE h;cases k<;>cases a<;>first|rfl|cases h
def wrK(n:Int):IntKind->C
 | .i64=>int (w64 n)
 |k=>.imm (.val (.int k (k.wrap n)))
def wrK_eq(n:Int)(k:IntKind):wrK n k=.imm (.val (.int k (k.wrap n))):=by cases k<;>rfl
def binD(k:IntKind)(a b:Int):BinOp->Option C
 | .lss=>some (bool (decide (a<b)))
 | .leq=>some (bool (decide (a<=b)))
 | .gtr=>some (bool (decide (b<a)))
 | .geq=>some (bool (decide (b<=a)))
 | .eql=>some (bool (decide (a=b)))
 | .neq=>some (bool (!decide (a=b)))
 | .add=>some (wrK (a+b) k)
 | .sub=>some (wrK (a - b) k)
 | .mul=>some (wrK (a * b) k)
 |_=>none
def dOps:Op->List Od
 | .move x| .assign x| .load _ x| .fieldAddr _ x _| .unOp .not _ x| .extract x _=>[x]
 | .binOp _ _ x y _=>[x,y]
 | .pick c x y=>[c,x,y]
 | .build _ p=>p.toList.map (·.2)
 | .nilCheck x| .convert _ _ x=>[x]
 |_=>[]
def zipP:List (Nat×Od)->List T->Option (List (Nat×T))
 |[],[]=>some []
 |(i,_)::r,t::a=>match zipP r a with
  |some x=>some ((i,t)::x)
  |none=>none
 |_,_=>none
def ldA(σ:b6)(n:Nat):C->Option T
 | .imm (.ipt cs)=>match takeF n cs with
  |some x=>match immF x with
   |some y=>some (.agg y)
   |none=>none
  |none=>none
 | .ptr id j o=>match b6.at σ id with
  |some (some (.cells _ a))=>match a[j]? with
   |some e=>match dropF o e with
    |some x=>match takeF n x with
     |some y=>some (.agg y)
     |none=>none
    |none=>none
   |none=>none
  |_=>none
 |_=>none
def nilC(σ:b6):C->Option T
 | .ptr id j o=>match b6.at σ id with
  |some (some (.cells _ _))=>some (.c (.ptr id j o))
  |_=>none
 | .imm (.ipt cs)=>some (.c (.imm (.ipt cs)))
 | .fn f a=>some (.c (.fn f a))
 |_=>none
def cT:Option C->Option T
 |some c=>some (.c c)
 |none=>none
def dv(σ:b6):Op->List T->Option T
 | .move _,[t]=>some t
 | .assign _,[t]=>some t
 | .load e _,[.c c]=>match memN e oneL with
  |true=>cT (ldC σ c)
  |false=>match aa9 e aggL with
   |some n=>ldA σ n c
   |none=>none
 | .build e p,h=>match aa9 e zerL,aa9 e flaL with
  |some z,some n=>match idF z with
   |some m=>match cJ m n with
    |true=>match zipP p.toList h with
     |some l=>match fillF z l with
      |some cs=>some (.agg cs)
      |none=>none
     |none=>none
    |false=>none
   |none=>none
  |_,_=>none
 | .nilCheck _,[.c c]=>nilC σ c
 | .convert s d _,[.c (.imm (.val (.int _ n)))]=>match aa9 s intL,aa9 d intL with
  |some _,some g=>some (.c (.imm (.val (.int g (g.wrap n)))))
  |_,_=>none
 | .fieldAddr e _ f,[.c c]=>match offOf e f fldL with
  |some j=>cT (fAd σ j c)
  |none=>none
 | .binOp op _ _ _ _,[.c (.imm (.val (.int k a))),.c (.imm (.val (.int g b)))]=>match cJ (kN k) (kN g) with
  |true=>cT (binD k a b op)
  |false=>none
 | .unOp .not _ _,[.c (.imm (.val (.bool b)))]=>some (.c (bool (!b)))
 | .extract _ i,[.tup h]=>h[i]?
 | .pick _ _ _,[.c (.imm (.val (.bool b))),x,y]=>match b with
  |true=>some x
  |false=>some y
 |_,_=>none
def dvE(σ:b6)(env:Env)(op:Op):Option T:=match evs env (dOps op) with
 |some a=>dv σ op a
 |none=>none
def gdo(ops:List Oper)(env:Env)(o:Oper):Option Bool:=match o.guard with
 |none=>some true
 |some (j,b)=>match z6 ops j with
  |some t=>match lookup t env with
   |some .undef=>some false
   |some (.c (.imm (.val (.bool a))))=>match a,b with
    |true,true=>some true
    |false,false=>some true
    |true,false=>some false
    |false,true=>some false
   |_=>none
  |none=>none
def dgo(ops:List Oper)(σ:b6)(env:Env)(o:Oper):Option T:=match gdo ops env o with
 |some true=>dvE σ env o.op
 |some false=>some .undef
 |none=>none
def newC(σ:b6)(cs:List C):Option (T×b6):=match idF cs with
 |some k=>match newF σ with
  |some id=>match w6 σ (.one (.cells k [cs])) with
   |some a=>some (.c (.ptr id 0 0),a)
   |none=>none
  |none=>none
 |none=>none
def stoC(σ:b6)(b:Nat)(id:Id)(o k:Nat)(e:List C):T->Option b6
 | .c c=>match memN b oneL with
  |true=>match setF e o c with
   |some a=>putF σ id (some (.cells k [a]))
   |none=>none
  |false=>none
 | .agg cs=>match aa9 b aggL with
  |some n=>match idF cs with
   |some m=>match cJ m n,dp 0 n with
    |true,true=>match ac5 e o cs with
     |some a=>putF σ id (some (.cells k [a]))
     |none=>none
    |_,_=>none
   |none=>none
  |none=>none
 |_=>none
def deo(σ:b6)(env:Env):Option Nat->Op->Option (T×b6)
 |_,.alloc t=>match aa9 t zerL with
  |some cs=>newC σ cs
  |none=>none
 |_,.box _ x=>match ev env x with
  |some v=>match ae6 v with
   |some cs=>newC σ cs
   |none=>none
  |none=>none
 |none,.store t x y=>match ev env x with
  |some (.c (.ptr id 0 o))=>match ev env y with
   |some v=>match b6.at σ id with
    |some (some (.cells k [e]))=>match stoC σ t id o k e v with
     |some a=>some (.undef,a)
     |none=>none
    |_=>none
   |none=>none
  |_=>none
 |_,_=>none
def dwo(ops:List Oper)(σ:b6)(env:Env)(o:Oper):Option (T×b6):=match gdo ops env o with
 |some true=>match dvE σ env o.op with
  |some v=>some (v,σ)
  |none=>deo σ env o.dst o.op
 |some false=>some (.undef,σ)
 |none=>none
def drv(ops:List Oper)(b:Nat):Nat->List Oper->Env->b6->Option (List Oper×Env×b6)
 |0,l,env,σ=>some (l,env,σ)
 |_+1,[],_,_=>none
 |n+1,o::l,env,σ=>match f7 b o.dst with
  |true=>match dwo ops σ env o with
   |some (v,a)=>match o.dst with
    |some d=>drv ops b n l ((d,v)::env) a
    |none=>drv ops b n l env a
   |none=>none
  |false=>none
def evs1{env:Env}{t:T}(h:evs env [P]=some [t]):ev env P=some t:=by simp only[evs] at h;split at h;rename_i a b;cases h;exact a;cases h
def evs2{env:Env}{y:Od}{t u:T}(h:evs env [P,y]=some [t,u]):ev env P=some t/\ev env y=some u:=by simp only[evs] at h;cases a:ev env P<;>cases b:ev env y<;>simp[a,b] at h;exact⟨by rw[h.1],by rw[h.2]⟩
def evs3{env:Env}{y z:Od}{t u v:T}(h:evs env [P,y,z]=some [t,u,v]):ev env P=some t/\ev env y=some u/\ev env z=some v:=by simp only[evs] at h;cases a:ev env P<;>cases b:ev env y<;>cases c:ev env z<;>simp[a,b,c] at h;exact⟨by rw[h.1],by rw[h.2.1],by rw[h.2.2]⟩
def cT_some{o:Option C}{v:T}(h:cT o=some v):∃c,o=some c/\v=.c c:=by
 cases o with
 |none=>cases h
 |some c=>cases h;exact⟨c,rfl,rfl⟩
def zipP_ok:∀{p:List (Nat×Od)} {a:List T} {b:List (Nat×T)},evs t (p.map (·.2))=some a->zipP p a=some b->evP t p=some b
 |[],a,b,h,hp=>by cases h;exact hp
 |(i,x)::r,a,b,h,hp=>by simp only[dA,evs] at h;split at h;rename_i c d;cases h;simp only[zipP] at hp;split at hp;rename_i e;cases hp;simp only[evP,c,zipP_ok d e];cases hp;cases h
def dv_ok{rest:List Oper}{ops:Array Oper}{op:Op}{v:T}(h:dvE B t op=some v)(f:f7 i H=true)(k:AOps prog p i ops s rest (St.mk (putE t H v) B)):AOps prog p i ops s (⟨H,op,g,L,M,none⟩::rest) (St.mk t B):=by
 unfold dvE at h;cases c:evs t (dOps op) with
 |none=>rw[c] at h;cases h
 |some X=>
  rw[c] at h
  simp only at h
  unfold dv at h
  split at h
  ·cases h;exact .z (evs1 c) f k
  ·cases h;exact .J (evs1 c) f k
  ·split at h
   ·rename_i y
    obtain⟨⟨d,n,u⟩,_⟩:=oneL_ok (memN_mem y)
    obtain⟨E,e,rfl⟩:=cT_some h
    unfold ldC at e
    split at e
    ·cases e;exact AOps.loadI (ht:=⟨n⟩) u (evs1 c) rfl f k
    ·split at e
     ·rename_i o
      split at e
      ·rename_i G;exact AOps.load (ht:=⟨n⟩) u (evs1 c) o G e f k
      ·cases e
     ·cases e
    ·cases e
   ·split at h
    ·rename_i K
     obtain⟨⟨d,n,u⟩,b,z,q⟩:=aggL_ok K
     unfold ldA at h
     split at h
     ·split at h
      ·split at h
       ·cases h;exact W.loadIAgg (ht:=⟨n⟩) (hs:=q) u (evs1 c) (by assumption) (by assumption) f k
       ·cases h
      ·cases h
     ·split at h
      ·split at h
       ·split at h
        ·split at h
         ·cases h;exact W.loadAgg (ht:=⟨n⟩) (hs:=q) u (evs1 c) (by assumption) (by assumption) (by assumption) (by assumption) f k
         ·cases h
        ·cases h
       ·cases h
      ·cases h
     ·cases h
    ·cases h
  ·split at h
   ·rename_i e r
    split at h
    ·split at h
     ·rename_i y
      split at h
      ·rename_i hp
       split at h
       ·cases h
        obtain rfl:=cE y
        exact W.build (hf:=tyFla_get flaL_all r) (hz:=tyZer_get zerL_all e) (by assumption) (zipP_ok c hp) (by assumption) f k
       ·cases h
      ·cases h
     ·cases h
    ·cases h
   ·cases h
  ·unfold nilC at h
   split at h
   ·split at h
    ·cases h;exact .nilCheck (evs1 c) (by assumption) f k
    ·cases h
   ·cases h;exact .nilCheckI (evs1 c) f k
   ·cases h;exact .nilCheckF (evs1 c) f k
   ·cases h
  ·split at h
   ·rename_i e r
    cases h
    exact AOps.convInt (h1:=⟨intL_ok e⟩) (h2:=⟨intL_ok r⟩) (evs1 c) f k
   ·cases h
  ·split at h
   ·rename_i N
    obtain⟨Q,fd,n,D,O,⟨a,F,P,x⟩⟩:=fldL_ok N
    obtain⟨E,e,rfl⟩:=cT_some h
    obtain⟨zv,x⟩:=x
    subst O
    have q:(a.size==0)=false:=by simpa using P
    unfold fAd at e
    split at e
    ·split at e
     ·rename_i o
      cases e
      exact AOps.fieldAddr (ht:=⟨n⟩) D (hs:=⟨a,F,rfl,rfl,x⟩) q (evs1 c) o f (by rw[cO];exact k)
     ·cases e
    ·split at e
     ·rename_i hdr
      cases e
      obtain⟨U,_⟩:=aq9 hdr
      subst U
      exact AOps.fieldAddrI (ht:=⟨n⟩) D (hs:=⟨a,F,rfl,rfl,x⟩) q (evs1 c) f k
     ·cases e
    ·cases e
   ·cases h
  ·split at h
   ·rename_i hk
    obtain rfl:=kN_inj hk
    obtain⟨E,e,rfl⟩:=cT_some h
    obtain⟨j,l⟩:=evs2 c
    unfold binD at e
    split at e<;>cases e
    ·exact .lss j l f k
    ·exact .leq j l f k
    ·exact .gtr j l f k
    ·exact .geq j l f k
    ·exact .eql j l f k
    ·exact .neq j l f k
    ·rw[wrK_eq] at k;exact .addW j l f k
    ·rw[wrK_eq] at k;exact .subW j l f k
    ·rw[wrK_eq] at k;exact .mulW j l f k
   ·cases h
  ·cases h;exact .not (evs1 c) f k
  ·exact .extract (evs1 c) h f k
  ·obtain⟨e,r,V⟩:=evs3 c
   split at h
   ·cases h;exact .pickT e rfl r f k
   ·cases h;exact .pickF e rfl V f k
  ·cases h
def gdo_ok{env:Env}{rest:List Oper}{ops:List Oper}{b:Bool}{op:Op}{guard:Option (Nat×Bool)}(h:gdo ops env ⟨H,op,g,L,M,guard⟩=some b)(c:f7 i H=true)(e:b=true->AOps prog p i ops.toArray s (⟨H,op,g,L,M,none⟩::rest) (St.mk env B))(f:b=false->AOps prog p i ops.toArray s rest (St.mk (putE env H .undef) B)):AOps prog p i ops.toArray s (⟨H,op,g,L,M,guard⟩::rest) (St.mk env B):=by
 unfold gdo at h
 simp only at h
 split at h
 ·cases h;exact e rfl
 ·rename_i j b
  split at h
  ·rename_i t k
   have d:((ops.toArray)[j]?).bind (·.dst)=some t:=by simpa[z6] using k
   split at h
   ·rename_i a;cases h;exact .guardSkip d a c (f rfl)
   ·rename_i l a
    split at h<;>cases h
    ·exact .F d a c rfl (e rfl)
    ·exact .F d a c rfl (e rfl)
    ·exact .ab d a c rfl (f rfl)
    ·exact .ab d a c rfl (f rfl)
   ·cases h
  ·cases h
def dgo_ok{rest:List Oper}{ops:List Oper}{o:Oper}{v:T}(h:dgo ops B t o=some v)(a:f7 i o.dst=true)(k:AOps prog p i ops.toArray s rest (St.mk (putE t o.dst v) B)):AOps prog p i ops.toArray s (o::rest) (St.mk t B):=by unfold dgo at h;split at h;rename_i b;exact gdo_ok b a (fun _=>dv_ok h a k) nofun;rename_i b;cases h;exact gdo_ok b a nofun (fun _=>k);cases h
def newC_ok{cs:List C}{v:T}(h:newC p cs=some (v,B)):∃k id,idF cs=some k/\newF p=some id/\w6 p (.one (.cells k [cs]))=some B/\v=.c (.ptr id 0 0):=by unfold newC at h;split at h;split at h;split at h;cases h;exact⟨_,_,by assumption,by assumption,by assumption,rfl⟩;cases h;cases h;cases h
def deo_ok{rest:List Oper}{ops:Array Oper}{op:Op}{v:T}{d:b6}(h:deo B t H op=some (v,d))(r:f7 i H=true)(k:AOps prog p i ops s rest (St.mk (putE t H v) d)):AOps prog p i ops s (⟨H,op,g,L,M,none⟩::rest) (St.mk t B):=by unfold deo at h;split at h;split at h;rename_i c;obtain⟨n,id,f,j,l,rfl⟩:=newC_ok h;exact W.alloc (hz:=tyZer_get zerL_all c) f j l r k;cases h;split at h;split at h;obtain⟨n,id,f,j,l,rfl⟩:=newC_ok h;exact W.box (by assumption) (by assumption) f j l r k;cases h;cases h;split at h;rename_i u;split at h;rename_i w;split at h;rename_i e;split at h;rename_i a;cases h;unfold stoC at a;split at a;split at a;rename_i o;obtain⟨_,b,z,c⟩:=oneL_ok (memN_mem o);split at a;rename_i q;exact W.store (hs:=c) u w e q a k;cases a;cases a;split at a;rename_i x;obtain⟨_,b,z,c⟩:=aggL_ok x;split at a;rename_i hi;split at a;rename_i o y;obtain rfl:=cE o;split at a;rename_i q;exact W.storeAgg (hs:=c) u w e hi y q a k;cases a;cases a;cases a;cases a;cases a;cases h;cases h;cases h;cases h;cases h
def dwo_ok{rest:List Oper}{ops:List Oper}{o:Oper}{v:T}{a:b6}(h:dwo ops B t o=some (v,a))(b:f7 i o.dst=true)(k:AOps prog p i ops.toArray s rest (St.mk (putE t o.dst v) a)):AOps prog p i ops.toArray s (o::rest) (St.mk t B):=by unfold dwo at h;split at h;rename_i c;split at h;rename_i d;cases h;exact gdo_ok c b (fun _=>dv_ok d b k) nofun;exact gdo_ok c b (fun _=>deo_ok h b k) nofun;rename_i c;cases h;exact gdo_ok c b nofun (fun _=>k);cases h
def AOps.G{σ0 σ:b6}{sz:Nat}{Q:Post}{env env':Env}{ops l l':List Oper}{σ':b6}(n:Nat)(h:drv ops sz n l env σ=some (l',env',σ'))(k:AOps prog σ0 sz ops.toArray Q l' (St.mk env' σ')):AOps prog σ0 sz ops.toArray Q l (St.mk env σ):=by
 induction n generalizing l env σ with
 |zero=>cases h;exact k
 |succ n ih=>
  cases l with
  |nil=>cases h
  |cons o l=>
   simp only[drv] at h
   split at h
   ·rename_i hd
    split at h
    ·rename_i v σ2 hv
     refine dwo_ok hv hd ?_
     split at h
     ·rename_i d e;rw[e];exact ih h
     ·rename_i e;rw[e];exact ih h
    ·cases h
   ·cases h
def AWP.G{env':Env}{l a:List Oper}{σ':b6}{id:Nat}(n:Nat)(h:drv l i n l t B=some (a,env',σ'))(k:AOps prog p i l.toArray s a (St.mk env' σ')):AWP prog p i (.region id l.toArray false) s (St.mk t B):=AWP.aa (AOps.G n h k)
def AWP.gs{env':Env}{l b:List Oper}{σ':b6}{id:Nat}{d:Code}(n:Nat)(h:drv l i n l t B=some (b,env',σ'))(k:AOps prog p i l.toArray (thn (fun a=>AWP prog p i d s a) s) b (St.mk env' σ')):AWP prog p i (.seq (.region id l.toArray false) d) s (St.mk t B):=AWP.j (AWP.aa (AOps.G n h k))
def AOps.gn{env':Env}{ops l:List Oper}{σ':b6}(n:Nat)(h:drv ops i n l t B=some ([],env',σ'))(k:s .normal (St.mk env' σ')):AOps prog p i ops.toArray s l (St.mk t B):=AOps.G n h (AOps.nil k)
def AOps.ge{env':Env}{ops l:List Oper}{σ':b6}{d:Code}(n:Nat)(h:drv ops i n l t B=some ([],env',σ'))(k:AWP prog p i d s (St.mk env' σ')):AOps prog p i ops.toArray (thn (fun a=>AWP prog p i d s a) s) l (St.mk t B):=AOps.G n h (AOps.nil k)
def AOps.ne{P:Program}{ops:Array Oper}{d:Code}(k:AWP P p i d s (St.mk t B)):AOps P p i ops (thn (fun a=>AWP P p i d s a) s) [] (St.mk t B):=AOps.nil k
def AWP.gk{env':Env}{l:List Oper}{σ':b6}{id:Nat}{d:Code}(n:Nat)(h:drv l i n l t B=some ([],env',σ'))(k:AWP prog p i d s (St.mk env' σ')):AWP prog p i (.seq (.region id l.toArray false) d) s (St.mk t B):=AWP.j (AWP.aa (AOps.G n h (AOps.nil k)))
def AOps.K{env:Env}{rest:List Oper}{ops:Array Oper}{op:Op}{t:Nat}{b h l:Bool}(w:(ops[q]?).bind (·.dst)=some t)(n:lookup t env=some (.c (bool h)))(o:h=l)(k:AOps d p i ops s (⟨H,op,g,L,M,some (q,b)⟩::rest) (St.mk ((t,.c (bool l))::env) B)):AOps d p i ops s (⟨H,op,g,L,M,some (q,b)⟩::rest) (St.mk env B):=by
 subst o
 have r:Sub p (St.mk env B) (St.mk ((t,.c (bool h))::env) B):=fun _ _ u _ _ _ a=>⟨u,{toRs:=a.toRs,defers:=a.defers,asize:=a.asize,env:=fun x v f=>a.env x v (by simp only[lookup] at f;split at f;rename_i e;cases f;rw[<- cE e];exact n;exact f)}⟩
 exact AOps.sub r k
def lkL(env:Env):Env->List (Option T)
 |[]=>[]
 |(t,_)::r=>lookup t env::lkL env r
def vsL:Env->List (Option T)
 |[]=>[]
 |(_,v)::r=>some v::vsL r
def lkL_sub{env:Env}:∀{a:Env},lkL env a=vsL a->S7 env a
 |[],_=>trivial
 |(t,v)::r,h=>by simp only[lkL,vsL,List.cons.injEq] at h;exact⟨h.1,lkL_sub h.2⟩
def Sub.en{env':Env}(h:lkL t env'=vsL env'):Sub p ⟨t,B⟩ ⟨env',B⟩:=Sub.env (lkL_sub h)
def Done.e{rs:List RV}{Q:T->b6->Prop}{env:Env}{σ:b6}{r:T}(h:retT (St.mk env σ) rs=some r)(a:Q r σ):∃J,Sub p (St.mk env σ) J/\Done rs Q .ret J:=⟨_,Sub.refl _ _,Done.ret h a⟩
/-! ## Regions that draw -/
def aD0{E:Env}{v:T}{e:Env}(h:lookup i e=some v):lookup i (e++E)=some v:=by rw[J1,h]
def ev_app{E e:Env}{v:T}(h:ev e P=some v):ev (e++E) P=some v:=by
 cases P with
 |tmp t=>exact aD0 h
 |_=>exact h
def evs_app{e:Env}:∀{l:List Od} {a:List T},evs e l=some a->evs (e++t) l=some a
 |[],a,h=>h
 |x::r,a,h=>by simp only[evs] at h ⊢;split at h;rename_i b c;rw[ev_app b,evs_app c];exact h;cases h
def dvE_app{e:Env}{op:Op}{v:T}(h:dvE p e op=some v):dvE p (e++t) op=some v:=by unfold dvE at h ⊢;split at h;rename_i a;rw[evs_app a];exact h;cases h
def gdo_app{ops:List Oper}{E e:Env}{o:Oper}{b:Bool}(h:gdo ops e o=some b):gdo ops (e++E) o=some b:=by unfold gdo at h ⊢;split at h;exact h;split at h;rename_i t c;split at h;rename_i a;rw[aD0 a];exact h;rename_i a;rw[aD0 a];exact h;cases h;cases h
def dgo_app{ops:List Oper}{e:Env}{o:Oper}{v:T}(h:dgo ops p e o=some v):dgo ops p (e++t) o=some v:=by unfold dgo at h ⊢;split at h;rename_i a;rw[gdo_app a];exact dvE_app h;rename_i a;rw[gdo_app a];exact h;cases h
def drvD(ops:List Oper)(d:Nat)(σ:b6)(b:Env):Nat->List Oper->List T->Option (List Oper×List T)
 |0,l,a=>some (l,a)
 |_+1,[],_=>none
 |n+1,o::l,a=>match f7 d o.dst with
  |true=>match envF ops a b o with
   |some e=>match dgo ops σ e o with
    |some v=>match w6 a v with
     |some c=>drvD ops d σ b n l c
     |none=>none
    |none=>none
   |none=>none
  |false=>none
def dgo_only{ops:List Oper}{o:Oper}{v:T}(a:f7 i o.dst=true)(b:dgo ops B t o=some v)(E:Env):AOps prog p i ops.toArray (Only (St.mk (putE (t++E) o.dst v) B)) [o] (St.mk (t++E) B):=dgo_ok (dgo_app b) a (AOps.nil ⟨rfl,rfl⟩)
def drvD_step{ops:List Oper}{o:Oper}{l b:List Oper}{c:List T}(h:drvD ops i p t (q+1) (o::l) r=some (b,c)):∃e v a,f7 i o.dst=true/\envF ops r t o=some e/\dgo ops p e o=some v/\w6 r v=some a/\drvD ops i p t q l a=some (b,c):=by simp only[drvD] at h;split at h;split at h;split at h;split at h;exact⟨_,_,_,by assumption,by assumption,by assumption,by assumption,h⟩;cases h;cases h;cases h;cases h
def d7.D{σ0 σ:b6}{sz:Nat}{Q:Post}{env:Env}{ops:List Oper}{l l':List Oper}{acc acc':List T}(n:Nat)(h:drvD ops sz σ env n l acc=some (l',acc'))(k:d7 prog σ0 sz ops env σ Q l' acc'):d7 prog σ0 sz ops env σ Q l acc:=by
 induction n generalizing l acc with
 |zero=>cases h;exact k
 |succ n ih=>
  cases l with
  |nil=>cases h
  |cons o l=>
   obtain⟨e,v,a2,h1,h2,h3,h4,h5⟩:=drvD_step h
   exact .consF h2 (dgo_only h1 h3) h4 (ih h5)
def noE(a:List Nat):Nat->Nat->Bool
 |0,_=>true
 |n+1,i=>match memN i a with
  |true=>false
  |false=>noE a n (i+1)
def b7.D{σ0 σ:b6}{sz:Nat}{Q:Post}{env:Env}{ops:List Oper}{effs:List Nat}{l l':List Oper}{i:Nat}{acc acc':List T}{σs:List b6}(n:Nat)(hn:noE effs n i=true)(h:drvD ops sz σ env n l acc=some (l',acc'))(k:b7 prog σ0 sz ops effs env Q l' (i+n) acc' σs σ):b7 prog σ0 sz ops effs env Q l i acc σs σ:=by
 induction n generalizing l acc i with
 |zero=>cases h;exact k
 |succ n ih=>
  cases l with
  |nil=>cases h
  |cons o l=>
   obtain⟨e,v,a2,h1,h2,h3,h4,h5⟩:=drvD_step h
   simp only[noE] at hn
   split at hn
   ·cases hn
   ·rename_i hm
    exact .consN hm h2 (dgo_only h1 h3) h4 (ih hn h5 (by rw[show i+1+n=i+(n+1) by omega];exact k))
def setF_same{l b:List A}{x:A}(h:l[i]? =some x)(c:setF l i x=some b):b=l:=by obtain⟨e,_⟩:=I7 c;rw[e];apply df;intro j;rw[cU];by_cases a:i=j;subst a;have d:=(lG.1 h).1;simp only[d,if_true,h];simp[a]
def d7.K{ops:List Oper}{op:Op}{r:List Oper}{b f h:Bool}{e a:List T}(l:e[q]? =some (.c (bool f)))(n:f=h)(o:setF e q (.c (bool h))=some a)(k:d7 d p i ops t B s (⟨H,op,g,L,M,some (q,b)⟩::r) a):d7 d p i ops t B s (⟨H,op,g,L,M,some (q,b)⟩::r) e:=by
 subst n
 rw[setF_same l o] at k
 exact k
def b7.K{ops:List Oper}{i:Nat}{f:List b6}{op:Op}{r:List Oper}{j:Nat}{b h l:Bool}{e a:List T}(n:e[j]? =some (.c (bool h)))(o:h=l)(u:setF e j (.c (bool l))=some a)(k:b7 d p q ops c t s (⟨H,op,g,L,M,some (j,b)⟩::r) i a f B):b7 d p q ops c t s (⟨H,op,g,L,M,some (j,b)⟩::r) i e f B:=by
 subst o
 rw[setF_same n u] at k
 exact k
def drvK(ops:List Oper)(d:Nat)(a:Env)(V:List T)(c:List b6)(b:List Nat)(i:Nat)(o:Oper):List Nat->Option (List T)
 |[]=>some []
 |k::f=>match drvK ops d a V c b i o f with
  |some r=>match feas ops b i k with
   |false=>some r
   |true=>match c[k]? with
    |some σ=>match envF ops V a o with
     |some e=>match dgo ops σ e o with
      |some v=>some (v::r)
      |none=>none
     |none=>none
    |none=>none
  |none=>none
def repL(v:T):List T->List T
 |[]=>[]
 |_::r=>v::repL v r
def drvI(ops:List Oper)(d:Nat)(b:Env)(V:List T)(c:List b6)(a:List Nat)(e:List Nat):Nat->List Oper->Nat->Option (List Oper×List T×List T)
 |0,l,_=>some (l,[],[])
 |_+1,[],_=>none
 |n+1,o::l,i=>match memN i a with
  |true=>drvI ops d b V c a e n l (i+1)
  |false=>match f7 d o.dst with
   |true=>match V[i]? with
    |some v=>match drvK ops d b V c a i o e with
     |some r=>match drvI ops d b V c a e n l (i+1) with
      |some (f,x,y)=>some (f,r++x,repL v r++y)
      |none=>none
     |none=>none
    |none=>none
   |false=>none
def drvK_ok{ops:List Oper}{V:List T}{a:List b6}{o:Oper}{v:T}(d:f7 i o.dst=true):∀{f:List Nat} {r:List T},drvK ops i t V a c q o f=some r->r=repL v r->i6 prog p i ops t V a c q o v f
 |[],r,_,_=>.nil
 |k::f,r,h,b=>by simp only[drvK] at h;split at h;rename_i u g;split at h;rename_i j;cases h;exact .skip j (drvK_ok d g b);split at h;rename_i σ l;split at h;rename_i e n;split at h;rename_i w s;cases h;simp only[repL,List.cons.injEq] at b;obtain⟨rfl,b⟩:=b;exact .go l n (dgo_only d s) (drvK_ok d g b);cases h;cases h;cases h;cases h
def repL_len(v:T):∀r:List T,(repL v r).length=eJ r
 |[]=>rfl
 |_::r=>congrArg (· +1) (repL_len v r)
def d9.D{σ0:b6}{sz:Nat}{env:Env}{ops:List Oper}{effs ks:List Nat}{V:List T}{σs:List b6}{l l':List Oper}{i:Nat}{x y:List T}(n:Nat)(h:drvI ops sz env V σs effs ks n l i=some (l',x,y))(hxy:x=y)(k:d9 prog σ0 sz ops env V σs effs ks l' (i+n)):d9 prog σ0 sz ops env V σs effs ks l i:=by
 induction n generalizing l i x y with
 |zero=>cases h;exact k
 |succ n ih=>
  have e:i+1+n=i+(n+1):=by omega
  cases l with
  |nil=>cases h
  |cons o l=>
   simp only[drvI] at h
   split at h
   ·rename_i hm;exact .skip hm (ih h hxy (by rw[e];exact k))
   ·rename_i hm
    split at h
    ·rename_i hd
     split at h
     ·rename_i v hv
      split at h
      ·rename_i r hr
       split at h
       ·rename_i h2
        cases h
        obtain⟨h3,h4⟩:=List.append_inj hxy (repL_len v r).symm
        exact .cons hm hv (drvK_ok hd hr h3) (ih h2 h4 (by rw[e];exact k))
       ·cases h
      ·cases h
     ·cases h
    ·cases h
/-! ## Loops over numbers, their head reckoned by a run -/
def drv_all{l:List Oper}{a:Env}{d:Code}(h:drv l i (eJ l) l t B=some ([],a,B))(k:AWP prog p i d s (St.mk a B)):AWP prog p i (.seq (.region q l.toArray false) d) s (St.mk t B):=AWP.gk (eJ l) h k
def headF(l:List Oper)(a:Nat)(x:Od)(s:St):Option (Env×b6×T×List (Option T)):=match drv l a (eJ l) l s.env s.σ with
 |some ([],E,σ)=>match ev E x with
  |some v=>some (E,σ,v,lkL E s.env)
  |none=>none
 |_=>none
def headF_some{l:List Oper}{s:St}{v:T}{r:List (Option T)}(h:headF l i P s=some (t,p,v,r)):drv l i (eJ l) l s.env s.σ=some ([],t,p)/\ev t P=some v/\lkL t s.env=r:=by unfold headF at h;split at h;rename_i a;split at h;rename_i b;cases h;exact⟨a,b,rfl⟩;cases h;cases h
def AWP.rngH{l:List Oper}{w:Nat}{K:Code}{y n:Int}{O:Type}{f:Int->A->Option (A⊕O)}{L:A}{o:A⊕O}{E:Int->A->Env}(h:rngX y n f L=some o)(F:Int->A->St)(z:O->Post)(M:∀a b,headF l i P (F a b)=some (E a b,(F a b).σ,.c (bool (decide (a<n))),vsL (F a b).env))(X:Sub p (St.mk t B) (F y L))(d:∀a b k,y<=a->a<n->f a b=some k->AWP prog p i K (thn (fun st=>∃u,k=.inl u/\Sub p st (F (a+1) u)) (fun e st=>∃o,k=.inr o/\z o e st)) (St.mk (E a b) (F a b).σ))(g:∀a b,o=.inl b->s (.exit w) (F a b))(r:∀P e st,o=.inr P->z P e st->∃J,Sub p st J/\s e J):AWP prog p i (.loop (.seq (.region q l.toArray false) (.seq (.cond P .skip (.exit w)) K))) s (St.mk t B):=by
 refine AWP.rngS h F (fun o e st=>match o with| .inl b=>e=.exit w/\∃a,Sub p st (F a b)| .inr P=>z P e st) X (fun a b N v D=> ?_) (fun a b k N v D=> ?_) (fun e b U=> ?_)
 ·obtain⟨G,H,V⟩:=headF_some (M a b)
  refine drv_all G (AWP.j (AWP.cond H (fun h=>absurd (of_decide_eq_true h) v) fun _=>AWP.exit ⟨rfl,a,Sub.en V⟩))
 ·obtain⟨G,H,V⟩:=headF_some (M a b)
  refine drv_all G (AWP.j (AWP.cond H (fun _=>AWP.skip (d a b k N v D)) fun h=>absurd D (fun _=>absurd v (of_decide_eq_false h))))
 ·cases o with
  |inl u=>obtain⟨rfl,a,h⟩:=U;exact⟨_,h,g a u rfl⟩
  |inr P=>exact r P e b rfl U
def AWP.forH{l:List Oper}{v:Nat}{w:Code}{k n:Int}{d:Int->A->Option A}{y o:A}{E:Int->A->Env}(h:forR k n d y=some o)(F:Int->A->St)(D:∀a b,headF l i P (F a b)=some (E a b,(F a b).σ,.c (bool (decide (a<n))),vsL (F a b).env))(G:Sub p (St.mk t B) (F k y))(f:∀a b r,k<=a->a<n->d a b=some r->AWP prog p i w (thn (fun st=>Sub p st (F (a+1) r)) (fun _ _=>False)) (St.mk (E a b) (F a b).σ))(g:∀a,s (.exit v) (F a o)):AWP prog p i (.loop (.seq (.region q l.toArray false) (.seq (.cond P .skip (.exit v)) w))) s (St.mk t B):=by
 refine AWP.rngH (O:=Empty) (forN_rng h) F (fun e=>e.elim) D G (fun a b r H J j=> ?_) (fun a b h=>by cases h;exact g a) (fun P=>P.elim)
 cases u:d a b with
 |none=>rw[u] at j;cases j
 |some P=>
  rw[u] at j
  cases j
  refine(f a b P H J u).mono fun e st z=> ?_
  cases e with
  |normal=>exact⟨P,rfl,z⟩
  |_=>exact z.elim
def AWP.rngL{l:List Oper}{G:Nat}{L:Code}{H n:Int}{O:Type}{u:Int->A->Option (A⊕O)}{M:A}{o:A⊕O}{E:Int->A->Env}{a:Prop}(h:rngX H n u M=some o)(F:Int->A->St)(K:O->Post)(N:∀f k s,(a->s .normal (St.mk (E f k) (F f k).σ))->AOps d p i l.toArray s l (F f k))(Q:∀f k,(ev (E f k) P,lkL (E f k) (F f k).env)=(some (.c (bool (decide (f<n)))),vsL (F f k).env))(x:Sub p (St.mk t B) (F H M))(r:∀f k w,H<=f->f<n->u f k=some w->a->AWP d p i L (thn (fun st=>∃z,w=.inl z/\Sub p st (F (f+1) z)) (fun e st=>∃o,w=.inr o/\K o e st)) (St.mk (E f k) (F f k).σ))(v:∀f k,o=.inl k->s (.exit G) (F f k))(y:∀P e st,o=.inr P->K P e st->∃J,Sub p st J/\s e J):AWP d p i (.loop (.seq (.seq (.region q l.toArray false) (.cond P .skip (.exit G))) L)) s (St.mk t B):=by
 have g (f k):=eA.inj (Q f k)
 refine AWP.rngS h F (fun o e st=>match o with| .inl k=>e=.exit G/\∃f,Sub p st (F f k)| .inr P=>K P e st) x (fun f k U D V=> ?_) (fun f k w U D V=> ?_) (fun e k X=> ?_)
 ·exact AWP.j (AWP.j (AWP.aa (N f k _ fun _=>AWP.cond (g f k).1 (fun h=>absurd (of_decide_eq_true h) D) fun _=>AWP.exit ⟨rfl,f,Sub.en (g f k).2⟩)))
 ·exact AWP.j (AWP.j (AWP.aa (N f k _ fun b=>AWP.cond (g f k).1 (fun _=>AWP.skip (r f k w U D V b)) fun h=>absurd D (of_decide_eq_false h))))
 ·cases o with
  |inl z=>obtain⟨rfl,f,h⟩:=X;exact⟨_,h,v f z rfl⟩
  |inr P=>exact y P e k rfl X
end
abbrev ob(p:Obj->Prop):Blk:=.obj (fun o _=>p o) []
def Rs.allocB{r:Cx}{k:Phi}(h:Rs r p k a){p0:Obj->List Vl->Prop}{cs0:List C}{us0:List Vl}{obj:Obj}(E:p0 obj us0)(F:∀(i:Nat) (x:C),cs0[i]? =some x->∃u,us0[i]? =some u/\RelC a k p (Al r.N k p) x u):
  Kept a (a.alloc obj) k (s8 (eJ p) k a.heap.size) p (p++[.one (.obj p0 cs0)]) (Al r.N k p) (Al r.N (s8 (eJ p) k a.heap.size) (p++[.one (.obj p0 cs0)]))/\
  Rs r (p++[.one (.obj p0 cs0)]) (s8 (eJ p) k a.heap.size) (a.alloc obj):=by
 have old:∀b,b<a.heap.size->(a.alloc obj).heap[b]? =a.heap[b]? :=fun b y=>by first|exact heap_alloc_old a _ y|exact heap_alloc_old a _ _ y
 have new:(a.alloc obj).heap[a.heap.size]? =some obj:=heap_alloc_new a _
 have f:∀i:Id,i.1<eJ p->s8 (eJ p) k a.heap.size i=k i:=fun i hi=>by
  have:i ≠ (eJ p,[]):=fun e=>by rw[e] at hi;exact Nat.lt_irrefl _ hi
  simp[s8,this]
 have l:s8 (eJ p) k a.heap.size (eJ p,[])=some (a.heap.size,0):=by simp[s8]
 have d:∀(i:Id) blk,(p++[.one (.obj p0 cs0)])[i]? =some (some blk)->(i.1<eJ p/\p[i]? =some (some blk))\/(i=(eJ p,[])/\blk=.obj p0 cs0):=fun i blk hi=>b6.get_new hi
 have O:∀b,Al r.N k p b->b<a.heap.size->Al r.N (s8 (eJ p) k a.heap.size) (p++[.one (.obj p0 cs0)]) b:=fun b y K=>⟨y.1,fun i blk n hi hp=>by rcases d i blk hi with⟨v,s⟩|⟨rfl,rfl⟩;rw[f i v] at hp;exact y.2 i blk n s hp;rw[l] at hp;cases hp;omega⟩
 have A:Kept a (a.alloc obj) k (s8 (eJ p) k a.heap.size) p (p++[.one (.obj p0 cs0)]) (Al r.N k p) (Al r.N (s8 (eJ p) k a.heap.size) (p++[.one (.obj p0 cs0)])):=
  {imm:=fun b _ K=>old b K,all:=O,len:=by simp,
   cells:=fun i X G hi t=>by rw[b6.get_left hi] at t;exact⟨G,t,rfl,f i hi,fun b n H P hp y=>⟨H,(old b (Al.own_lt h.st t hp)).trans y,rfl⟩⟩,
   obj:=fun i Q J hi t=>by rw[b6.get_left hi] at t;exact⟨f i hi,Q,J,t⟩}
 refine⟨A,?_⟩
 exact {
  good:=h.good
  st:=⟨fun i b hi=>by rcases d i b hi with⟨v,s⟩|⟨rfl,rfl⟩;rw[f i v];exact(h.st.blk i b s).mono A fun g n hp=>old g (Al.own_lt h.st s hp);rw[l];exact⟨a.heap.size,obj,us0,rfl,new,E,fun i x U=>let ⟨u,B,D⟩:=F i x U; ⟨u,B,D.mono A⟩⟩,
   fun i j L M c q hi V hp z t=>by obtain⟨w,po⟩:=c;obtain⟨qb,qo⟩:=q;dsimp only at t;subst t;rcases d i L hi with⟨v,s⟩|⟨rfl,rfl⟩<;>rcases d j M V with⟨B,D⟩|⟨rfl,rfl⟩;rw[f i v] at hp;rw[f j B] at z;exact h.st.inj i j L M _ _ s D hp z rfl;rw[f i v] at hp;rw[l] at z;cases z;have:=Al.own_lt h.st s hp;omega;rw[f j B] at z;rw[l] at hp;cases hp;have:=Al.own_lt h.st D z;omega;rfl⟩
  keep:=fun i blk b n hi hp o=>by rcases d i blk hi with⟨v,s⟩|⟨rfl,rfl⟩;rw[f i v] at hp;exact h.keep i blk b n s hp o;rw[l] at hp;cases hp;have:=o.1;have:=h.size;omega
  os:=h.os
  tape:=h.tape
  drawn:=h.drawn
  output:=h.output
  size:=dG h.size (by simp)
  block:=fun b o=>(old b (dM o.1 h.size)).trans (h.block b o)
  kept:=Kept.trans h.size h.kept A}
def Rs.allocO{c:Cx}{b:Phi}(h:Rs c p b a){p0:Obj->Prop}{obj:Obj}(d:p0 obj):
  Kept a (a.alloc obj) b (s8 (eJ p) b a.heap.size) p (p++[.one (ob p0)]) (Al c.N b p) (Al c.N (s8 (eJ p) b a.heap.size) (p++[.one (ob p0)]))/\
  Rs c (p++[.one (ob p0)]) (s8 (eJ p) b a.heap.size) (a.alloc obj):=
 h.allocB (us0:=[]) d fun i x f=>by simp at f
theorem Rs.writeB{Γ:Cx}{σ:b6}{φ:Phi}{w:World}(h:Rs Γ σ φ w){id:Id}{b:Nat}{q0 q1:Obj->List Vl->Prop}{cs0 cs1:List C}{us1:List Vl}{o0 o1:Obj}(hid:σ[id]? =some (some (.obj q0 cs0)))(hp:φ id=some (b,0))(hb:w.heap[b]? =some o0)(hq:q1 o1 us1)(hcs:∀(i:Nat) (x:C),cs1[i]? =some x->∃u,us1[i]? =some u/\RelC w φ σ (Al Γ.N φ σ) x u):
  Kept w ({w with heap:=w.heap.setIfInBounds b o1}:World) φ φ σ (σ.put id (some (.obj q1 cs1))) (Al Γ.N φ σ) (Al Γ.N φ (σ.put id (some (.obj q1 cs1))))/\Rs Γ (σ.put id (some (.obj q1 cs1))) φ ({w with heap:=w.heap.setIfInBounds b o1}:World):=by
 have new:({w with heap:=w.heap.setIfInBounds b o1}:World).heap[b]? =some o1:=(Go.MapKept.heap_set hb).1
 have old:∀g,g ≠ b->({w with heap:=w.heap.setIfInBounds b o1}:World).heap[g]? =w.heap[g]? :=fun g hg=>(Go.MapKept.heap_set hb).2 g hg
 have hsize:({w with heap:=w.heap.setIfInBounds b o1}:World).heap.size=w.heap.size:=by simp
 have at_:∀(i:Id) x,(σ.put id (some (.obj q1 cs1)))[i]? =some (some x)->(i=id/\x=.obj q1 cs1)\/(i ≠ id/\σ[i]? =some (some x)):=fun i x hi=>by
  rcases b6.get_put hid hi with⟨h1,h2⟩|h
  ·cases h2;exact .inl ⟨h1,rfl⟩
  ·exact .inr h
 have other:∀(i:Id) blk g bs,i ≠ id->σ[i]? =some (some blk)->φ i=some (g,bs)->g ≠ b:=fun i blk g bs hne hi hpi e=>by
  subst e
  exact hne (h.st.inj i id _ _ _ _ hi hid hpi hp rfl)
 have A1:∀g,Al Γ.N φ σ g->Al Γ.N φ (σ.put id (some (.obj q1 cs1))) g:=fun g hg=>⟨hg.1,fun i blk bs hi hpi=>by
  rcases at_ i blk hi with⟨rfl,_⟩|⟨_,hi⟩
  ·exact hg.2 i _ bs hid hpi
  ·exact hg.2 i blk bs hi hpi⟩
 have hK:Kept w ({w with heap:=w.heap.setIfInBounds b o1}:World) φ φ σ (σ.put id (some (.obj q1 cs1))) (Al Γ.N φ σ) (Al Γ.N φ (σ.put id (some (.obj q1 cs1)))):=
  {imm:=fun g hg _=>old g (fun e=>by subst e;exact hg.2 id _ 0 hid hp),all:=fun g hg _=>A1 g hg,len:=by simp,
   cells:=fun i kk es2 hi he=>by
    rcases at_ i _ he with⟨rfl,e⟩|⟨hne,he⟩
    ·cases e
    ·refine⟨es2,he,rfl,rfl,fun b2 base2 arr2 ety2 hp2 hb2=>⟨arr2,?_,rfl⟩⟩
     exact(old b2 (other i _ b2 base2 hne he hp2)).trans hb2,
   obj:=fun i p' cs' hi he=>by
    rcases at_ i _ he with⟨rfl,e⟩|⟨_,he⟩
    ·exact⟨rfl,_,_,hid⟩
    ·exact⟨rfl,p',cs',he⟩}
 refine⟨hK,?_⟩
 exact {
  good:=h.good
  st:=⟨fun i bk hi=>by
    rcases at_ i _ hi with⟨rfl,e⟩|⟨hne,hi⟩
    ·cases e
     rw[hp]
     exact⟨b,o1,us1,rfl,new,hq,fun i x hx=>let ⟨u,g1,g2⟩:=hcs i x hx; ⟨u,g1,g2.mono hK⟩⟩
    ·exact(h.st.blk i bk hi).mono hK fun g bs hpi=>old g (other i bk g bs hne hi hpi),
   fun i j bi bj p q hi hj hpi hqj he=>by
    have alive:∀(i:Id) bi,(σ.put id (some (.obj q1 cs1)))[i]? =some (some bi)->∃b0,σ[i]? =some (some b0):=fun i bi hi=>by
     rcases at_ i _ hi with⟨rfl,_⟩|⟨_,hi⟩
     ·exact⟨_,hid⟩
     ·exact⟨_,hi⟩
    obtain⟨b1,h1⟩:=alive i bi hi
    obtain⟨b2,h2⟩:=alive j bj hj
    exact h.st.inj i j b1 b2 p q h1 h2 hpi hqj he⟩
  keep:=fun i blk g bs hi hpi hKb=>by
   rcases at_ i _ hi with⟨rfl,_⟩|⟨_,hi⟩
   ·exact h.keep i _ g bs hid hpi hKb
   ·exact h.keep i blk g bs hi hpi hKb
  os:=h.os
  tape:=h.tape
  drawn:=h.drawn
  output:=h.output
  size:=by rw[hsize];exact h.size
  block:=fun g hKb=>(old g (fun e=>by subst e;exact h.keep id _ g 0 hid hp hKb)).trans (h.block g hKb)
  kept:=Kept.trans h.size h.kept hK}
/-! ### What the slots hold that rounds read -/
def Rs.writeO{e:Cx}{d:Phi}(h:Rs e p d a){g q1:Obj->Prop}{j o1:Obj}(f:p[Q]? =some (some (ob g)))(hp:d Q=some (i,0))(k:a.heap[i]? =some j)(l:q1 o1):
  Kept a ({a with heap:=a.heap.setIfInBounds i o1}:World) d d p (p.put Q (some (ob q1))) (Al e.N d p) (Al e.N d (p.put Q (some (ob q1))))/\Rs e (p.put Q (some (ob q1))) d ({a with heap:=a.heap.setIfInBounds i o1}:World):=
 h.writeB (us1:=[]) f hp k l fun c x o=>by simp at o
def mget{V:Type}[DecidableEq A]:List (A×V)->A->Option V
 |[],_=>none
 |p::r,k=>if k=p.1 then some p.2 else mget r k
def mset{V:Type}[DecidableEq A]:List (A×V)->A->V->List (A×V)
 |[],k,v=>[(k,v)]
 |p::r,k,v=>if k=p.1 then(k,v)::r else p::mset r k v
def mapP{V:Type}(b:A->Vl)(d:V->Vl)(m:List (A×V)):Obj->Prop:=fun o=>∃a c,o=.map a c/\a.toList.map (fun e=>(e.key,e.val))=m.map fun p=>(b p.1,d p.2)
abbrev mapB{V:Type}(a:A->Vl)(b:V->Vl)(m:List (A×V)):Blk:=ob (mapP a b m)
structure KeyT(d:TypeDesc){K:Type}(fk:K->Vl):Prop where
 key:∀k,Go.MapKept.IsKey d (fk k)
 inj:∀{e b},fk e=fk b->e=b
def keyStr:KeyT .string Value.string:=⟨fun _=>trivial,fun h=>by cases h;rfl⟩
def S8{k:IntKind}:KeyT (.int k) (Value.int k):=⟨fun _=>rfl,fun h=>by cases h;rfl⟩
section
variable {K V:Type}[DecidableEq K]{fk:K->Vl}{fv:V->Vl}{d:TypeDesc}
def am2(hk:KeyT d fk)(k:K):∀(m:List (K×V)) (l:List MapEntry) (i:Nat),l.map (fun e=>(e.key,e.val))=m.map (fun p=>(fk p.1,fv p.2))->
  (mget m k=none/\Instr.findNow d (fk k) l i=some none/\∀v born,(l++[({key:=fk k,val:=fv v,born:=born}:MapEntry)]).map (fun e=>(e.key,e.val))=(mset m k v).map fun p=>(fk p.1,fv p.2))\/
  ∃v j e,mget m k=some v/\Instr.findNow d (fk k) l i=some (some (i+j,fv v))/\l[j]? =some e/\e.key=fk k/\∀f,(l.modify j fun e=>{e with key:=fk k,val:=fv f}).map (fun e=>(e.key,e.val))=(mset m k f).map fun p=>(fk p.1,fv p.2)
 |[],[],i,_=>.inl ⟨rfl,rfl,fun v born=>rfl⟩
 |[],_::_,i,h=>by simp at h
 |_::_,[],i,h=>by simp at h
 |p::m,e::l,i,h=>by
  simp only[dA,List.cons.injEq,eA.injEq] at h;obtain⟨⟨b,g⟩,t⟩:=h;have u:∃r,Instr.sameNow d (fk k) e.key=some r/\(r=true↔fk k=e.key):=Go.MapKept.sameNow_of_keys (hk.key k) (by rw[b];exact hk.key p.1);obtain⟨r,n,a⟩:=u;by_cases c:k=p.1;have:r=true:=a.2 (by rw[b,c]);subst this;right;refine⟨p.2,0,e,by simp[mget,c],by simp[Instr.findNow,n,g],rfl,by rw[b,c],fun f=> ?_⟩;simp only[List.modify_zero_cons,dA,mset,if_pos c];rw[t];have:r=false:=by
   cases r with
   |false=>rfl
   |true=>exact absurd (hk.inj ((a.1 rfl).trans b)) c
  subst this;rcases am2 hk k m l (i+1) t with⟨o,q,s⟩|⟨v,j,w,o,q,s,x,y⟩;left;refine⟨by simp[mget,c,o],by simp[Instr.findNow,n,q],fun v born=> ?_⟩;simp only[List.cons_append,dA,mset,if_neg c];rw[s v born,b,g];right;refine⟨v,j+1,w,by simp[mget,c,o],by simp[Instr.findNow,n,q];omega,by simpa using s,x,fun f=> ?_⟩;simp only[List.modify_succ_cons,dA,mset,if_neg c];rw[y f,b,g]
end
section
variable {P:Program}{σ0:b6}{sz:Nat}{Q:Post}{env env':Env}{σv σ':b6}{ops:Array Oper}{rest:List Oper}{dst:Option Nat}{ty:Ti}{pos:String}{after:Array Edge}
variable {K V:Type}[DecidableEq K]{fk:K->Vl}{fv:V->Vl}{d:TypeDesc}
def aq0{i:Phi}{A:Nat->Prop}{id:Id}{e:Obj->Prop}{u:Vl}(h:RelT a i p A (.c (.map id)) u)(g:p[id]? =some (some (ob e))):∃b f,i id=some (b,f)/\u=.map (some b):=by
 cases h with|c h=>cases h with|map j k h=>exact h _ _ g
def L7{b:Phi}{A:Nat->Prop}{v u:Vl}(h:RelT a b p A (.c (.imm (.val v))) u):u=v/\v.oneCell'=true:=by
 cases h with|c h=>cases h with|imm h=>cases h with|val h=>exact⟨rfl,h⟩
def W.makeMap{id:Id}(fk:K->Vl)(fv:V->Vl)(b:newF σv=some id)(e:w6 σv (.one (mapB fk fv []))=some σ')(j:f7 sz dst=true)(h:AOps P σ0 sz ops Q rest (St.mk (putE env dst (.c (.map id))) σ')):AOps P σ0 sz ops Q (⟨dst,.makeMap g none,ty,pos,after,none⟩::rest) (St.mk env σv):=by
 have k:=B1 b;have l:=u5 e
 subst k l
 refine .valueW rfl j _ _ (fun n o a w f=> ?_) h
 have i:=Rs.allocO (p0:=mapP fk fv []) (obj:=.map #[] 0) f.toRs ⟨#[],0,rfl,rfl⟩
 refine⟨.map (some w.heap.size),w.alloc (.map #[] 0),_,by simp[execOp,Instr.makeMap],.c (.map (by simp) rfl fun p cs hp=>⟨w.heap.size,0,by simp[s8],rfl⟩),f.of i.1 i.2⟩
def W.lookup{x y:Od}{t q:Ti}{id:Id}{m:List (K×V)}{k:K}{z:V}{bytes:Nat}{u:Vl}[A:TyD P t (.map g q)][f:TyD P g d][X:TyS P q i bytes u](hk:KeyT d fk)(G:u=fv z)(H:∀v,(fv v).oneCell'=true)(J:ev env x=some (.c (.map id)))(L:ev env y=some (.c (.imm (.val (fk k)))))(l:σv[id]? =some (some (mapB fk fv m)))(M:f7 sz dst=true)(h:AOps P σ0 sz ops Q rest (St.mk (putE env dst (.c (.imm (.val (fv ((mget m k).getD z)))))) σv)):AOps P σ0 sz ops Q (⟨dst,.lookup t x y false,ty,pos,after,none⟩::rest) (St.mk env σv):=by
 refine .valueW rfl M _ _ (fun Γ N a w p=> ?_) h
 obtain⟨b,B,hp,D⟩:=aq0 (i5 p J) l
 obtain⟨n,_⟩:=L7 (i5 p L)
 obtain⟨b',o,_,E,F,⟨O,c,rfl,U⟩,_⟩:=p.st.blk _ _ l
 rw[hp] at E;cases E
 refine⟨fv ((mget m k).getD z),w,N,?_,.c (.imm (.val (H _))),p⟩
 rcases am2 hk k m O.toList 0 U with⟨r,s,_⟩|⟨v,j,e,r,s,_⟩
 ·simp[execOp,D,n,Instr.lookup,run_underlying A.h,Go.MapKept.run_getObj_map F,Go.MapKept.run_checkKey f.h (hk.key k),Go.MapKept.run_findKey f.h s,R5 (t:=q),r,G,Result.andThen]
 ·simp[execOp,D,n,Instr.lookup,run_underlying A.h,Go.MapKept.run_getObj_map F,Go.MapKept.run_checkKey f.h (hk.key k),Go.MapKept.run_findKey f.h s,r,Result.andThen]
def W.mapUpdate{x y v:Od}{A L:Ti}{id:Id}{m:List (K×V)}{k:K}{a:V}[B:TyD P g (.map A L)][f:TyD P A d](hk:KeyT d fk)(M:ev env x=some (.c (.map id)))(N:ev env y=some (.c (.imm (.val (fk k)))))(O:ev env v=some (.c (.imm (.val (fv a)))))(i:σv[id]? =some (some (mapB fk fv m)))(p:σv.put id (some (mapB fk fv (mset m k a)))=σ')(h:AOps P σ0 sz ops Q rest (St.mk env σ')):AOps P σ0 sz ops Q (⟨none,.mapUpdate g x y v,ty,pos,after,none⟩::rest) (St.mk env σv):=by
 subst p
 refine .skipW rfl rfl _ (fun Γ D ac w l=> ?_) h
 obtain⟨b,E,hp,F⟩:=aq0 (i5 l M) i
 obtain⟨G,_⟩:=L7 (i5 l N)
 obtain⟨H,_⟩:=L7 (i5 l O)
 obtain⟨b',o,_,J,n,⟨r,c,rfl,U⟩,_⟩:=l.st.blk _ _ i
 rw[hp] at J;cases J
 rcases am2 hk k m r.toList 0 U with⟨s,u,z⟩|⟨v0,j,e,s,u,z,X,t⟩
 ·have q:=Rs.writeO (q1:=mapP fk fv (mset m k a)) (o1:=.map (r.push {key:=fk k,val:=fv a,born:=c}) (c+1)) l.toRs i hp n ⟨_,_,rfl,by rw[eE];exact z a c⟩
  refine⟨_,D,?_,l.of q.1 q.2⟩
  simp[execOp,F,G,H,Instr.mapUpdate,run_underlying B.h,Go.MapKept.run_getObj_map n,Go.MapKept.run_checkKey f.h (hk.key k),Go.MapKept.run_findKey f.h u,Go.MapKept.run_setObj_map _ n,Result.andThen]
 ·have hj:r[j]? =some e:=by simpa using z
  have q:=Rs.writeO (q1:=mapP fk fv (mset m k a)) (o1:=.map (r.modify j fun e=>{e with key:=fk k,val:=fv a}) c) l.toRs i hp n ⟨_,_,rfl,by rw[dZ];exact t a⟩
  refine⟨_,D,?_,l.of q.1 q.2⟩
  simp[execOp,F,G,H,Instr.mapUpdate,run_underlying B.h,Go.MapKept.run_getObj_map n,Go.MapKept.run_checkKey f.h (hk.key k),Go.MapKept.run_findKey f.h u,hj,X,Go.MapKept.run_keyThatStays (hk.key k),Go.MapKept.run_setObj_map _ n,Result.andThen]
def W.insert{x y v:Od}{A L:Ti}{id:Id}{m:List (K×V)}{k:K}{a:V}[B:TyD P g (.map A L)][f:TyD P A d](hk:KeyT d fk)(M:ev env x=some (.c (.map id)))(N:ev env y=some (.c (.imm (.val (fk k)))))(O:ev env v=some (.c (.imm (.val (fv a)))))(i:σv[id]? =some (some (mapB fk fv m)))(p:σv.put id (some (mapB fk fv (mset m k a)))=σ')(h:AOps P σ0 sz ops Q rest (St.mk env σ')):AOps P σ0 sz ops Q (⟨none,.insert g x y v,ty,pos,after,none⟩::rest) (St.mk env σv):=by
 subst p
 refine .skipW rfl rfl _ (fun Γ D ac w l=> ?_) h
 obtain⟨b,E,hp,F⟩:=aq0 (i5 l M) i
 obtain⟨G,_⟩:=L7 (i5 l N)
 obtain⟨H,_⟩:=L7 (i5 l O)
 obtain⟨b',o,_,J,n,⟨r,c,rfl,U⟩,_⟩:=l.st.blk _ _ i
 rw[hp] at J;cases J
 rcases am2 hk k m r.toList 0 U with⟨s,u,z⟩|⟨v0,j,e,s,u,z,X,t⟩
 ·have q:=Rs.writeO (q1:=mapP fk fv (mset m k a)) (o1:=.map (r.push {key:=fk k,val:=fv a,born:=c}) (c+1)) l.toRs i hp n ⟨_,_,rfl,by rw[eE];exact z a c⟩
  refine⟨_,D,?_,l.of q.1 q.2⟩
  simp[execOp,F,G,H,Instr.mapUpdate,run_underlying B.h,Go.MapKept.run_getObj_map n,Go.MapKept.run_checkKey f.h (hk.key k),Go.MapKept.run_findKey f.h u,Go.MapKept.run_setObj_map _ n,Result.andThen]
 ·have hj:r[j]? =some e:=by simpa using z
  have q:=Rs.writeO (q1:=mapP fk fv (mset m k a)) (o1:=.map (r.modify j fun e=>{e with key:=fk k,val:=fv a}) c) l.toRs i hp n ⟨_,_,rfl,by rw[dZ];exact t a⟩
  refine⟨_,D,?_,l.of q.1 q.2⟩
  simp[execOp,F,G,H,Instr.mapUpdate,run_underlying B.h,Go.MapKept.run_getObj_map n,Go.MapKept.run_checkKey f.h (hk.key k),Go.MapKept.run_findKey f.h u,hj,X,Go.MapKept.run_keyThatStays (hk.key k),Go.MapKept.run_setObj_map _ n,Result.andThen]
end
/-! ### Functions that call themselves -/
def strL(s:ByteArray):Li:=s.data.toList.map fun b=>(b.toNat:Int)
def strB(l:Li):ByteArray:=⟨(l.map fun n=>UInt8.ofNat n.toNat).toArray⟩
def subS(s:ByteArray)(a hi:Int):Option ByteArray:=if 0<=a/\a<=hi/\hi<=s.size then some (s.extract a.toNat hi.toNat) else none
def strL_len(s:ByteArray):(strL s).length=s.size:=by
 simp[strL]
def strCells_eq(s:ByteArray):Lib.strCells s=(strL s).map fun n=>Value.int .u8 n:=by
 simp[Lib.strCells,strL]
structure ShowsS(w:World)(φ:Phi)(σ:b6)(A:Nat->Prop)(k:Nat)(es:List (List C))(us:List Vl):Prop where
 len:eJ us=eJ es * k
 one:∀u ∈ us,u.oneCell'=true
 hk:∀(j:Nat) (e:List C),es[j]? =some e->eJ e=k
 rel:∀(j:Nat) (e:List C) (o:Nat) (x:C),es[j]? =some e->e[o]? =some x->∃u,us[j * k+o]? =some u/\RelC w φ σ A x u
def strE(s:ByteArray):List (List C):=(strL s).map fun n=>[C.imm (.val (.int .u8 n))]
def str_shows(w:World)(c:Phi)(σ:b6)(A:Nat->Prop)(s:ByteArray):ShowsS w c σ A 1 (strE s) (Lib.strCells s):=by
 refine⟨by simp[strE,strL,Lib.strCells],Lib.strCells_oneCell s,fun j e a=> ?_,fun j e o x a b=> ?_⟩;simp only[strE,lM,oM] at a;obtain⟨n,_,rfl⟩:=a;rfl;simp only[strE,lM,oM] at a;obtain⟨n,d,rfl⟩:=a;cases o with
 |succ o=>simp at b
 |zero=>
  simp only[cG,Option.some.injEq] at b
  subst b
  refine⟨.int .u8 n,?_,.imm (.val rfl)⟩
  rw[strCells_eq,lM,dJ,dD,d]
  rfl
def app_relS{l:Phi}{A:Nat->Prop}{d new:List (List C)}{b:Option Addr}{n vs:List Vl}(h:ak4 a l p A i d b n)(g:ShowsS a l p A i new vs):
  (∀(j:Nat) (e:List C),(d++new)[j]? =some e->eJ e=i)/\∀(j:Nat) (e:List C) (o:Nat) (x:C),(d++new)[j]? =some e->e[o]? =some x->∃u,(n++vs)[j * i+o]? =some u/\RelC a l p A x u:=by
 refine⟨fun j e c=> ?_,fun j e o x c s=> ?_⟩
 ·rw[dX] at c
  split at c
  ·exact h.hk _ _ c
  ·exact g.hk _ _ c
 ·rw[dX] at c
  split at c
  ·rename_i q
   obtain⟨u,f,r⟩:=h.rel j e o x c s
   exact⟨u,by rw[cZ (lG.1 f).1];exact f,r⟩
  ·rename_i q
   obtain⟨u,f,r⟩:=g.rel _ e o x c s
   refine⟨u,?_,r⟩
   have:eJ n<=j * i+o:=by rw[h.len];have:=dj i (Nat.not_lt.1 q);omega
   rw[cY this,h.len]
   rw[Nat.sub_mul] at f
   have:=dj i (Nat.not_lt.1 q)
   rw[show j * i+o - (eJ d) * i=j * i - (eJ d) * i+o by omega]
   exact f
section
variable {P:Program}(w:World)
def aI6{t u ty:Ti}{bytes:Nat}{z:Vl}[p:TyD P t (.slice g)][r:TyD P u .string][A:TyS P g i bytes z]{a sLen sCap:Nat}{b:Array Vl}{d:Ti}(v:w.heap[q]? =some (.cells b d (0,0)))(s:ByteArray)(j:i=1)(c:sLen+s.size<=sCap)(o:a+sCap * i<=b.size):
  (Builtin.append_ #[t,u] ty #[.slice (some ⟨q,a,none⟩) sLen sCap,.string s]).run P w=
   .ok (.slice (some ⟨q,a,none⟩) (sLen+s.size) sCap) (w.setRow q (b.toList.take (a+sLen * i)++(Lib.strCells s)++b.toList.drop (a+sLen * i+(Lib.strCells s).length)).toArray):=by
 have B:(Lib.strCells s).length=s.size * i:=by rw[Lib.strCells_length,j,dJ]
 have x:=Lib.strCells_oneCell s
 have y:=Lib.run_firstCells_string (P:=P) w i s
 have l:(sLen+s.size) * i<=sCap * i:=dj _ c
 rw[dq] at l
 have f:=run_storeCells_at P q (a+sLen * i) d (Lib.strCells s) 0 b w v (by omega) x
 simp only[dD] at f
 have n:=u3 (P:=P) (t:=g) w
 simp[Builtin.append_,run_underlying p.h,run_underlying r.h,n,Builtin.lenOf,c,y,J7,f]
def aI5{t u ty:Ti}{bytes:Nat}{z:Vl}[F:TyD P t (.slice g)][d:TyD P u .string][G:TyS P g i bytes z]{f:Option Addr}{sLen sCap:Nat}{b:List Vl}(l:eJ b=sLen * i)(n:f=none->b=[])(o:∀c,f=some c->∀(j:Nat) (u:Vl),b[j]? =some u->w.cell? (c.add j)=some u)(s:ByteArray)(H:i=1)(J:sCap<sLen+s.size)(K:(sLen+s.size) * bytes<=140737488355328)(D:sLen+s.size<=9223372036854775807):
  (Builtin.append_ #[t,u] ty #[.slice f sLen sCap,.string s]).run P w=
   .ok (.slice (some ⟨w.heap.size,0,none⟩) (sLen+s.size) (grownCap w (sLen+s.size) sCap g)) (w.drew.alloc (.cells (b.toArray++(Lib.strCells s).toArray++Builtin.zeroCells z.cells (grownCap w (sLen+s.size) sCap g - (sLen+s.size))) g)):=by
 obtain⟨a,p,q,r,v⟩:=G.h
 subst q r
 have E:=growslice_fits J K
 have x:¬ (281474976710656<Builtin.nextslicecap (sLen+s.size) sCap * a.bytes):=by omega
 have y:¬ (9223372036854775807<((sLen:Int)+(s.size:Int))):=by omega
 have A:¬ (sLen+s.size<=sCap):=by omega
 have L:=Lib.run_firstCells_string (P:=P) w.drew a.size s
 have B:=ag8 (P:=P) w.drew (size:=a.size) (cap:=sCap) l n (fun c h j u d=>by simpa using o c h j u d)
 simp[Builtin.append_,run_underlying F.h,run_underlying d.h,Go.sizeOf,typeInfo,zeroValue,p,v,Builtin.lenOf,A,y,x,Question.forced,L,B,newRow,grownCap]
 rw[<- Array.append_assoc,List.append_toArray b (Lib.strCells s)]
end
def append_newS{P:Program}{env:Env}{l:Cx}{d:Phi}{b:Act}(hR:R l i (St.mk env p) d b a){t u ty' e:Ti}{bytes:Nat}{z:Vl}[ht:TyD P t (.slice e)][M:TyD P u .string][hs:TyS P e q bytes z](O:(z.cells.size==q)=true){b0:Option Addr}{n cap0:Nat}{old:List (List C)}{D:List Vl}(E:ak4 a d p (Al l.N d p) q old b0 D)(r:eJ old=n){new:List (List C)}(s:ByteArray)(Q:q=1)(H:eJ new=s.size)(hn:ShowsS a d p (Al l.N d p) q new (Lib.strCells s))(hg:cap0<n+eJ new)(hb:(n+eJ new) * bytes<=140737488355328)(y:n+eJ new<=maxLen)(f:b6)(F:∀(d:Phi) (a:World),Rs l p d a->Kept a a d d p f (Al l.N d p) (Al l.N d f)/\Rs l f d a)(J:eJ f=eJ p):
  ∃v' U G,(Builtin.append_ #[t,u] ty' #[.slice b0 n cap0,.string s]).run P a=.ok v' U/\
   RelT U G (f++[.one (.cells q (old++new))]) (Al l.N G (f++[.one (.cells q (old++new))])) (.c (.own (eJ p,[]) 0 (n+eJ new))) v'/\R l i ⟨env,f++[.one (.cells q (old++new))]⟩ G b U:=by
 have V:n+eJ new<=9223372036854775807:=by simpa[maxLen] using y
 have A:=aI5 (P:=P) (t:=t) (u:=u) (ty:=ty') (sLen:=n) (sCap:=cap0) a (by rw[E.len,r]) (fun h=>by rw[E.none h] at E;exact cW (by simpa using E.len)) E.cell s Q (by omega) (by rw[<- H];exact hb) (by omega)
 rw[<- H] at A
 have K:=grownCap_ge a (n+eJ new) cap0 e
 have X:grownCap a (n+eJ new) cap0 e<=maxLen:=grownCap_le_maxLen a (n+eJ new) cap0 e y
 obtain⟨w,k⟩:=F d a.drew hR.toRs.drew
 have aa:=Kept.drew a d p (Al l.N d p)
 have B:=Kept.trans (show a.heap.size<=a.drew.heap.size from du _) aa w
 have L:=app_relS E hn
 have hz:z.cells.size=q:=by simpa using O
 generalize al:grownCap a (n+eJ new) cap0 e=v at *
 have g:(D.toArray++(Lib.strCells s).toArray++Builtin.zeroCells z.cells (v - (n+eJ new))).size=v * q:=by simp only[Array.size_append,dI,size_zeroCells,hz,E.len,hn.len,r,<- dq];congr 1;omega
 have hA:=Rs.alloc (k:=q) (es:=old++new) (arr:=D.toArray++(Lib.strCells s).toArray++Builtin.zeroCells z.cells (v - (n+eJ new))) (ety:=e) k L.1 (by
   rw[g,dw,r];exact dj _ K) (fun j e' o x he hx=>by
   obtain⟨u,M,hr⟩:=L.2 j e' o x he hx;refine⟨u,?_,hr.mono B⟩;rw[Array.getElem?_append_left (by have:=(lG.1 M).1;simpa using this)];simpa using M)
 rw[J] at hA
 refine⟨_,_,s8 (eJ p) d a.heap.size,A,M9 (k:=q) (es:=old++new) (by rw[<- J];exact b6.get_last _ _) rfl (.inr ⟨a.heap.size,0,v,_,e,_,by simp[s8],rfl,fun _=>by simp,K,X,by simp[r],heap_alloc_new a.drew _,by rw[g];simp⟩),?_⟩
 exact hR.of (Kept.trans (show a.heap.size<=a.drew.heap.size from du _) B hA.1) hA.2
theorem AOps.appendStr{P:Program}{σ0:b6}{sz:Nat}{Q:Post}{env:Env}{σv:b6}{ops:Array Oper}{rest:List Oper}{dst:Option Nat}{ty:Ti}{pos:String}{after:Array Edge}{x y:Od}{t u e:Ti}{k bytes:Nat}{z:Vl}{id:Id}{j n:Nat}{es:List (List C)}{s:ByteArray}(hk1:k=1)[ht:TyD P t (.slice e)][hu:TyD P u .string][hs:TyS P e k bytes z](hzk:(z.cells.size==k)=true)(hbp:dp 0 bytes=true)
  (hx:ev env x=some (.c (.own id j n))) (hσ:σv[id]? =some (some (.cells k es))) (hy:ev env y=some (.c (.imm (.val (.string s))))) (hb:(n+s.size) * bytes<=140737488355328) (hd:f7 sz dst=true)
  (h:AOps P σ0 sz ops Q rest ((St.mk env (σv.put id none++[.one (.cells k ((es.drop j).take n++strE s))])).put dst (.c (.own (eJ σv,[]) 0 (n+s.size))))):
  AOps P σ0 sz ops Q (⟨dst,.call ⟨.builtin .append,#[x,y],#[t,u]⟩,ty,pos,after,none⟩::rest) (St.mk env σv):=
 .valueW rfl hd _ _ (fun Γ φ a w hR=>by
  have hy1:a.eval y=.string s:=(L7 (i5 hR hy)).1
  have hy2:ShowsS w φ σv (Al Γ.N φ σv) k (strE s) (Lib.strCells s):=by subst hk1;exact str_shows _ _ _ _ s
  have hns:(strE s).length=s.size:=by simp[strE,strL_len]
  rw[<- hns] at hb ⊢
  generalize hnw:strE s=new at hb hy2 hns ⊢
  generalize hus':Lib.strCells s=us' at hy2
  have hv:=H1 (i5 hR hx) hσ
  obtain⟨b0,cap0,us0,hx1,hx2,hx3⟩:=Y6 hR hσ hv
  have ex:(execOp a.eval ⟨dst,.call ⟨.builtin .append,#[x,y],#[t,u]⟩,ty,pos,after,none⟩).run P w=((Builtin.append_ #[t,u] ty #[.slice b0 n cap0,.string s]).run P w).andThen fun v w=>.ok (.value v) w:=by
   simp[execOp,resolve,invoke,builtin,hx1,hy1]
  rw[ex]
  by_cases hroom:n+eJ new<=cap0
  ·rcases hv with⟨h1,h2,h3,h4⟩|⟨b,base,cap,arr,ety,ad,hp,hv,had,hcap,hmax,hjn,hbk,hsz⟩
   · -- nil, and nothing is appended
    rw[hx1] at h2
    cases h2
    have hnew:new=[]:=cW (by omega)
    subst hnew
    subst h3
    obtain⟨hK1,hR1⟩:=hR.toRs.kill id
    obtain⟨hK2,hR2⟩:=hR1.virt k
    have hrun:(Builtin.append_ #[t,u] ty #[.slice none 0 0,.string s]).run P w=.ok (.slice none 0 0) w:=by
     have hs0:s.size=0:=by rw[<- hns];rfl
     have hc0:us'=[]:=cW (by simpa using hy2.len)
     have hf:=Lib.run_firstCells_string (P:=P) w k s
     rw[hs0,hus',hc0] at hf
     simp[Builtin.append_,run_underlying ht.h,run_underlying hu.h,u3 (t:=e),Builtin.lenOf,hs0,hf]
    refine⟨.slice none 0 0,w,(fun i=>if i=(eJ σv,[]) then none else φ i),by rw[hrun];rfl,?_,?_⟩
    ·simp only[dL,dB]
     exact M9 (k:=k) (es:=[]) (by rw[<- b6.length_put σv id none];exact b6.get_last _ _) rfl (.inl ⟨by simp,rfl,rfl,rfl⟩)
    ·simp only[dL,dB]
     rw[b6.length_put] at hK2 hR2
     exact hR.of (Kept.trans (du _) hK1 hK2) hR2
   ·rw[hx1] at hv
    cases hv
    have hpos:0<n+eJ new\/n+eJ new=0:=by omega
    by_cases hc0:0<cap0
    ·have:=had hc0
     subst this
     have hfit:base+j * k+cap0 * k<=arr.size:=by rw[dq] at hsz;omega
     have hrun:=aI6 (P:=P) (t:=t) (u:=u) (ty:=ty) w (sLen:=n) (sCap:=cap0) hbk s hk1 (by omega) hfit
     rw[<- hns,hus'] at hrun
     have hap:=app_relS hx3 hy2
     have hmk:(n+eJ new) * k<=cap0 * k:=dj _ hroom
     rw[dq] at hmk
     have hus:eJ us'=eJ new * k:=hy2.len
     have hus0:eJ us0=n * k:=by rw[hx3.len,hx2]
     have hA:=Rs.reown (k:=k) (base':=base+j * k) (es':=(es.drop j).take n++new) (arr':=(arr.toList.take (base+j * k+n * k)++us'++arr.toList.drop (base+j * k+n * k+eJ us')).toArray) hR.toRs hσ hp hbk hap.1 (by simp only[dw,hx2,dI,dR,eG,er,dq];omega) (fun i e' o x' he hx'=>by
      obtain⟨u,hu,hr⟩:=hap.2 i e' o x' he hx'
      refine⟨u,?_,hr⟩
      have hsp:=D4 arr.toList us' (base+j * k+n * k) (base+j * k+(i * k+o)) (by simp;omega)
      simp only[dV]
      rw[hsp]
      by_cases hio:i * k+o<n * k
      ·rw[if_neg (by omega)]
       rw[cZ (by omega)] at hu
       -- what stood there
       obtain⟨arr2,ety2,hb2,_,hkk,hcs⟩:=J8 hR hσ hp
       rw[hbk] at hb2;cases hb2
       have hi:i<n:=by
        rcases dh i n with h|h
        ·exact h
        ·have:=dj k h;omega
       have hcell:=hx3.cell _ rfl _ u hu
       rw[J7,U1 hbk] at hcell
       simpa using hcell
      ·rw[cY (by omega)] at hu
       have hlt:=(lG.1 hu).1
       rw[if_pos (by omega),show base+j * k+(i * k+o) - (base+j * k+n * k)=i * k+o - (eJ us0) by omega]
       exact hu)
     refine⟨_,_,_,by rw[hrun];rfl,?_,hR.of hA.1 hA.2⟩
     refine M9 (k:=k) (es:=(es.drop j).take n++new) (by rw[<- b6.length_put σv id none];exact b6.get_last _ _) rfl (.inr ⟨b,base+j * k,cap0,_,ety,_,by simp,rfl,fun _=>by simp,hroom,hmax,by simp[hx2],setRow_heap w b arr _ ety (0,0) hbk,?_⟩)
     simp only[dI,dw,dR,eG,er,cO]
     omega
    · -- no room at all, and nothing is appended
     have h0:cap0=0:=by omega
     subst h0
     have hn0:n=0:=by omega
     have hnew:new=[]:=cW (by omega)
     subst hnew
     subst hn0
     have hrun:(Builtin.append_ #[t,u] ty #[.slice (some ad) 0 0,.string s]).run P w=.ok (.slice (some ad) 0 0) w:=by
      have hs0:s.size=0:=by rw[<- hns];rfl
      have hc0:us'=[]:=cW (by simpa using hy2.len)
      have hf:=Lib.run_firstCells_string (P:=P) w k s
      rw[hs0,hus',hc0] at hf
      simp[Builtin.append_,run_underlying ht.h,run_underlying hu.h,u3 (t:=e),Builtin.lenOf,hs0,hf,storeCells]
     have hA:=Rs.reown (k:=k) (base':=base+j * k) (es':=[]) (arr':=arr) hR.toRs hσ hp hbk (fun i e' he=>by simp at he) (by simp;rw[dq] at hsz;omega) (fun i e' o x' he=>by simp at he)
     rw[setRow_self w b arr ety (0,0) hbk] at hA
     refine⟨.slice (some ad) 0 0,w,(fun i=>if i=(eJ σv,[]) then some (b,base+j * k) else φ i),by rw[hrun];rfl,?_,?_⟩
     ·simp only[dL,dB]
      exact M9 (k:=k) (es:=[]) (by rw[<- b6.length_put σv id none];exact b6.get_last _ _) rfl (.inr ⟨b,base+j * k,0,arr,ety,ad,by simp,rfl,fun h=>by omega,by simp,by simp[maxLen],by simp,hbk,by simp;rw[dq] at hsz;omega⟩)
     ·simp only[dL,dB]
      exact hR.of hA.1 hA.2
  ·have hmax:n+eJ new<=maxLen:=by
    have hb0:0<bytes:=by simpa using hbp
    have:n+eJ new<=(n+eJ new) * bytes:=Nat.le_mul_of_pos_right _ hb0
    simp only[maxLen];omega
   obtain⟨v',w',φ',g1,g2,g3⟩:=append_newS (P:=P) (t:=t) (u:=u) (e:=e) (ty':=ty) hR hzk (cap0:=cap0) hx3 hx2 s hk1 hns (by rw[hus'];exact hy2) (Nat.not_le.1 hroom) hb hmax (σv.put id none) (fun φ w h=>h.kill id) (by simp)
   exact⟨v',w',φ',by rw[g1];rfl,g2,g3⟩) h
abbrev eU8(n:Int):List I:=[.val (.int .u8 n)]
abbrev eU32(n:Int):List I:=[.val (.int .u32 n)]
def strE_eq(s:ByteArray):strE s=((strL s).map eU8).map (·.map C.imm):=by simp[strE]
def S.appendStr{a:Post}{env:Env}{σ':b6}{ops:Array Oper}{rest:List Oper}{l j:Li}{s:ByteArray}{y:Od}{t u e:Ti}{bytes:Nat}{z:Vl}{id:Id}{b:b6}[x:TyD d t (.slice e)][n:TyD d u .string][hs:TyS d e 1 bytes z](w:app bytes l (strL s)=some j)(o:(z.cells.size==1)=true)(r:dp 0 bytes=true)(A:ev env P=some (.c (.own id 0 q)))(D:q=eJ l)(v:B[id]? =some (some (vec 1 eU8 l)))(E:ev env y=some (.c (.imm (.val (.string s)))))(F:newF B=some Q)(G:putF B id none=some b)(f:w6 b (.one (vec 1 eU8 j))=some σ')(J:f7 i H=true)(h:AOps d p i ops a rest (St.mk (putE env H (.c (.own Q 0 (eJ j)))) σ')):
  AOps d p i ops a (⟨H,.call ⟨.builtin .append,#[P,y],#[t,u]⟩,g,L,M,none⟩::rest) (St.mk env B):=by
 obtain⟨K,rfl⟩:=am8 w
 have N:=B7 G
 have O:=B1 F;have U:=u5 f
 subst D N O U
 refine AOps.appendStr (s:=s) (k:=1) rfl o r A v E (by rw[<- strL_len];exact K) J ?_
 have V:(((((l.map eU8).map (·.map C.imm)).drop 0).take (eJ l))++strE s)=((l++strL s).map eU8).map (·.map C.imm):=by rw[dy,cX (by simp),strE_eq];simp
 have X:eJ l+s.size=(l++strL s).length:=by simp[strL_len]
 rw[V,X]
 exact h
def S.subStr{env:Env}{ops:Array Oper}{rest:List Oper}{b y:ByteArray}{l r:Od}{t:Ti}{z f:IntKind}{j hi:Int}[A:TyD d t .string](e:subS b j hi=some y)(D:ev env P=some (.c (.imm (.val (.string b)))))(E:ev env l=some (.c (.imm (.val (.int z j)))))(F:ev env r=some (.c (.imm (.val (.int f hi)))))(G:f7 i H=true)(h:AOps d p i ops s rest (St.mk (putE env H (.c (.imm (.val (.string y))))) B)):AOps d p i ops s (⟨H,.slice t P (some l) (some r) none,g,L,M,none⟩::rest) (St.mk env B):=by
 unfold subS at e
 split at e
 ·rename_i J
  cases e
  refine .value rfl G _ (fun N O a w k=> ?_) h
  refine⟨.string (b.extract j.toNat hi.toNat),?_,.c (.imm (.val rfl))⟩
  have n:=A6 k D
  have o:=A6 k E
  have q:=A6 k F
  obtain⟨a1,K,U⟩:=J
  obtain⟨u,rfl⟩:=dS a1
  obtain⟨v,rfl⟩:=dS (Int.le_trans a1 K)
  have:=run_slice_string (P:=d) w t b z f (u:Int) (v:Int) A.h (by omega) (by omega) (by omega)
  simp only[Int.toNat_natCast] at this
  simp[execOp,n,o,q,Instr.sliceAt,run_underlying A.h,this,Result.andThen]
 ·cases e
def S.bytesStr{b:Program}{ops:Array Oper}{rest:List Oper}{src d e:Ti}{l:Li}[K:TyD b src (.slice e)][N:TyD b e (.int .u8)][O:TyD b d .string](X:ev t P=some (.c (.own Q 0 q)))(x:q=eJ l)(o:B[Q]? =some (some (vec 1 eU8 l)))(hd:f7 i H=true)(h:AOps b p i ops s rest (St.mk (putE t H (.c (.imm (.val (.string (strB l)))))) B)):AOps b p i ops s (⟨H,.convert src d P,g,L,M,none⟩::rest) (St.mk t B):=by
 refine .value rfl hd _ (fun Γ φ a w U=> ?_) h
 refine⟨.string (strB l),?_,.c (.imm (.val rfl))⟩
 subst x
 have hv:=H1 (i5 U X) o
 obtain⟨b0,f,D,r,aa,k⟩:=Y6 U o hv
 have E:(List.take (eJ l) (List.drop 0 ((l.map eU8).map (·.map C.imm))))=(l.map eU8).map (·.map C.imm):=by rw[dy,cX (by simp)]
 rw[E] at k
 have F:D=l.map (Value.int .u8):=by
  apply df;intro j;rcases dh j (eJ l) with n|n;obtain⟨u,V,hr⟩:=k.rel j [C.imm (.val (.int .u8 l[j]))] 0 _ (by simp[n]) rfl;rw[dJ,dD] at V;have G:u=.int .u8 l[j]:=by cases hr with|imm h=>cases h with|val h=>rfl
  rw[V,G];simp[n];have:=k.len;rw[dx (by rw[this];simpa using n),dx (by simpa using n)]
 cases b0 with
 |none=>
  have A:l=[]:=by have:=k.none rfl;simpa using this
  subst A
  simp[execOp,r,convert,run_underlying K.h,run_underlying N.h,run_underlying O.h,Conv.bytesToString,strB,Result.andThen]
  rfl
 |some y=>
  have A:=run_loadCells_list (P:=b) w y (l.map (Value.int .u8)) (fun j v n=>k.cell y rfl j v (by rw[F];exact n))
  simp only[dr] at A
  have z:(convert src d (.slice (some y) (eJ l) f)).run b w=.ok (.string (strB l)) w:=by rw[run_convert_bytes_string w src d e (some y) (eJ l) f K.h N.h O.h,run_bytesToString w y (eJ l) f _ A,foldl_push_bytes];have J:ByteArray.empty.data=#[]:=rfl;rw[J];simp[strB]
  simp[execOp,r,z,Result.andThen]
/-! ### Arrays of numbers compared -/
end Ab
