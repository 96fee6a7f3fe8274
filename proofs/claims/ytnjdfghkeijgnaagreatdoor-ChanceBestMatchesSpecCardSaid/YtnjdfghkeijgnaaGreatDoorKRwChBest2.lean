/-
  Texts that the proof stands on.
-/
import Derived.Test.YtnjdfghkeijgnaaGreatDoorKRwChBest1
import Derived.ProofKit
import Derived.Below
import Derived.ChangeSame
import Derived.OpenShut
import Derived.Test.YtnjdfghkeijgnaaGreatDoorChecked
import Derived.KernelRfl
import Derived.MapKept
import Derived.Lib.AppendStr
import Derived.Laws.BytesArg
set_option linter.all false
open Nat renaming eq_of_beq_eq_true->cC,beq->cG,le_of_ble_eq_true->cO,zero_add->cQ,lt_or_ge->cZ,ble->de,mul_le_mul_right->dh,blt->di,add_mul->dm,le_refl->dq,add_zero->dC,le_trans->dF,mul_one->dI,lt_of_lt_of_le->dM,zero_mul->dP,add_assoc->dW,min->et
open List renaming getElem?_cons_zero->cD,getElem?_eq_getElem->cH,all_eq_true->cJ,replicate->cK,getElem?_mapIdx->cL,getElem?_set->cN,mem_of_getElem?->cS,eq_nil_of_length_eq_zero->cU,take_of_length_le->cV,getElem?_append_right->cW,getElem?_append_left->cX,ext_getElem?->cY,length_map->df,getElem?_replicate->dp,length_append->dr,getElem?_take->dt,getElem?_eq_none->du,drop_zero->dw,map_cons->dA,append_nil->dB,getElem?_of_mem->dD,mem_filter->dE,size_toArray->dH,take_zero->dK,getElem?_drop->dL,mem_cons->dN,flatten_cons->dO,getElem_mem->dQ,length_take->dR,getElem?_toArray->dU,getElem?_append->dV,map_congr_left->dX,mem_map->ee,map_replicate->er,filter_congr->eA,length_drop->eD,length->eH
open Bool renaming and_eq_true->cE,or_eq_true->dJ,not_eq_true'->ez
open Option renaming map_some->cM,bind_eq_some_iff->dj,isSome_iff_exists->dG,map_map->eG
open Array renaming getElem?_replicate->dz,toList_modify->dY,length_toList->dZ,toList_push->eB,replicate->eF
open Int renaming eq_ofNat_of_zero_le->dS,toNat_natCast->ew
open Prod renaming mk->eu
namespace Ab
open Go
variable{a:World}{A:Type}{b:List Nat}{c:Program}{d:Ti}{i p:Nat}{g t:b6}{q:List T}{r:Post}{s:Env}{v:Array Oper}{x:Option Nat}{B:String}{H:Array Edge}{L:Od}{M:Id}{P:List Oper}{Q:List A}{V:A->List I}{X:List (List A)}
section
open Go.RowKit Go.WideShapes Go.ChangeShapes
inductive Sh where
 |int
 |bool
 |sl (l:List Sh) (b:Nat)
 deriving Inhabited
def aw9(P:Program)(g:Ti->Option (List Sh)):Nat->List Field->Option (List Sh)
 |_,[]=>some []
 |a,f::b=>(g f.type).bind fun L=>if cG f.offset a && cG (P.cellsOf f.type) (eH L) then(aw9 P g (a+eH L) b).map (L++ ·) else none
def shRep(L:List Sh):Nat->List Sh
 |0=>[]
 |n+1=>L++shRep L n
def ac5(P:Program):Nat->Ti->Option (List Sh)
 |0,_=>none
 |n+1,t=>match P.underlying t with
  |some .bool=>some [.bool]
  |some (.int .i64)=>some [.int]
  |some (.slice e)=>(ac5 P n e).bind fun L=>if cG (P.cellsOf e) (eH L) then some [.sl L (P.bytesOf e)] else none
  |some (.struct a)=>(aw9 P (ac5 P n) 0 a.toList).bind fun L=>if cG (P.cellsOf t) (eH L) then some L else none
  |some (.array m e)=>(ac5 P n e).bind fun L=>if cG (P.cellsOf e) (eH L) && cG (P.cellsOf t) (shRep L m).length then some (shRep L m) else none
  |_=>none
inductive DecL:List Sh->List I->Prop
 |nil:DecL [] []
 |int {n:Int} {f is} (h1: -9223372036854775808<=n) (h2:n<=9223372036854775807) (h:DecL f is):DecL (.int::f) (.val (.int .i64 n)::is)
 |bool {j:Bool} {f is} (h:DecL f is):DecL (.bool::f) (.val (.bool j)::is)
 |sl {L0 j es f is} (he:∀e ∈ es,DecL L0 e) (hw:eH es * j<=140737488355328) (h:DecL f is):DecL (.sl L0 j::f) (.sl (eH L0) es::is)
def DecL.length{L:List Sh}{b:List I}(h:DecL L b):eH b=eH L:=by
 induction h with
 |nil=>rfl
 |int _ _ _ a=>simp[a]
 |bool _ a=>simp[a]
 |sl _ _ _ _ a=>simp[a]
def DecL.append{L c:List Sh}{d a:List I}(h:DecL L d)(e:DecL c a):DecL (L++c) (d++a):=by
 induction h with
 |nil=>exact e
 |int f g _ b=>exact .int f g b
 |bool _ b=>exact .bool b
 |sl i j _ _ b=>exact .sl i j b
def Shown(w:World)(A:Nat->Prop)(a:List I)(cs:List Vl):Prop:=eH a=eH cs/\∀(i:Nat) (x:I) (v:Vl),a[i]? =some x->cs[i]? =some v->RelI w A x v
def Shown.append{A:Nat->Prop}{g b:List I}{cs c:List Vl}(h:Shown a A g cs)(j:Shown a A b c):Shown a A (g++b) (cs++c):=by refine⟨by simp[h.1,j.1],fun i x v e f=> ?_⟩;rcases cZ i (eH g) with d|d;rw[cX d] at e;rw[cX (by rw[<- h.1];exact d)] at f;exact h.2 i x v e f;rw[cW d] at e;rw[cW (by rw[<- h.1];exact d),<- h.1] at f;exact j.2 _ x v e f
def Shown.one{A:Nat->Prop}{x:I}{v:Vl}(h:RelI a A x v):Shown a A [x] [v]:=by
 refine⟨rfl,fun i y u b c=> ?_⟩;match i with
 |0=>cases b;cases c;exact h
 |i+1=>simp at b
def ex_list{p:Nat->A->Prop}:∀n:Nat,(∀i,i<n->∃a,p i a)->∃l:List A,eH l=n/\∀i a,l[i]? =some a->p i a
 |0,_=>⟨[],rfl,fun i a h=>by simp at h⟩
 |n+1,h=>by
  obtain⟨l,d,f⟩:=ex_list n fun i e=>h i (by omega);obtain⟨a,g⟩:=h n (by omega);refine⟨l++[a],by simp[d],fun i b c=> ?_⟩;rcases cZ i n with e|e;rw[cX (by omega)] at c;exact f i b c;rw[cW (by omega)] at c;have:i=n:=by have:=(lG.1 c).1;simp at this;omega
  subst this;simp[d] at c;subst c;exact g
def Fits(l:List Nat):Prop:=l.all (· <=reachBytes)=true
def Fits.app{l:List Nat}(h:Fits (l++b)):Fits l/\Fits b:=by unfold Fits at h;rw[List.all_append,cE] at h;exact h
def fits_all{e:Ti}:∀{b:List (DataW A)},Fits (DataW.weightsAll c e b)->∀d ∈ b,Fits (d.weights c e)
 |[],_,d,a=>by cases a
 |x::r,h,d,a=>by unfold DataW.weightsAll at h;obtain⟨f,g⟩:=h.app;rcases dN.1 a with rfl|a;exact f;exact fits_all g d a
def fits_each:∀{e:List Ti} {f:List (DataW A)},Fits (DataW.weightsEach c e f)->∀(i:Nat) (t:Ti) (d:DataW A),e[i]? =some t->f[i]? =some d->Fits (d.weights c t)
 |[],_,_,i,t,d,a,_=>by simp at a
 |_::_,[],_,i,t,d,_,b=>by simp at b
 |t0::e,d0::f,h,i,t,d,a,b=>by
  unfold DataW.weightsEach at h;obtain⟨g,j⟩:=h.app;match i with
  |0=>cases a;cases b;exact g
  |i+1=>exact fits_each j i t d (by simpa using a) (by simpa using b)
def Reads(e:Ti×Vl->A)(P:Program)(w:World)(c:Nat)(b:Nat->Bool)(held:Bool)(a:Nat->Prop)(g:Ti->Option (List Sh)):Prop:=
 ∀(t:Ti) (L:List Sh) (d:Nat) (cs:List Vl) (x:DataW A×List MemPlace),g t=some L->DataW.trod e P w c b held d t cs=some x->Fits (x.1.weights P t)->∃f,DecL L f/\Shown w a f cs
def aD7{H:Type}{k:Ti×Vl->H}{base:Nat}{spare:Nat->Bool}{held:Bool}{A:Nat->Prop}{g:Ti->Option (List Sh)}(s:Reads k c a base spare held A g):∀(n:List Field) (b:Nat) (L:List Sh) (cs:List Vl),aw9 c g b n=some L->
  (∀f ∈ n,∃(d:Nat) (x:DataW H×List MemPlace),DataW.trod k c a base spare held d f.type ((cs.drop f.offset).take (c.cellsOf f.type))=some x/\Fits (x.1.weights c f.type))->
  ∃t,DecL L t/\Shown a A t ((cs.drop b).take (eH L))
 |[],b,L,cs,h,_=>by simp only[aw9,Option.some.injEq] at h;subst h;exact⟨[],.nil,rfl,fun i x v z=>by simp at z⟩
 |f::n,b,L,cs,h,u=>by
  simp only[aw9,dj] at h;obtain⟨o,B,j⟩:=h;split at j;rename_i p;simp only[cE] at p;have D:=cC p.1;have b2:=cC p.2;rw[oM] at j;obtain⟨q,j,rfl⟩:=j;obtain⟨d,x,E,l⟩:=u f (by simp);obtain⟨F,G,y⟩:=s _ _ _ _ _ B E l;obtain⟨J,K,M⟩:=aD7 s n _ q cs j fun N r=>u N (by simp[r]);refine⟨F++J,G.append K,?_⟩;rw[D,b2] at y;have e:(cs.drop b).take (o++q).length=(cs.drop b).take (eH o)++(cs.drop (b+eH o)).take (eH q):=by rw[dr,List.take_add,List.drop_drop]
  rw[e];exact y.append M;cases j
def reads_rep{H:Type}{h:Ti×Vl->H}{base:Nat}{spare:Nat->Bool}{held:Bool}{A:Nat->Prop}{g:Ti->Option (List Sh)}(k:Reads h c a base spare held A g){L:List Sh}(l:g d=some L):∀(m b:Nat) (cs:List Vl),
  (∀i,i<m->∃(f:Nat) (x:DataW H×List MemPlace),DataW.trod h c a base spare held f d ((cs.drop (b+i * (eH L))).take (eH L))=some x/\Fits (x.1.weights c d))->
  ∃n,DecL (shRep L m) n/\Shown a A n ((cs.drop b).take (shRep L m).length)
 |0,b,cs,_=>⟨[],.nil,rfl,fun i x v o=>by simp at o⟩
 |m+1,b,cs,p=>by
  obtain⟨f,x,q,j⟩:=p 0 (by omega);rw[dP,dC] at q;obtain⟨r,s,t⟩:=k _ _ _ _ _ l q j;obtain⟨u,y,z⟩:=reads_rep k l m (b+eH L) cs fun i o=>by have:=p (i+1) (by omega);rwa [show b+(i+1) * (eH L)=b+eH L+i * (eH L) by rw[dm];omega] at this
  refine⟨r++u,s.append y,?_⟩;have d:(cs.drop b).take (shRep L (m+1)).length=(cs.drop b).take (eH L)++(cs.drop (b+eH L)).take (shRep L m).length:=by rw[shRep,dr,List.take_add,List.drop_drop]
  rw[d];exact t.append z
section
variable{H:Type}{enc:Ti×Vl->H}{P:Program}{w:World}{base:Nat}{spare:Nat->Bool}{held:Bool}{A:Nat->Prop}
theorem aF4(hA:∀b,A b):∀n:Nat,Reads enc P w base spare held A (ac5 P n)
 |0=>fun t L fuel cs x h=>by simp[ac5] at h
 |n+1=>fun t L fuel cs x h hx hfit=>by
  have ih:=aF4 hA n
  unfold ac5 at h
  split at h
  ·rename_i ht
   cases h
   obtain⟨b,rfl,_⟩:=DataW.trod_bool ht hx
   exact⟨[.val (.bool b)],.bool .nil,.one (.val rfl)⟩
  ·rename_i ht
   cases h
   obtain⟨m,rfl,_,hw⟩:=DataW.trod_int ht hx
   have hb: -9223372036854775808<=m/\m<=9223372036854775807:=by
    simp only[Lit.wf,cE,decide_eq_true_eq] at hw
    simpa[IntKind.min,IntKind.max,IntKind.signed,IntKind.bits] using hw
   exact⟨[.val (.int .i64 m)],.int hb.1 hb.2 .nil,.one (.val rfl)⟩
  ·rename_i e ht
   rw[dj] at h
   obtain⟨L0,h0,h⟩:=h
   split at h
   ·rename_i hb
    have hb:=cC hb
    cases h
    rcases DataW.trod_slice ht hx with⟨rfl,_⟩|⟨a,len,cap,elems,rest,m,_,rfl,hxe,hbase,hl,hm,hlen,hel,_,_⟩
    ·exact⟨[.sl L0.length []],.sl (fun e he=>by simp at he) (by simp) .nil,.one .slNil⟩
    ·have hfit:Fits ((elems.map (·.1)).length.add (rest.map (·.1)).length * P.bytesOf e::(DataW.weightsAll P e (elems.map (·.1))++DataW.weightsAll P e (rest.map (·.1)))):=by
      have:=hfit
      rw[hxe] at this
      dsimp only at this
      unfold DataW.weights at this
      rw[ht] at this
      exact this
     obtain⟨fit1,fit2⟩:=Fits.app (l:=[_]) hfit
     have fit3:=(Fits.app fit2).1
     obtain⟨es,e1,e2⟩:=ex_list (p:=fun j is=>DecL L0 is/\∃cs,(∀o,o<L0.length->w.cell? (a.add (j * L0.length+o))=cs[o]?)/\Shown w A is cs) len fun j hj=>by
      have hj':=hel j hj
      rw[cH (by omega),dj] at hj'
      obtain⟨cs,hcs,hy⟩:=hj'
      obtain⟨_,c1,c2⟩:=World.cells?_some hcs
      obtain⟨is,d1,d2⟩:=ih _ _ _ _ _ h0 hy (fits_all fit3 _ (ee.2 ⟨_,dQ _,rfl⟩))
      refine⟨is,d1,cs,fun o ho=> ?_,d2⟩
      rw[<- Addr.add_add,<- hb]
      exact c2 o (by rw[hb];exact ho)
     refine⟨[.sl L0.length es],.sl (fun e he=> ?_) ?_ .nil,.one ?_⟩
     ·obtain⟨i,hi⟩:=dD he
      exact(e2 i e hi).1
     ·simp only[Fits,List.all_cons,List.all_nil,Bool.and_true,decide_eq_true_eq,reachBytes,df] at fit1
      have:es.length * P.bytesOf e<=elems.length.add rest.length * P.bytesOf e:=dh _ (by rw[e1,hlen];exact Nat.le_add_right _ _)
      exact dF this (dF (of_decide_eq_true fit1) (by decide))
     ·subst e1
      have cell:∀(j:Nat) (e:List I) (o:Nat) (x:I),es[j]? =some e->e[o]? =some x->∃u,w.cell? (a.add (j * L0.length+o))=some u/\RelI w A x u:=fun j e o x hj ho=>by
       obtain⟨d1,cs,c1,c2⟩:=e2 j e hj
       have ho':=(lG.1 ho).1
       rw[d1.length] at ho'
       have hcs:o<cs.length:=by rw[<- c2.1,d1.length];exact ho'
       refine⟨cs[o],by rw[c1 o ho'];simp[hcs],c2.2 o x _ ho (by simp[hcs])⟩
      refine .sl (fun j o=>(w.cell? (a.add (j * L0.length+o))).getD undef) hl hm (fun j e hj=>(e2 j e hj).1.length) (fun j e o x hj ho=> ?_) (fun j e o x hj ho=> ?_)
      ·obtain⟨u,hu,_⟩:=cell j e o x hj ho
       rw[hu];exact⟨hA _,rfl⟩
      ·obtain⟨u,hu,hr⟩:=cell j e o x hj ho
       rw[hu];exact hr
   ·cases h
  ·rename_i fs ht
   rw[dj] at h
   obtain⟨L0,h0,h⟩:=h
   split at h
   ·rename_i hb
    have hb:=cC hb
    cases h
    obtain⟨xs,m,_,hxe,hlen,hxs,hf⟩:=DataW.trod_struct ht hx
    obtain⟨is,d1,d2⟩:=aD7 (H:=H) (base:=base) (spare:=spare) (held:=held) (A:=A) ih fs.toList 0 L cs h0 fun f hf'=>by
     obtain⟨i,hi⟩:=dD hf'
     have hi':fs[i]? =some f:=by simpa using hi
     have hl:i<xs.length:=by
      rw[hxs]
      exact(Array.getElem?_eq_some_iff.1 hi').1
     have hfit:Fits (DataW.weightsEach P (fs.toList.map (·.type)) (xs.map (·.1))):=by
      have:=hfit
      rw[hxe] at this
      dsimp only at this
      unfold DataW.weights at this
      rw[ht] at this
      exact this
     exact⟨m,xs[i],by rw[hf i f hi'];simp[hl],fits_each hfit i _ _ (by rw[lM,hi];rfl) (by simp[hl])⟩
    rw[dw,cV (by omega)] at d2
    exact⟨is,d1,d2⟩
   ·cases h
  ·rename_i m e ht
   rw[dj] at h
   obtain⟨L0,h0,h⟩:=h
   split at h
   ·rename_i hb
    simp only[cE] at hb
    have b1:=cC hb.1
    have b2:=cC hb.2
    cases h
    obtain⟨xs,q,_,hxe,hlen,hxs,hf⟩:=Go.DataW.trod_array ht hx
    obtain⟨is,d1,d2⟩:=reads_rep (H:=H) (base:=base) (spare:=spare) (held:=held) (A:=A) ih h0 m 0 cs fun i hi=>by
     have:=hf i hi
     rw[b1] at this
     have hfit:Fits (DataW.weightsAll P e (xs.map (·.1))):=by
      have:=hfit
      rw[hxe] at this
      dsimp only at this
      unfold DataW.weights at this
      rw[ht] at this
      exact this
     refine⟨q,xs[i]'(by omega),?_,fits_all hfit _ (ee.2 ⟨_,dQ _,rfl⟩)⟩
     rw[cQ,this]
     simp[hxs,hi]
    rw[dw,cV (by omega)] at d2
    exact⟨is,d1,d2⟩
   ·cases h
  ·cases h
end
def Y4(P:Program)(t:Ti)(a:List I):T:=match P.underlying t with
 |some (.struct _)=>.agg (a.map .imm)
 |some (.array _ _)=>.agg (a.map .imm)
 |_=>match a with
  |x::_=>.c (.imm x)
  |[]=>.undef
def ArgT(P:Program)(t:Ti)(x:T):Prop:=∃L a,ac5 P 9 t=some L/\DecL L a/\x=Y4 P t a
def relT_agg{A:Nat->Prop}{k:Phi}{d:List I}{cs:Array Vl}(h:Shown a A d cs.toList):RelT a k g A (.agg (d.map .imm)) (.agg cs):=by
 have e:cs=((List.range (d.map C.imm).length).map fun i=>(cs.toList[i]?).getD undef).toArray:=by apply Array.ext';simp only[];rw[df,h.1];apply cY;intro i;rw[lM];rcases cZ i (eH cs.toList) with b|b;rw[List.getElem?_range b,cM,cH b];rfl;rw[du b,du (by simpa using b)];rfl
 rw[e];refine .agg _ fun i c f=> ?_;rw[lM,oM] at f;obtain⟨x,j,rfl⟩:=f;have b:i<eH cs.toList:=by rw[<- h.1];exact(lG.1 j).1
 rw[cH b];exact .imm (h.2 i x _ j (cH b))
def argT{H:Type}{enc:Ti×Vl->H}{P:Program}{w:World}{base:Nat}{spare:Nat->Bool}{held:Bool}{A:Nat->Prop}{φ:Phi}{σ:b6}(hA:∀b,A b){r:Reach}{b0:Nat}{t:Ti}{v:Vl}{d:DataW H}{ps:List MemPlace}(hs:(ac5 P 9 t).isSome=true)(hok:Value.okWide P w r b0 t v)(hd:DataW.Trod enc P w base spare held t v d ps)(hfit:Fits (d.weights P t)):
  ∃x,ArgT P t x/\RelT w φ σ A x v:=by
 obtain⟨L,hL⟩:=dG.1 hs
 obtain⟨fuel,hf⟩:=hd
 obtain⟨is,d1,d2⟩:=aF4 hA 9 t L fuel _ _ hL hf hfit
 refine⟨Y4 P t is,⟨L,is,hL,d1,rfl⟩,?_⟩
 have hL0:=hL
 unfold ac5 at hL
 split at hL
 ·rename_i ht
  obtain⟨b,rfl⟩:=okWide_bool ht hok
  cases hL
  have hlen:=d1.length
  match is,hlen with
  |[x],_=>
   have:Y4 P t [x]=.c (.imm x):=by simp[Y4,ht]
   rw[this]
   exact .c (.imm (d2.2 0 x _ rfl rfl))
 ·rename_i ht
  obtain⟨b,rfl⟩:=okWide_int ht hok
  cases hL
  have hlen:=d1.length
  match is,hlen with
  |[x],_=>
   have:Y4 P t [x]=.c (.imm x):=by simp[Y4,ht]
   rw[this]
   exact .c (.imm (d2.2 0 x _ rfl rfl))
 ·rename_i e ht
  obtain⟨a,len,cap,rfl⟩:=okWide_slice ht hok
  rw[dj] at hL
  obtain⟨L0,_,hL⟩:=hL
  split at hL
  ·cases hL
   have hlen:=d1.length
   match is,hlen with
   |[x],_=>
    have:Y4 P t [x]=.c (.imm x):=by simp[Y4,ht]
    rw[this]
    exact .c (.imm (d2.2 0 x _ rfl rfl))
  ·cases hL
 ·rename_i fs ht
  obtain⟨cs,rfl,_⟩:=okWide_struct ht hok
  have:Y4 P t is=.agg (is.map .imm):=by simp[Y4,ht]
  rw[this]
  exact relT_agg d2
 ·rename_i m e ht
  have:∃cs,v=.agg cs:=by simp only[Value.okWide,ht] at hok;obtain⟨cs,h1,_⟩:=hok;exact⟨cs,h1⟩
  obtain⟨cs,rfl⟩:=this
  have:Y4 P t is=.agg (is.map .imm):=by simp[Y4,ht]
  rw[this]
  exact relT_agg d2
 ·cases hL
def ArgsT(P:Program):List Ti->List T->Prop
 |[],[]=>True
 |t::a,x::xs=>ArgT P t x/\ArgsT P a xs
 |_,_=>False
def argsT{B:Ti×Vl->A}{l:Nat->Bool}{held:Bool}{e:Nat->Prop}{φ:Phi}{σ:b6}(J:∀b,e b){r:Reach}:∀{s:List Ti} {vs:List Vl} {D:List (DataW A)} {K:List MemPlace},(∀t ∈ s,(ac5 c 9 t).isSome=true)->
  (∀(j:Nat) t v,s[j]? =some t->vs[j]? =some v->Value.okWide c a r p t v)->DataW.TrodAll B c a i l held s vs D K->Fits (DataW.weightsEach c s D)->
  ∃xs:List T,ArgsT c s xs/\(eH xs)=eH vs/\∀(f:Nat) (x:T) (u:Vl),xs[f]? =some x->vs[f]? =some u->RelT a φ σ e x u
 |[],[],[],_,_,_,_,_=>⟨[],trivial,rfl,fun f x u h=>by simp at h⟩
 |t::s,v::vs,d::D,K,L,z,h,k=>by
  unfold DataW.weightsEach at k;obtain⟨n,o⟩:=k.app;obtain⟨g,q,E,F,_⟩:=h;obtain⟨x,O,Q⟩:=argT (φ:=φ) (σ:=σ) J (L t (by simp)) (z 0 t v rfl rfl) E n;obtain⟨xs,U,V,X⟩:=argsT (φ:=φ) (σ:=σ) J (fun G H=>L G (by simp[H])) (fun j G P E F=>z (j+1) G P (by simpa using E) (by simpa using F)) F o;refine⟨x::xs,⟨O,U⟩,by simp[V],fun f y u M N=> ?_⟩;match f with
  |0=>cases M;cases N;exact Q
  |f+1=>exact X f y u (by simpa using M) (by simpa using N)
 |[],[],_::_,_,_,_,h,_=>h.elim
 |[],_::_,_,_,_,_,h,_=>by cases h
 |_::_,[],_,_,_,_,h,_=>by cases h
 |_::_,_::_,[],_,_,_,h,_=>h.elim
def good_all(W:World):Good ⟨W,fun _=>False,fun _=>none,[]⟩:=
 ⟨⟨fun i b h=>by simp at h,fun i j c d p q h=>by simp at h⟩,fun b h=>h.elim,fun i blk b a h=>by simp at h⟩
def al_all(φ:Phi)(b:Nat):Al (fun _=>False) φ [] b:=⟨id,fun i blk a h=>by simp at h⟩
def law_calls{P:Program}{f:FuncId}{vs:List Vl}(l:FnOk P f q [] fun r _=>r=.c (bool true))(n:eH q=eH vs)(o:∀(i:Nat) (x:T) (u:Vl),q[i]? =some x->vs[i]? =some u->RelT a (fun _=>none) [] (Al (fun _=>False) (fun _=>none) []) x u):
  Calls P f vs.toArray a fun e g=>e=.returned (.bool true)/\Below a.heap.size a g:=
 (l.run ⟨a,fun _=>False,fun _=>none,[]⟩ vs rfl (good_all a) n o).mono fun e g ⟨v,r,p,s,t,y,b,d⟩=>by
  subst y;cases b with|c b=>cases b with|imm b=>cases b with|val b=>
   exact⟨t,d.os,d.tape,d.output,d.size,fun k hk=>d.block k ⟨hk,fun i blk j h=>by simp at h⟩⟩
def stays_all{e:Ti×Vl->A}(n:laidOutB c=true){W:World}(o:Below W.heap.size W a){f:Nat->Bool}:∀{i:List Ti} {vs:List Vl} {j:List (DataW A)} {g:List MemPlace},(∀t ∈ i,c.readableRec t=true/\t<c.types.size)->
  DataW.TrodAll e c W 0 (fun _=>true) true i vs j g->(∀p ∈ g,p.block<W.heap.size)->(∀p ∈ g,f p.block=true)->DataW.TrodAll e c a 0 f true i vs j g
 |[],[],[],_,_,h,_,_=>h
 |t::i,v::vs,d::j,g,k,h,r,s=>by
  obtain⟨p,q,u,w,rfl⟩:=h;exact⟨p,q,WideElems.Trod_stays n (k t (by simp)).1 (k t (by simp)).2 u (fun x b=>o.same (r x (by simp[b]))) (fun x b=>s x (by simp[b])),
   stays_all n o (fun y l=>k y (by simp[l])) w (fun x b=>r x (by simp[b])) (fun x b=>s x (by simp[b])),rfl⟩
 |[],[],_::_,_,_,h,_,_=>h.elim
 |[],_::_,_,_,_,h,_,_=>by cases h
 |_::_,[],_,_,_,h,_,_=>by cases h
 |_::_,_::_,[],_,_,h,_,_=>h.elim
def trodAll_len{d:Ti×Vl->A}{b:Nat->Bool}{held:Bool}:∀{e:List Ti} {vs:List Vl} {f:List (DataW A)} {g:List MemPlace},DataW.TrodAll d c a i b held e vs f g->eH f=eH e
 |[],[],[],_,_=>rfl
 |_::_,_::_,_::_,_,⟨_,_,_,h,_⟩=>by simp[trodAll_len h]
 |[],[],_::_,_,h=>h.elim
 |[],_::_,_,_,h=>by cases h
 |_::_,[],_,_,h=>by cases h
 |_::_,_::_,[],_,h=>h.elim
def law_contract{H:Type}{enc:Ti×Vl->H}{P:Program}{f:FuncId}{fn:Func}{s:ChangeSpec}{tb:Ti}{apart fresh handsOn again:Bool}(hlo:laidOutB P=true)(hp:∀t ∈ fn.params.toList,(P.readableRec t=true/\t<P.types.size)/\(ac5 P 9 t).isSome=true)(hv:s.vars=[])(hr:fn.resultTypes=#[tb])(hb:P.underlying tb=some .bool)
  (hs:∀ds:List (DataW H),eH ds=eH fn.params.toList->s.fn H (ds++[])={results:=[.lit (.bool true)],args:=ds})
  (hlaw:∀xs:List T,ArgsT P fn.params.toList xs->FnOk P f xs [] fun r _=>r=.c (bool true))
  {W:World} {base:Nat} {args:Array Vl} {ds gs:List (DataW H)} {before:List MemPlace} (hz:(DataW.weightsEach P (fn.params.toList++s.plain.varTypes P) (ds++gs)).all (· <=reachBytes)=true) (hval:∀(j:Nat) t v,fn.params[j]? =some t->args[j]? =some v->Value.okWide P W .any base t v) (hW:DataW.Whole enc P fn.params.toList s.vars apart W args.toList ds gs before):
  Calls P f args W fun e W'=>∃v,e=.returned v/\s.post enc P fn apart fresh handsOn again W args v W':=by
 obtain⟨p,q,hA,hV,rfl,hfz,hnd⟩:=id hW
 rw[hv] at hV
 obtain⟨rfl,rfl⟩:=trodVars_none hV
 have hfit:Fits (DataW.weightsEach P fn.params.toList ds):=by
  have e:s.plain.varTypes P=[]:=by simp[DataSpec.varTypes,ChangeSpec.plain,hv]
  rw[e,dB,dB] at hz;exact hz
 obtain⟨xs,x1,x2,x3⟩:=argsT (φ:=fun _=>none) (σ:=[]) (al_all fun _=>none) (fun t ht=>(hp t ht).2) (fun j t v h1 h2=>hval j t v (by simpa using h1) (by simpa using h2)) hA hfit
 refine(law_calls (hlaw xs x1) x2 x3).mono fun e W' ⟨he,hbe⟩=>⟨_,he,?_⟩
 have hlt:∀x ∈ p++[],x.block<W.heap.size:=fun x hx=>hW.lt x hx
 have hS:=hs ds (trodAll_len hA)
 have hres:∀(b:Nat) (sp:Nat->Bool) (hd:Bool),DataW.TrodAll enc P W' b sp hd fn.resultTypes.toList ((Value.bool true).resultList fn.resultTypes.size) (s.fn H (ds++[])).results []:=fun b sp hd=>by rw[hS,hr];exact trodAll_mk1 (shut_bool hb true)
 have hargs:∀sp:Nat->Bool,(∀x ∈ p++[],sp x.block=true)->DataW.TrodAll enc P W' 0 sp true fn.params.toList args.toList (s.fn H (ds++[])).args p:=fun sp hsp=>by rw[hS];exact stays_all hlo hbe (fun t ht=>(hp t ht).1) hA (fun x hx=>hlt x (by simp[hx])) (fun x hx=>hsp x (by simp[hx]))
 have hvars:∀sp:Nat->Bool,DataW.TrodVars enc P W' sp s.vars (s.fn H (ds++[])).vars []:=fun sp=>by rw[hS,hv];rfl
 have hold:∀x ∈ p++[],(fun b=>decide (b<W.heap.size)) x.block=true:=fun x hx=>by simpa using hlt x hx
 refine⟨ds,[],p++[],[],p,[],hW,hres _ _ _,hargs _ hold,hvars _,World.keptBut_mono (fun x hx=>⟨hx,?_⟩) (hbe.frame (· ∈ p++[])),fun _=> ?_⟩
 ·simpa using hx
 ·refine⟨ok_one hr rfl (okWide_bool_mk hb true),_,_,([]++p)++[],⟨[]++p,[],trodAll_append (hargs _ (fun _ _=>rfl)) (hres _ _ _),hvars _,rfl,?_,?_⟩,?_⟩
  ·intro b off hx
   have hin:MemPlace.cell b off ∈ p++[]:=by simpa using hx
   rw[hbe.frozen (hlt _ hin)]
   exact hfz b off hin
  ·intro ha
   simpa using hnd ha
  ·intro x hx _
   simpa using hx
end
theorem AOps.shr{P:Program}{σ0:b6}{sz:Nat}{Q:Post}{env:Env}{σv:b6}{ops:Array Oper}{rest:List Oper}{dst:Option Nat}{ty:Ti}{pos:String}{after:Array Edge}{t t':Ti}{x y:Od}{k k':IntKind}{a b c:Int}(hx:ev env x=some (.c (.imm (.val (.int k a)))))(hy:ev env y=some (.c (.imm (.val (.int k' b)))))(hd:h9 sz dst=true)(hb:¬ b<0)(hr:a.fdiv (2 ^ (min b.toNat k.bits))=c)
  (h:AOps P σ0 sz ops Q rest (St.mk (putE env dst (.c (.imm (.val (.int k c))))) σv)):AOps P σ0 sz ops Q (⟨dst,.binOp .shr t x y t',ty,pos,after,none⟩::rest) (St.mk env σv):=
 .bin hx hy hd rfl (fun w=>by simp[go_sem]) (fun w=>by subst hr;simp[binOp,Op.shift,hb]) h
def AOps.andE{P:Program}{f:b6}{rest:List Oper}{e:Option Nat}{t j:Ti}{y:Od}{k:IntKind}{a b c:Int}(l:ev s L=some (.c (.imm (.val (.int k a)))))(n:ev s y=some (.c (.imm (.val (.int k b)))))(o:h9 i e=true)(p:Go.bits .and k a b=c)(h:AOps P g i v r rest (St.mk (putE s e (.c (.imm (.val (.int k c))))) f)):AOps P g i v r (⟨e,.binOp .and t L y j,d,B,H,none⟩::rest) (St.mk s f):=
 .bits l n o (.inl rfl) (by rw[p];exact h)
def AOps.mulE{P:Program}{f:b6}{rest:List Oper}{e:Option Nat}{t j:Ti}{y:Od}{k:IntKind}{a b c:Int}(l:ev s L=some (.c (.imm (.val (.int k a)))))(n:ev s y=some (.c (.imm (.val (.int k b)))))(o:h9 i e=true)(p:k.wrap (a * b)=c)(h:AOps P g i v r rest (St.mk (putE s e (.c (.imm (.val (.int k c))))) f)):AOps P g i v r (⟨e,.binOp .mul t L y j,d,B,H,none⟩::rest) (St.mk s f):=
 .mulW l n o (by rw[p];exact h)
def AOps.addE{P:Program}{f:b6}{rest:List Oper}{e:Option Nat}{t j:Ti}{y:Od}{k:IntKind}{a b c:Int}(l:ev s L=some (.c (.imm (.val (.int k a)))))(n:ev s y=some (.c (.imm (.val (.int k b)))))(o:h9 i e=true)(p:k.wrap (a+b)=c)(h:AOps P g i v r rest (St.mk (putE s e (.c (.imm (.val (.int k c))))) f)):AOps P g i v r (⟨e,.binOp .add t L y j,d,B,H,none⟩::rest) (St.mk s f):=
 .addW l n o (by rw[p];exact h)
def AOps.copy1{E:b6}{ops:Array Oper}{rest:List Oper}{K:Option Nat}{y:Od}{t t' e:Ti}{bytes:Nat}{z:Vl}{n:Nat}{F new:List (List C)}{v:T}[ht:TyD c t (.slice e)][hs:TyS c e 1 bytes z](hx:ev s L=some (.c (.own M p n)))(N:E[M]? =some (some (.cells 1 F)))(bi:0<n)(hy:ev s y=some v)(X:Src E 1 v new)(hd:h9 i K=true)(h:AOps c g i ops r rest (St.mk (putE s K (.c (int ((et (eH new) n:Nat):Int)))) (E.put M (some (.cells 1 (F.take p++new.take (et (eH new) n)++F.drop (p+(new.take (et (eH new) n)).length))))))):
  AOps c g i ops r (⟨K,.call ⟨.builtin .copy,#[L,y],#[t,t']⟩,d,B,H,none⟩::rest) (St.mk s E):=
 .valueW rfl hd _ _ (fun Γ φ a w P=>by
  obtain⟨b',J,q,ay,D⟩:=X.shows P hy;have hv:=H1 (m9 P hx) N;rcases hv with⟨_,_,_,h4⟩|⟨b,A,bj,G,a0,ad,hp,hv,a1,a5,a6,bk,O,bs⟩;omega;have:=a1 (by omega);subst this;obtain⟨a7,a8,Q,x,j,a2⟩:=N5 P N hp;rw[O] at Q;cases Q;generalize hm:et (eH new) n=m;have bv:m<=n:=by rw[<- hm];exact Nat.min_le_right _ _
  have aa:m<=eH new:=by rw[<- hm];exact Nat.min_le_left _ _
  have bx:eH q=eH new:=by rw[D.len,dI]
  have hf:(Builtin.firstCells 1 m (.slice b' (eH new) J)).run c w=.ok (q.take m).toArray w:=by
   cases b' with
   |none=>
    have ac:new=[]:=D.none rfl
    have a3:m=0:=by rw[ac] at aa;simpa using aa
    subst a3
    simp[Builtin.firstCells]
   |some ad=>exact run_firstCells_some w 1 m ad (eH new) J (q.take m) (by simp;omega) (fun f u U=>by rw[dt] at U;split at U;exact D.cell ad rfl f u U;cases U)
  have al:∀u ∈ q.take m,u.oneCell'=true:=fun u hu=>D.one u (List.mem_of_mem_take hu);have an:=run_storeCells_at c b (A+p * 1) a0 (q.take m) 0 G w O (by simp;omega) al;simp only[dC,dI] at an;have a4:(q.take m).length=m:=by simp;omega
  have ao:(new.take m).length=m:=by simp;omega
  rw[ao];have av:∀f:Nat,(F.take p++new.take m++F.drop (p+m))[f]? =if p<=f/\f<p+m then(new.take m)[f - p]? else F[f]? :=fun f=>by have:=D3 F (new.take m) p f (by omega);rwa [ao] at this
  have hW:=Rs.write (k:=1) (es':=F.take p++new.take m++F.drop (p+m)) (arr':=(G.toList.take (A+p)++q.take m++G.toList.drop (A+p+(q.take m).length)).toArray) P.toRs N hp O (by simp;omega) (by simp;omega) (fun f e' l=>by
    rw[av] at l;split at l;rw[dt] at l;split at l;exact D.hk _ _ l;cases l;exact j _ _ l) x (fun f e' o x' l V=>by
    rw[av] at l;simp only[dU];rw[D3 G.toList (q.take m) (A+p) (A+(f * 1+o)) (by simp;omega)];have ho:o=0:=by
     have be:eH e'=1:=by split at l;rw[dt] at l;split at l;exact D.hk _ _ l;cases l;exact j _ _ l
     have:=(lG.1 V).1;omega
    subst ho;rw[a4];by_cases U:p<=f/\f<p+m;rw[if_pos U] at l;rw[if_pos (by omega)];rw[dt,if_pos (by omega)] at l;obtain⟨u,hu,hr⟩:=D.rel _ _ _ _ l V;refine⟨u,?_,hr⟩;rw[dt,if_pos (by omega),<- hu];congr 1;omega;rw[if_neg U] at l;rw[if_neg (by omega)];obtain⟨u,hu,hr⟩:=a2 _ _ _ _ l V;exact⟨u,by simpa using hu,hr⟩)
  refine⟨.int .i64 m,_,φ,?_,.c (.imm (.val rfl)),P.of hW.1 hW.2⟩;have hz:=p7 (P:=c) (t:=e) w;simp[execOp,resolve,invoke,builtin,hv,ay,Builtin.copy_,run_underlying ht.h,hz,Builtin.lenOf,hm,hf,an];rfl) h
def AOps.copyE{a:b6}{ops:Array Oper}{rest:List Oper}{b:Option Nat}{y:Od}{t A e:Ti}{bytes:Nat}{z:Vl}{n m:Nat}{o es' new:List (List C)}{v:T}{f:b6}[J:TyD c t (.slice e)][K:TyS c e 1 bytes z](D:ev s L=some (.c (.own M p n)))(q:a[M]? =some (some (.cells 1 o)))(u:0<n)(E:ev s y=some v)(k:Src a 1 v new)(F:h9 i b=true)(w:et (eH new) n=m)(G:o.take p++new.take m++o.drop (p+m)=es')(l:a.put M (some (.cells 1 es'))=f)(h:AOps c g i ops r rest (St.mk (putE s b (.c (int (m:Int)))) f)):
  AOps c g i ops r (⟨b,.call ⟨.builtin .copy,#[L,y],#[t,A]⟩,d,B,H,none⟩::rest) (St.mk s a):=by
 subst l
 subst G
 refine .copy1 D q u E k F ?_
 rw[w]
 have:(new.take m).length=m:=by
  rw[dR];have:m<=eH new:=by rw[<- w];exact Nat.min_le_left _ _
  omega
 rw[this]
 exact h
def AOps.convE{P:Program}{rest:List Oper}{a:Option Nat}{e:Ti}{src:Ti}{k b:IntKind}{n c:Int}{dd:TypeDesc}[o:TyD P src dd][p:TyD P d (.int b)](f:ev s L=some (.c (.imm (.val (.int k n)))))(j:h9 i a=true)(l:b.wrap n=c)(h:AOps P g i v r rest (St.mk (putE s a (.c (.imm (.val (.int b c))))) t)):AOps P g i v r (⟨a,.convert src d L,e,B,H,none⟩::rest) (St.mk s t):=
 .convInt f j (by rw[l];exact h)
def aF0{rest:List Oper}{o:Oper}(k:o.guard=none){lo hi:Nat}{j n:Nat}{V:List (List C)}(hx:ev s L=some (.c (.own M j n)))(f:t[M]? =some (some (.cells p V)))(hb:lo<=hi/\hi<=n)(hd:h9 i o.dst=true)(key:∀(a:Act) (w:World) (B:Phi) (E:Cx),R E i (St.mk s t) B a w->∀(b:Option Addr) (d:Nat),a.eval L=.slice b n d->n<=d->(execOp a.eval o).run c w=.ok (.value (.slice (if d=lo then b else b.map (·.add (lo * p))) (hi - lo) (d - lo))) w)(h:AOps c g i v r rest (St.mk (putE s o.dst (.c (.own M (j+lo) (hi - lo)))) t)):AOps c g i v r (o::rest) (St.mk s t):=
 .value k hd _ (fun E B a w X=>by
  have l:=m9 X hx;have q:M.1<eH t:=b6.lt_of f;have D:=H1 l f;have key:=key a w B E X;generalize hu:a.eval L=u at D key;rcases D with⟨h1,h2,h3,h4⟩|⟨b,y,d,F,G,P,hp,D,H,Q,x,aa,J,K⟩;subst h3 h4;have h0:hi=0:=by omega
  have N:lo=0:=by omega
  subst h0 N;exact ⟨.slice none 0 0,by rw[key none 0 h2 (by omega)];simp,.c (.own q rfl fun k' O U=> (.inl ⟨h1,rfl,rfl,rfl⟩))⟩;rw[key _ _ D (by omega)];refine⟨_,rfl,.c (.own q rfl fun k' O U=> ?_)⟩;rw[f] at U;cases U;have z:∀e:Addr,(lo<d->e=P.add (lo * p))->ad5 w (B M) p (eH V) (j+lo) (hi - lo) (.slice (some e) (hi - lo) (d - lo)):=fun e h'=>by refine .inr ⟨b,y,d - lo,F,G,e,hp,rfl,fun hc=> ?_,by omega,by omega,by omega,J,?_⟩;rw[h' (by omega),H (by omega),H8,dm,dW];rw[show j+lo+(d - lo)=j+d by omega];exact K
  by_cases A:d=lo;rw[if_pos A];exact z P (fun h=>by omega);rw[if_neg A];exact z _ (fun _=>rfl)) h
def AOps.sliceOwnTo{P:Program}{Q:Post}{l:b6}{rest:List Oper}{o:Option Nat}{r:Od}{t e:Ti}{bytes:Nat}{z:Vl}{u:IntKind}{q:Nat}{j n:Nat}{G:List (List C)}[J:TyD P t (.slice e)][x:TyS P e p bytes z](K:ev s L=some (.c (.own M j n)))(A:l[M]? =some (some (.cells p G)))(N:ev s r=some (.c (.imm (.val (.int u (q:Int))))))(O:q<=n)(U:h9 i o=true)(h:AOps P g i v Q rest (St.mk (putE s o (.c (.own M j q))) l)):AOps P g i v Q (⟨o,.slice t L none (some r) none,d,B,H,none⟩::rest) (St.mk s l):=
 aF0 (lo:=0) (hi:=q) rfl K A ⟨Nat.zero_le _,O⟩ U (fun a w φ Γ V b D X F=>by have E:=aa2 (P:=P) w (y:=D) (c:=.sliceAcap) (kk:=u) (i:=(q:Int)) (by omega);simp[execOp,X,z7 V N,Instr.sliceAt,Instr.slice,Instr.sliceBounds,run_underlying J.h,p7 (t:=e),E];done) (by simpa using h)
def AOps.sliceOwnFrom{P:Program}{o:b6}{rest:List Oper}{q:Option Nat}{l:Od}{t e:Ti}{bytes:Nat}{z:Vl}{A:IntKind}{u:Nat}{j n:Nat}{G:List (List C)}[J:TyD P t (.slice e)][x:TyS P e p bytes z](K:ev s L=some (.c (.own M j n)))(D:o[M]? =some (some (.cells p G)))(N:ev s l=some (.c (.imm (.val (.int A (u:Int))))))(O:u<=n)(U:h9 i q=true)(h:AOps P g i v r rest (St.mk (putE s q (.c (.own M (j+u) (n - u)))) o)):AOps P g i v r (⟨q,.slice t L (some l) none none,d,B,H,none⟩::rest) (St.mk s o):=
 aF0 (lo:=u) (hi:=n) rfl K D ⟨O,dq _⟩ U (fun a w φ Γ V b X Q F=>by have E:=aa2 (P:=P) w (y:=n) (c:=.sliceB) (kk:=A) (i:=(u:Int)) (by omega);simp[execOp,Q,z7 V N,Instr.sliceAt,Instr.slice,Instr.sliceBounds,run_underlying J.h,p7 (t:=e),E];done) h
/-! ## Words -/
def w64(n:Int):Int:=IntKind.i64.wrap n
def w64_eq{n:Int}(h: -9223372036854775808<=n/\n<=9223372036854775807):w64 n=n:=wrap_i64 h
def ix(l:List A)(i:Int):Option A:=if 0<=i then l[i.toNat]? else none
def app(b:Nat)(l new:List A):Option (List A):=if(eH l+eH new) * b<=140737488355328 then some (l++new) else none
def mkL(b:Nat)(n:Int)(z:A):Option (List A):=if 0<=n/\n<=9223372036854775807/\(b:Int) * n<=281474976710656 then some (cK n.toNat z) else none
def subL(l:List A)(a b:Int):Option (List A):=if 0<=a/\a<=b/\b<=eH l then some ((l.take b.toNat).drop a.toNat) else none
def quo(a b:Int):Option Int:=if b=0 then none else some (w64 (a.tdiv b))
def rem(a b:Int):Option Int:=if b=0 then none else some (a.tmod b)
def bind_some{a:Type}{m:Option A}{K:A->Option a}{r:a}(h:m.bind K=some r):∃x,m=some x/\K x=some r:=by
 cases m with
 |none=>cases h
 |some x=>exact⟨x,rfl,h⟩
def b2{a b:Type}{m:Option A}{n:A->Option a}{K:A->a->Option b}{r:b}(h:(m.bind fun x=>(n x).bind (K x))=some r):∃x,m=some x/\∃y,n x=some y/\K x y=some r:=by obtain⟨x,c,d⟩:=bind_some h;obtain⟨y,e,f⟩:=bind_some d;exact⟨x,c,y,e,f⟩
def b3{a b c:Type}{m:Option A}{n:A->Option a}{l:A->a->Option c}{K:A->a->c->Option b}{r:b}(h:(m.bind fun x=>(n x).bind fun y=>(l x y).bind (K x y))=some r):∃x,m=some x/\∃y,n x=some y/\∃z,l x y=some z/\K x y z=some r:=by obtain⟨x,d,e⟩:=bind_some h;obtain⟨y,f,z,g⟩:=b2 e;exact⟨x,d,y,f,z,g⟩
def bB{c:Type}{G:Prop}{m:Option A}{K:A->Option c}{r:c}(h:m.bind K=some r)(k:∀x,m=some x->K x=some r->G):G:=by obtain⟨x,a,b⟩:=bind_some h;exact k x a b
def bC{c d:Type}{G:Prop}{m:Option A}{n:A->Option c}{K:A->c->Option d}{r:d}(h:(m.bind fun x=>(n x).bind (K x))=some r)(k:∀x,m=some x->∀y,n x=some y->K x y=some r->G):G:=
  bB h fun x a h=>bB h fun y b h=>k x a y b h
def bD{d e f:Type}{G:Prop}{m:Option A}{n:A->Option d}{l:A->d->Option f}{K:A->d->f->Option e}{r:e}(h:(m.bind fun x=>(n x).bind fun y=>(l x y).bind (K x y))=some r)(k:∀x,m=some x->∀y,n x=some y->∀z,l x y=some z->K x y z=some r->G):G:=
  bB h fun x a h=>bC h fun y b z c h=>k x a y b z c h
def LoopN{O:Type}(a:A->Option (A⊕O)):Nat->A->Option O
 |0,_=>none
 |n+1,s=>match a s with
  |none=>none
  |some (.inl b)=>LoopN a n b
  |some (.inr o)=>some o
def aC8{O:Type}{a:A->Option (A⊕O)}{o:O}:∀{n m:Nat} {s:A},n<=m->LoopN a n s=some o->LoopN a m s=some o
 |0,m,s,_,h=>by cases h
 |n+1,0,s,c,h=>by omega
 |n+1,m+1,s,c,h=>by
  simp only[LoopN] at h ⊢;cases b:a s with
  |none=>rw[b] at h;cases h
  |some x=>
   rw[b] at h
   cases x with
   |inl d=>exact aC8 (by omega) h
   |inr e=>exact h
def LoopN_det{O:Type}{a:A->Option (A⊕O)}{o d:O}{s:A}(h:LoopN a i s=some o)(b:LoopN a p s=some d):o=d:=by rcases Nat.le_total i p with c|c;rw[aC8 c h] at b;exact Option.some.inj b;rw[aC8 c b] at h;exact(Option.some.inj h).symm
noncomputable def Loop{O:Type}(a:A->Option (A⊕O))(s:A):Option O:=match LoopN a 100000 s with
 |some o=>some o
 |none=>open Classical in if h:∃o n,LoopN a n s=some o then some h.choose else none
def S7{O:Type}{a:A->Option (A⊕O)}{s:A}{o:O}:Loop a s=some o↔∃n,LoopN a n s=some o:=by unfold Loop;constructor;intro h;split at h;rename_i c;exact⟨_,c.trans h⟩;split at h;rename_i b;cases h;exact b.choose_spec;cases h;rintro ⟨n,d⟩;split;rename_i c;rw[LoopN_det c d];have b:∃o n,LoopN a n s=some o:=⟨o,n,d⟩;rw[dif_pos b];obtain⟨m,e⟩:=b.choose_spec;rw[LoopN_det e d]
def av4{O:Type}(a:A->Option (A⊕O))(s:A):Loop a s=match a s with
  |none=>none
  |some (.inl d)=>Loop a d
  |some (.inr o)=>some o:=by
 apply Option.ext
 intro o
 rw[S7]
 constructor
 ·rintro ⟨n,b⟩
  cases n with
  |zero=>cases b
  |succ n=>
   simp only[LoopN] at b
   cases c:a s with
   |none=>rw[c] at b;cases b
   |some x=>
    rw[c] at b
    cases x with
    |inl d=>exact S7.2 ⟨n,b⟩
    |inr e=>exact b
 ·intro h
  cases c:a s with
  |none=>rw[c] at h;cases h
  |some x=>
   rw[c] at h
   cases x with
   |inl d=>
    obtain⟨n,b⟩:=S7.1 h
    exact⟨n+1,by simp only[LoopN,c];exact b⟩
   |inr e=>exact⟨1,by simp only[LoopN,c];exact h⟩
def rngN{O:Type}(a:Int->A->Option (A⊕O)):Nat->Int->A->Option (A⊕O)
 |0,_,s=>some (.inl s)
 |n+1,i,s=>match a i s with
  |none=>none
  |some (.inl b)=>rngN a n (i+1) b
  |some (.inr o)=>some (.inr o)
def rngX{O:Type}(b n:Int)(a:Int->A->Option (A⊕O))(s:A):Option (A⊕O):=rngN a (n - b).toNat b s
def forN(a:Int->A->Option A):Nat->Int->A->Option A
 |0,_,s=>some s
 |n+1,i,s=>match a i s with
  |none=>none
  |some b=>forN a n (i+1) b
def forR(b n:Int)(a:Int->A->Option A)(s:A):Option A:=forN a (n - b).toNat b s
/-! ## Rules for code -/
def AWP.O{P:Program}{Q:Post}{c d:Code}{p:Prop}[Decidable p]{a B:Option A}{r:A}(e:ev s L=some (.c (bool (decide p))))(h:(if p then a else B)=some r)(f:p->a=some r->AWP P g i c Q (St.mk s t))(j:¬ p->B=some r->AWP P g i d Q (St.mk s t)):AWP P g i (.cond L c d) Q (St.mk s t):=
 .condD e (fun b=>f b (by rwa [if_pos b] at h)) (fun b=>j b (by rwa [if_neg b] at h))
def AWP.iteN{P:Program}{Q:Post}{c d:Code}{p:Prop}[Decidable p]{a B:Option A}{r:A}(e:ev s L=some (.c (bool (!decide p))))(h:(if p then a else B)=some r)(f:¬ p->B=some r->AWP P g i c Q (St.mk s t))(j:p->a=some r->AWP P g i d Q (St.mk s t)):AWP P g i (.cond L c d) Q (St.mk s t):=
 .condN e (fun b=>f b (by rwa [if_neg b] at h)) (fun b=>j b (by rwa [if_pos b] at h))
def AWP.U{P:Program}{Q:Post}{c d:Code}{b:Bool}{a B:Option A}{r:A}(f:ev s L=some (.c (bool b)))(h:(if b=true then a else B)=some r)(j:b=true->a=some r->AWP P g i c Q (St.mk s t))(k:b=false->B=some r->AWP P g i d Q (St.mk s t)):AWP P g i (.cond L c d) Q (St.mk s t):=
 .cond f (fun e=>j e (by rwa [if_pos e] at h)) (fun e=>k e (by rwa [if_neg (by simp[e])] at h))
def AWP.weak{P:Program}{c:Code}{s:St}(h:AWP P g i c (fun e st=>∃J,Sub g st J/\r e J) s):AWP P g i c r s:=fun n o a w b p q j=>
 wpIn_mono (h n o a w b p q j) fun e t u ⟨y,k,⟨J,v,x⟩,l⟩=>by obtain⟨d,f⟩:=v n i k t u b l;exact⟨J,d,x,f⟩
def AWP.condP{P:Program}{c d:Code}{p:Prop}[Decidable p](a:ev s L=some (.c (bool (decide p))))(b:p)(h:AWP P g i c r (St.mk s t)):AWP P g i (.cond L c d) r (St.mk s t):=.condD a (fun _=>h) (fun e=>absurd b e)
def AWP.condNP{P:Program}{c d:Code}{p:Prop}[Decidable p](a:ev s L=some (.c (bool (decide p))))(b:¬ p)(h:AWP P g i d r (St.mk s t)):AWP P g i (.cond L c d) r (St.mk s t):=.condD a (fun e=>absurd e b) (fun _=>h)
def EntOk(n:Nat):Ent->Prop
 | .dead=>True
 | .one b=>b.ok n=true
 | .node m s=>∀(p:List Nat) (b:Blk),(Ent.node m s).sub p=some b->b.ok n=true
def StOk(n:Nat):b6->Prop
 |[]=>True
 |e::r=>EntOk n e/\StOk n r
def EntOk.get{n:Nat}{e:Ent}(h:EntOk n e){p:List Nat}{b:Blk}(a:e.sub p=some b):b.ok n=true:=by
 cases e with
 |dead=>cases p<;>cases a
 |one c=>cases p with
  |nil=>cases a;exact h
  |cons=>cases a
 |node m s=>exact h p b a
def StOk.get{n:Nat}:∀{σ:b6},StOk n σ->∀(i:Id) (b:Blk),σ[i]? =some (some b)->b.ok n=true
 |[],_,i,b,h=>by simp at h
 |e::r,h,(0,p),b,a=>by rw[b6.at_eq] at a;simp only[b6.at,cD,Option.some.injEq] at a;exact h.1.get a
 |e::r,h,(i+1,p),b,a=>StOk.get (σ:=r) h.2 (i,p) b (by rw[b6.at_eq] at a ⊢;simpa[b6.at] using a)
def Sub.tail{c:Env}{a σ:b6}(k:∃e,a=σ++e)(h:K7 s c)(l:de (eH g) (eH σ)=true)(n:StOk (eH σ) σ)(o:V7 (eH σ) c=true):Sub g ⟨s,a⟩ ⟨c,σ⟩:=by obtain⟨e,rfl⟩:=k;refine Sub.mk (fun i=>i) (fun i _=>rfl) (cO l) (fun i j b p _ _ h=>h) (fun i b d=>⟨n.get i b d,?_⟩) (fun t v f=>⟨an2 o t v f,?_⟩);rw[Blk.ren_id,b6.get_left (b6.lt_of d)];exact d;rw[T.ren_id];exact h.get t v f
def AWP.seqJ{P:Program}{c d:Code}(J:St)(b:AWP P g i c (thn (fun a=>Sub g a J) r) (St.mk s t))(f:AWP P g i d r J):AWP P g i (.seq c d) r (St.mk s t):=
 .j (b.mono fun e a h=>by
  cases e with
  |normal=>exact AWP.sub h f
  |_=>exact h)
def AWP.seqF{P:Program}{Q:Post}{b:Type}{c d:Code}(j:A->Option b)(r:b)(J:A->St)(f:∀x,j x=some r->AWP P g i d Q (J x))(k:AWP P g i c (thn (fun a=>∃x,j x=some r/\Sub g a (J x)) Q) (St.mk s t)):AWP P g i (.seq c d) Q (St.mk s t):=
 .j (k.mono fun e a h=>by
  cases e with
  |normal=>obtain⟨x,l,n⟩:=h;exact AWP.sub n (f x l)
  |_=>exact h)
def AWP.loopS{P:Program}{O:Type}{c:Code}{b:A->Option (A⊕O)}{v:A}{o:O}(h:Loop b v=some o)(F:A->St)(z:O->Post)(B:Sub g (St.mk s t) (F v))(d:∀a l,b a=some l->AWP P g i c (thn (fun st=>∃u,l=.inl u/\Sub g st (F u)) (fun e st=>∃o,l=.inr o/\z o e st)) (F a))(j:∀e a,z o e a->∃J,Sub g a J/\r e J):AWP P g i (.loop c) r (St.mk s t):=by
 obtain⟨n,D⟩:=S7.1 h
 refine AWP.weak ?_
 refine AWP.loop (X:=A×Nat) (fun x=>F x.1) (fun x=>LoopN b x.2 x.1=some o) (fun x=>x.2) (v,n) B D ?_
 rintro ⟨a,n⟩ f
 dsimp only at f ⊢
 cases n with
 |zero=>cases f
 |succ n=>
  simp only[LoopN] at f
  cases w:b a with
  |none=>rw[w] at f;cases f
  |some x=>
   rw[w] at f
   refine(d a x w).mono fun e st p=> ?_
   cases x with
   |inl u=>
    cases e with
    |normal=>
     obtain⟨y,k,q⟩:=p
     cases k
     exact⟨(u,n),q,f,Nat.lt_succ_self n⟩
    |_=>obtain⟨l,k,_⟩:=p;cases k
   |inr l=>
    cases f
    cases e with
    |normal=>obtain⟨y,k,_⟩:=p;cases k
    |_=>obtain⟨l,k,p⟩:=p;cases k;exact j _ _ p
def AWP.rngS{P:Program}{O:Type}{c:Code}{d:Int->A->Option (A⊕O)}{v n:Int}{E:A}{o:A⊕O}(h:rngX v n d E=some o)(F:Int->A->St)(G:A⊕O->Post)(M:Sub g (St.mk s t) (F v E))(y:∀a b,v<=a->¬ a<n->o=.inl b->AWP P g i c (thn (fun _=>False) (G (.inl b))) (F a b))(l:∀a b w,v<=a->a<n->d a b=some w->AWP P g i c (thn (fun st=>∃D,w=.inl D/\Sub g st (F (a+1) D)) (fun e st=>∃o,w=.inr o/\G (.inr o) e st)) (F a b))(f:∀e b,G o e b->∃J,Sub g b J/\r e J):AWP P g i (.loop c) r (St.mk s t):=by
 refine AWP.weak ?_
 refine AWP.loop (X:=A×Int) (fun x=>F x.2 x.1) (fun x=>v<=x.2/\rngN d (n - x.2).toNat x.2 x.1=some o) (fun x=>(n - x.2).toNat) (E,v) M ⟨Int.le_refl _,h⟩ ?_
 rintro ⟨b,a⟩ ⟨q,j⟩
 dsimp only at j q ⊢
 by_cases z:a<n
 ·obtain⟨k,hk⟩:∃k,(n - a).toNat=k+1:=⟨(n - a).toNat - 1,by omega⟩
  have H:(n - (a+1)).toNat=k:=by omega
  rw[hk] at j
  simp only[rngN] at j
  cases K:d a b with
  |none=>rw[K] at j;cases j
  |some x=>
   rw[K] at j
   refine(l a b x q z K).mono fun e st p=> ?_
   cases x with
   |inl D=>
    cases e with
    |normal=>
     obtain⟨L,u,B⟩:=p
     cases u
     refine⟨(D,a+1),B,⟨by dsimp only;omega,?_⟩,by dsimp only;omega⟩
     dsimp only
     rw[H];exact j
    |_=>obtain⟨w,u,_⟩:=p;cases u
   |inr w=>
    cases j
    cases e with
    |normal=>obtain⟨L,u,_⟩:=p;cases u
    |_=>obtain⟨w,u,p⟩:=p;cases u;exact f _ _ p
 ·have:(n - a).toNat=0:=by omega
  rw[this] at j
  simp only[rngN] at j
  cases j
  refine(y a b q z rfl).mono fun e st p=> ?_
  cases e with
  |normal=>exact p.elim
  |_=>exact f _ _ p
def aC4{a:Int->A->Option A}{b:A}:∀{n:Nat} {i:Int} {s:A},forN a n i s=some b->rngN (O:=Empty) (fun i s=>(a i s).map .inl) n i s=some (.inl b)
 |0,i,s,h=>by cases h;rfl
 |n+1,i,s,h=>by
  simp only[forN] at h;simp only[rngN];cases c:a i s with
  |none=>rw[c] at h;cases h
  |some x=>
   rw[c] at h
   exact aC4 h
def AWP.forS{P:Program}{c:Code}{d:Int->A->Option A}{p n:Int}{z o:A}(h:forR p n d z=some o)(F:Int->A->St)(q:A->Post)(D:Sub g (St.mk s t) (F p z))(l:∀a b,p<=a->¬ a<n->o=b->AWP P g i c (thn (fun _=>False) (q b)) (F a b))(f:∀a b u,p<=a->a<n->d a b=some u->AWP P g i c (thn (fun st=>Sub g st (F (a+1) u)) (fun _ _=>False)) (F a b))(j:∀e b,q o e b->∃J,Sub g b J/\r e J):AWP P g i (.loop c) r (St.mk s t):=by
 refine AWP.rngS (O:=Empty) (aC4 h) F (fun| .inl b=>q b| .inr e=>e.elim) D (fun a b v w k=>l a b v w (by cases k;rfl)) (fun a b u v w k=> ?_) j
 cases y:d a b with
 |none=>rw[y] at k;cases k
 |some x=>
  rw[y] at k
  cases k
  refine(f a b x v w y).mono fun e st B=> ?_
  cases e with
  |normal=>exact⟨x,rfl,B⟩
  |_=>exact B.elim
/-! ## Rules for operations -/
abbrev row{α:Type}(k:Nat)(f:α->List I)(l:List α):C:=.imm (.sl k (l.map f))
abbrev vec(k:Nat)(f:A->List I)(l:List A):Blk:=Blk.im k (l.map f)
def S4{i:Int}{x:A}(h:ix Q i=some x):0<=i/\Q[i.toNat]? =some x:=by unfold ix at h;split at h;exact⟨‹_›,h⟩;cases h
def S.idx{n:b6}{rest:List Oper}{j:Option Nat}{f:A->List I}{l:List A}{y:Od}{t e:Ti}{bytes:Nat}{z:Vl}{u:IntKind}{b:Int}{a:A}{o:List I}[G:TyD c t (.slice e)][J:TyS c e p bytes z](q:ix l b=some a)(w:ev s L=some (.c (row p f l)))(D:ev s y=some (.c (.imm (.val (.int u b)))))(E:f a=o)(F:h9 i j=true)(h:AOps c g i v r rest (St.mk (putE s j (.c (.imm (.ipt o)))) n)):AOps c g i v r (⟨j,.indexAddr t L y,d,B,H,none⟩::rest) (St.mk s n):=
 .indexAddr w D (S4 q).1 (by rw[lM,(S4 q).2,<- E];rfl) F h
def S.len{P:Program}{sz:Nat}{env:Env}{b:b6}{rest:List Oper}{a:Option Nat}{ty:Ti}{f:A->List I}{l:List A}{t:Ti}{k:Nat}[n:TyD P t (.slice d)](i:ev env L=some (.c (row k f l)))(j:h9 sz a=true)(h:eH l<=9223372036854775807->AOps P g sz v r rest (St.mk (putE env a (.c (int (eH l)))) b)):AOps P g sz v r (⟨a,.call ⟨.builtin .len,#[L],#[t]⟩,ty,B,H,none⟩::rest) (St.mk env b):=
 .lenB i j h
def S.add{f:b6}{rest:List Oper}{e:Option Nat}{t j:Ti}{y:Od}{a b:Int}(k:ev s L=some (.c (int a)))(l:ev s y=some (.c (int b)))(n:h9 i e=true)(h:AOps c g i v r rest (St.mk (putE s e (.c (int (w64 (a+b))))) f)):AOps c g i v r (⟨e,.binOp .add t L y j,d,B,H,none⟩::rest) (St.mk s f):=.addW k l n h
def S.sub{f:b6}{rest:List Oper}{e:Option Nat}{t j:Ti}{y:Od}{a b:Int}(k:ev s L=some (.c (int a)))(l:ev s y=some (.c (int b)))(n:h9 i e=true)(h:AOps c g i v r rest (St.mk (putE s e (.c (int (w64 (a - b))))) f)):AOps c g i v r (⟨e,.binOp .sub t L y j,d,B,H,none⟩::rest) (St.mk s f):=.subW k l n h
def S.mul{f:b6}{rest:List Oper}{e:Option Nat}{t j:Ti}{y:Od}{a b:Int}(k:ev s L=some (.c (int a)))(l:ev s y=some (.c (int b)))(n:h9 i e=true)(h:AOps c g i v r rest (St.mk (putE s e (.c (int (w64 (a * b))))) f)):AOps c g i v r (⟨e,.binOp .mul t L y j,d,B,H,none⟩::rest) (St.mk s f):=.mulW k l n h
def S.neg{e:b6}{rest:List Oper}{b:Option Nat}{a:Int}{t:Ti}(f:ev s L=some (.c (int a)))(j:h9 i b=true)(h:AOps c g i v r rest (St.mk (putE s b (.c (int (w64 (0 - a))))) e)):AOps c g i v r (⟨b,.unOp .neg t L,d,B,H,none⟩::rest) (St.mk s e):=.neg f j h
def rv{b:Nat}{z:Vl}{d:TypeDesc}(a:Nat)[h:TyD c i d][k:TyS c i p b z](f:D8 d=true):RV.ok c (.cell a i p):=by obtain⟨e,g,j,_⟩:=k.h;exact⟨d,e,h.h,f,g,j⟩
def ite_none{p:Prop}[Decidable p]{m:Option A}{r:A}(h:(if p then m else none)=some r):p/\m=some r:=by by_cases a:p;exact⟨a,by rwa [if_pos a] at h⟩;rw[if_neg a] at h;cases h
def G5{p:Prop}[Decidable p]{m k:Option A}{r:A}(a:decide p=true)(h:(if p then m else k)=some r):m=some r:=by rwa [if_pos (of_decide_eq_true a)] at h
def G1{p:Prop}[Decidable p]{m k:Option A}{r:A}(a:decide p=false)(h:(if p then m else k)=some r):k=some r:=by rwa [if_neg (of_decide_eq_false a)] at h
def y5{b:Bool}{m k:Option A}{r:A}(a:b=true)(h:(if b=true then m else k)=some r):m=some r:=by rwa [if_pos a] at h
def y6{b:Bool}{m k:Option A}{r:A}(a:b=false)(h:(if b=true then m else k)=some r):k=some r:=by rwa [if_neg (by simp[a])] at h
def ab4{a b:Bool}(h:a=true):(a && b)=b:=by rw[h];rfl
def ae1{a b:Bool}(h:a=false):(a && b)=false:=by rw[h];rfl
def or_t{a b:Bool}(h:a=true):(a||b)=true:=by rw[h];rfl
def or_f{a b:Bool}(h:a=false):(a||b)=b:=by rw[h];rfl
def ArgsT.len{P:Program}:∀{a:List Ti} {xs:List T},ArgsT P a xs->eH xs=eH a
 |[],[],_=>rfl
 |_::_,_::_,h=>by simp[ArgsT.len h.2]
 |[],_::_,h=>h.elim
 |_::_,[],h=>h.elim
def dec_int{L:List Sh}{a:List I}(h:DecL (.int::L) a):∃(n:Int) (r:List I),a=.val (.int .i64 n)::r/\(-9223372036854775808<=n/\n<=9223372036854775807)/\DecL L r:=by
 cases h with
 |int b c h=>exact⟨_,_,rfl,⟨b,c⟩,h⟩
def dec_nil{a:List I}(h:DecL [] a):a=[]:=by cases h;rfl
def dec_list{α:Type}{L0:List Sh}{f:α->List I}{p:α->Prop}(hf:∀e,DecL L0 e->∃a,e=f a/\p a):∀{es:List (List I)},(∀e ∈ es,DecL L0 e)->∃l:List α,es=l.map f/\∀a ∈ l,p a
 |[],_=>⟨[],rfl,fun a h=>by simp at h⟩
 |e::es,h=>by obtain⟨a,rfl,ha⟩:=hf e (h e (by simp));obtain⟨l,rfl,hl⟩:=dec_list hf (es:=es) fun e he=>h e (by simp[he]);exact⟨a::l,rfl,fun b hb=>by rcases dN.1 hb with rfl|hb;exact ha;exact hl b hb⟩
def dec_sl{c L:List Sh}{p:A->Prop}(g:∀e,DecL c e->∃a,e=V a/\p a){d:List I}(h:DecL (.sl c i::L) d):∃(l:List A) (r:List I),d=.sl (eH c) (l.map V)::r/\(eH l * i<=140737488355328/\∀a ∈ l,p a)/\DecL L r:=by
 cases h with
 |sl j k h=>
  obtain⟨l,rfl,n⟩:=dec_list g j
  exact⟨l,_,rfl,⟨by simpa using k,n⟩,h⟩
section
open Go.Proofs
open Tryz
theorem TyS.of{bytes:Nat}{z:Vl}(h:(c.info? i).map (fun a=>(a.size,a.bytes,a.zero))=some (p,bytes,some z)):TyS c i p bytes z:=by obtain⟨a,d,b⟩:=oM.1 h;simp only[eu.injEq] at b;exact⟨a,d,b.1,b.2.1,b.2.2⟩
instance:TyD prog 3 (TypeDesc.int IntKind.i64):=⟨underlying3⟩
instance:TyS prog 3 1 8 (.int .i64 0):=.of (by kernel_rfl)
instance:TyZ prog 3 [.imm (.val (.int .i64 0))]:=.of rfl
instance:TyD prog 4 (TypeDesc.bool):=⟨underlying4⟩
instance:TyS prog 4 1 1 (.bool false):=.of (by kernel_rfl)
instance:TyZ prog 4 [.imm (.val (.bool false))]:=.of rfl
instance:TyD prog 5 (TypeDesc.int IntKind.u8):=⟨underlying5⟩
instance:TyS prog 5 1 1 (.int .u8 0):=.of (by kernel_rfl)
instance:TyZ prog 5 [.imm (.val (.int .u8 0))]:=.of rfl
instance:TyD prog 9 (TypeDesc.string):=⟨underlying9⟩
instance:TyD prog 22 (TypeDesc.slice 3):=⟨underlying22⟩
instance:TyS prog 22 1 24 (.slice none 0 0):=.of (by kernel_rfl)
instance:TyZ prog 22 [.imm (.val (.slice none 0 0))]:=.of rfl
instance:TyD prog 23 (TypeDesc.slice 40):=⟨underlying23⟩
instance:TyS prog 23 1 24 (.slice none 0 0):=.of (by kernel_rfl)
@[reducible, instance] def tyq25 := TyD.mk (P := prog) (t := 25) underlying25
instance:TyS prog 25 4 80 (.agg #[.int .i64 0,.slice none 0 0,.slice none 0 0,.slice none 0 0]):=.of (by kernel_rfl)
instance:TyZ prog 25 [.imm (.val (.int .i64 0)),.imm (.val (.slice none 0 0)),.imm (.val (.slice none 0 0)),.imm (.val (.slice none 0 0))]:=.of rfl
instance:FlatC prog 25 4:=.of rfl rfl
instance:TyD prog 26 (TypeDesc.slice 95):=⟨underlying26⟩
@[reducible, instance] def tyq28 := TyD.mk (P := prog) (t := 28) underlying28
instance:TyS prog 28 2 16 (.agg #[.int .i64 0,.int .i64 0]):=.of (by kernel_rfl)
instance:TyZ prog 28 [.imm (.val (.int .i64 0)),.imm (.val (.int .i64 0))]:=.of rfl
instance:FlatC prog 28 2:=.of rfl rfl
@[reducible, instance] def tyq30 := TyD.mk (P := prog) (t := 30) underlying30
instance:TyS prog 30 2 16 (.agg #[.int .i64 0,.int .i64 0]):=.of (by kernel_rfl)
instance:TyZ prog 30 [.imm (.val (.int .i64 0)),.imm (.val (.int .i64 0))]:=.of rfl
instance:FlatC prog 30 2:=.of rfl rfl
instance:TyD prog 34 (TypeDesc.slice 22):=⟨underlying34⟩
instance:TyS prog 34 1 24 (.slice none 0 0):=.of (by kernel_rfl)
instance:TyZ prog 34 [.imm (.val (.slice none 0 0))]:=.of rfl
instance:TyD prog 38 (TypeDesc.slice 88):=⟨underlying38⟩
instance:TyS prog 38 1 24 (.slice none 0 0):=.of (by kernel_rfl)
@[reducible, instance] def tyq40 := TyD.mk (P := prog) (t := 40) underlying40
instance:TyS prog 40 3 56 (.agg #[.slice none 0 0,.slice none 0 0,.int .i64 0]):=.of (by kernel_rfl)
instance:TyZ prog 40 [.imm (.val (.slice none 0 0)),.imm (.val (.slice none 0 0)),.imm (.val (.int .i64 0))]:=.of rfl
instance:FlatC prog 40 3:=.of rfl rfl
instance:TyS prog 53 1 24 (.slice none 0 0):=.of (by kernel_rfl)
@[reducible, instance] def tyq55 := TyD.mk (P := prog) (t := 55) underlying55
instance:TyS prog 55 4 80 (.agg #[.int .i64 0,.slice none 0 0,.slice none 0 0,.slice none 0 0]):=.of (by kernel_rfl)
instance:TyZ prog 55 [.imm (.val (.int .i64 0)),.imm (.val (.slice none 0 0)),.imm (.val (.slice none 0 0)),.imm (.val (.slice none 0 0))]:=.of rfl
instance:FlatC prog 55 4:=.of rfl rfl
@[reducible, instance] def tyq70 := TyD.mk (P := prog) (t := 70) underlying70
instance:TyS prog 70 8 160 (.agg #[.int .i64 0,.slice none 0 0,.slice none 0 0,.slice none 0 0,.slice none 0 0,.slice none 0 0,.slice none 0 0,.int .i64 0]):=.of (by kernel_rfl)
instance:TyZ prog 70 [.imm (.val (.int .i64 0)),.imm (.val (.slice none 0 0)),.imm (.val (.slice none 0 0)),.imm (.val (.slice none 0 0)),.imm (.val (.slice none 0 0)),.imm (.val (.slice none 0 0)),.imm (.val (.slice none 0 0)),.imm (.val (.int .i64 0))]:=.of rfl
@[reducible, instance] def tyq77 := TyD.mk (P := prog) (t := 77) underlying77
instance:TyS prog 77 2 48 (.agg #[.slice none 0 0,.slice none 0 0]):=.of (by kernel_rfl)
instance:TyZ prog 77 [.imm (.val (.slice none 0 0)),.imm (.val (.slice none 0 0))]:=.of rfl
instance:FlatC prog 77 2:=.of rfl rfl
@[reducible, instance] def tyq88 := TyD.mk (P := prog) (t := 88) underlying88
instance:TyS prog 88 3 56 (.agg #[.slice none 0 0,.slice none 0 0,.int .i64 0]):=.of (by kernel_rfl)
instance:TyZ prog 88 [.imm (.val (.slice none 0 0)),.imm (.val (.slice none 0 0)),.imm (.val (.int .i64 0))]:=.of rfl
instance:FlatC prog 88 3:=.of rfl rfl
@[reducible, instance] def tyq95 := TyD.mk (P := prog) (t := 95) underlying95
instance:TyS prog 95 2 32 (.agg #[.slice none 0 0,.int .i64 0]):=.of (by kernel_rfl)
instance:TyZ prog 95 [.imm (.val (.slice none 0 0)),.imm (.val (.int .i64 0))]:=.of rfl
instance:FlatC prog 95 2:=.of rfl rfl
instance:TyD prog 97 (TypeDesc.slice 4):=⟨underlying97⟩
@[reducible, instance] def tyq110 := TyD.mk (P := prog) (t := 110) underlying110
instance:TyS prog 110 4 80 (.agg #[.slice none 0 0,.slice none 0 0,.slice none 0 0,.int .i64 0]):=.of (by kernel_rfl)
instance:TyZ prog 110 [.imm (.val (.slice none 0 0)),.imm (.val (.slice none 0 0)),.imm (.val (.slice none 0 0)),.imm (.val (.int .i64 0))]:=.of rfl
instance:FlatC prog 110 4:=.of rfl rfl
instance:TyS prog 111 2 16 (.agg #[.int .i64 0,.int .i64 0]):=.of (by kernel_rfl)
instance:TyZ prog 111 [.imm (.val (.int .i64 0)),.imm (.val (.int .i64 0))]:=.of rfl
instance:TyS prog 113 1 24 (.slice none 0 0):=.of (by kernel_rfl)
instance:TyZ prog 113 [.imm (.val (.slice none 0 0))]:=.of rfl
instance:TyS prog 118 1 4 (.int .u32 0):=.of (by kernel_rfl)
instance:TyZ prog 118 [.imm (.val (.int .u32 0))]:=.of rfl
instance:TyD prog 122 (TypeDesc.slice 34):=⟨underlying122⟩
instance:TyD prog 137 (TypeDesc.int IntKind.u64):=⟨underlying137⟩
instance:TyS prog 148 1 8 (.map none):=.of (by kernel_rfl)
instance:TyZ prog 148 [.imm (.val (.map none))]:=.of rfl
@[reducible, instance] def tyq157 := TyD.mk (P := prog) (t := 157) underlying157
instance:TyS prog 157 3 24 (.agg #[.int .i64 0,.int .i64 0,.int .u32 0]):=.of (by kernel_rfl)
instance:TyZ prog 157 [.imm (.val (.int .i64 0)),.imm (.val (.int .i64 0)),.imm (.val (.int .u32 0))]:=.of rfl
instance:FlatC prog 157 3:=.of rfl rfl
@[reducible, instance] def tyq160 := TyD.mk (P := prog) (t := 160) underlying160
instance:TyS prog 160 2 16 (.agg #[.int .u32 0,.int .i64 0]):=.of (by kernel_rfl)
instance:TyZ prog 160 [.imm (.val (.int .u32 0)),.imm (.val (.int .i64 0))]:=.of rfl
instance:FlatC prog 160 2:=.of rfl rfl
instance:TyS prog 164 1 24 (.slice none 0 0):=.of (by kernel_rfl)
@[reducible, instance] def tyq166 := TyD.mk (P := prog) (t := 166) underlying166
instance:TyS prog 166 3 32 (.agg #[.int .u32 0,.int .u32 0,.slice none 0 0]):=.of (by kernel_rfl)
instance:TyZ prog 166 [.imm (.val (.int .u32 0)),.imm (.val (.int .u32 0)),.imm (.val (.slice none 0 0))]:=.of rfl
instance:FlatC prog 166 3:=.of rfl rfl
instance:TyD prog 168 (TypeDesc.map 9 3):=⟨underlying168⟩
@[reducible, instance] def tyq179 := TyD.mk (P := prog) (t := 179) underlying179
instance:TyS prog 179 4 24 (.agg #[.int .u32 0,.int .u32 0,.int .u32 0,.int .i64 0]):=.of (by kernel_rfl)
instance:TyZ prog 179 [.imm (.val (.int .u32 0)),.imm (.val (.int .u32 0)),.imm (.val (.int .u32 0)),.imm (.val (.int .i64 0))]:=.of rfl
instance:FlatC prog 179 4:=.of rfl rfl
instance:TyS prog 182 0 0 (.agg #[]):=.of (by kernel_rfl)
instance:TyZ prog 182 []:=.of rfl
instance:TyS prog 183 1 8 (.map none):=.of (by kernel_rfl)
instance:TyZ prog 183 [.imm (.val (.map none))]:=.of rfl
instance:TyS prog 187 1 8 (.map none):=.of (by kernel_rfl)
instance:TyS prog 189 1 24 (.slice none 0 0):=.of (by kernel_rfl)
@[reducible, instance] def tyq191 := TyD.mk (P := prog) (t := 191) underlying191
instance:TyS prog 191 3 40 (.agg #[.slice none 0 0,.map none,.int .i64 0]):=.of (by kernel_rfl)
instance:TyZ prog 191 [.imm (.val (.slice none 0 0)),.imm (.val (.map none)),.imm (.val (.int .i64 0))]:=.of rfl
instance:FlatC prog 191 3:=.of rfl rfl
@[reducible, instance] def tyq195 := TyD.mk (P := prog) (t := 195) underlying195
instance:TyS prog 195 4 32 (.agg #[.int .u32 0,.int .i64 0,.int .i64 0,.int .i64 0]):=.of (by kernel_rfl)
instance:TyZ prog 195 [.imm (.val (.int .u32 0)),.imm (.val (.int .i64 0)),.imm (.val (.int .i64 0)),.imm (.val (.int .i64 0))]:=.of rfl
instance:FlatC prog 195 4:=.of rfl rfl
instance:TyD prog 201 (TypeDesc.slice 5):=⟨underlying201⟩
instance:TyS prog 232 1 8 (.int .u64 0):=.of (by kernel_rfl)
instance:TyZ prog 232 [.imm (.val (.int .u64 0))]:=.of rfl
instance:TyS prog 253 24 24 (.agg #[.int .u8 0,.int .u8 0,.int .u8 0,.int .u8 0,.int .u8 0,.int .u8 0,.int .u8 0,.int .u8 0,.int .u8 0,.int .u8 0,.int .u8 0,.int .u8 0,.int .u8 0,.int .u8 0,.int .u8 0,.int .u8 0,.int .u8 0,.int .u8 0,.int .u8 0,.int .u8 0,.int .u8 0,.int .u8 0,.int .u8 0,.int .u8 0]):=.of (by kernel_rfl)
instance:TyZ prog 253 [.imm (.val (.int .u8 0)),.imm (.val (.int .u8 0)),.imm (.val (.int .u8 0)),.imm (.val (.int .u8 0)),.imm (.val (.int .u8 0)),.imm (.val (.int .u8 0)),.imm (.val (.int .u8 0)),.imm (.val (.int .u8 0)),.imm (.val (.int .u8 0)),.imm (.val (.int .u8 0)),.imm (.val (.int .u8 0)),.imm (.val (.int .u8 0)),.imm (.val (.int .u8 0)),.imm (.val (.int .u8 0)),.imm (.val (.int .u8 0)),.imm (.val (.int .u8 0)),.imm (.val (.int .u8 0)),.imm (.val (.int .u8 0)),.imm (.val (.int .u8 0)),.imm (.val (.int .u8 0)),.imm (.val (.int .u8 0)),.imm (.val (.int .u8 0)),.imm (.val (.int .u8 0)),.imm (.val (.int .u8 0))]:=.of rfl
instance:TyS prog 263 20 160 (.agg #[.int .u64 0,.int .u64 0,.int .u64 0,.int .u64 0,.int .u64 0,.int .u64 0,.int .u64 0,.int .u64 0,.int .u64 0,.int .u64 0,.int .u64 0,.int .u64 0,.int .u64 0,.int .u64 0,.int .u64 0,.int .u64 0,.int .u64 0,.int .u64 0,.int .u64 0,.int .u64 0]):=.of (by kernel_rfl)
instance:TyZ prog 263 [.imm (.val (.int .u64 0)),.imm (.val (.int .u64 0)),.imm (.val (.int .u64 0)),.imm (.val (.int .u64 0)),.imm (.val (.int .u64 0)),.imm (.val (.int .u64 0)),.imm (.val (.int .u64 0)),.imm (.val (.int .u64 0)),.imm (.val (.int .u64 0)),.imm (.val (.int .u64 0)),.imm (.val (.int .u64 0)),.imm (.val (.int .u64 0)),.imm (.val (.int .u64 0)),.imm (.val (.int .u64 0)),.imm (.val (.int .u64 0)),.imm (.val (.int .u64 0)),.imm (.val (.int .u64 0)),.imm (.val (.int .u64 0)),.imm (.val (.int .u64 0)),.imm (.val (.int .u64 0))]:=.of rfl
instance:TyS prog 267 32 32 (.agg #[.int .u8 0,.int .u8 0,.int .u8 0,.int .u8 0,.int .u8 0,.int .u8 0,.int .u8 0,.int .u8 0,.int .u8 0,.int .u8 0,.int .u8 0,.int .u8 0,.int .u8 0,.int .u8 0,.int .u8 0,.int .u8 0,.int .u8 0,.int .u8 0,.int .u8 0,.int .u8 0,.int .u8 0,.int .u8 0,.int .u8 0,.int .u8 0,.int .u8 0,.int .u8 0,.int .u8 0,.int .u8 0,.int .u8 0,.int .u8 0,.int .u8 0,.int .u8 0]):=.of (by kernel_rfl)
instance:TyZ prog 267 [.imm (.val (.int .u8 0)),.imm (.val (.int .u8 0)),.imm (.val (.int .u8 0)),.imm (.val (.int .u8 0)),.imm (.val (.int .u8 0)),.imm (.val (.int .u8 0)),.imm (.val (.int .u8 0)),.imm (.val (.int .u8 0)),.imm (.val (.int .u8 0)),.imm (.val (.int .u8 0)),.imm (.val (.int .u8 0)),.imm (.val (.int .u8 0)),.imm (.val (.int .u8 0)),.imm (.val (.int .u8 0)),.imm (.val (.int .u8 0)),.imm (.val (.int .u8 0)),.imm (.val (.int .u8 0)),.imm (.val (.int .u8 0)),.imm (.val (.int .u8 0)),.imm (.val (.int .u8 0)),.imm (.val (.int .u8 0)),.imm (.val (.int .u8 0)),.imm (.val (.int .u8 0)),.imm (.val (.int .u8 0)),.imm (.val (.int .u8 0)),.imm (.val (.int .u8 0)),.imm (.val (.int .u8 0)),.imm (.val (.int .u8 0)),.imm (.val (.int .u8 0)),.imm (.val (.int .u8 0)),.imm (.val (.int .u8 0)),.imm (.val (.int .u8 0))]:=.of rfl
instance:EqT prog 28:=⟨by kernel_rfl,by kernel_rfl⟩
instance:EqT prog 30:=⟨by kernel_rfl,by kernel_rfl⟩
def mixed:prog.follows .mixedOrders=true:=by kernel_rfl
end
/-! ## No mention of a block -/
mutual
def C.no(id:Id):C->Bool
 | .imm _=>true
 | .own i _ _=> !idb i id
 | .ptr i _ _=> !idb i id
 | .fn _ a=>C.noL id a
 | .ifc _ cs _=>C.noL id cs
 | .map i=> !idb i id
 | .fnb _ a=>C.noL id a
 | .yld i=> !idb i id
def C.noL(id:Id):List C->Bool
 |[]=>true
 |c::r=>C.no id c && C.noL id r
end
mutual
def T.no(id:Id):T->Bool
 | .c x=>x.no id
 | .agg cs=>C.noL id cs
 | .tup a=>T.noL id a
 | .undef=>true
def T.noL(id:Id):List T->Bool
 |[]=>true
 |t::r=>T.no id t && T.noL id r
end
def Blk.no(id:Id):Blk->Bool
 | .cells _ a=>a.all (C.noL id)
 | .obj _ cs=>C.noL id cs
def envNo(id:Id):Env->Bool
 |[]=>true
 |(_,v)::r=>v.no id && envNo id r
def noL_eq(id:Id):∀l:List C,C.noL id l=l.all (C.no id)
 |[]=>rfl
 |c::r=>by rw[C.noL,noL_eq id r];rfl
def ay3:∀{env:Env},envNo M env=true->∀t v,lookup t env=some v->v.no M=true
 |[],_,t,v,h=>by simp[lookup] at h
 |(k,x)::r,h,t,v,a=>by simp only[envNo,cE] at h;simp only[lookup] at a;split at a;cases a;exact h.1;exact ay3 h.2 t v a
def mv(id n:Id):Id->Id:=fun i=>if idb i id then n else i
mutual
theorem C.ren_no{id n:Id}:∀c:C,c.no id=true->c.ren (mv id n)=c
 | .imm _,_=>rfl
 | .own i _ _,h=>by
  have:idb i id=false:=by simpa[C.no] using h
  simp[C.ren,mv,this]
 | .ptr i _ _,h=>by
  have:idb i id=false:=by simpa[C.no] using h
  simp[C.ren,mv,this]
 | .fn _ a,h=>by simp only[C.ren,C.renL_no a h]
 | .ifc _ cs _,h=>by simp only[C.ren,C.renL_no cs h]
 | .map i,h=>by
  have:idb i id=false:=by simpa[C.no] using h
  simp[C.ren,mv,this]
 | .fnb _ a,h=>by simp only[C.ren,C.renL_no a h]
 | .yld i,h=>by
  have:idb i id=false:=by simpa[C.no] using h
  simp[C.ren,mv,this]
theorem C.renL_no{id n:Id}:∀l:List C,C.noL id l=true->C.renL (mv id n) l=l
 |[],_=>rfl
 |c::r,h=>by simp only[C.noL,cE] at h;simp only[C.renL,C.ren_no c h.1,C.renL_no r h.2]
end
mutual
theorem T.ren_no{id n:Id}:∀t:T,t.no id=true->t.ren (mv id n)=t
 | .c x,h=>by simp only[T.ren,C.ren_no x h]
 | .agg cs,h=>by simp only[T.ren,C.renL_no cs h]
 | .tup a,h=>by simp only[T.ren,T.renL_no a h]
 | .undef,_=>rfl
theorem T.renL_no{id n:Id}:∀l:List T,T.noL id l=true->T.renL (mv id n) l=l
 |[],_=>rfl
 |x::r,h=>by simp only[T.noL,cE] at h;simp only[T.renL,T.ren_no x h.1,T.renL_no r h.2]
end
def Blk.ren_no{n:Id}(b:Blk)(h:b.no M=true):b.ren (mv M n)=b:=by
 cases b with
 |cells k a=>
  simp only[Blk.no,cJ] at h
  simp only[Blk.ren]
  congr 1
  conv=>rhs;rw[<- List.map_id a]
  exact dX fun l c=>C.renL_no l (h l c)
 |obj p cs=>simp only[Blk.ren,C.renL_no cs h]
def noL_imm(id:Id)(l:List I):C.noL id (l.map .imm)=true:=by rw[noL_eq];simp[C.no]
def Blk.im_no(id:Id)(k:Nat)(a:List (List I)):(Blk.im k a).no id=true:=by simp only[Blk.im,Blk.no,List.all_map,cJ];exact fun l _=>noL_imm id l
inductive SrcF{α:Type}(σ:b6)(k:Nat)(f:α->List I):T->List α->Prop
 |own {id:Id} {n:Nat} {l:List α} (h:σ[id]? =some (some (vec k f l))) (hn:n=eH l):SrcF σ k f (.c (.own id 0 n)) l
 |row {l:List α}:SrcF σ k f (.c (row k f l)) l
 |nil:SrcF σ k f (.c (.imm (.val (.slice none 0 0)))) []
def SrcF.src{v:T}(h:SrcF g i V v Q):Src g i v ((Q.map V).map (·.map .imm)):=by
 cases h with
 |@own id n Q h a=>
  subst a
  have:=Src.own (j:=0) (n:=eH Q) h
  have e:List.take (eH Q) (List.drop 0 ((Q.map V).map (·.map C.imm)))=(Q.map V).map (·.map C.imm):=by rw[dw,cV (by simp)]
  rwa [e] at this
 |row=>exact .imm
 |nil=>exact .nil
def ar0{new r:List A}(h:app i Q new=some r):(eH Q+eH new) * i<=140737488355328/\r=Q++new:=by unfold app at h;split at h;cases h;exact⟨‹_›,rfl⟩;cases h
def G6{b:Option Blk}(h:putF g M b=some t):t=g.put M b:=putF_eq h
def S.append{a σ':b6}{ops:Array Oper}{rest:List Oper}{b:Option Nat}{f:A->List I}{l new:List A}{y:Od}{t e:Ti}{bytes m:Nat}{z:Vl}{id:Id}{v:T}{j:b6}[n:TyD c t (.slice e)][hs:TyS c e p bytes z](E:app bytes l new=some Q)(u:(z.cells.size==p)=true)(w:di 0 bytes=true)(F:ev s L=some (.c (.own id 0 m)))(G:m=eH l)(D:a[id]? =some (some (vec p f l)))(J:ev s y=some v)(o:SrcF a p f v new)(K:newF a=some M)(N:putF a id none=some j)(q:w8 j (.one (vec p f Q))=some σ')(O:h9 i b=true)(h:AOps c g i ops r rest (St.mk (putE s b (.c (.own M 0 (eH Q)))) σ')):
  AOps c g i ops r (⟨b,.call ⟨.builtin .append,#[L,y],#[t,t]⟩,d,B,H,none⟩::rest) (St.mk s a):=by
 obtain⟨U,rfl⟩:=ar0 E
 have V:=G6 N
 have X:=D6 K;have P:=v7 q
 subst G V X P
 refine AOps.append (new:=(new.map f).map (·.map .imm)) u w F D J o.src (by simpa using U) O ?_
 have x:(((((l.map f).map (·.map C.imm)).drop 0).take (eH l))++(new.map f).map (·.map C.imm))=((l++new).map f).map (·.map C.imm):=by rw[dw,cV (by simp)];simp
 have k:eH l+((new.map f).map (·.map C.imm)).length=(l++new).length:=by simp
 rw[x,k]
 exact h
def S.appendNil{a j:b6}{ops:Array Oper}{rest:List Oper}{b:Option Nat}{f:A->List I}{new:List A}{y:Od}{t e:Ti}{bytes:Nat}{z:Vl}{v:T}[V:TyD c t (.slice e)][X:TyS c e p bytes z](D:app bytes [] new=some Q)(q:(z.cells.size==p)=true)(u:di 0 bytes=true)(E:ev s L=some (.c (.imm (.val (.slice none 0 0)))))(F:ev s y=some v)(l:SrcF a p f v new)(G:newF a=some M)(o:w8 a (.one (vec p f Q))=some j)(J:h9 i b=true)(h:AOps c g i ops r rest (St.mk (putE s b (.c (.own M 0 (eH Q)))) j)):
  AOps c g i ops r (⟨b,.call ⟨.builtin .append,#[L,y],#[t,t]⟩,d,B,H,none⟩::rest) (St.mk s a):=by
 obtain⟨K,w⟩:=ar0 D
 rw[List.nil_append] at w
 subst w
 have N:=D6 G;have O:=v7 o
 subst N O
 refine AOps.appendNil (new:=(Q.map f).map (·.map .imm)) q u E F l.src (by simpa using K) J ?_
 have U:((Q.map f).map (·.map C.imm)).length=eH Q:=by simp
 rw[U]
 exact h
inductive ZI:List I->List C->Prop
 |nil:ZI [] []
 |val {e:Vl} {l:List I} {cs:List C} (h:ZI l cs):ZI (.val e::l) (.imm (.val e)::cs)
 |row {k:Nat} {l:List I} {cs:List C} (h:ZI l cs):ZI (.sl k []::l) (.imm (.val (.slice none 0 0))::cs)
def ZI.get{w:World}{φ:Phi}{σ:b6}{A:Nat->Prop}{l:List I}{cs:List C}(h:ZI l cs):∀(o:Nat) (x:I),l[o]? =some x->∃c,cs[o]? =some c/\∀u,RelC w φ σ A c u->RelI w A x u:=by
 induction h with
 |nil=>intro o x h;simp at h
 |@val v l cs _ d=>
  intro o x a
  cases o with
  |zero=>
   simp only[cD,Option.some.injEq] at a
   subst a
   exact⟨_,rfl,fun u b=>by cases b with|imm b=>exact b⟩
  |succ o=>simpa using d o x (by simpa using a)
 |@row k l cs _ d=>
  intro o x a
  cases o with
  |zero=>
   simp only[cD,Option.some.injEq] at a
   subst a
   exact⟨_,rfl,fun u b=>by cases b with|imm b=>cases b;exact .slNil⟩
  |succ o=>simpa using d o x (by simpa using a)
def ZI.len{l:List I}{cs:List C}(h:ZI l cs):eH l=eH cs:=by
 induction h with
 |nil=>rfl
 |val _ a=>simp[a]
 |row _ a=>simp[a]
def Sub.blk{σ0:b6}{env:Env}{σv:b6}{id:Id}{k:Nat}{es es':List (List C)}(l:σv[id]? =some (some (.cells k es)))(G:eH es'=eH es)(hk:∀(j:Nat) (e:List C),es'[j]? =some e->eH e=k)
  (Q:∀(j:Nat) (e:List C) (o:Nat) (x:C),es'[j]? =some e->e[o]? =some x->∃B D,es[j]? =some B/\B[o]? =some D/\∀w n σ A u,RelC w n σ A D u->RelC w n σ A x u):
  Sub σ0 ⟨env,σv⟩ ⟨env,σv.put id (some (.cells k es'))⟩:=fun v sz n a w U d=>by
 have P:id.1<eH σv:=b6.lt_of l
 have get:∀(i:Id) x,(σv.put id (some (.cells k es')))[i]? =some (some x)->(i=id/\x=.cells k es')\/(i ≠ id/\σv[i]? =some (some x)):=fun i x g=>by rcases b6.get_put l g with⟨H,s⟩|h;cases s;exact .inl ⟨H,rfl⟩;exact .inr h
 have f:∀(i:Id) x,(σv.put id (some (.cells k es')))[i]? =some (some x)->∃y,σv[i]? =some (some y):=fun i x g=>by rcases get i x g with⟨rfl,_⟩|⟨_,h⟩;exact⟨_,l⟩;exact⟨x,h⟩
 have V:∀b,Al v.N n σv b->Al v.N n (σv.put id (some (.cells k es'))) b:=fun b E=>⟨E.1,fun i blk c g=>by obtain⟨y,J⟩:=f i blk g;exact E.2 i y c J⟩
 have F:Kept w w n n σv (σv.put id (some (.cells k es'))) (Al v.N n σv) (Al v.N n (σv.put id (some (.cells k es')))):=
  {imm:=fun _ _ _=>rfl,all:=fun b E _=>V b E,len:=by simp,
   cells:=fun i kk K g t=>by rcases get i _ t with⟨rfl,h⟩|⟨_,h⟩;cases h;exact⟨es,l,G.symm,rfl,fun _ _ r _ _ s=>⟨r,s,rfl⟩⟩;exact⟨K,h,rfl,rfl,fun _ _ r _ _ s=>⟨r,s,rfl⟩⟩,
   obj:=fun i X L g t=>by rcases get i _ t with⟨_,h⟩|⟨_,h⟩;cases h;exact⟨rfl,X,L,h⟩}
 have M:Rs v (σv.put id (some (.cells k es'))) n w:=
  {good:=d.good
   st:=⟨fun i b g=>by rcases get i b g with⟨rfl,rfl⟩|⟨_,h⟩;rcases d.st.blk _ _ l with⟨H,s⟩|⟨b,c,r,O,g1,g2,g3,g4,g5⟩;exact .inl ⟨H,by subst s;exact cU (by simpa using G)⟩;refine .inr ⟨b,c,r,O,g1,g2,by rw[G];exact g3,hk,fun j e o x t z=> ?_⟩;obtain⟨B,D,k1,k2,k3⟩:=Q j e o x t z;obtain⟨u,hu,hr⟩:=g5 j B o D k1 k2;exact⟨u,hu,(k3 _ _ _ _ _ hr).mono F⟩;exact(d.st.blk i b h).mono F fun _ _ _=>rfl,
    fun i j bi bj p q g hj hp hq t=>by obtain⟨x,z⟩:=f i bi g;obtain⟨y,J⟩:=f j bj hj;exact d.st.inj i j x y p q z J hp hq t⟩
   keep:=fun i blk b c g=>by obtain⟨x,z⟩:=f i blk g;exact d.keep i x b c z
   os:=d.os
   tape:=d.tape
   drawn:=d.drawn
   output:=d.output
   size:=d.size
   block:=d.block
   kept:=Kept.trans d.size d.kept F}
 exact⟨n,d.of F M⟩
def mkL_get{n:Int}{z:A}(h:mkL i n z=some Q):(0<=n/\n<=9223372036854775807/\(i:Int) * n<=281474976710656)/\Q=cK n.toNat z:=by unfold mkL at h;split at h;cases h;exact⟨‹_›,rfl⟩;cases h
def S.make{P:Program}{D J:b6}{ops:Array Oper}{rest:List Oper}{E:Option Nat}{f:A->List I}{a:A}{y:Od}{t e:Ti}{bytes:Nat}{z:Vl}{n:Int}{cs:List C}[ht:TyD P t (.slice e)][hz:TyZ P e cs][hs:TyS P e p bytes z](hm:mkL bytes n a=some Q)(x:ZI (f a) cs)(hk:idF cs=some p)(X:ev s L=some (.c (int n)))(hy:ev s y=some (.c (int n)))(k:newF D=some M)(aa:w8 D (.one (vec p f Q))=some J)(hd:h9 i E=true)(h:AOps P g i ops r rest (St.mk (putE s E (.c (.own M 0 (eH Q)))) J)):AOps P g i ops r (⟨E,.makeSlice t L y,d,B,H,none⟩::rest) (St.mk s D):=by
 obtain⟨⟨h1,h2,h3⟩,rfl⟩:=mkL_get hm
 have g1:=ag1 hk;have g2:=D6 k;have g3:=v7 aa
 subst g2 g3
 obtain⟨ac,l,z',v,ad,k1,k2⟩:=hz.h
 obtain⟨b,e1,e2,e3,e4⟩:=hs.h
 obtain⟨i',K,al,an,N⟩:=ad.h
 rw[e1] at K;cases K
 rw[e4] at N;cases N
 refine AOps.make (hs:=hs) k1 k2 (by rw[g1];simp) X hy h1 h2 h3 hd ?_
 rw[List.length_replicate] at h
 have O:b6.put (D++[.one (Blk.cells p (cK n.toNat cs))]) (eH D,[]) (some (.cells p (((cK n.toNat a).map f).map (·.map .imm))))=D++[.one (vec p f (cK n.toNat a))]:=b6.put_last _ _ D
 have F:=Sub.blk (σ0:=g) (env:=putE s E (.c (.own (eH D,[]) 0 n.toNat))) (σv:=D++[.one (Blk.cells p (cK n.toNat cs))]) (id:=(eH D,[])) (k:=p) (es:=cK n.toNat cs) (es':=((cK n.toNat a).map f).map (·.map .imm)) (b6.get_last _ _) (by simp)
  (fun j e G=>by
   simp only[er,dp] at G;split at G<;>cases G;rw[df,x.len,g1]) (fun j e o L G X=>by
   simp only[er,dp] at G;split at G<;>cases G;rw[lM,oM] at X;obtain⟨x0,U,rfl⟩:=X;cases hc:cs[o]? with
   |none=>
    have:=(lG.1 U).1
    rw[x.len] at this
    rw[List.getElem?_eq_none_iff] at hc
    omega
   |some c=>
    refine⟨cs,c,by rw[dp,if_pos ‹_›],hc,fun w φ σ q u hu=> ?_⟩
    obtain⟨c',V,hr⟩:=x.get (w:=w) (φ:=φ) (σ:=σ) (A:=q) o x0 U
    rw[hc] at V;cases V
    exact .imm (hr u hu))
 rw[O] at F
 exact AOps.sub F h
/-! ### Reading and writing -/
def s9{i:Int}{a:A}(h:ix Q i=some a):i.toNat<eH Q:=(lG.1 (S4 h).2).1
def S.idxO{j:b6}{rest:List Oper}{o:Option Nat}{f:A->List I}{l:List A}{y:Od}{t e:Ti}{bytes n:Nat}{z:Vl}{w:IntKind}{b:Int}{a:A}[G:TyD c t (.slice e)][J:TyS c e p bytes z](u:ix l b=some a)(D:ev s L=some (.c (.own M 0 n)))(K:n=eH l)(q:j[M]? =some (some (vec p f l)))(E:ev s y=some (.c (.imm (.val (.int w b)))))(F:h9 i o=true)(h:AOps c g i v r rest (St.mk (putE s o (.c (.ptr M b.toNat 0))) j)):AOps c g i v r (⟨o,.indexAddr t L y,d,B,H,none⟩::rest) (St.mk s j):=
 .indexAddrOwn D q E (by have:=S4 u;have:=s9 u;omega) F (by rw[cQ];exact h)
def vec_get{a:A}(h:Q[i]? =some a):((Q.map V).map (·.map C.imm))[i]? =some ((V a).map .imm):=by simp[h]
def S.loadO{P:Program}{e:b6}{rest:List Oper}{j:Option Nat}{q:Ti}{f:A->List I}{l:List A}{t:Ti}{d:TypeDesc}{o:Nat}{b:Int}{a:A}{c:I}[E:TyD P t d](u:ix l b=some a)(w:D8 d=false)(y:ev s L=some (.c (.ptr M b.toNat o)))(n:e[M]? =some (some (vec p f l)))(z:(f a)[o]? =some c)(D:h9 i j=true)(h:AOps P g i v r rest (St.mk (putE s j (.c (.imm c))) e)):AOps P g i v r (⟨j,.load t L,q,B,H,none⟩::rest) (St.mk s e):=
 .load w y n (vec_get (S4 u).2) (by rw[lM,z];rfl) D h
def vec_set{a:A}:Blk.cells p (((Q.map V).map (·.map C.imm)).set i ((V a).map .imm))=vec p V (Q.set i a):=by
 simp only[vec,Blk.im,List.map_set]
def S.storeO{P:Program}{e j:b6}{rest:List Oper}{y:Od}{t:Ti}{bytes:Nat}{z:Vl}{o:Nat}{b:Nat}{a q:A}{c:I}[K:TyS P t 1 bytes z](D:Q[b]? =some a)(E:setF (V a) o c=some (V q))(F:ev s L=some (.c (.ptr M b o)))(G:ev s y=some (.c (.imm c)))(u:e[M]? =some (some (vec p V Q)))(n:putF e M (some (vec p V (Q.set b q)))=some j)(h:AOps P g i v r rest (St.mk s j)):AOps P g i v r (⟨none,.store t L y,d,B,H,none⟩::rest) (St.mk s e):=by
 have w:=Q7 E
 have J:=G6 n
 subst J
 refine AOps.store F G u (vec_get D) (by simpa using w.2) ?_
 rw[show(((V a).map C.imm).set o (.imm c))=(V q).map .imm by rw[<- List.map_set,<- w.1]]
 rw[vec_set]
 exact h
def S.storeO1{P:Program}{e j:b6}{rest:List Oper}{f:A->List I}{y:Od}{t:Ti}{bytes:Nat}{z:Vl}{b:Nat}{a':A}{c:I}[J:TyS P t 1 bytes z](w:b<eH Q)(D:∀a,∃u,f a=[u])(o:f a'=[c])(E:ev s L=some (.c (.ptr M b 0)))(F:ev s y=some (.c (.imm c)))(q:e[M]? =some (some (vec p f Q)))(n:putF e M (some (vec p f (Q.set b a')))=some j)(h:AOps P g i v r rest (St.mk s j)):AOps P g i v r (⟨none,.store t L y,d,B,H,none⟩::rest) (St.mk s e):=by
 obtain⟨u,G⟩:=D Q[b]
 exact S.storeO (a:=Q[b]) (cH w) (by rw[G,o];rfl) E F q n h
def S.lenO{a:b6}{rest:List Oper}{b:Option Nat}{f:A->List I}{l:List A}{t e:Ti}{n:Nat}[u:TyD c t (.slice e)](o:ev s L=some (.c (.own M 0 n)))(j:a[M]? =some (some (vec p f l)))(q:h9 i b=true)(h:n<=9223372036854775807->AOps c g i v r rest (St.mk (putE s b (.c (int n))) a)):AOps c g i v r (⟨b,.call ⟨.builtin .len,#[L],#[t]⟩,d,B,H,none⟩::rest) (St.mk s a):=
 .lenOwnB o j q h
/-! ### A block takes the place of another one -/
def EntMv(id n:Id)(σ:b6)(m i:Nat):Ent->Prop
 | .dead=>True
 | .one b=>b.ok m=true/\σ[mv id n (i,[])]? =some (some (b.ren (mv id n)))
 | .node x s=>∀(p:List Nat) (b:Blk),(Ent.node x s).sub p=some b->b.ok m=true/\σ[mv id n (i,p)]? =some (some (b.ren (mv id n)))
def StMv(id n:Id)(σ:b6)(m:Nat):Nat->b6->Prop
 |_,[]=>True
 |i,e::r=>EntMv id n σ m i e/\StMv id n σ m (i+1) r
def EntMv.get{n:Id}{σ:b6}{i:Nat}{e:Ent}(h:EntMv M n σ p i e){a:List Nat}{b:Blk}(d:e.sub a=some b):b.ok p=true/\σ[mv M n (i,a)]? =some (some (b.ren (mv M n))):=by
 cases e with
 |dead=>cases a<;>cases d
 |one c=>cases a with
  |nil=>cases d;exact h
  |cons=>cases d
 |node x s=>exact h a b d
def StMv.get{id n:Id}{m:Nat}{σ:b6}:∀{i:Nat} {c:b6},StMv id n σ m i c->∀(j:Nat) (p:List Nat) (b:Blk),c[((j,p):Id)]? =some (some b)->b.ok m=true/\σ[mv id n (i+j,p)]? =some (some (b.ren (mv id n)))
 |_,[],_,j,p,b,h=>by simp at h
 |i,e::r,h,0,p,b,a=>by rw[b6.at_eq] at a;simp only[b6.at,cD,Option.some.injEq] at a;exact h.1.get a
 |i,e::r,h,j+1,p,b,a=>by have:=StMv.get (i:=i+1) h.2 j p b (by rw[b6.at_eq] at a ⊢;simpa[b6.at] using a);rwa [show i+1+j=i+(j+1) by omega] at this
def EnvMv(id n:Id)(env:Env):Env->Prop
 |[]=>True
 |(t,v)::r=>lookup t env=some (v.ren (mv id n))/\EnvMv id n env r
def EnvMv.get{n:Id}:∀{a:Env},EnvMv M n s a->∀t v,lookup t a=some v->lookup t s=some (v.ren (mv M n))
 |[],_,t,v,h=>by simp[lookup] at h
 |(k,x)::r,⟨b,c⟩,t,v,h=>by simp only[lookup] at h;split at h;rename_i d;cases h;rw[<- cC d];exact b;exact EnvMv.get c t v h
def deadAt(σ:b6)(n:Id):Bool:=match σ[n]? with
 |some (some _)=>false
 |_=>true
def Sub.move{env':Env}{c σ':b6}(id n:Id)(u:de (eH g) id.1=true)(w:de (eH g) (eH σ')=true)(x:deadAt σ' n=true)(d:EnvMv id n s env')(y:V7 (eH σ') env'=true)(p:StMv id n c (eH σ') 0 σ'):Sub g ⟨s,c⟩ ⟨env',σ'⟩:=by
 have z:=cO u;have q:∀b,σ'[n]? ≠ some (some b):=fun b A=>by simp[deadAt,A] at x
 have f:mv id n id=n:=by simp[mv,O7.2 rfl]
 have a:∀i,i ≠ id->mv id n i=i:=fun i h=>by simp[mv,ap7 h]
 refine Sub.mk (mv id n) (fun i k=>a i (fun e=>by subst e;omega)) (cO w) (fun i j b D k B h=> ?_) (fun i b k=> ?_) (fun t v r=>⟨an2 y t v r,d.get t v r⟩);by_cases l:i=id<;>by_cases o:j=id;rw[l,o];rw[l,f,a j o] at h;subst h;exact absurd B (q _);rw[o,f,a i l] at h;subst h;exact absurd k (q _);rwa [a i l,a j o] at h;have:=p.get i.1 i.2 b k;rwa [cQ] at this
def AWP.F{P:Program}{env':Env}{σ':b6}{c:Code}(id n:Id)(d:de (eH g) id.1=true)(e:de (eH g) (eH σ')=true)(f:deadAt σ' n=true)(a:EnvMv id n s env')(j:V7 (eH σ') env'=true)(b:StMv id n t (eH σ') 0 σ')(h:AWP P g i c r (St.mk env' σ')):AWP P g i c r (St.mk s t):=
 AWP.sub (Sub.move id n d e f a j b) h
def k8{a:Id->Id}{f:A->List I}{l:List A}(h:g[M]? =some (some (vec i f l))):g[M]? =some (some ((vec i f l).ren a)):=by rw[Blk.im_ren];exact h
def n8{id:Id}(h:i=p):some (T.c (C.own id 0 i))=some (T.c (C.own id 0 p)):=by rw[h]
section
variable {P:Program}{σ0:b6}{sz:Nat}{Q:Post}{env env':Env}{σv σ':b6}{ops:Array Oper}{rest:List Oper}{dst:Option Nat}{ty:Ti}{pos:String}{after:Array Edge}
/-! ### A row ceases to change -/
mutual
theorem C.frz_no{id:Id}{k:Nat}{b:List (List I)}:∀c:C,c.no id=true->c.frz id k b=c
 | .imm _,_=>rfl
 | .own i _ _,h=>by
  have:idb i id=false:=by simpa[C.no] using h
  simp[C.frz,this]
 | .ptr i _ _,h=>by
  have:idb i id=false:=by simpa[C.no] using h
  simp[C.frz,this]
 | .fn _ a,h=>by simp only[C.frz,C.frzL_no a h]
 | .ifc _ cs _,h=>by simp only[C.frz,C.frzL_no cs h]
 | .map i,h=>rfl
 | .fnb _ a,h=>by simp only[C.frz,C.frzL_no a h]
 | .yld i,h=>rfl
theorem C.frzL_no{id:Id}{k:Nat}{a:List (List I)}:∀l:List C,C.noL id l=true->C.frzL id k a l=l
 |[],_=>rfl
 |c::r,h=>by simp only[C.noL,cE] at h;simp only[C.frzL,C.frz_no c h.1,C.frzL_no r h.2]
end
mutual
theorem T.frz_no{id:Id}{k:Nat}{a:List (List I)}:∀t:T,t.no id=true->t.frz id k a=t
 | .c x,h=>by simp only[T.frz,C.frz_no x h]
 | .agg cs,h=>by simp only[T.frz,C.frzL_no cs h]
 | .tup b,h=>by simp only[T.frz,T.frzL_no b h]
 | .undef,_=>rfl
theorem T.frzL_no{id:Id}{k:Nat}{a:List (List I)}:∀l:List T,T.noL id l=true->T.frzL id k a l=l
 |[],_=>rfl
 |x::r,h=>by simp only[T.noL,cE] at h;simp only[T.frzL,T.frz_no x h.1,T.frzL_no r h.2]
end
def Blk.frz_no{c:List (List I)}(b:Blk)(h:b.no M=true):b.frz M i c=b:=by
 cases b with
 |cells e a=>
  simp only[Blk.no,cJ] at h
  simp only[Blk.frz]
  congr 1
  conv=>rhs;rw[<- List.map_id a]
  exact dX fun l d=>C.frzL_no l (h l d)
 |obj p cs=>simp only[Blk.frz,C.frzL_no cs h]
def FrzC(id:Id)(X:C->C->Prop)(c a:C):Prop:=(a=c/\c.no id=true)\/X c a
def XRow(id:Id)(n:Nat)(x:C):C->C->Prop:=fun c a=>∃m,c=.own id 0 m/\m=n/\a=x
def XBox(id:Id)(e:List I):C->C->Prop:=fun c b=>∃o a,c=.ptr id 0 o/\dropF o e=some a/\b=.imm (.ipt a)
def FrzL(id:Id)(X:C->C->Prop):List C->List C->Prop
 |[],[]=>True
 |c::l,a::b=>FrzC id X c a/\FrzL id X l b
 |_,_=>False
def FrzT(id:Id)(X:C->C->Prop):T->T->Prop
 | .c c,.c a=>FrzC id X c a
 | .agg l,.agg b=>FrzL id X l b
 |t,d=>d=t/\t.no id=true
def X9(id:Id)(X:C->C->Prop)(env:Env):Env->Prop
 |[]=>True
 |(t,a)::r=>(∃v,lookup t env=some v/\FrzT id X v a)/\X9 id X env r
def FrzB(id:Id)(X:C->C->Prop):Ent->Ent->Prop
 | .dead,.dead=>True
 | .one (.cells k [e]),.one (.cells c [a])=>c=k/\FrzL id X e a
 | .one b,.one d=>d=b/\b.no id=true
 | .node m s,a=>a=.node m s/\∀(p:List Nat) (b:Blk),(Ent.node m s).sub p=some b->b.no id=true
 |_,_=>False
def FrzS(id:Id)(X:C->C->Prop):b6->b6->Prop
 |[],[]=>True
 |b::r,a::c=>FrzB id X b a/\FrzS id X r c
 |_,_=>False
def FrzC.eq{b:List (List I)}{id:Id}{k:Nat}{X:C->C->Prop}(d:∀c a,X c a->c.frz id k b=a){c a:C}(h:FrzC id X c a):c.frz id k b=a:=by rcases h with⟨rfl,h⟩|h;exact C.frz_no _ h;exact d _ _ h
def FrzL.eq{b:List (List I)}{id:Id}{k:Nat}{X:C->C->Prop}(d:∀c a,X c a->c.frz id k b=a):∀{c a:List C},FrzL id X c a->C.frzL id k b c=a
 |[],[],_=>rfl
 |c::r,a::e,h=>by rw[C.frzL,FrzC.eq d h.1,FrzL.eq d h.2]
 |[],_::_,h=>h.elim
 |_::_,[],h=>h.elim
def FrzT.eq{d:List (List I)}{id:Id}{k:Nat}{X:C->C->Prop}(e:∀c f,X c f->c.frz id k d=f){t a:T}(h:FrzT id X t a):t.frz id k d=a:=by
 cases t<;>cases a<;>simp only[FrzT] at h<;>first
  |(simp only[T.frz,FrzC.eq e h];done)
  |(simp only[T.frz,FrzL.eq e h];done)
  |(obtain⟨b,g⟩:=h;cases b;exact T.frz_no _ g)
  |(obtain⟨b,g⟩:=h;cases b)
def X9.get{b:List (List I)}{X:C->C->Prop}(d:∀c f,X c f->c.frz M i b=f):∀{env':Env},X9 M X env env'->∀t v,lookup t env'=some v->(lookup t env).map (fun v=>v.frz M i b)=some v
 |[],_,t,v,a=>by simp[lookup] at a
 |(t0,v0)::r,h,t,v,a=>by simp only[lookup] at a;split at a;rename_i e;have:=cC e;subst this;cases a;obtain⟨l,g,j⟩:=h.1;rw[g];simp only[cM,FrzT.eq d j];exact X9.get d h.2 t v a
def FrzB.get{d:List (List I)}{X:C->C->Prop}(j:∀c f,X c f->c.frz M i d=f){e g:Ent}(h:FrzB M X e g)(p:List Nat):(e.sub p).map (Blk.frz M i d)=g.sub p:=by
 unfold FrzB at h;split at h;cases p<;>rfl;obtain⟨rfl,a⟩:=h;cases p with
 |nil=>simp only[Ent.sub,cM,Blk.frz,dA,List.map_nil,FrzL.eq j a]
 |cons=>rfl
 obtain⟨rfl,a⟩:=h;cases p with
 |nil=>simp only[Ent.sub,cM,Blk.frz_no _ a]
 |cons=>rfl
 obtain⟨rfl,a⟩:=h;cases l:(Ent.node _ _).sub p with
 |none=>rfl
 |some b=>simp only[cM,Blk.frz_no _ (a p b l)]
 exact h.elim
def FrzS.get{d:List (List I)}{X:C->C->Prop}(f:∀c g,X c g->c.frz M i d=g):∀{σ b:b6},FrzS M X σ b->∀a:Id,(σ[a]?).map (Option.map (Blk.frz M i d))=b[a]?
 |[],[],_,a=>rfl
 |[],_::_,h,_=>h.elim
 |_::_,[],h,_=>h.elim
 |e::r,j::l,h,(0,p)=>by rw[b6.at_eq,b6.at_eq];simp only[b6.at,cD,cM,FrzB.get f h.1 p]
 |e::r,j::l,h,(a+1,p)=>by have:=FrzS.get f h.2 (a,p);rw[b6.at_eq,b6.at_eq] at this ⊢;simpa[b6.at] using this
def FrzS.len{X:C->C->Prop}:∀{σ a:b6},FrzS M X σ a->eH a=eH σ
 |[],[],_=>rfl
 |[],_::_,h=>h.elim
 |_::_,[],h=>h.elim
 |e::r,b::c,h=>by simp[FrzS.len h.2]
def Sub.same{env:Env}{σ1 σ2:b6}(B:eH σ2=eH σ1)(h:∀i:Id,σ1[i]? =σ2[i]?):Sub σ0 ⟨env,σ1⟩ ⟨env,σ2⟩:=fun g sz e a w u c=>by
 have n:∀b,Al g.N e σ1 b->Al g.N e σ2 b:=fun b l=>⟨l.1,fun i blk d f=>l.2 i blk d (by rw[h i];exact f)⟩;have o:Kept w w e e σ1 σ2 (Al g.N e σ1) (Al g.N e σ2):=
  ⟨fun _ _ _=>rfl,fun b l _=>n b l,by omega,fun i k v _ r=>⟨v,by rw[h i];exact r,rfl,rfl,fun _ _ s _ _ x=>⟨s,x,rfl⟩⟩,fun i p cs _ r=>⟨rfl,p,cs,by rw[h i];exact r⟩⟩
 have t:Rs g σ2 e w:={
  good:=c.good
  st:=⟨fun i b f=>BlkR.mono o (fun _ _ _=>rfl) (c.st.blk i b (by dsimp only;rw[h i];exact f)),fun i j y z p q f A=>c.st.inj i j y z p q (by dsimp only;rw[h i];exact f) (by dsimp only;rw[h j];exact A)⟩
  keep:=fun i blk b d f=>c.keep i blk b d (by dsimp only;rw[h i];exact f)
  os:=c.os
  tape:=c.tape
  drawn:=c.drawn
  output:=c.output
  size:=c.size
  block:=c.block
  kept:=Kept.trans c.size c.kept o}
 exact⟨e,c.of o t⟩
def Sub.frzX{d:List (List I)}{X:C->C->Prop}{e:b6}(o:∀c q,X c q->c.frz M i d=q)(l:de (eH σ0) M.1=true)(n:σv[M]? =some (some (Blk.im i d)))(f:X9 M X env s)(r:putF σv M none=some g)(h:FrzS M X g e):Sub σ0 ⟨env,σv⟩ ⟨s,e⟩:=by have u:=G6 r;subst u;have w:=Sub.frz (σ0:=σ0) (s:=⟨env,σv⟩) M i d (cO l) n;have x:Sub σ0 (St.frz ⟨env,σv⟩ M i d) ⟨env.map fun p=>(p.1,p.2.frz M i d),e⟩:=Sub.same (by rw[h.len];simp[St.frz]) (fun b=>by rw[<- FrzS.get o h b,b6.get_map]);refine(w.trans x).trans (fun _ _ y _ _ _ j=>⟨y,{toRs:=j.toRs,defers:=j.defers,asize:=j.asize,env:=fun t v z=>j.env t v ?_}⟩);show lookup t (env.map fun p=>(p.1,p.2.frz M i d))=some v;rw[ap0 (fun v=>v.frz M i d)];exact X9.get o f t v z
def XRow.eq{f:A->List I}{l:List A}{id:Id}{k:Nat}:∀c a,XRow id (eH l) (row k f l) c a->c.frz id k (l.map f)=a:=by rintro c a ⟨m,rfl,rfl,rfl⟩;simp[C.frz,row,cV,O7.2 rfl]
def XBox.eq{e:List I}{id:Id}{k:Nat}:∀c a,XBox id e c a->c.frz id k [e]=a:=by rintro c a ⟨o,b,rfl,h,rfl⟩;rw[(ax2 h).1];simp[C.frz,O7.2 rfl]
def Sub.frzV{f:A->List I}{l:List A}{id:Id}{env2:Env}{σ2:b6}(b:de (eH σ0) id.1=true)(c:σv[id]? =some (some (vec i f l)))(a:X9 id (XRow id (eH l) (row i f l)) env env2)(e:putF σv id none=some g)(d:FrzS id (XRow id (eH l) (row i f l)) g σ2):Sub σ0 ⟨env,σv⟩ ⟨env2,σ2⟩:=Sub.frzX XRow.eq b c a e d
def AWP.frzV{f:A->List I}{l:List A}{id:Id}{c:Code}{env2:Env}{σ2:b6}(b:de (eH σ0) id.1=true)(d:σv[id]? =some (some (vec i f l)))(a:X9 id (XRow id (eH l) (row i f l)) env env2)(j:putF σv id none=some g)(e:FrzS id (XRow id (eH l) (row i f l)) g σ2)(h:AWP P σ0 sz c Q (St.mk env2 σ2)):AWP P σ0 sz c Q (St.mk env σv):=AWP.sub (Sub.frzV b d a j e) h
def AOps.frzV{f:A->List I}{l:List A}{id:Id}{env2:Env}{σ2:b6}(b:de (eH σ0) id.1=true)(c:σv[id]? =some (some (vec i f l)))(a:X9 id (XRow id (eH l) (row i f l)) env env2)(e:putF σv id none=some g)(d:FrzS id (XRow id (eH l) (row i f l)) g σ2)(h:AOps P σ0 sz ops Q rest (St.mk env2 σ2)):AOps P σ0 sz ops Q rest (St.mk env σv):=AOps.sub (Sub.frzV b c a e d) h
/-! ### nil -/
def Sub.virtV{α:Type}(k:Nat)(f:α->List I)(t:Nat)(b:lookup t env=some (.c (.imm (.val (.slice none 0 0)))))(d:newF σv=some M)(a:w8 σv (.one (vec k f []))=some σ'):Sub σ0 ⟨env,σv⟩ ⟨(t,.c (.own M 0 ([]:List α).length))::env,σ'⟩:=by have e:=D6 d;have g:=v7 a;subst e g;exact Sub.virt (s:=⟨env,σv⟩) t k b
def AWP.virtV{α:Type}{c:Code}(k:Nat)(f:α->List I)(t:Nat)(b:lookup t env=some (.c (.imm (.val (.slice none 0 0)))))(d:newF σv=some M)(a:w8 σv (.one (vec k f []))=some σ')(h:AWP P σ0 sz c Q (St.mk ((t,.c (.own M 0 ([]:List α).length))::env) σ')):AWP P σ0 sz c Q (St.mk env σv):=AWP.sub (Sub.virtV k f t b d a) h
def Sub.nilrow(k:Nat)(t:Nat)(f:lookup t env=some (.c (.imm (.val (.slice none 0 0))))):Sub σ0 ⟨env,σv⟩ ⟨(t,.c (.imm (.sl k [])))::env,σv⟩:=by intro n sz g a w h b;refine⟨g,{toRs:=b.toRs,defers:=b.defers,asize:=b.asize,env:= ?_}⟩;intro i v d;simp only[lookup] at d;split at d;rename_i e;have:=cC e;subst this;cases d;obtain⟨u,j,l⟩:=b.env _ _ f;refine⟨u,j,?_⟩;rw[val_inv l];exact .c (.imm .slNil);exact b.env i v d
def AWP.nilrow{c:Code}(k:Nat)(t:Nat)(a:lookup t env=some (.c (.imm (.val (.slice none 0 0)))))(h:AWP P σ0 sz c Q (St.mk ((t,.c (.imm (.sl k [])))::env) σv)):AWP P σ0 sz c Q (St.mk env σv):=AWP.sub (Sub.nilrow k t a) h
/-! ### Lent to a call -/
mutual
inductive LendC(σ:b6):C->C->Prop
 |imm {e:I}:LendC σ (.imm e) (.imm e)
 |own {α:Type} {id:Id} {k n:Nat} {f:α->List I} {l:List α} (h:σ[id]? =some (some (vec k f l))) (hn:n=eH l):LendC σ (.own id 0 n) (row k f l)
 |nil {k:Nat}:LendC σ (.imm (.val (.slice none 0 0))) (.imm (.sl k []))
 |ptr {id:Id} {o k:Nat} {cs:List C} {es es':List I} (h:σ[id]? =some (some (.cells k [cs]))) (hd:dropF o es=some es') (hl:P7 σ cs (es.map .imm)):LendC σ (.ptr id 0 o) (.imm (.ipt es'))
 |fn {f:FuncId} {caps caps':List C} (h:P7 σ caps caps'):LendC σ (.fn f caps) (.fn f caps')
 |fnI {f:FuncId} {caps:List C} {caps':List I} (h:P7 σ caps (caps'.map .imm)):LendC σ (.fn f caps) (.imm (.fn f caps'))
inductive P7(σ:b6):List C->List C->Prop
 |nil:P7 σ [] []
 |cons {c c':C} {l l':List C} (h:LendC σ c c') (hl:P7 σ l l'):P7 σ (c::l) (c'::l')
end
inductive LendT(σ:b6):T->T->Prop
 |c {e y:C} (h:LendC σ e y):LendT σ (.c e) (.c y)
 |agg {l l':List C} (h:P7 σ l l'):LendT σ (.agg l) (.agg l')
inductive ao6(σ:b6):List T->List T->Prop
 |nil:ao6 σ [] []
 |cons {c c':T} {l l':List T} (h:LendT σ c c') (hl:ao6 σ l l'):ao6 σ (c::l) (c'::l')
def Cx.open(w:World):Cx:=⟨w,fun _=>False,fun _=>none,[]⟩
def good_open(w:World):Good (Cx.open w):=
 {st:=⟨fun i b a=>by simp[Cx.open] at a,fun i j d e p q a=>by simp[Cx.open] at a⟩,lt:=fun _ h=>h.elim,own:=fun i blk b c a=>by simp[Cx.open] at a}
def al_open(w:World)(b:Nat):Al (Cx.open w).N (fun _=>none) [] b:=⟨fun h=>h,fun i blk a c=>by simp at c⟩
def lend_own{N:Cx}{d:Act}{G:Phi}{l:List A}(O:R N sz ⟨env,σv⟩ G d a)(h:σv[M]? =some (some (vec i V l))){u:Vl}(r:ad5 a (G M) i ((l.map V).map (·.map C.imm)).length 0 (eH l) u){g:Nat->Prop}(H:∀b,g b):RelI a g (.sl i (l.map V)) u:=by
 have hs:Src σv i (.c (.own M 0 (eH l))) ((l.map V).map (·.map .imm)):=(SrcF.own h rfl).src;rcases r with⟨h1,U,_,X⟩|⟨b,q,w,s,k,ad,f,hv,E,t,v,aa,y,ac⟩;have:l=[]:=cU X;subst this;subst U;exact .slNil;obtain⟨J,K,z,L,hk,F⟩:=N5 O h f;rw[y] at z;cases z;subst hv;have get:∀(j:Nat) (e:List I),(l.map V)[j]? =some e->((l.map V).map (·.map C.imm))[j]? =some (e.map .imm):=fun j e p=>by rw[lM,p];rfl
 have n:eH l=(l.map V).length:=by simp
 have key:∀(j:Nat) (e:List I) (o:Nat) (x:I),(l.map V)[j]? =some e->e[o]? =some x->∃u,s[q+(j * i+o)]? =some u/\RelI a g x u:=fun j e o x p B=>by obtain⟨u,r,D⟩:=F j _ o (.imm x) (get j e p) (by rw[lM,B];rfl);cases D with|imm D=>exact⟨u,r,D.mono (fun _ _ _=>rfl) (fun b _ _=>H b)⟩
 rw[n];refine .sl (fun j o=>(s[q+(j * i+o)]?).getD Go.undef) (by rw[<- n];exact t) v (fun j e p=> ?_) (fun j e o x p B=>⟨H _,?_⟩) (fun j e o x p B=> ?_);have:=hk j _ (get j e p);simpa using this;obtain⟨u,r,_⟩:=key j e o x p B;have hj:j<eH l:=by rw[n];exact(lG.1 p).1
 rw[E (by omega),H8,U9 y];simp only[dP,dC];rw[r];rfl;obtain⟨u,r,D⟩:=key j e o x p B;rw[r];exact D
mutual
theorem LendC.rel{G:Cx}{a:Act}{w:World}{z:Phi}{σ':b6}{j:Phi}{A:Nat->Prop}(t:R G sz ⟨env,σv⟩ z a w)(s:∀b,A b):∀{c H:C},LendC σv c H->∀{u:Vl},RelC w z σv (Al G.N z σv) c u->RelC w j σ' A H u
 |_,_,.imm,u,h=>by cases h with|imm h=>exact .imm (h.mono (fun _ _ _=>rfl) (fun b _ _=>s b))
 |_,_,.own k K,u,h=>by subst K;cases h with|own _ _ h=>exact .imm (lend_own t k (h _ _ k) s)
 |_,_,.nil,u,h=>by cases h with|imm h=>cases h;exact .imm .slNil
 |_,_,.ptr (o:=o) (cs:=cs) (es:=J) k L n,u,h=>by
  obtain⟨M,h2⟩:=ax2 L;subst M;cases h with|ptr O _ h=>
   obtain⟨b,l,U,rfl⟩:=h _ _ k
   obtain⟨v,V,X,aa,hk,B⟩:=N5 t k U
   have key:∀(o:Nat) (x:I),J[o]? =some x->∃u,v[l+o]? =some u/\RelI w A x u:=fun o x p=>by obtain⟨c,hc,d⟩:=P7.get t s (φ':=j) (σ':=σ') n o (.imm x) (by rw[lM,p];rfl);obtain⟨u,y,r⟩:=B 0 cs o c rfl hc;have:=d r;cases this with|imm this=>exact⟨u,by simpa using y,this⟩
   refine .imm (.ipt (fun q=>(v[l+(o+q)]?).getD Go.undef) (fun q x p=>⟨s _,?_⟩) (fun q x p=> ?_))
   ·rw[dL] at p
    obtain⟨u,y,_⟩:=key _ x p
    rw[H8,U9 X]
    simp only[dP,cQ,dW]
    rw[y];rfl
   ·rw[dL] at p
    obtain⟨u,y,r⟩:=key _ x p
    rw[y];exact r
 |_,_,.fn (caps:=g) (caps':=f) n,u,h=>by
  cases h with|fn D r=>
   have e:eH f=eH g:=P7.len n
   rw[<- e]
   refine .fn D fun i c E=> ?_
   obtain⟨c0,F,d⟩:=P7.get t s (φ':=j) (σ':=σ') n i c E
   exact d (r i c0 F)
 |_,_,.fnI (caps:=g) (caps':=f) n,u,h=>by
  cases h with|fn D r=>
   have e:eH f=eH g:=by have:=P7.len n;simpa using this
   rw[<- e]
   refine .imm (.fn D fun i c E=> ?_)
   obtain⟨c0,F,d⟩:=P7.get t s (φ':=j) (σ':=σ') n i (.imm c) (by rw[lM,E];rfl)
   have:=d (r i c0 F)
   cases this with|imm this=>exact this
theorem P7.get{f:Cx}{a:Act}{w:World}{φ:Phi}{σ':b6}{φ':Phi}{A:Nat->Prop}(g:R f sz ⟨env,σv⟩ φ a w)(j:∀b,A b):∀{l k:List C},P7 σv l k->∀(i:Nat) (d:C),k[i]? =some d->∃c,l[i]? =some c/\∀{u:Vl},RelC w φ σv (Al f.N φ σv) c u->RelC w φ' σ' A d u
 |_,_,.nil,i,d,h=>by simp at h
 |_,_,.cons h n,0,d,e=>by simp only[cD,Option.some.injEq] at e;subst e;exact⟨_,rfl,fun o=>LendC.rel g j h o⟩
 |_,_,.cons h n,i+1,d,e=>by obtain⟨c,p,q⟩:=P7.get g j (φ':=φ') (σ':=σ') n i d (by simpa using e);exact⟨c,by simpa using p,q⟩
theorem P7.len:∀{l a:List C},P7 σv l a->eH a=eH l
 |_,_,.nil=>rfl
 |_,_,.cons h b=>by simp[P7.len b]
end
def LendT.rel{n:Cx}{d:Act}{k:Phi}{f:Phi}{A:Nat->Prop}(o:R n sz ⟨env,σv⟩ k d a)(p:∀b,A b){c q:T}(h:LendT σv c q){u:Vl}(j:RelT a k σv (Al n.N k σv) c u):RelT a f g A q u:=by
 cases h with
 |c h=>cases j with|c j=>exact .c (h.rel o p j)
 |@agg l r h=>
  cases j with|agg s j=>
   have e:eH r=eH l:=P7.len (env:=env) (sz:=sz) h
   rw[<- e]
   refine .agg s fun i c t=> ?_
   obtain⟨c0,v,x⟩:=h.get o p (φ':=f) (σ':=g) i c t
   exact x (j i c0 v)
def ao6.get:∀{l b:List T},ao6 σv l b->eH b=eH l/\∀(i:Nat) (a:T),b[i]? =some a->∃t,l[i]? =some t/\LendT σv t a
 |_,_,.nil=>⟨rfl,fun i t h=>by simp at h⟩
 |_,_,.cons h d=>⟨by simp[(ao6.get d).1],fun i a c=>by
   cases i with
   |zero=>
    simp only[cD,Option.some.injEq] at c
    subst c
    exact⟨_,rfl,h⟩
   |succ i=>simpa using(ao6.get d).2 i a (by simpa using c)⟩
def C.scal:C->Bool
 | .imm (.val _)=>true
 |_=>false
def T.scal1:T->Bool
 | .c x=>x.scal
 | .agg cs=>cs.all C.scal
 |_=>false
def T.scal:T->Bool
 | .tup l=>l.all T.scal1
 |t=>t.scal1
def C.scal_rel{e:World}{f b:Phi}{A i:Nat->Prop}{c:C}{v:Vl}(d:c.scal=true)(h:RelC a f g A c v):RelC e b t i c v:=by
 cases h with
 |imm h=>cases h with
  |val h=>exact .imm (.val h)
  |_=>simp[C.scal] at d
 |_=>simp[C.scal] at d
def agg_scal{f:World}{j b:Phi}{A k:Nat->Prop}{cs:List C}{v:Vl}(d:cs.all C.scal=true)(h:RelT a j g A (.agg cs) v):RelT f b t k (.agg cs) v:=by
 cases h with|agg l n=>
  rw[cJ] at d
  exact .agg l fun i c e=>C.scal_rel (d c (cS e)) (n i c e)
def T.scal1_rel{e:World}{f b:Phi}{σ':b6}{A i:Nat->Prop}{t:T}{v:Vl}(d:t.scal1=true)(h:RelT a f g A t v):RelT e b σ' i t v:=by
 cases t with
 |c x=>cases h with|c h=>exact .c (C.scal_rel d h)
 |agg cs=>exact agg_scal d h
 |_=>cases d
def T.scal_rel{f:World}{j d:Phi}{σ':b6}{A k:Nat->Prop}{t:T}{v:Vl}(b:t.scal=true)(h:RelT a j g A t v):RelT f d σ' k t v:=by
 cases t with
 |tup l=>
  have b:l.all T.scal1=true:=b
  rw[cJ] at b
  cases h with|tup n o=>exact .tup n fun i t e=>T.scal1_rel (b t (cS e)) (o i t e)
 |c x=>exact T.scal1_rel (t:=.c x) b h
 |agg cs=>exact T.scal1_rel (t:=.agg cs) b h
 |undef=>cases b
def Rs.same{f:Cx}{d:Phi}{e:World}(h:Rs f g d a)(o:e.os=a.os)(v:e.tape=a.tape)(hdr:a.drawn<=e.drawn)(x:e.output=a.output)(y:a.heap.size<=e.heap.size)(n:∀b,b<a.heap.size->e.heap[b]? =a.heap[b]?):
  Kept a e d d g g (Al f.N d g) (Al f.N d g)/\Rs f g d e:=by
 have q:Kept a e d d g g (Al f.N d g) (Al f.N d g):=
  ⟨fun b _ z=>n b z,fun _ h _=>h,dq _,fun i k A r u=>⟨A,u,rfl,rfl,fun b j s B t D=>⟨s,(n b (Al.own_lt h.st u t)).trans D,rfl⟩⟩,fun _ p cs _ h=>⟨rfl,p,cs,h⟩⟩
 refine⟨q,?_⟩
 exact {
  good:=h.good
  st:=⟨fun i b r=>BlkR.mono q (fun c j t=>n c (Al.own_lt h.st r t)) (h.st.blk i b r),h.st.inj⟩
  keep:=h.keep
  os:=o.trans h.os
  tape:=v.trans h.tape
  drawn:=dF h.drawn hdr
  output:=x.trans h.output
  size:=dF h.size y
  block:=fun b l=>(n b (dM l.1 h.size)).trans (h.block b l)
  kept:=Kept.trans h.size h.kept q}
def AOps.ab{l:List Od}{g:Array Ti}{f:FuncId}{d:List C}{n:List T}{r:T}(F:ev env L=some (.c (.fn f d)))(G:evs env l=some q)(H:ao6 σv (q++d.map T.c) n)(J:h9 sz dst=true)(D:e9 P f n r)(K:r.scal=true)(h:AOps P σ0 sz ops Q rest (St.mk (putE env dst r) σv)):
  AOps P σ0 sz ops Q (⟨dst,.call ⟨.value L,l.toArray,g⟩,ty,pos,after,none⟩::rest) (St.mk env σv):=fun M N a w s p O=>by
  obtain⟨vs,U,V,X⟩:=av0 (P:=P) (dst:=dst) (ty:=ty) (pos:=pos) (after:=after) (ats:=g) p F G D.fn
  obtain⟨l1,x⟩:=H.get
  refine ad6 rfl (ax3 U ?_)
  refine(D.run (Cx.open w) vs rfl (good_open w) (by rw[l1];exact V) (fun i t u y hu=> ?_)).mono ?_
  ·obtain⟨t0,z,j⟩:=x i t y
   exact j.rel p (al_open w) (X i t0 u z hu)
  ·rintro e w' ⟨v,r',σ',aa,rfl,hq,o,k⟩
   subst hq
   obtain⟨A,B⟩:=p.toRs.same k.os k.tape k.drawn k.output k.size (fun b hb=>k.block b ⟨hb,fun i blk E y=>by simp[Cx.open] at y⟩)
   exact h M N _ w' s ((p.of A B).put J (T.scal_rel K o)) O
/-! ### New rows handed back -/
def S.fresh{l:List A}{b:List Od}{d:Array Ti}{f:FuncId}{a:List C}(o:ev env L=some (.c (.fn f a)))(p:evs env b=some q)(e:T.okL 0 (q++a.map T.c)=true)(r:h9 sz dst=true)(s:p8 P f (q++a.map T.c) i (l.map V))(t:newF σv=some M)(j:w8 σv (.one (vec i V l))=some σ')(h:AOps P σ0 sz ops Q rest (St.mk (putE env dst (.c (.own M 0 (eH l)))) σ')):
  AOps P σ0 sz ops Q (⟨dst,.call ⟨.value L,b.toArray,d⟩,ty,pos,after,none⟩::rest) (St.mk env σv):=by
 have u:=D6 t;have v:=v7 j
 subst u v
 exact .fresh o p e r s (by rw[df];exact h)
def Fresh.mk{l:List A}(b:p=eH l)(h:g[M]? =some (some (vec i V l))):∃a,(T.c (.own M 0 p))=.c (.own a 0 (l.map V).length)/\g[a]? =some (some (Blk.im i (l.map V))):=
 ⟨M,by rw[df,b],h⟩
def FrzL.imm{id:Id}{X:C->C->Prop}:∀l:List I,FrzL id X (l.map .imm) (l.map .imm)
 |[]=>trivial
 |_::r=>⟨.inl ⟨rfl,rfl⟩,FrzL.imm r⟩
def FrzB.vec{f:A->List I}{l:List A}{id:Id}{k:Nat}{X:C->C->Prop}:FrzB id X (.one (vec k f l)) (.one (vec k f l)):=by
 have h:=Blk.im_no id k (l.map f);unfold FrzB;split;rename_i c _;cases c;rename_i n e o g c d;simp only[vec,Blk.im,Ent.one.injEq,Blk.cells.injEq] at c d;obtain⟨rfl,c⟩:=c;obtain⟨rfl,d⟩:=d;have:e=g:=by rw[c] at d;simpa using d
 subst this;refine⟨rfl,?_⟩;obtain⟨a,rfl⟩:∃a,l=[a]:=by
  cases l with
  |nil=>simp at c
  |cons a l=>cases l with
   |nil=>exact⟨a,rfl⟩
   |cons b l=>simp at c
 simp only[dA,List.map_nil,List.cons.injEq,and_true] at c;rw[<- c];exact FrzL.imm _;rename_i c d;cases c;cases d;exact⟨rfl,h⟩;rename_i c;cases c;rename_i c d i j;first|exact(i _ _ rfl rfl).elim|exact(j _ _ rfl rfl).elim|exact(d _ _ rfl rfl).elim
/-! ### nil where data is asked -/
def NilC(c a:C):Prop:=a=c\/(c=.imm (.val (.slice none 0 0))/\∃k,a=.imm (.sl k []))
def NilL:List C->List C->Prop
 |[],[]=>True
 |c::l,a::b=>NilC c a/\NilL l b
 |_,_=>False
def NilT:T->T->Prop
 | .c c,.c a=>NilC c a
 | .agg l,.agg b=>NilL l b
 |t,d=>d=t
def NilTs:List T->List T->Prop
 |[],[]=>True
 |c::l,a::b=>NilT c a/\NilTs l b
 |_,_=>False
def NilC.rel{d:Phi}{A:Nat->Prop}{c e:C}{u:Vl}(h:NilC c e)(b:RelC a d g A c u):RelC a d g A e u:=by rcases h with rfl|⟨rfl,k,rfl⟩;exact b;cases b with|imm b=>cases b;exact .imm .slNil
def NilL.get{w:World}{φ:Phi}{σ:b6}{A:Nat->Prop}:∀{l a:List C},NilL l a->eH a=eH l/\∀(i:Nat) (b:C),a[i]? =some b->∃c,l[i]? =some c/\∀u,RelC w φ σ A c u->RelC w φ σ A b u
 |[],[],_=>⟨rfl,fun i c h=>by simp at h⟩
 |[],_::_,h=>h.elim
 |_::_,[],h=>h.elim
 |c::l,b::a,h=>⟨by simp[(NilL.get (w:=w) (φ:=φ) (σ:=σ) (A:=A) h.2).1],fun i x d=>by
   cases i with
   |zero=>
    simp only[cD,Option.some.injEq] at d
    subst d
    exact⟨c,rfl,fun u e=>h.1.rel e⟩
   |succ i=>simpa using(NilL.get (w:=w) (φ:=φ) (σ:=σ) (A:=A) h.2).2 i x (by simpa using d)⟩
def NilT.rel{d:Phi}{A:Nat->Prop}{t e:T}{u:Vl}(h:NilT t e)(b:RelT a d g A t u):RelT a d g A e u:=by
 cases t<;>cases e<;>simp only[NilT] at h<;>first
  |(cases b with|c b=>exact .c (h.rel b))
  |(cases b with|agg f b=>
    obtain⟨j,k⟩:=h.get (w:=a) (φ:=d) (σ:=g) (A:=A)
    rw[<- j]
    exact .agg f fun i c l=>by obtain⟨c0,n,o⟩:=k i c l;exact o _ (b i c0 n))
  |(cases h;exact b)
  |(cases h)
def NilTs.get:∀{l a:List T},NilTs l a->eH a=eH l/\∀(i:Nat) (d:T),a[i]? =some d->∃t,l[i]? =some t/\NilT t d
 |[],[],_=>⟨rfl,fun i c h=>by simp at h⟩
 |[],_::_,h=>h.elim
 |_::_,[],h=>h.elim
 |c::l,e::a,h=>⟨by simp[(NilTs.get h.2).1],fun i x b=>by
   cases i with
   |zero=>
    simp only[cD,Option.some.injEq] at b
    subst b
    exact⟨c,rfl,h.1⟩
   |succ i=>simpa using(NilTs.get h.2).2 i x (by simpa using b)⟩
def FnOk.nil{f:FuncId}{a:List T}{c:T->b6->Prop}(h:NilTs q a)(d:FnOk P f a g c):FnOk P f q g c:=
 ⟨d.fn,fun e vs b j k l=>by obtain⟨n,o⟩:=h.get;refine d.run e vs b j (by rw[n];exact k) (fun i t u p r=> ?_);obtain⟨t0,s,v⟩:=o i t p;exact v.rel (l i t0 u s r)⟩
def e9.nil{f:FuncId}{a:List T}{r:T}(h:NilTs q a)(b:e9 P f a r):e9 P f q r:=FnOk.nil h b
def p8.nil{f:FuncId}{a:List T}{k:Nat}{es:List (List I)}(h:NilTs q a)(b:p8 P f a k es):p8 P f q k es:=FnOk.nil h b
def p8.data{f:FuncId}{a:List (List I)}(n:p8 P f q i a):e9 P f q (.c (.imm (.sl i a))):=by
 unfold p8 at n;unfold e9;refine⟨n.fn,fun o vs b y z A=>(n.run o vs b y z A).mono ?_⟩;rintro e w ⟨v,r,σ',d,rfl,⟨id,rfl,p⟩,g,B⟩;have D:R o 1 ⟨[(0,.c (.own id 0 (eH a)))],σ'⟩ d ⟨#[v],[]⟩ w:=
  {toRs:=B,defers:=.nil,asize:=rfl,env:=fun t x l=>by simp only[lookup] at l;split at l;rename_i e;have:=cC e;subst this;cases l;exact⟨v,rfl,g⟩;cases l}
 obtain⟨h,j⟩:=Sub.frz (σ0:=[]) id i a (Nat.zero_le _) p o 1 d _ w b D;obtain⟨u,E,s⟩:=j.env 0 (.c (.imm (.sl i a))) (by simp[St.frz,lookup,T.frz,C.frz,O7.2 rfl]);cases E;exact⟨v,_,_,h,rfl,rfl,s,j.toRs⟩
def an6{b:List C}(d:T.okL 0 q=true)(e:C.okL 0 b=true):T.okL 0 (q++b.map T.c)=true:=by rw[av6,cJ] at d ⊢;rw[N7,cJ] at e;intro x a;rw[List.mem_append,ee] at a;rcases a with a|⟨c,f,rfl⟩;exact d x a;exact e c f
def Sub.look{env env':Env}(h:∀t v,lookup t env'=some v->lookup t env=some v):Sub σ0 ⟨env,σv⟩ ⟨env',σv⟩:=fun _ _ b _ _ _ a=>
 ⟨b,{toRs:=a.toRs,defers:=a.defers,asize:=a.asize,env:=fun t v c=>a.env t v (h t v c)}⟩
end
def flat_get{k:Nat}:∀{l:List (List A)},(∀e ∈ l,eH e=k)->∀(j:Nat) (e:List A) (o:Nat) (x:A),l[j]? =some e->e[o]? =some x->l.flatten[j * k+o]? =some x
 |[],_,j,e,o,x,h,_=>by simp at h
 |a::l,hk,0,e,o,x,h,b=>by simp only[cD,Option.some.injEq] at h;subst h;rw[dO,dP,cQ,cX (lG.1 b).1];exact b
 |a::l,hk,j+1,e,o,x,h,b=>by have c:=hk a (by simp);have:=flat_get (l:=l) (fun e d=>hk e (List.mem_cons_of_mem _ d)) j e o x (by simpa using h) b;rw[dO,dm,Nat.one_mul,cW (by rw[c];omega),c];rw[show j * k+k+o - k=j * k+o by omega];exact this
def zrep_get(b:0<eH Q):∀(n i:Nat),i<n * (eH Q)->(cK n Q).flatten[i]? =Q[i % (eH Q)]?
 |0,i,h=>by simp at h
 |n+1,i,h=>by rw[List.replicate_succ,dO];by_cases a:i<eH Q;rw[cX a,Nat.mod_eq_of_lt a];rw[cW (by omega),zrep_get b n _ (by rw[dm] at h;omega)];congr 1;rw[<- Nat.mod_eq_sub_mod (by omega)]
def NilLL:List (List C)->List (List C)->Prop
 |[],[]=>True
 |c::l,a::b=>NilL c a/\NilLL l b
 |_,_=>False
def NilLL.get:∀{l a:List (List C)},NilLL l a->eH a=eH l/\∀(i:Nat) (b:List C),a[i]? =some b->∃c,l[i]? =some c/\NilL c b
 |[],[],_=>⟨rfl,fun i c h=>by simp at h⟩
 |[],_::_,h=>h.elim
 |_::_,[],h=>h.elim
 |c::l,b::a,h=>⟨by simp[(NilLL.get h.2).1],fun i x d=>by
   cases i with
   |zero=>
    simp only[cD,Option.some.injEq] at d
    subst d
    exact⟨c,rfl,h.1⟩
   |succ i=>simpa using(NilLL.get h.2).2 i x (by simpa using d)⟩
def NilL.len:∀{l a:List C},NilL l a->eH a=eH l
 |[],[],_=>rfl
 |[],_::_,h=>h.elim
 |_::_,[],h=>h.elim
 |c::l,b::a,h=>by simp[NilL.len h.2]
def lens(k:Nat):List (List C)->Bool
 |[]=>true
 |e::r=>cG (eH e) k && lens k r
def lens_mem:∀{l:List (List C)},lens i l=true->∀e ∈ l,eH e=i
 |[],_,e,h=>by simp at h
 |a::l,h,e,b=>by simp only[lens,cE] at h;simp only[dN] at b;rcases b with rfl|b;exact cC h.1;exact lens_mem h.2 e b
theorem S.lit{P:Program}{σ0:b6}{sz:Nat}{Q:Post}{env:Env}{σv σ':b6}{ops:Array Oper}{rest:List Oper}{dst:Option Nat}{ty:Ti}{pos:String}{after:Array Edge} {α : Type} {f : α -> List I} {l : List α} {t e : Ti} {id : Id} {k bytes n : Nat} {z : Vl} {zc : List C} {parts : List (Nat × Od)} {ps : List (Nat × T)} {ess : List (List C)} [ht : TyD P t (.slice e)] [hs : TyS P e k bytes z] [hz : TyZ P e zc]
    (hl : cG (eH zc) k = true) (hkp : di 0 k = true) (hsm : de (n * k) 16777216 = true) (hps : evP env parts = some ps) (hf : fillC (fun i => some (i * k, k)) (cK n zc).flatten ps = some ess.flatten) (hlen : lens k ess = true) (hn : cG (eH ess) n = true)
    (hnil : NilLL ess ((l.map f).map (·.map .imm))) (hid : newF σv = some id) (hσ : w8 σv (.one (vec k f l)) = some σ') (hd : h9 sz dst = true)
    (h : AOps P σ0 sz ops Q rest (St.mk (putE env dst (.c (.own id 0 (eH l)))) σ')) : AOps P σ0 sz ops Q (⟨dst, .buildSlice t n parts.toArray, ty, pos, after, none⟩ :: rest) (St.mk env σv) := by
  have g1 := D6 hid; have g2 := v7 hσ
  subst g1 g2
  have hl' : (eH zc) = k := cC hl
  have hk0 : 0 < k := by simpa using hkp
  have hn' : (eH ess) = n := cC hn
  have hsm' : ¬ (16777216 < n * k) := by have : n * k <= 16777216 := cO hsm
                                         omega
  have hle := lens_mem hlen
  obtain ⟨nl1, nl2⟩ := hnil.get
  have hll : (eH l) = n := by simpa [hn'] using nl1
  have main : AOps P σ0 sz ops Q rest (St.mk (putE env dst (.c (.own (eH σv, []) 0 n))) (σv ++ [.one (.cells k ess)])) := by
    have hset : b6.put (σv ++ [.one (Blk.cells k ess)]) (eH σv, []) (some (.cells k ((l.map f).map (·.map .imm)))) = σv ++ [.one (vec k f l)] := b6.put_last _ _ σv
    have hsub := Sub.blk (σ0 := σ0) (env := putE env dst (.c (.own (eH σv, []) 0 n))) (σv := σv ++ [.one (Blk.cells k ess)]) (id := (eH σv, [])) (k := k) (es := ess) (es' := (l.map f).map (·.map .imm)) (b6.get_last _ _) nl1
      (fun j e he => by
        obtain ⟨c, hc, hh⟩ := nl2 j e he
        rw [hh.len, hle c (cS hc)]) (fun j e o x he hx => by
        obtain ⟨c, hc, hh⟩ := nl2 j e he
        have hh' : ∀ w φ σ A, _ := fun w φ σ A => (NilL.get (w := w) (φ := φ) (σ := σ) (A := A) hh).2 o x hx
        have ho : o < (eH c) := by rw [<- hh.len]; exact (lG.1 hx).1
        refine ⟨c, c[o], hc, cH ho, fun w φ σ A u hu => ?_⟩
        obtain ⟨c0, h1, h2⟩ := hh' w φ σ A
        rw [cH ho] at h1
        cases h1
        exact h2 u hu)
    rw [hset] at hsub
    rw [hll] at h
    exact AOps.sub hsub h
  refine AOps.valueW rfl hd (.c (.own (eH σv, []) 0 n)) (σv ++ [.one (.cells k ess)]) (fun Γ φ a w hR => ?_) (by cases dst <;> exact main)
  obtain ⟨e1, e2⟩ := evP_rel hR hps
  obtain ⟨size', bytes', z', v, hs', k1, k2⟩ := hz.h
  have hzz : z' = z := by
    obtain ⟨i, a1, _, _, a4⟩ := hs.h
    obtain ⟨i', b1, _, _, b4⟩ := hs'.h
    rw [a1] at b1; cases b1
    rw [a4] at b4; cases b4; rfl
  subst hzz
  obtain ⟨zr1, zr2⟩ := W3 (w := w) (φ := φ) (σ := σv) (A := Al Γ.N φ σv) (ai1 k1) k2
  have hbase : ∀ base, base = (Array.range (n * k)).map (fun i => (if n * k = 0 then (#[] : Array Vl) else z'.cells)[i % (if n * k = 0 then (#[] : Array Vl) else z'.cells).size]!) -> RelL w φ σv (Al Γ.N φ σv) (cK n zc).flatten base := by
    rintro base rfl
    refine ⟨by simp [hl'], fun i c hi => ?_⟩
    have hin : i < n * k := by
      have := (lG.1 hi).1
      simpa [hl'] using this
    have hne : ¬ n * k = 0 := by omega
    rw [zrep_get (by omega) n i (by rw [hl']; exact hin), hl'] at hi
    obtain ⟨u, hu, hr⟩ := zr2 _ c hi
    refine ⟨u, ?_, hr⟩
    have hzs : z'.cells.size = k := by rw [zr1, hl']
    have hlt : i % k < z'.cells.size := by rw [hzs]; exact Nat.mod_lt _ hk0
    simp only [if_neg hne, Array.getElem?_map, Array.getElem?_range, hzs, hin, if_true, cM]
    rw [Array.getElem?_eq_getElem hlt] at hu
    simp [getElem!_pos, hlt, Option.some.inj hu]
  obtain ⟨arr', f1, f2⟩ := aA5 (w := w) e1 e2 (hbase _ rfl) hf
  have hfl : (eH ess.flatten) = n * k := by
    rw [List.length_flatten]
    have : ess.map eH = cK n k := by
      rw [<- hn']
      apply cY
      intro i
      rw [lM, dp]
      by_cases hi : i < (eH ess)
      · rw [if_pos hi, cH hi]
        simp only [cM]
        rw [hle _ (dQ hi)]
      · rw [if_neg hi, du (by omega)]; rfl
    rw [this, List.sum_replicate_nat]
  have hA := Rs.alloc (k := k) (es := ess) (arr := arr') (ety := e) hR.toRs (fun j e he => hle e (cS he)) (by rw [f2.1, hfl, hn']; exact dq _) (fun j e o x he hx => f2.2 _ x (flat_get hle j e o x he hx))
  have hnm : n <= maxLen := by
    have : n * 1 <= n * k := Nat.mul_le_mul_left _ hk0
    simp only [maxLen]; omega
  have hnle : 0 + n <= (eH ess) := by omega
  refine ⟨.slice (some ⟨w.heap.size, 0, none⟩) n n, _, _, ?_, K0 (k := k) (es := ess) (b6.get_last _ _) rfl (.inr ⟨w.heap.size, 0, n, arr', e, ⟨w.heap.size, 0, none⟩, by simp [r7], rfl, fun _ => by simp, dq _, hnm, hnle, heap_alloc_new w _, by rw [f2.1, hfl]; simp⟩), hR.of hA.1 hA.2⟩
  have e3 : (execOp a.eval ⟨dst, .buildSlice t n parts.toArray, ty, pos, after, none⟩).run P w = ((Instr.buildSlice t n (parts.map fun p => (p.1, a.eval p.2)).toArray).run P w).andThen fun v w => .ok (.value v) w := by
    simp [execOp]
  rw [e3]
  by_cases h0 : n * k = 0
  · simp only [h0, if_true] at f1
    simp [Instr.buildSlice, run_underlying ht.h, p7 (t := e), h0, newRow]
    simp at f1
    rw [f1]
    simp
  · simp only [if_neg h0] at f1
    have hz2 : (zeroValue e).run P w = .ok z' w := am6 (t := e) w
    simp [Instr.buildSlice, run_underlying ht.h, p7 (t := e), hz2, h0, hsm', newRow]
    try simp at f1
    rw [f1]
    simp
def hdr(id:Id)(M:List (List A)):List (List C):=M.mapIdx fun p row=>[.own (id.1,id.2++[p]) 0 (eH row)]
def mat{α:Type}(id:Id)(k:Nat)(f:α->List I)(M:List (List α)):Ent:=.node (some (.cells 1 (hdr id M))) (M.map fun row=>.one (vec k f row))
def matD(id:Id)(k:Nat)(f:A->List I)(M:List (List A))(p:Nat):Ent:=.node (some (.cells 1 (hdr id M))) ((M.map fun row=>.one (vec k f row)).set p .dead)
def matSD(id:Id)(k:Nat)(f:A->List I)(M:List (List A))(p:Nat)(n:Id)(m:Nat):Ent:=.node (some (.cells 1 ((hdr id M).set p [.own n 0 m]))) ((M.map fun row=>.one (vec k f row)).set p .dead)
def hdr_get{row:List A}(h:X[i]? =some row):(hdr M X)[i]? =some [.own (M.1,M.2++[i]) 0 (eH row)]:=by
 simp[hdr,cL,h]
def aw6{e:List C}(h:(hdr M X)[i]? =some e):∃row,X[i]? =some row/\e=[.own (M.1,M.2++[i]) 0 (eH row)]:=by simp only[hdr,cL,oM] at h;obtain⟨row,a,b⟩:=h;exact⟨row,a,b.symm⟩
@[simp] theorem hdr_length(id:Id)(M:List (List A)):(hdr id M).length=eH M:=by simp[hdr]
def hdr_set{id:Id}{row:List A}:hdr id (X.set i row)=(hdr id X).set i [.own (id.1,id.2++[i]) 0 (eH row)]:=by apply cY;intro a;by_cases b:i=a;subst b;by_cases c:i<eH X;simp[hdr,cL,cN,c];simp[hdr,cL,cN,c];simp[hdr,cL,cN,b]
def hdr_same{id:Id}{row:List A}(h:X[i]? =some row)(c:eH Q=eH row):hdr id (X.set i Q)=hdr id X:=by
 rw[hdr_set,c];apply cY;intro a;rw[cN];by_cases b:i=a;subst b;have d:i<(hdr id X).length:=by rw[hdr_length];exact(lG.1 h).1
 rw[if_pos rfl,if_pos d,hdr_get h];rw[if_neg b]
def mat_main:(mat M i V X).sub []=some (.cells 1 (hdr M X)):=rfl
def O0:(mat M i V X).sub (p::b)=match X[p]? with|some row=>(match b with|[]=>some (vec i V row)|_::_=>none)|none=>none:=by
 simp only[mat,Ent.sub,lM];cases X[p]? with
 |none=>rfl
 |some row=>cases b<;>rfl
def w9{e:Ent}(h:g[i]? =some e)(p:List Nat):g[((i,p):Id)]? =some (e.sub p):=by
 rw[b6.at_eq];simp only[b6.at,h]
def B5{f:A->List I}(h:g[p]? =some (mat (p,[]) i f X)){a:Int}{row:List A}(b:ix X a=some row):g[((p,[a.toNat]):Id)]? =some (some (vec i f row)):=by
 rw[w9 h,O0,(S4 b).2]
def ax0(h:g[p]? =some (mat (p,[]) i V X)):g[((p,[]):Id)]? =some (some (.cells 1 (hdr (p,[]) X))):=by rw[w9 h];rfl
/-! ### Reading -/
def S.lenM{Q:Post}{a:b6}{rest:List Oper}{b:Option Nat}{r:Nat}{t e:Ti}{n:Nat}[q:TyD c t (.slice e)](l:ev s L=some (.c (.own (r,[]) 0 n)))(j:a[r]? =some (mat (r,[]) p V X))(o:h9 i b=true)(h:n<=9223372036854775807->AOps c g i v Q rest (St.mk (putE s b (.c (int n))) a)):AOps c g i v Q (⟨b,.call ⟨.builtin .len,#[L],#[t]⟩,d,B,H,none⟩::rest) (St.mk s a):=
 .lenOwnB l (ax0 j) o h
def S.loadM{b:Post}{j:b6}{rest:List Oper}{l:Option Nat}{o:Ti}{f:A->List I}{r:Nat}{t:Ti}{d:TypeDesc}{e:Int}[z:TyD c t d](q:ix X e=some Q)(u:D8 d=false)(w:ev s L=some (.c (.ptr (r,[]) e.toNat 0)))(n:j[r]? =some (mat (r,[]) p f X))(y:h9 i l=true)(h:AOps c g i v b rest (St.mk (putE s l (.c (.own (r,[e.toNat]) 0 (eH Q)))) j)):AOps c g i v b (⟨l,.load t L,o,B,H,none⟩::rest) (St.mk s j):=
 .load u w (ax0 n) (hdr_get (S4 q).2) rfl y h
/-! ### A row written -/
def an5{e c:Ent}(h:g[i]? =some e)(a:Id):(g.set i c)[a]? =if a.1=i then some (c.sub a.2) else g[a]? :=by have d:=(lG.1 h).1;rw[b6.at_eq,b6.at_eq];simp only[b6.at,cN];by_cases b:i=a.1;subst b;simp[d];rw[if_neg b,if_neg (fun e=>b e.symm)]
def mat_put(h:g[p]? =some (mat (p,[]) i V X)){c:Nat}{row:List A}(l:X[c]? =some row)(t:eH Q=eH row)(d:Id):
  (g.put (p,[c]) (some (vec i V Q)))[d]? =(g.set p (mat (p,[]) i V (X.set c Q)))[d]? :=by
 have e:g[((p,[c]):Id)]? =some (some (vec i V row)):=by rw[w9 h,O0,l]
 have s:=(lG.1 l).1
 rw[an5 h]
 by_cases n:d=(p,[c])
 ·subst n
  rw[b6.get_put_eq e,if_pos rfl,O0]
  simp[s]
 ·rw[b6.get_put_ne n]
  by_cases o:d.1=p
  ·obtain⟨u,q⟩:=d
   simp only at o
   subst o
   rw[if_pos rfl,w9 h]
   congr 1
   cases q with
   |nil=>simp only[mat_main];rw[hdr_same l t]
   |cons a q=>
    rw[O0,O0,cN]
    by_cases j:c=a
    ·subst j
     cases q with
     |nil=>exact absurd rfl n
     |cons b q=>rw[if_pos rfl,if_pos s,l]
    ·rw[if_neg j]
  ·rw[if_neg o]
def S.storeR1{P:Program}{Q:Post}{l n:b6}{rest:List Oper}{f:A->List I}{r:Nat}{y:Od}{t:Ti}{bytes:Nat}{z:Vl}{b e:Nat}{row:List A}{a':A}{c:I}[U:TyS P t 1 bytes z](E:X[b]? =some row)(G:e<eH row)(J:∀a,∃u,f a=[u])(D:f a'=[c])(K:ev s L=some (.c (.ptr (r,[b]) e 0)))(N:ev s y=some (.c (.imm c)))(o:l[r]? =some (mat (r,[]) p f X))(q:setF l r (mat (r,[]) p f (X.set b (row.set e a')))=some n)(h:AOps P g i v Q rest (St.mk s n)):AOps P g i v Q (⟨none,.store t L y,d,B,H,none⟩::rest) (St.mk s l):=by
 have O:=(Q7 q).1
 subst O
 have w:l[((r,[b]):Id)]? =some (some (vec p f row)):=by rw[w9 o,O0,E]
 obtain⟨u,F⟩:=J row[e]
 refine AOps.store K N w (vec_get (cH G)) (by rw[F];simp) ?_
 rw[F,show([u].map C.imm).set 0 (.imm c)=(f a').map .imm by rw[D];rfl,vec_set]
 refine AOps.sub (Sub.same (by simp) fun j=>mat_put o E (by simp) j) h
/-! ### Appended to a row -/
def matD_put(h:g[p]? =some (mat (p,[]) i V X)){c:Nat}{row:List A}(l:X[c]? =some row)(d:Id):
  (g.put (p,[c]) none)[d]? =(g.set p (matD (p,[]) i V X c))[d]? :=by
 have e:g[((p,[c]):Id)]? =some (some (vec i V row)):=by rw[w9 h,O0,l]
 have s:=(lG.1 l).1
 rw[an5 h]
 by_cases n:d=(p,[c])
 ·subst n
  rw[b6.get_put_eq e,if_pos rfl]
  simp[matD,Ent.sub,s]
 ·rw[b6.get_put_ne n]
  by_cases o:d.1=p
  ·obtain⟨t,q⟩:=d
   simp only at o
   subst o
   rw[if_pos rfl,w9 h]
   congr 1
   cases q with
   |nil=>rfl
   |cons a q=>
    simp only[mat,matD,Ent.sub,cN,df]
    by_cases j:c=a
    ·subst j
     cases q with
     |nil=>exact absurd rfl n
     |cons b q=>rw[if_pos rfl,if_pos s];simp[l,Ent.sub]
    ·rw[if_neg j]
  ·rw[if_neg o]
def S.appendR{a:Post}{l q:b6}{ops:Array Oper}{rest:List Oper}{o:Option Nat}{f:A->List I}{r:Nat}{J row:List A}{y:Od}{t e:Ti}{bytes m b:Nat}{z:Vl}{v:T}{u:b6}[ht:TyD c t (.slice e)][hs:TyS c e p bytes z](U:app bytes row Q=some J)(O:X[b]? =some row)(K:(z.cells.size==p)=true)(N:di 0 bytes=true)(V:ev s L=some (.c (.own (r,[b]) 0 m)))(P:m=eH row)(w:l[r]? =some (mat (r,[]) p f X))(k:ev s y=some v)(D:SrcF l p f v Q)(x:newF l=some M)(n:setF l r (matD (r,[]) p f X b)=some u)(E:w8 u (.one (vec p f J))=some q)(hd:h9 i o=true)(h:AOps c g i ops a rest (St.mk (putE s o (.c (.own M 0 (eH J)))) q)):
  AOps c g i ops a (⟨o,.call ⟨.builtin .append,#[L,y],#[t,t]⟩,d,B,H,none⟩::rest) (St.mk s l):=by
 obtain⟨hb,rfl⟩:=ar0 U
 have h2:=(Q7 n).1
 have h3:=D6 x;have h4:=v7 E
 subst P h2 h3 h4
 have F:l[((r,[b]):Id)]? =some (some (vec p f row)):=by rw[w9 w,O0,O]
 refine AOps.append (new:=(Q.map f).map (·.map .imm)) K N V F k D.src (by simpa using hb) hd ?_
 have e1:(((((row.map f).map (·.map C.imm)).drop 0).take (eH row))++(Q.map f).map (·.map C.imm))=((row++Q).map f).map (·.map C.imm):=by rw[dw,cV (by simp)];simp
 have e2:eH row+((Q.map f).map (·.map C.imm)).length=(row++Q).length:=by simp
 rw[e1,e2]
 refine AOps.sub (s':=⟨putE s o (.c (.own (eH l,[]) 0 (row++Q).length)),l.set r (matD (r,[]) p f X b)++[.one (vec p f (row++Q))]⟩) (Sub.same (by simp) fun j=> ?_) h
 rcases cZ j.1 (eH l) with G|G
 ·rw[b6.get_left (by simpa using G),b6.get_left (by simpa using G),matD_put w O]
 ·rw[b6.get_right (by simpa using G),b6.get_right (by simpa using G),b6.length_put,lS];rfl
def S.storeHD{Q:Post}{l u:b6}{rest:List Oper}{r:Nat}{y:Od}{t:Ti}{bytes m b:Nat}{z:Vl}{row:List A}[N:TyS c t 1 bytes z](F:X[b]? =some row)(G:ev s L=some (.c (.ptr (r,[]) b 0)))(J:ev s y=some (.c (.own M 0 m)))(o:l[r]? =some (matD (r,[]) p V X b))(w:setF l r (matSD (r,[]) p V X b M m)=some u)(h:AOps c g i v Q rest (St.mk s u)):AOps c g i v Q (⟨none,.store t L y,d,B,H,none⟩::rest) (St.mk s l):=by
 have K:=(Q7 w).1
 subst K
 have j:l[((r,[]):Id)]? =some (some (.cells 1 (hdr (r,[]) X))):=by rw[w9 o];rfl
 refine AOps.store G J j (hdr_get F) (by simp) ?_
 refine AOps.sub (Sub.same (by simp) fun e=> ?_) h
 rw[an5 o]
 by_cases D:e=(r,[])
 ·subst D
  rw[b6.get_put_eq j,if_pos rfl];rfl
 ·rw[b6.get_put_ne D]
  by_cases E:e.1=r
  ·obtain⟨O,q⟩:=e
   simp only at E
   subst E
   rw[if_pos rfl,w9 o]
   cases q with
   |nil=>exact absurd rfl D
   |cons a q=>rfl
  ·rw[if_neg E]
/-! ### A row made anew takes its place -/
def W9{n:Nat}{g:A->List I}{l:List A}{k:Nat}:(vec k g l).ok n=true:=Blk.im_ok _ _ _
def hdr_ok(a:i<p)(M:List (List A)):(Blk.cells 1 (hdr (i,[]) M)).ok p=true:=by simp only[Blk.ok,cJ];intro e b;obtain⟨j,c⟩:=dD b;obtain⟨row,_,rfl⟩:=aw6 c;simp[C.okL,C.ok,a]
structure MatAt{α:Type}(σ:b6)(r k:Nat)(f:α->List I)(M:List (List α))(p:Nat)(n:Id)(m:Nat):Prop where
 main:σ[((r,[]):Id)]? =some (some (.cells 1 ((hdr (r,[]) M).set p [.own n 0 m])))
 rows:∀(q:Nat) (row:List α),q ≠ p->M[q]? =some row->σ[((r,[q]):Id)]? =some (some (vec k f row))
def matSD_at{f:A->List I}{M:List (List A)}{k r:Nat}{n:Id}{p:Nat}(h:g[r]? =some (matSD (r,[]) k f M p n i)):MatAt g r k f M p n i:=
 ⟨by rw[w9 h];rfl,fun q row b c=>by rw[w9 h];have a:¬ p=q:=fun e=>b e.symm;simp only[matSD,Ent.sub,cN,if_neg a,lM,c];rfl⟩
def Sub.moveR{env env':Env}{u σ':b6}{f:A->List I}{M:List (List A)}{k r:Nat}{s p:Nat}{row:List A}(hM:MatAt u r k f M p (s,[]) i)(he:M[p]? =some row)(hm:i=eH Q)(hs:u[((s,[]):Id)]? =some (some (vec k f Q)))(h0:de (eH g) r=true)(hl:de (eH g) (eH σ')=true)(L:σ'[r]? =some (mat (r,[]) k f (M.set p Q)))(F:σ'[s]? =none\/σ'[s]? =some .dead)(G:∀(d:Id) (b:Blk),d.1 ≠ r->σ'[d]? =some (some b)->u[d]? =some (some b)/\b.ok (eH σ')=true/\b.no (r,[p])=true)(H:K7 env env')(N:V7 (eH σ') env'=true)(O:envNo (r,[p]) env'=true):Sub g ⟨env,u⟩ ⟨env',σ'⟩:=by
 subst hm
 have aa:=cO h0
 have hp:=(lG.1 he).1
 have P:=(lG.1 L).1
 have w:mv (r,[p]) (s,[]) (r,[p])=(s,[]):=by simp[mv,O7.2 rfl]
 have l:∀d,d ≠ (r,[p])->mv (r,[p]) (s,[]) d=d:=fun d h=>by simp[mv,ap7 h]
 have J:∀b,σ'[((s,[]):Id)]? ≠ some (some b):=fun b K=>by rw[b6.at_eq] at K;simp only[b6.at] at K;rcases F with h|h<;>rw[h] at K<;>cases K
 have ac:s ≠ r:=fun e=>by subst e;rcases F with h|h<;>rw[L] at h<;>cases h
 have U:∀c:C,c.no (r,[p])=true->c.ren (mv (r,[p]) (s,[]))=c:=C.ren_no
 refine Sub.mk (mv (r,[p]) (s,[])) (fun d o=>l d (fun e=>by subst e;simp only at o;omega)) (cO hl) (fun d j b b' o V h=> ?_) (fun d b o=> ?_) (fun t v X=>⟨an2 N t v X,?_⟩)
 ·by_cases D:d=(r,[p])<;>by_cases E:j=(r,[p])
  ·rw[D,E]
  ·rw[D,w,l j E] at h
   subst h;exact absurd V (J _)
  ·rw[E,w,l d D] at h
   subst h;exact absurd o (J _)
  ·rwa [l d D,l j E] at h
 ·dsimp only at o ⊢
  by_cases x:d.1=r
  ·obtain⟨i1,q⟩:=d
   simp only at x
   subst x
   rw[w9 L] at o
   simp only[Option.some.injEq] at o
   cases q with
   |nil=>
    cases o
    refine⟨hdr_ok P _,?_⟩
    rw[l _ (by simp),hM.main]
    congr 2
    -- the head of row p
    simp only[Blk.ren]
    congr 1
    apply cY
    intro j
    rw[hdr_set,cN,lM,cN]
    by_cases y:p=j
    ·subst y
     simp[hp,C.renL,C.ren,w]
    ·rw[if_neg y,if_neg y]
     cases V:(hdr (i1,[]) M)[j]? with
     |none=>rfl
     |some e=>
      obtain⟨B,g1,rfl⟩:=aw6 V
      simp[C.renL,C.ren,l (i1,[j]) (by simp;exact fun e=>y e.symm)]
   |cons a q=>
    rw[O0] at o
    split at o
    ·rename_i B n
     cases q with
     |cons b q=>cases o
     |nil=>
      simp only[Option.some.injEq] at o
      subst o
      refine⟨W9,?_⟩
      rw[Blk.im_ren]
      by_cases z:a=p
      ·subst z
       rw[w,hs]
       rw[cN,if_pos rfl,if_pos hp] at n
       cases n;rfl
      ·rw[l _ (by simp[z])]
       rw[cN,if_neg (fun e=>z e.symm)] at n
       exact hM.rows a B z n
    ·cases o
  ·obtain⟨D,E,h3⟩:=G d b x o
   refine⟨E,?_⟩
   rw[l d (fun e=>x (by rw[e])),Blk.ren_no b h3]
   exact D
 ·rw[T.ren_no v (ay3 O t v X)]
  exact H.get t v X
/-! ### Made -/
def Rs.allocM{H:Cx}{B:Phi}(h:Rs H g B a){n k:Nat}(f:A->List I){arr:Array Vl}{ety:Ti}(X:n<=arr.size)(hc:∀j,j<n->arr[j]? =some (.slice none 0 0)):
  Kept a (a.alloc (.cells arr ety)) B (r7 (eH g) (fun i=>if i.1<eH g then B i else none) a.heap.size) g (g++[mat (eH g,[]) k f (cK n ([]:List A))]) (Al H.N B g) (Al H.N (r7 (eH g) (fun i=>if i.1<eH g then B i else none) a.heap.size) (g++[mat (eH g,[]) k f (cK n ([]:List A))]))/\
  Rs H (g++[mat (eH g,[]) k f (cK n ([]:List A))]) (r7 (eH g) (fun i=>if i.1<eH g then B i else none) a.heap.size) (a.alloc (.cells arr ety)):=by
 generalize L:r7 (eH g) (fun i=>if i.1<eH g then B i else none) a.heap.size=y
 generalize hM:cK n ([]:List A)=M
 have J:∀p row,M[p]? =some row->row=[]:=fun p row l=>by rw[<- hM,dp] at l;split at l<;>cases l;rfl
 have D:eH M=n:=by rw[<- hM];simp
 have old:∀b,b<a.heap.size->(a.alloc (.cells arr ety)).heap[b]? =a.heap[b]? :=fun b O=>by first|exact heap_alloc_old a _ O|exact heap_alloc_old a _ _ O
 have new:(a.alloc (.cells arr ety)).heap[a.heap.size]? =some (.cells arr ety (0,0)):=heap_alloc_new a _
 have t:∀i:Id,i.1<eH g->y i=B i:=fun i r=>by
  have:i ≠ (eH g,[]):=fun e=>by rw[e] at r;exact Nat.lt_irrefl _ r
  rw[<- L];simp[r7,this,r]
 have u:y (eH g,[])=some (a.heap.size,0):=by rw[<- L];simp[r7]
 have prow:∀c q,y (eH g,c::q)=none:=fun c q=>by rw[<- L];simp[r7]
 have s:∀(i:Id) blk,(g++[mat (eH g,[]) k f M])[i]? =some (some blk)->(i.1<eH g/\g[i]? =some (some blk))\/(i=(eH g,[])/\blk=.cells 1 (hdr (eH g,[]) M))\/(∃p,p<n/\i=(eH g,[p])/\blk=vec k f ([]:List A)):=fun i blk r=>by
  rcases cZ i.1 (eH g) with P|P;rw[b6.get_left P] at r;exact .inl ⟨P,r⟩;have Q:=b6.lt_of r;rw[dr] at Q;simp only[List.length_cons,List.length_nil] at Q;obtain⟨i1,q⟩:=i;have e:i1=eH g:=by simp only at P Q;omega
  subst e;rw[b6.get_right (dq _)] at r;simp only[Nat.sub_self] at r;rw[w9 (e:=mat (eH g,[]) k f M) rfl] at r;simp only[Option.some.injEq] at r;cases q with
  |nil=>cases r;exact .inr (.inl ⟨rfl,rfl⟩)
  |cons c q=>
   rw[O0] at r
   split at r
   ·rename_i row U
    cases q with
    |cons b q=>cases r
    |nil=>
     cases r
     refine .inr (.inr ⟨c,by rw[<- D];exact(lG.1 U).1,rfl,?_⟩)
     rw[J c row U]
   ·cases r
 have A1:∀b,Al H.N B g b->b<a.heap.size->Al H.N y (g++[mat (eH g,[]) k f M]) b:=fun b O P=>⟨O.1,fun i blk v r l=>by rcases s i blk r with⟨K,G⟩|⟨rfl,rfl⟩|⟨p,_,rfl,_⟩;rw[t i K] at l;exact O.2 i blk v G l;rw[u] at l;cases l;omega;rw[prow] at l;cases l⟩
 have w:Kept a (a.alloc (.cells arr ety)) B y g (g++[mat (eH g,[]) k f M]) (Al H.N B g) (Al H.N y (g++[mat (eH g,[]) k f M])):=
  {imm:=fun b _ P=>old b P,all:=A1,len:=by simp,
   cells:=fun i kk V r z=>by rw[b6.get_left r] at z;exact⟨V,z,rfl,t i r,fun b v arr ety l O=>⟨arr,(old b (Al.own_lt h.st z l)).trans O,rfl⟩⟩,
   obj:=fun i p' aa r z=>by rw[b6.get_left r] at z;exact⟨t i r,p',aa,z⟩}
 refine⟨w,?_⟩
 exact {
  good:=h.good
  st:=⟨fun i b r=>by
    rcases s i b r with⟨K,G⟩|⟨rfl,rfl⟩|⟨p,l,rfl,rfl⟩;rw[t i K];exact(h.st.blk i b G).mono w fun d v l=>old d (Al.own_lt h.st G l);rw[u];refine .inr ⟨a.heap.size,0,arr,ety,rfl,new,by simp[D];exact X,fun j e z=> ?_,fun j e o x z hx=> ?_⟩;obtain⟨row,_,rfl⟩:=aw6 z;rfl;obtain⟨row,U,rfl⟩:=aw6 z;have ac:j<n:=by rw[<- D];exact(lG.1 U).1
    cases o with
    |succ o=>simp at hx
    |zero=>
     simp only[cD,Option.some.injEq] at hx
     subst hx
     refine⟨.slice none 0 0,by simpa using hc j ac,?_⟩
     rw[J j row U]
     exact .own (by simp) rfl fun k' V _=>.inl ⟨prow _ _,rfl,rfl,rfl⟩
    rw[prow];exact .inl ⟨rfl,rfl⟩,
   fun i j bi bj p q r hj l F z=>by obtain⟨pb,po⟩:=p;obtain⟨qb,qo⟩:=q;dsimp only at z;subst z;rcases s i bi r with⟨K,G⟩|⟨rfl,rfl⟩|⟨p,_,rfl,_⟩<;>rcases s j bj hj with⟨g1,g2⟩|⟨rfl,rfl⟩|⟨p',_,rfl,_⟩;rw[t i K] at l;rw[t j g1] at F;exact h.st.inj i j bi bj _ _ G g2 l F rfl;rw[t i K] at l;rw[u] at F;cases F;have:=Al.own_lt h.st G l;omega;rw[prow] at F;cases F;rw[t j g1] at F;rw[u] at l;cases l;have:=Al.own_lt h.st g2 F;omega;rfl;rw[prow] at F;cases F;rw[prow] at l;cases l;rw[prow] at l;cases l;rw[prow] at l;cases l⟩
  keep:=fun i blk b v r l E=>by rcases s i blk r with⟨K,G⟩|⟨rfl,rfl⟩|⟨p,_,rfl,_⟩;rw[t i K] at l;exact h.keep i blk b v G l E;rw[u] at l;cases l;have:=E.1;have:=h.size;omega;rw[prow] at l;cases l
  os:=h.os
  tape:=h.tape
  drawn:=h.drawn
  output:=h.output
  size:=dF h.size (by simp)
  block:=fun b E=>(old b (dM E.1 h.size)).trans (h.block b E)
  kept:=Kept.trans h.size h.kept w}
def S.makeM{l q:b6}{rest:List Oper}{o:Option Nat}{y:Od}{t e:Ti}{bytes:Nat}{n:Int}(k:Nat)(f:A->List I)[O:TyD c t (.slice e)][U:TyS c e 1 bytes (.slice none 0 0)](V:mkL bytes n ([]:List A)=some X)(P:ev s L=some (.c (int n)))(Q:ev s y=some (.c (int n)))(D:newF l=some M)(E:w8 l (mat M k f X)=some q)(x:h9 i o=true)(h:AOps c g i v r rest (St.mk (putE s o (.c (.own M 0 (eH X)))) q)):AOps c g i v r (⟨o,.makeSlice t L y,d,B,H,none⟩::rest) (St.mk s l):=by
 obtain⟨⟨h1,h2,h3⟩,rfl⟩:=mkL_get V
 have g2:=D6 D;have g3:=v7 E
 subst g2 g3
 refine .valueW rfl x (.c (.own (eH l,[]) 0 (cK n.toNat ([]:List A)).length)) (l++[mat (eH l,[]) k f (cK n.toNat ([]:List A))]) (fun Γ φ a w u=> ?_) (by cases o<;>exact h)
 obtain⟨b,F,G,J,K⟩:=U.h
 have p:=run_make (P:=c) w t e b (.slice none 0 0) O.h F K .i64 .i64 n n h1 (Int.le_refl _) (by rw[J];exact h3) h2
 rw[G,dI] at p
 have hz:∀j,j<n.toNat->(madeCells (Value.slice none 0 0).cells n.toNat)[j]? =some (.slice none 0 0):=fun j hj=>by simp[madeCells,hj,Value.cells,Nat.mod_one]
 have N:=Rs.allocM (k:=k) (arr:=madeCells (Value.slice none 0 0).cells n.toNat) (ety:=e) (n:=n.toNat) u.toRs f (by simp[size_madeCells]) hz
 refine⟨.slice (some ⟨w.heap.size,0,none⟩) n.toNat n.toNat,_,_,by simp[execOp,z7 u P,z7 u Q,p],?_,u.of N.1 N.2⟩
 refine .c (.own (by simp) rfl fun k' ad z=> ?_)
 rw[b6.get_right (dq _)] at z
 simp only[Nat.sub_self] at z
 rw[w9 (e:=mat (eH l,[]) k f (cK n.toNat ([]:List A))) rfl] at z
 cases z
 refine .inr ⟨w.heap.size,0,n.toNat,_,e,⟨w.heap.size,0,none⟩,by simp[r7],by simp,fun _=>by simp,by simp,by simp only[maxLen];omega,by simp,heap_alloc_new w _,by simp[size_madeCells]⟩
/-! ### The whole ceases to change -/
def hdrF(r k:Nat)(f:A->List I)(M:List (List A))(q:Nat):List (List C):=M.mapIdx fun p row=>[if p<q then .imm (.sl k (row.map f)) else .own (r,[p]) 0 (eH row)]
def matF(r k:Nat)(f:A->List I)(M:List (List A))(q:Nat):Ent:=.node (some (.cells 1 (hdrF r k f M q))) (M.mapIdx fun p row=>if p<q then .dead else .one (vec k f row))
def hdrF_zero:hdrF p i V X 0=hdr (p,[]) X:=by simp[hdrF,hdr]
def matF_zero(b:List Nat):(matF p i V X 0).sub b=(mat (p,[]) i V X).sub b:=by
 cases b with
 |nil=>simp only[matF,mat,Ent.sub,hdrF_zero]
 |cons a b=>simp[matF,mat,Ent.sub,cL]
def frz_row{q:Nat}{row:List A}(d:X[q]? =some row):Blk.frz (p,[q]) i (row.map V) (.cells 1 (hdrF p i V X q))=.cells 1 (hdrF p i V X (q+1)):=by
 simp only[Blk.frz];congr 1;apply cY;intro j;simp only[hdrF,lM,cL,eG];cases a:X[j]? with
 |none=>rfl
 |some e=>
  simp only[cM,Function.comp_apply,C.frzL,Option.some.injEq,List.cons.injEq,and_true]
  by_cases b:j<q
  ·rw[if_pos b,if_pos (by omega)];rfl
  ·rw[if_neg b]
   by_cases c:j=q
   ·subst c
    rw[d] at a
    cases a
    rw[if_pos (by omega)]
    simp[C.frz,O7.2 rfl,cV]
   ·rw[if_neg (by omega)]
    have:idb (p,[j]) (p,[q])=false:=ap7 (by simp;exact c)
    simp[C.frz,this]
def rowless(r:Nat):C->Bool
 | .imm _=>true
 | .own i _ _=> !(cG i.1 r)||(match i.2 with|[]=>true|_=>false)
 | .ptr i _ _=> !(cG i.1 r)||(match i.2 with|[]=>true|_=>false)
 | .fn _ []=>true
 | .fn _ [.ptr i _ _]=> !(cG i.1 r)
 | .fn _ [.ptr i _ _,.ptr j _ _]=> !(cG i.1 r) && !(cG j.1 r)
 | .fn _ [.ptr i _ _,.ptr j _ _,.ptr l _ _]=> !(cG i.1 r) && !(cG j.1 r) && !(cG l.1 r)
 |_=>false
def rowless_no{c:C}(h:rowless i c=true):c.no (i,[p])=true:=by
 have d:∀{b:Id},(!(cG b.1 i))=true->idb b (i,[p])=false:=fun {b} f=>ap7 (fun e=>by subst e;simp at f);unfold rowless at h;split at h;rfl;rename_i b _ _;simp only[dJ] at h;rcases h with h|h;simp[C.no,d h];obtain⟨a,l⟩:=b;cases l with
 |nil=>simp[C.no,idb,lbeq]
 |cons=>simp at h
 rename_i b _ _;simp only[dJ] at h;rcases h with h|h;simp[C.no,d h];obtain⟨a,l⟩:=b;cases l with
 |nil=>simp[C.no,idb,lbeq]
 |cons=>simp at h
 rfl;simp[C.no,C.noL,d h];simp only[cE] at h;simp[C.no,C.noL,d h.1,d h.2];simp only[cE] at h;simp[C.no,C.noL,d h.1.1,d h.1.2,d h.2];cases h
def aB6(r:Nat):List C->Bool
 |[]=>true
 |c::l=>rowless r c && aB6 r l
def rowlessL_no:∀{l:List C},aB6 i l=true->C.noL (i,[p]) l=true
 |[],_=>rfl
 |c::l,h=>by simp only[aB6,cE] at h;simp only[C.noL,rowless_no h.1,rowlessL_no h.2,Bool.and_self]
def rowlessT(r:Nat):T->Bool
 | .c c=>rowless r c
 | .agg l=>aB6 r l
 | .undef=>true
 | .tup _=>false
def af9(r:Nat):Env->Bool
 |[]=>true
 |(_,v)::l=>rowlessT r v && af9 r l
def rowlessT_no{t:T}(h:rowlessT i t=true):t.no (i,[p])=true:=by
 cases t with
 |c c=>exact rowless_no h
 |agg l=>exact rowlessL_no h
 |tup=>cases h
 |undef=>rfl
def aE5:∀{env:Env},af9 i env=true->∀t v,lookup t env=some v->rowlessT i v=true
 |[],_,t,v,h=>by simp[lookup] at h
 |(k,x)::l,h,t,v,a=>by simp only[af9,cE] at h;simp only[lookup] at a;split at a;cases a;exact h.1;exact aE5 h.2 t v a
def aq6(r:Nat)(σ:b6):Prop:=∀(i:Id) (b:Blk),i.1 ≠ r->σ[i]? =some (some b)->∀q,b.no (r,[q])=true
def Sub.frzRows{h:b6}(D:de (eH g) p=true)(j:h[p]? =some (mat (p,[]) i V X))(x:aq6 p h)(E:af9 p s=true):∀q,q<=eH X->Sub g ⟨s,h⟩ ⟨s,h.set p (matF p i V X q)⟩
 |0,_=>Sub.same (by simp) fun c=>by rw[an5 j];by_cases u:c.1=p;obtain⟨H,d⟩:=c;simp only at u;subst u;rw[if_pos rfl,w9 j,matF_zero];rw[if_neg u]
 |q+1,N=>by
  refine(Sub.frzRows D j x E q (by omega)).trans ?_;have z:p<eH h:=(lG.1 j).1;have w:X[q]? =some X[q]:=cH (by omega);have y:(h.set p (matF p i V X q))[p]? =some (matF p i V X q):=by rw[cN];simp[z]
  have n:(h.set p (matF p i V X q))[((p,[q]):Id)]? =some (some (Blk.im i (X[q].map V))):=by rw[w9 y];simp[matF,Ent.sub,cL,w]
  have B:=Sub.frz (σ0:=g) (s:=⟨s,h.set p (matF p i V X q)⟩) (p,[q]) i (X[q].map V) (cO D) n;refine B.trans ((Sub.same (σ2:=h.set p (matF p i V X (q+1))) (by simp[St.frz]) fun c=> ?_).trans (Sub.look fun t v F=> ?_));simp only[St.frz];rw[b6.get_map,an5 j];by_cases u:c=(p,[q]);subst u;rw[b6.get_put_eq n,if_pos rfl];simp[matF,Ent.sub,cL,w];rw[b6.get_put_ne u,an5 j];by_cases l:c.1=p;obtain⟨H,d⟩:=c;simp only at l;subst l;rw[if_pos rfl,if_pos rfl];simp only[cM,Option.some.injEq];cases d with
  |nil=>simp only[matF,Ent.sub,cM,frz_row w]
  |cons a d=>
   simp only[matF,Ent.sub,cL]
   cases O:X[a]? with
   |none=>rfl
   |some row=>
    simp only[cM]
    by_cases G:a<q
    ·rw[if_pos G,if_pos (by omega)];cases d<;>rfl
    ·rw[if_neg G]
     by_cases K:a=q
     ·subst K
      rw[if_pos (by omega)]
      cases d with
      |nil=>exact absurd rfl u
      |cons=>rfl
     ·rw[if_neg (by omega)]
      cases d with
      |nil=>simp only[Ent.sub,cM,Blk.frz_no _ (Blk.im_no _ _ _)]
      |cons=>rfl
  rw[if_neg l,if_neg l];cases L:h[c]? with
  |none=>rfl
  |some o=>
   cases o with
   |none=>rfl
   |some b=>simp only[cM,Blk.frz_no _ (x c b l L q)]
  simp only[St.frz];rw[ap0 (fun v=>v.frz (p,[q]) i (X[q].map V)),F];simp only[cM,T.frz_no v (rowlessT_no (aE5 E t v F))]
def matF_all:hdrF p i V X (eH X)=(X.map fun row=>[I.sl i (row.map V)]).map (·.map C.imm):=by
 apply cY;intro j;simp only[hdrF,cL,lM];cases a:X[j]? with
 |none=>rfl
 |some row=>
  have:=(lG.1 a).1
  simp[this]
def Sub.matV{e:b6}(n:de (eH g) p=true)(d:t[p]? =some (mat (p,[]) i V X))(l:aq6 p t)(o:af9 p s=true)(h:setF t p (.one (vec 1 (fun row=>[I.sl i (row.map V)]) X))=some e):Sub g ⟨s,t⟩ ⟨s,e⟩:=by
 have q:=(Q7 h).1;subst q;refine(Sub.frzRows n d l o (eH X) (dq _)).trans (Sub.same (by simp) fun b=> ?_);rw[an5 d,an5 d];by_cases j:b.1=p;rw[if_pos j,if_pos j];congr 1;obtain⟨v,c⟩:=b;cases c with
 |nil=>simp only[matF,Ent.sub,matF_all];rfl
 |cons a c=>
  simp only[matF,Ent.sub,cL]
  cases u:X[a]? with
  |none=>rfl
  |some row=>
   have:=(lG.1 u).1
   simp only[cM,if_pos this]
   cases c<;>rfl
 rw[if_neg j,if_neg j]
def shrW(k:IntKind)(a b:Int):Int:=a.fdiv (2 ^ (min b.toNat k.bits))
def ac8{c:List Nat}{b:Blk}(h:(mat (i,[]) p V X).sub c=some b):(c=[]/\b=.cells 1 (hdr (i,[]) X))\/(∃q row,c=[q]/\X[q]? =some row/\b=vec p V row):=by
 cases c with
 |nil=>cases h;exact .inl ⟨rfl,rfl⟩
 |cons a q=>
  rw[O0] at h
  split at h
  ·rename_i row d
   cases q with
   |nil=>cases h;exact .inr ⟨a,row,rfl,d,rfl⟩
   |cons=>cases h
  ·cases h
def hdr_no(h:M.1 ≠ i):(Blk.cells 1 (hdr (i,[]) X)).no M=true:=by simp only[Blk.no,cJ];intro e a;obtain⟨j,b⟩:=dD a;obtain⟨row,_,rfl⟩:=aw6 b;have:idb (i,[j]) M=false:=ap7 (fun e=>h (by rw[<- e]));simp[C.noL,C.no,this]
def EntOk.mat{α:Type}{n r k:Nat}{f:α->List I}{M:List (List α)}(h:di r n=true):EntOk n (mat (r,[]) k f M):=by
 have a:r<n:=by simp[di] at h;omega
 intro p b c;rcases ac8 c with⟨rfl,rfl⟩|⟨q,row,rfl,_,rfl⟩;exact hdr_ok a M;exact W9
def FrzB.mat{α:Type}{r k:Nat}{f:α->List I}{M:List (List α)}{id:Id}{X:C->C->Prop}(h:cG id.1 r=false):FrzB id X (mat (r,[]) k f M) (mat (r,[]) k f M):=by
 have a:id.1 ≠ r:=fun e=>by simp[e] at h
 refine⟨rfl,fun p b c=> ?_⟩;rcases ac8 c with⟨rfl,rfl⟩|⟨q,row,rfl,_,rfl⟩;exact hdr_no a;exact Blk.im_no _ _ _
def EntMv.mat{α:Type}{r k m:Nat}{f:α->List I}{M:List (List α)}{id n:Id}{σ:b6}(h:cG id.1 r=false)(i:di r m=true)(c:σ[r]? =some (mat (r,[]) k f M)):EntMv id n σ m r (mat (r,[]) k f M):=by
 have a:id.1 ≠ r:=fun e=>by simp[e] at h
 have d:r<m:=by simp[di] at i;omega
 intro p b g;have j:mv id n (r,p)=(r,p):=by have:(r,p) ≠ id:=fun e=>a (by rw[<- e]);simp[mv,ap7 this]
 rw[j,w9 c,show(Ab.mat (r,[]) k f M).sub p=some b from g];rcases ac8 g with⟨rfl,rfl⟩|⟨q,row,rfl,_,rfl⟩;exact⟨hdr_ok d M,by rw[Blk.ren_no _ (hdr_no a)]⟩;exact⟨W9,by rw[Blk.im_ren]⟩
def S.idxH{b:Post}{j:b6}{rest:List Oper}{k:Option Nat}{y:Od}{t e:Ti}{bytes n:Nat}{z:Vl}{u:IntKind}{f:Int}{o:List (List C)}[G:TyD c t (.slice e)][J:TyS c e 1 bytes z](q:ix X f=some Q)(w:ev s L=some (.c (.own (p,[]) 0 n)))(K:n=eH X)(l:j[((p,[]):Id)]? =some (some (.cells 1 o)))(D:eH o=eH X)(E:ev s y=some (.c (.imm (.val (.int u f)))))(F:h9 i k=true)(h:AOps c g i v b rest (St.mk (putE s k (.c (.ptr (p,[]) f.toNat 0))) j)):AOps c g i v b (⟨k,.indexAddr t L y,d,B,H,none⟩::rest) (St.mk s j):=
 .indexAddrOwn w l E (by have:=S4 q;have:=s9 q;omega) F (by rw[cQ];exact h)
inductive OthE(n r p:Nat):Nat->Option Ent->Ent->Prop
 |self {f u}:OthE n r p r f u
 |dead {j f}:OthE n r p j f .dead
 |one {j u} (h1:u.ok n=true) (h2:u.no (r,[p])=true):OthE n r p j (some (.one u)) (.one u)
 |vec {j} {β:Type} {k:Nat} {o:β->List I} {l:List β}:OthE n r p j (some (.one (vec k o l))) (.one (vec k o l))
 |mat {j} {β:Type} {k:Nat} {o:β->List I} {l:List (List β)} (h1:cG r j=false) (h2:di j n=true):OthE n r p j (some (mat (j,[]) k o l)) (mat (j,[]) k o l)
 |any {j e} (h:∀q u,e.sub q=some u->u.ok n=true/\u.no (r,[p])=true):OthE n r p j (some e) e
def OthL(n r p:Nat)(σ:b6):Nat->List Ent->Prop
 |_,[]=>True
 |j,e::l=>OthE n r p j σ[j]? e/\OthL n r p σ (j+1) l
def OthL.get{n:Nat}{σ:b6}:∀{j:Nat} {l:List Ent},OthL n i p σ j l->∀a e,l[a]? =some e->OthE n i p (j+a) σ[j+a]? e
 |_,[],_,a,e,h=>by simp at h
 |j,_::_,h,0,e,b=>by simp only[cD,Option.some.injEq] at b;subst b;exact h.1
 |j,_::l,h,a+1,e,b=>by have:=OthL.get h.2 a e (by simpa using b);rwa [show j+1+a=j+(a+1) by omega] at this
def OthL.all{σ':b6}{r:Nat}{n p:Nat}(h:OthL n r p g 0 σ')(i:Id)(b:Blk)(v:i.1 ≠ r)(d:σ'[i]? =some (some b)):g[i]? =some (some b)/\b.ok n=true/\b.no (r,[p])=true:=by
 obtain⟨j,q⟩:=i;simp only at v;have w:∃e,σ'[j]? =some e/\e.sub q=some b:=by
  rw[b6.at_eq] at d;simp only[b6.at] at d;cases f:σ'[j]? with
  |none=>simp[f] at d
  |some e=>rw[f] at d;simp only[Option.some.injEq] at d;exact⟨e,rfl,d⟩
 obtain⟨e,f,c⟩:=w;have a:=OthL.get h j e f;rw[cQ] at a;generalize k:g[j]? =o at a;cases a with
 |self=>exact absurd rfl v
 |dead=>cases q<;>cases c
 |one l s=>
  rw[w9 k]
  cases q with
  |nil=>cases c;exact⟨rfl,l,s⟩
  |cons=>cases c
 |vec=>
  rw[w9 k]
  cases q with
  |nil=>cases c;exact⟨rfl,W9,Blk.im_no _ _ _⟩
  |cons=>cases c
 |mat l s=>
  rw[w9 k,c]
  have t:j<n:=by simp[di] at s;omega
  have u:r ≠ j:=fun e=>by simp[e] at l
  rcases ac8 c with⟨rfl,rfl⟩|⟨x,row,rfl,_,rfl⟩
  ·exact⟨rfl,hdr_ok t _,hdr_no (by simpa using u)⟩
  ·exact⟨rfl,W9,Blk.im_no _ _ _⟩
 |any h=>rw[w9 k,c];exact⟨rfl,h q b c⟩
def AWP.moveR{P:Program}{a:Post}{env env':Env}{σ':b6}{f:A->List I}{M:List (List A)}{k r:Nat}{c:Code}{s m p:Nat}{row:List A}(n:MatAt t r k f M p (s,[]) m)(o:M[p]? =some row)(q:m=eH Q)(u:t[((s,[]):Id)]? =some (some (vec k f Q)))(v:de (eH g) r=true)(w:de (eH g) (eH σ')=true)(x:σ'[r]? =some (mat (r,[]) k f (M.set p Q)))(e:σ'[s]? =none\/σ'[s]? =some .dead)(b:OthL (eH σ') r p t 0 σ')(d:K7 env env')(j:V7 (eH σ') env'=true)(l:envNo (r,[p]) env'=true)(h:AWP P g i c a (St.mk env' σ')):AWP P g i c a (St.mk env t):=
 AWP.sub (Sub.moveR n o q u v w x e b.all d j l) h
inductive RlE(r:Nat):Nat->Ent->Prop
 |self {n}:RlE r r n
 |dead {j}:RlE r j .dead
 |one {j n} (h2:∀p,n.no (r,[p])=true):RlE r j (.one n)
 |vec {j} {β:Type} {k:Nat} {f:β->List I} {l:List β}:RlE r j (.one (vec k f l))
 |mat {j} {β:Type} {k:Nat} {f:β->List I} {l:List (List β)} (h1:cG r j=false):RlE r j (mat (j,[]) k f l)
 |any {j e} (h:∀q n,e.sub q=some n->∀p,n.no (r,[p])=true):RlE r j e
def RlL(r:Nat):Nat->List Ent->Prop
 |_,[]=>True
 |j,e::l=>RlE r j e/\RlL r (j+1) l
def RlL.get:∀{j:Nat} {l:List Ent},RlL i j l->∀a e,l[a]? =some e->RlE i (j+a) e
 |_,[],_,a,e,h=>by simp at h
 |j,_::_,h,0,e,b=>by simp only[cD,Option.some.injEq] at b;subst b;exact h.1
 |j,_::l,h,a+1,e,b=>by have:=RlL.get h.2 a e (by simpa using b);rwa [show j+1+a=j+(a+1) by omega] at this
def RlL.all{r:Nat}(h:RlL r 0 g):aq6 r g:=by
 intro i b l d q;obtain⟨j,t⟩:=i;simp only at l;have n:∃e,g[j]? =some e/\e.sub t=some b:=by
  rw[b6.at_eq] at d;simp only[b6.at] at d;cases f:g[j]? with
  |none=>simp[f] at d
  |some e=>rw[f] at d;simp only[Option.some.injEq] at d;exact⟨e,rfl,d⟩
 obtain⟨e,f,c⟩:=n;have a:=RlL.get h j e f;rw[cQ] at a;cases a with
 |self=>exact absurd rfl l
 |dead=>cases t<;>cases c
 |one o=>cases t with
  |nil=>cases c;exact o q
  |cons=>cases c
 |vec=>cases t with
  |nil=>cases c;exact Blk.im_no _ _ _
  |cons=>cases c
 |mat p=>
  have k:r ≠ j:=fun e=>by simp[e] at p
  rcases ac8 c with⟨rfl,rfl⟩|⟨s,row,rfl,_,rfl⟩
  ·exact hdr_no (by simpa using k)
  ·exact Blk.im_no _ _ _
 |any h=>exact h t b c q
def Sub.matV'{env':Env}{σ':b6}{f:A->List I}{M:List (List A)}{k:Nat}(r:Nat)(e:de (eH g) r=true)(a:K7 s env')(c:t[r]? =some (mat (r,[]) k f M))(d:RlL r 0 t)(h:af9 r env'=true)(b:setF t r (.one (vec 1 (fun row=>[I.sl k (row.map f)]) M))=some σ'):Sub g ⟨s,t⟩ ⟨env',σ'⟩:=
 (Sub.env a).trans (Sub.matV e c d.all h b)
def AWP.matV'{P:Program}{Q:Post}{env':Env}{σ':b6}{f:A->List I}{M:List (List A)}{k:Nat}{c:Code}(r:Nat)(j:de (eH g) r=true)(a:K7 s env')(d:t[r]? =some (mat (r,[]) k f M))(e:RlL r 0 t)(l:af9 r env'=true)(b:setF t r (.one (vec 1 (fun row=>[I.sl k (row.map f)]) M))=some σ')(h:AWP P g i c Q (St.mk env' σ')):AWP P g i c Q (St.mk s t):=AWP.sub (Sub.matV' r j a d e l b) h
def AOps.matV'{Q:Post}{env':Env}{σ':b6}{rest:List Oper}{f:A->List I}{M:List (List A)}{k:Nat}(r:Nat)(j:de (eH g) r=true)(a:K7 s env')(d:t[r]? =some (mat (r,[]) k f M))(e:RlL r 0 t)(l:af9 r env'=true)(b:setF t r (.one (vec 1 (fun row=>[I.sl k (row.map f)]) M))=some σ')(h:AOps c g i v Q rest (St.mk env' σ')):AOps c g i v Q rest (St.mk s t):=AOps.sub (Sub.matV' r j a d e l b) h
/-! ### Blocks that nothing speaks of are forgotten -/
inductive CutE(n:Nat):Nat->Option Ent->Ent->Prop
 |dead {j f}:CutE n j f .dead
 |one {j u} (h1:u.ok n=true):CutE n j (some (.one u)) (.one u)
 |eq {j u b'} (h1:b'.ok n=true) (h2:b'=u):CutE n j (some (.one u)) (.one b')
 |vec {j} {β:Type} {k:Nat} {o:β->List I} {l:List β}:CutE n j (some (.one (vec k o l))) (.one (vec k o l))
 |mat {j} {β:Type} {k:Nat} {o:β->List I} {l:List (List β)} (h2:di j n=true):CutE n j (some (mat (j,[]) k o l)) (mat (j,[]) k o l)
 |any {j e} (h:∀q u,e.sub q=some u->u.ok n=true):CutE n j (some e) e
def CutL(n:Nat)(σ:b6):Nat->List Ent->Prop
 |_,[]=>True
 |j,e::l=>CutE n j σ[j]? e/\CutL n σ (j+1) l
def CutL.get{n:Nat}{σ:b6}:∀{j:Nat} {l:List Ent},CutL n σ j l->∀i e,l[i]? =some e->CutE n (j+i) σ[j+i]? e
 |_,[],_,i,e,h=>by simp at h
 |j,_::_,h,0,e,a=>by simp only[cD,Option.some.injEq] at a;subst a;exact h.1
 |j,_::l,h,i+1,e,a=>by have:=CutL.get h.2 i e (by simpa using a);rwa [show j+1+i=j+(i+1) by omega] at this
def Sub.cut{env':Env}{d σ':b6}(k:K7 s env')(y:de (eH g) (eH σ')=true)(h:CutL (eH σ') d 0 σ')(p:V7 (eH σ') env'=true):Sub g ⟨s,d⟩ ⟨env',σ'⟩:=by
 refine Sub.mk (fun i=>i) (fun i _=>rfl) (cO y) (fun i j b A _ _ h=>h) (fun i b f=> ?_) (fun t v x=>⟨an2 p t v x,?_⟩);rw[Blk.ren_id];obtain⟨j,q⟩:=i;dsimp only at f ⊢;have z:∃e,σ'[j]? =some e/\e.sub q=some b:=by
  rw[b6.at_eq] at f;simp only[b6.at] at f;cases n:σ'[j]? with
  |none=>simp[n] at f
  |some e=>rw[n] at f;simp only[Option.some.injEq] at f;exact⟨e,rfl,f⟩
 obtain⟨e,n,c⟩:=z;have a:=CutL.get h j e n;rw[cQ] at a;generalize l:d[j]? =o at a;cases a with
 |dead=>cases q<;>cases c
 |one r=>
  rw[w9 l]
  cases q with
  |nil=>cases c;exact⟨r,rfl⟩
  |cons=>cases c
 |eq r u=>
  subst u
  rw[w9 l]
  cases q with
  |nil=>cases c;exact⟨r,rfl⟩
  |cons=>cases c
 |vec=>
  rw[w9 l]
  cases q with
  |nil=>cases c;exact⟨W9,rfl⟩
  |cons=>cases c
 |mat u=>
  rw[w9 l,c]
  have w:j<eH σ':=by simp[di] at u;omega
  rcases ac8 c with⟨rfl,rfl⟩|⟨B,row,rfl,_,rfl⟩
  ·exact⟨hdr_ok w _,rfl⟩
  ·exact⟨W9,rfl⟩
 |any h=>
  rw[w9 l,c]
  exact⟨h q b c,rfl⟩
 rw[T.ren_id];exact k.get t v x
abbrev z6(b:Bool):List I:=[.val (.bool b)]
def aE4{P:Program}{rest:List Oper}{o:Oper}(M:o.guard=none){lo hi:Nat}{l:List (List I)}(z:ev s L=some (.c (.imm (.sl p l))))(O:lo<=hi/\hi<=eH l)(U:h9 i o.dst=true)(key:∀(a:Act) (w:World) (E:Phi) (F:Cx),R F i (St.mk s t) E a w->∀(b:Option Addr) (f:Nat),a.eval L=.slice b (eH l) f->eH l<=f->(execOp a.eval o).run P w=.ok (.value (.slice (if f=lo then b else b.map (·.add (lo * p))) (hi - lo) (f - lo))) w)(h:AOps P g i v r rest (St.mk (putE s o.dst (.c (.imm (.sl p ((l.take hi).drop lo))))) t)):AOps P g i v r (o::rest) (St.mk s t):=
 .value M U _ (fun F E a w H=>by
  have d:=m9 H z;have key:=key a w E F H;generalize hu:a.eval L=u at d key;have q:((l.take hi).drop lo).length=hi - lo:=by simp;omega
  cases d with|c d=>cases d with|imm d=>cases d with
   |slNil=>
    have V:hi=0:=by simpa using O.2
    have X:lo=0:=by omega
    subst V X
    refine⟨.slice none 0 0,by rw[key none 0 rfl (by simp)];simp,.c (.imm (by simpa using .slNil))⟩
   |@sl _ _ J f Q A K hk x k=>
    rw[key _ _ rfl A]
    refine⟨_,rfl,.c (.imm ?_)⟩
    rw[<- q]
    have get:∀(j:Nat) (e:List I),((l.take hi).drop lo)[j]? =some e->l[lo+j]? =some e/\lo+j<hi:=fun j e n=>by rw[dL,dt] at n;split at n;exact⟨n,‹_›⟩;cases n
    have B:∀y:Addr,(lo<f->y=J.add (lo * p))->RelI w (Al F.N E t) (.sl p ((l.take hi).drop lo)) (.slice (some y) ((l.take hi).drop lo).length (f - lo)):=fun y G=>by refine .sl (fun j o=>Q (lo+j) o) (by rw[q];omega) (by omega) (fun j e n=>hk _ _ (get j e n).1) (fun j e o L n z=> ?_) (fun j e o L n z=>k _ _ _ _ (get j e n).1 z);obtain⟨g1,g2⟩:=get j e n;have:=x _ _ _ _ g1 z;rw[G (by omega),aa5,add_add];rw[dm,dW] at this;exact this
    by_cases D:f=lo
    ·rw[if_pos D];exact B J (fun h=>by omega)
    ·rw[if_neg D];exact B _ (fun _=>rfl)) h
def subL_get{r:List A}{a b:Int}(h:subL Q a b=some r):(0<=a/\a<=b/\b<=eH Q)/\r=(Q.take b.toNat).drop a.toNat:=by unfold subL at h;split at h;cases h;exact⟨‹_›,rfl⟩;cases h
def S.subFrom{P:Program}{q:b6}{rest:List Oper}{o:Option Nat}{n:List A}{l:Od}{t e:Ti}{bytes:Nat}{z:Vl}{F:IntKind}{u:Int}[K:TyD P t (.slice e)][f:TyS P e p bytes z](D:subL Q u (eH Q)=some n)(M:ev s L=some (.c (row p V Q)))(N:ev s l=some (.c (.imm (.val (.int F u)))))(O:h9 i o=true)(h:AOps P g i v r rest (St.mk (putE s o (.c (row p V n))) q)):AOps P g i v r (⟨o,.slice t L (some l) none none,d,B,H,none⟩::rest) (St.mk s q):=by
 obtain⟨x,rfl⟩:=subL_get D
 refine aE4 (lo:=u.toNat) (hi:=eH Q) rfl M (by simp;omega) O (fun a w φ Γ U b X J E=> ?_) ?_
 ·rw[df] at J E
  have G:=aa2 (P:=P) w (y:=eH Q) (c:=.sliceB) (kk:=F) (i:=u) (by omega)
  simp[execOp,J,z7 U N,Instr.sliceAt,Instr.slice,Instr.sliceBounds,run_underlying K.h,p7 (t:=e),G]
 ·rw[<- List.map_take,<- List.map_drop]
  rw[ew] at h;exact h
def S.subTo{P:Program}{j:Post}{q:b6}{rest:List Oper}{o:Option Nat}{n:List A}{r:Od}{t e:Ti}{bytes:Nat}{z:Vl}{u:IntKind}{D:Int}[M:TyD P t (.slice e)][f:TyS P e p bytes z](E:subL Q 0 D=some n)(N:ev s L=some (.c (row p V Q)))(O:ev s r=some (.c (.imm (.val (.int u D)))))(U:h9 i o=true)(h:AOps P g i v j rest (St.mk (putE s o (.c (row p V n))) q)):AOps P g i v j (⟨o,.slice t L none (some r) none,d,B,H,none⟩::rest) (St.mk s q):=by
 obtain⟨x,rfl⟩:=subL_get E
 refine aE4 (lo:=0) (hi:=D.toNat) rfl N (by simp;omega) U (fun a w φ Γ X b G K F=> ?_) ?_
 ·rw[df] at K F
  have J:=aa2 (P:=P) w (y:=G) (c:=.sliceAcap) (kk:=u) (i:=D) (by omega)
  simp[execOp,K,z7 X O,Instr.sliceAt,Instr.slice,Instr.sliceBounds,run_underlying M.h,p7 (t:=e),J]
 ·rw[<- List.map_take,<- List.map_drop]
  exact h
def feasS(ops:List Oper)(a S:List Nat)(i:Nat):Bool:=
 !memN i S && (a.all fun e=> !anc ops (eH ops) e i||memN e S) && S.all fun e=> !anc ops (eH ops) i e
def tabAt(S:List Nat):List (List Nat×b6)->Option b6
 |[]=>none
 |(a,σ)::r=>match lbeq a S with
  |true=>some σ
  |false=>tabAt S r
def g8(P:Program)(σ0:b6)(f:Nat)(ops:List Oper)(b:Env)(V:List T)(a:List Nat)(d:List (List Nat×b6))(S:List Nat)(σ:b6):List Oper->Nat->Prop
 |[],_=>True
 |o::r,i=>(feasS ops a S i=true->∀v,V[i]? =some v->∃c,(memN i a=false->c=σ)/\(memN i a=true->tabAt (a.filter fun e=>memN e S||cG e i) d=some c)/\∀E:Env,EOk ops V b i E->AOps P σ0 f ops.toArray (Only (St.put ⟨w6 ops V b o++E,c⟩ o.dst v)) [o] ⟨w6 ops V b o++E,σ⟩)/\
  g8 P σ0 f ops b V a d S σ r (i+1)
def O6(P:Program)(σ0:b6)(d:Nat)(ops:List Oper)(a:Env)(V:List T)(b:List Nat)(c:List (List Nat×b6)):List (List Nat×b6)->Prop
 |[]=>True
 |(S,σ)::r=>g8 P σ0 d ops a V b c S σ ops 0/\O6 P σ0 d ops a V b c r
def g8.get{j:List (List Nat×b6)}{S:List Nat}{σ:b6}:∀{r:List Oper} {d:Nat},g8 c g i P s q b j S σ r d->∀a o,r[a]? =some o->feasS P b S (d+a)=true->∀v,q[d+a]? =some v->
  ∃f,(memN (d+a) b=false->f=σ)/\(memN (d+a) b=true->tabAt (b.filter fun e=>memN e S||cG e (d+a)) j=some f)/\∀E:Env,EOk P q s (d+a) E->AOps c g i P.toArray (Only (St.put ⟨w6 P q s o++E,f⟩ o.dst v)) [o] ⟨w6 P q s o++E,σ⟩
 |[],_,_,a,o,h=>by simp at h
 |_::_,d,h,0,o,k=>by cases k;exact h.1
 |_::r,d,h,a+1,o,k=>by have:=g8.get h.2 a o (by simpa using k);rwa [show d+1+a=d+(a+1) by omega] at this
def lbeq_eq{a:List Nat}(h:lbeq a b=true):a=b:=by
 have:=@O7 (0,a) (0,b);have c:idb (0,a) (0,b)=true:=by simp[idb,h]
 exact(eu.inj (this.1 c)).2
def O6.get{a:List (List Nat×b6)}:∀{r:List (List Nat×b6)},O6 c g i P s q b a r->∀S σ,tabAt S r=some σ->g8 c g i P s q b a S σ P 0
 |[],_,S,σ,h=>by cases h
 |(j,e)::r,h,S,σ,d=>by simp only[tabAt] at d;split at d;rename_i f;cases d;rw[<- lbeq_eq f];exact h.1;exact O6.get h.2 S σ d
def memN_false(h:i ∉ b):memN i b=false:=by
 cases a:memN i b with
 |false=>rfl
 |true=>exact absurd ((J5 i b).1 a) h
def AWP.drawT{s:St}(V:List T)(k:List Nat)(q:List (List Nat×b6))(G:b6)(hm:c.follows .mixedOrders=true)(M:T2 P=true)(hV:eH V=eH P)(B:(k.all fun e=>di e (eH P))=true)(N:O6 c g i P s.env V k q q)(h0:tabAt [] q=some s.σ)(he:tabAt k q=some G)(hQ:r .normal ⟨g9 P V s.env,G⟩):AWP c g i (.region p P.toArray true) r s:=fun Γ Q a w aa y ro _=>by
 have H:∀(b j:Nat) (o d:Oper) (t:Nat),P[b]? =some o->P[j]? =some d->b ≠ j->d.dst=some t->o.dst ≠ some t:=fun b j o d t hi n ac O=>((I9 M hi).2 j d t n ac O).1
 obtain⟨e1,e2⟩:=aj3 P V s.env hV H
 refine wpIn_region_any hm ?_
 rw[dH]
 refine draw_anyS (V:=V) (base:=s.env) (Sg:=fun f σ=>tabAt (k.filter fun e=>f.getD e false) q=some σ) M hV (fun f σ b o v J x _ ho hv L hw hc=> ?_) aa (fun f σ E Q a w x U h1 h2 y=> ?_) (eH P) (eF (eH P) false) s.σ s.env Q a _ (by simp) ?_ ⟨fun j n=> ?_,fun j d hp n=> ?_,fun j t n=> ?_,fun t _=>rfl⟩ ?_ (by simp)
 ·have ad:b<f.size:=by rw[J];exact(lG.1 ho).1
  have D:∀e,e ∈ k->memN e (k.filter fun e=>f.getD e false)=f.getD e false:=fun e l=>by
   cases z:f.getD e false with
   |true=>exact(J5 e _).2 (dE.2 ⟨l,z⟩)
   |false=>exact memN_false fun h=>by rw[(dE.1 h).2] at z;cases z
  have al:feasS P k (k.filter fun e=>f.getD e false) b=true:=by
   unfold feasS;simp only[cE,cJ,ez,dJ];refine⟨⟨memN_false (fun h=>by rw[(dE.1 h).2] at L;cases L),fun e l=> ?_⟩,fun e l=> ?_⟩;cases z:anc P (eH P) e b with
   |false=>exact .inl rfl
   |true=>right;rw[D e l];exact au8 J hc _ e b o ho hw z
   cases z:anc P (eH P) b e with
   |false=>rfl
   |true=>
    have an:=(dE.1 l).2
    have X:e<eH P:=by have:=cJ.1 B e (dE.1 l).1;simpa using this
    have:=au8 J hc _ b e _ (cH X) (hc e _ (cH X) an) z
    rw[L] at this;cases this
  obtain⟨ao,k1,k2,k3⟩:=(N.get _ σ x).get b o ho (by rw[cQ];exact al) v (by rw[cQ];exact hv)
  rw[cQ] at k1 k2 k3
  refine⟨ao,?_,k3⟩
  have F:∀e,(f.setIfInBounds b true).getD e false=(f.getD e false||cG e b):=fun e=>by by_cases n:b=e;subst n;simp[ad];have z:cG e b=false:=as6 fun h=>n h.symm;rw[z,Bool.or_false];simp[Array.getElem?_setIfInBounds_ne n]
  cases A:memN b k with
  |true=>
   have:=k2 A
   rw[<- this]
   congr 1
   refine eA fun e l=> ?_
   rw[F,D e l]
  |false=>
   rw[k1 A,<- x]
   congr 1
   refine eA fun e l=> ?_
   rw[F]
   have:cG e b=false:=as6 fun h=>by subst h;rw[(J5 e k).2 l] at A;cases A
   rw[this,Bool.or_false]
 ·have K:(k.filter fun e=>f.getD e false)=k:=List.filter_eq_self.2 fun e l=>U e (by have:=cJ.1 B e l;simpa using this)
  rw[K,he] at x
  cases x
  refine⟨⟨g9 P V s.env,G⟩,Q,hQ,{toRs:=y.toRs,defers:=y.defers,asize:=y.asize,env:=fun t v O=>y.env t v ?_}⟩
  rw[<- O]
  by_cases hx:∃j,A4 P j=some t
  ·obtain⟨j,n⟩:=hx
   exact(h1 j t n).trans (e1 j t n).symm
  ·have L:∀j,A4 P j ≠ some t:=fun j n=>hx ⟨j,n⟩
   exact(h2 t L).trans (e2 t L).symm
 ·have:(k.filter fun e=>(eF (eH P) false).getD e false)=[]:=List.filter_eq_nil_iff.2 fun e _=>by simp[dz];split<;>rfl
  rw[this];exact h0
 ·simp[dz] at n
  split at n<;>simp at n
 ·simp[dz] at n
  split at n<;>simp at n
 ·simp[dz] at n
  split at n<;>simp at n
 ·exact {toRs:=y.toRs.drew,defers:=y.defers,asize:=y.asize,env:=fun t v O=>let ⟨u,hu,hr⟩:=y.env t v O; ⟨u,hu,hr.mono (Kept.drew w Q s.σ _)⟩}
def AWP.drawTI(V:List T)(a:List Nat)(b:List (List Nat×b6))(d:b6)(k:c.follows .mixedOrders=true)(j:T2 P=true)(l:eH V=eH P)(f:(a.all fun e=>di e (eH P))=true)(n:tabAt [] b=some t)(o:tabAt a b=some d)(h:O6 c g i P s V a b b)(q:r .normal (St.mk (g9 P V s) d)):AWP c g i (.region p P.toArray true) r (St.mk s t):=.drawT V a b d k j l f h n o q
def O6.nil{a:List (List Nat×b6)}:O6 c g i P s q b a []:=trivial
def O6.cons{a r:List (List Nat×b6)}{S:List Nat}(d:g8 c g i P s q b a S t P 0)(e:O6 c g i P s q b a r):O6 c g i P s q b a ((S,t)::r):=⟨d,e⟩
def g8.nil{a:List (List Nat×b6)}{S:List Nat}:g8 c g i P s q b a S t [] p:=trivial
def g8.no{a:List (List Nat×b6)}{S:List Nat}{o:Oper}{r:List Oper}(e:feasS P b S p=false)(h:g8 c g i P s q b a S t r (p+1)):g8 c g i P s q b a S t (o::r) p:=
 ⟨fun d=>(by rw[e] at d;cases d),h⟩
def g8.go{a:List (List Nat×b6)}{S:List Nat}{o:Oper}{r:List Oper}{v:T}{e:Env}(j:memN p b=false)(k:q[p]? =some v)(l:envF P q s o=some e)(n:∀E:Env,EOk P q s p E->AOps c g i P.toArray (Only (St.mk (putE (e++E) o.dst v) t)) [o] (St.mk (e++E) t))(h:g8 c g i P s q b a S t r (p+1)):g8 c g i P s q b a S t (o::r) p:=by
 have u:w6 P q s o=e:=ag9 l
 refine⟨fun _ x d=> ?_,h⟩
 rw[k] at d;cases d
 refine⟨t,fun _=>rfl,fun f=>(by rw[j] at f;cases f),fun E w=> ?_⟩
 rw[u];exact n E w
def g8.eff{a:List (List Nat×b6)}{S:List Nat}{d:b6}{o:Oper}{r:List Oper}{v:T}{e:Env}(k:memN p b=true)(l:q[p]? =some v)(n:tabAt (b.filter fun e=>memN e S||cG e p) a=some d)(u:envF P q s o=some e)(w:∀E:Env,EOk P q s p E->AOps c g i P.toArray (Only (St.mk (putE (e++E) o.dst v) d)) [o] (St.mk (e++E) t))(h:g8 c g i P s q b a S t r (p+1)):g8 c g i P s q b a S t (o::r) p:=by
 have x:w6 P q s o=e:=ag9 u
 refine⟨fun _ z f=> ?_,h⟩
 rw[l] at f;cases f
 refine⟨d,fun j=>(by rw[k] at j;cases j),fun _=>n,fun E y=> ?_⟩
 rw[x];exact w E y
def vNo(id:Id)(ops:List Oper)(i:Nat):List T->Nat->Bool
 |[],_=>true
 |v::r,j=>(cG j i||anc ops (eH ops) i j||v.no id) && vNo id ops i r (j+1)
def vNo_get:∀{V:List T} {j:Nat},vNo M P i V j=true->∀k v,V[k]? =some v->j+k ≠ i->anc P (eH P) i (j+k)=false->v.no M=true
 |[],_,_,k,v,h=>by simp at h
 |x::r,j,h,k,v,c=>fun d b=>by
  simp only[vNo,cE,dJ] at h;match k with
  |0=>
   cases c
   rcases h.1 with(a|a)|a
   ·exact absurd (cC a) d
   ·rw[dC] at b;rw[b] at a;cases a
   ·exact a
  |k+1=>exact vNo_get h.2 k v (by simpa using c) (by rw[show j+1+k=j+(k+1) by omega];exact d) (by rw[show j+1+k=j+(k+1) by omega];exact b)
inductive NoE(n:Nat):Ent->Prop
 |dead:NoE n .dead
 |one {j:Blk} (h:j.no (n,[])=true):NoE n (.one j)
 |vec {β:Type} {k:Nat} {f:β->List I} {l:List β}:NoE n (.one (vec k f l))
 |mat {β:Type} {k r:Nat} {f:β->List I} {l:List (List β)} (h:cG n r=false):NoE n (mat (r,[]) k f l)
 |any {e:Ent} (h:∀q j,e.sub q=some j->j.no (n,[])=true):NoE n e
def NoL(n:Nat):List Ent->Prop
 |[]=>True
 |e::r=>NoE n e/\NoL n r
def NoL.get{n:Nat}:∀{l:List Ent},NoL n l->∀(j:Nat) (e:Ent),l[j]? =some e->NoE n e
 |_::_,h,0,e,a=>by simp only[cD,Option.some.injEq] at a;subst a;exact h.1
 |_::l,h,j+1,e,a=>NoL.get h.2 j e (by simpa using a)
def NoL.all{n:Nat}(h:NoL n g)(i:Id)(b:Blk)(c:g[i]? =some (some b)):b.no (n,[])=true:=by
 obtain⟨j,q⟩:=i;rw[b6.at_eq] at c;simp only[b6.at] at c;cases f:g[j]? with
 |none=>simp[f] at c
 |some e=>
  rw[f] at c;simp only[Option.some.injEq] at c
  have a:=NoL.get h j e f
  cases a with
  |dead=>cases q<;>cases c
  |one d=>cases q with
   |nil=>cases c;exact d
   |cons=>cases c
  |vec=>cases q with
   |nil=>cases c;exact Blk.im_no _ _ _
   |cons=>cases c
  |mat d=>
   rcases ac8 c with⟨rfl,rfl⟩|⟨k,row,rfl,_,rfl⟩
   ·exact hdr_no (fun e=>by simp at e;rw[e] at d;simp at d)
   ·exact Blk.im_no _ _ _
  |any h=>exact h q b c
def V3:List Nat->Nat->Nat->Nat
 |[],m,r=>m+r
 |x::_,_,0=>x
 |_::l,m,r+1=>V3 l m r
def emb(a:List Nat)(m:Nat):Id->Id:=fun i=>(V3 a m i.1,i.2)
def af7{m:Nat}:∀{ι:List Nat} {r:Nat},r<ι.length->∃x,ι[r]? =some x/\V3 ι m r=x
 |x::_,0,_=>⟨x,rfl,rfl⟩
 |_::l,r+1,h=>by obtain⟨x,h1,h2⟩:=af7 (m:=m) (ι:=l) (r:=r) (by simpa using h);exact⟨x,by simpa using h1,h2⟩
def Q3:∀{a:List Nat} {r:Nat},a.length<=r->V3 a i r=i+(r - a.length)
 |[],r,_=>by simp[V3]
 |_::l,r+1,h=>by simp only[V3];rw[Q3 (by simpa using h)];simp
 |_::_,0,h=>by simp at h
def emb_inj(k:b.Nodup)(a:∀r ∈ b,r<i){j:Id}(h:emb b i M=emb b i j):M=j:=by obtain⟨r,p⟩:=M;obtain⟨s,q⟩:=j;simp only[emb,eu.injEq] at h;obtain⟨c,rfl⟩:=h;congr 1;rcases cZ r b.length with d|d<;>rcases cZ s b.length with e|e;obtain⟨x,f,g⟩:=af7 (m:=i) d;obtain⟨y,l,n⟩:=af7 (m:=i) e;rw[g,n] at c;subst c;obtain⟨_,o⟩:=lG.1 f;obtain⟨_,t⟩:=lG.1 l;exact(List.getElem_inj k).1 (o.trans t.symm);obtain⟨x,f,g⟩:=af7 (m:=i) d;rw[g,Q3 e] at c;have:=a x (cS f);omega;obtain⟨x,f,g⟩:=af7 (m:=i) e;rw[g,Q3 d] at c;have:=a x (cS f);omega;rw[Q3 d,Q3 e] at c;omega
structure MergeOk(ι:List Nat)(σv σ' σ'':b6):Prop where
 len:eH σv+(eH σ' - ι.length)<=eH σ''
 blk:∀(j:Id) e,σ''[j]? =some (some e)->(j.1<eH σv/\j.1 ∉ ι/\σv[j]? =some (some e))\/∃i b',j=emb ι (eH σv) i/\σ'[i]? =some (some b')/\e=b'.ren (emb ι (eH σv))
def FnOk.frame{P:Program}{f:FuncId}{args:List T}{D:b6}{Qc:T->b6->Prop}(h:FnOk P f args D Qc)(d:List Nat)(aa:b6)(hl:d.length=eH D)(hd:d.Nodup)(a2:∀r ∈ d,r<eH aa)
  (ay:T.okL (eH D) args=true) (a9:∀(i:Id) b,D[i]? =some (some b)->b.ok (eH D)=true) (c:∀(i:Id) b,D[i]? =some (some b)->aa[emb d (eH aa) i]? =some (some (b.ren (emb d (eH aa)))))
  (be:T) (z:b6) (hq:∀r' U,Qc r' U->be=r'.ren (emb d (eH aa))/\MergeOk d aa U z):FnOk P f (T.renL (emb d (eH aa)) args) aa fun r s=>r=be/\s=z:=by
 refine⟨h.fn,fun l vs bx hG bk bs=> ?_⟩
 subst bx
 generalize hm:l.σ0.length=m at *
 have inj:∀{i j:Id},emb d m i=emb d m j->i=j:=fun h=>emb_inj hd a2 h
 have O:∀{i:Id},i.1<eH D->(emb d m i).1 ∈ d:=fun {i} K=>by obtain⟨x,x1,x2⟩:=af7 (m:=m) (ι:=d) (r:=i.1) (by omega);show V3 d m i.1 ∈ d;rw[x2];exact cS x1
 have A1:∀b,Al l.N l.φ0 l.σ0 b->Al (fun b=>b<l.w0.heap.size/\(l.N b\/∃(j:Id) (blk:Blk) (a:Nat),j.1 ∉ d/\l.σ0[j]? =some (some blk)/\l.φ0 j=some (b,a))) (fun i=>l.φ0 (emb d m i)) D b:=fun b E=>
  ⟨fun hN=>by rcases hN.2 with hN|⟨j,blk,a,_,g1,g2⟩;exact E.1 hN;exact E.2 j blk a g1 g2,fun i blk a K y=>E.2 _ _ a (c i blk K) y⟩
 have ad:Back l.w0 l.φ0 (fun i=>l.φ0 (emb d m i)) l.σ0 D (Al l.N l.φ0 l.σ0) (Al (fun b=>b<l.w0.heap.size/\(l.N b\/∃(j:Id) (blk:Blk) (a:Nat),j.1 ∉ d/\l.σ0[j]? =some (some blk)/\l.φ0 j=some (b,a))) (fun i=>l.φ0 (emb d m i)) D) (emb d m):=
  ⟨fun b E _=>A1 b E,fun i b _ K=>⟨c i b K,rfl⟩⟩
 have b4:∀{n k:Nat} {es:List (List C)} {j o:Nat} {e:List C} {x:C},(Blk.cells k es).ok n=true->es[j]? =some e->e[o]? =some x->x.ok n=true:=by intro n k es j o e x A w B;simp only[Blk.ok,cJ] at A;have:=A e (cS w);rw[N7,cJ] at this;exact this x (cS B)
 have ca:Good ⟨l.w0,fun b=>b<l.w0.heap.size/\(l.N b\/∃(j:Id) (blk:Blk) (a:Nat),j.1 ∉ d/\l.σ0[j]? =some (some blk)/\l.φ0 j=some (b,a)),fun i=>l.φ0 (emb d m i),D⟩:=by
  refine⟨⟨fun i b K=> ?_,fun i j bi bj p q K hj y hq M=> ?_⟩,fun b E=>E.1,fun i blk b a K y hN=> ?_⟩;have hs:=c i b K;have E:=hG.st.blk _ _ hs;have ho:=a9 i b K;cases b with
  |cells k es=>
   simp only[Blk.ren] at E hs
   rcases E with⟨A,w⟩|⟨b,a,al,av,A,w,B,h4,h5⟩
   ·exact .inl ⟨A,by simpa using w⟩
   ·refine .inr ⟨b,a,al,av,A,w,by simpa using B,fun j e M=> ?_,fun j e o x M Q=> ?_⟩
    ·have:=h4 j (C.renL (emb d m) e) (by simp[M])
     rw[x6] at this;simpa using this
    ·obtain⟨u,hu,hr⟩:=h5 j (C.renL (emb d m) e) o (x.ren (emb d m)) (by simp[M]) (by rw[x6];simp[Q])
     exact⟨u,hu,hr.back ad (b4 (k:=k) ho M Q)⟩
  |obj p cs=>
   simp only[Blk.ren] at E hs
   obtain⟨b,o,us,A,w,B,h4⟩:=E
   refine⟨b,o,us,A,w,B,fun i x Q=> ?_⟩
   obtain⟨u,hu,hr⟩:=h4 i (x.ren (emb d m)) (by rw[x6];simp[Q])
   have cb:x.ok (eH D)=true:=by simp only[Blk.ok,N7,cJ] at ho;exact ho x (cS Q)
   exact⟨u,hu,hr.back ad cb⟩
  exact inj (hG.st.inj _ _ _ _ p q (c i bi K) (c j bj hj) y hq M);rcases hN.2 with hN|⟨j,F,J,g0,g1,g2⟩;exact hG.own _ _ b a (c i blk K) y hN;have:=hG.st.inj _ _ _ _ _ _ (c i blk K) g1 y g2 rfl;rw[<- this] at g0;exact g0 (O (b6.lt_of K))
 have a3:∀t ∈ args,t.ok (eH D)=true:=by rw[av6,cJ] at ay;exact ay
 refine(h.run _ vs rfl ca (by rw[<- bk,am4];simp) (fun i t u ht hu=> ?_)).mono ?_
 ·exact(bs i (t.ren (emb d m)) u (by rw[am4];simp[ht]) hu).back ad (a3 t (cS ht))
 ·rintro e w' ⟨v,r',U,an,rfl,cc,hr,hs⟩
  obtain⟨rfl,hM⟩:=hq r' U cc
  have V:∀(j:Id) b,z[j]? =some (some b)->(j.1<m/\j.1 ∉ d/\l.σ0[j]? =some (some b))\/∃i b',j=emb d m i/\U[i]? =some (some b')/\b=b'.ren (emb d m):=by have:=hM.blk;rwa [hm] at this
  have cg:m+(eH U - d.length)<=eH z:=by have:=hM.len;rwa [hm] at this
  have hk:=hs.kept
  have a4:=hk.len
  dsimp only at a4
  classical
  let L:Phi:=fun j=>if Q:∃i:Id,emb d m i=j then an Q.choose else l.φ0 j
  have G:∀i:Id,L (emb d m i)=an i:=fun i=>by have Q:∃i':Id,emb d m i'=emb d m i:=⟨i,rfl⟩;show(if Q:∃i':Id,emb d m i'=emb d m i then an Q.choose else _)=_;rw[dif_pos Q,inj Q.choose_spec]
  have H:∀j:Id,j.1<m->j.1 ∉ d->L j=l.φ0 j:=fun j A w=>by show(if Q:∃i':Id,emb d m i'=j then an Q.choose else _)=_;rw[dif_neg];rintro ⟨i,rfl⟩;rcases cZ i.1 d.length with K|K;exact w (O (by omega));have:(emb d m i).1=m+(i.1 - d.length):=Q3 K;omega
  have hK:∀b,b<l.w0.heap.size->(∀(i:Id) blk a,D[i]? =some (some blk)->l.φ0 (emb d m i) ≠ some (b,a))->w'.heap[b]? =l.w0.heap[b]? :=fun b A w=>hs.block b ⟨A,w⟩
  have ac:∀(j:Id) blk b a,j.1 ∉ d->l.σ0[j]? =some (some blk)->l.φ0 j=some (b,a)->w'.heap[b]? =l.w0.heap[b]? :=fun j blk b a hj A w=>
   hK b (Al.own_lt hG.st A w) fun i F J K y=>by have:=hG.st.inj _ _ _ _ _ _ (c i F K) A y w rfl;rw[<- this] at hj;exact hj (O (b6.lt_of K))
  have A2:∀b,Al l.N l.φ0 l.σ0 b->b<l.w0.heap.size->Al l.N L z b:=fun b E a2=>⟨E.1,fun j blk a hj y=>by rcases V j blk hj with⟨A,w,B⟩|⟨i,b',rfl,w,_⟩;rw[H j A w] at y;exact E.2 j blk a B y;rw[G] at y;exact hs.keep i b' b a w y ⟨a2,fun i' F J X ao=>E.2 _ _ J (c i' F X) ao⟩⟩
  have A3:∀b,Al (fun b=>b<l.w0.heap.size/\(l.N b\/∃(j:Id) (blk:Blk) (a:Nat),j.1 ∉ d/\l.σ0[j]? =some (some blk)/\l.φ0 j=some (b,a))) an U b->b<w'.heap.size->Al l.N L z b:=fun b E _=>⟨fun hN=>E.1 ⟨hG.lt b hN,.inl hN⟩,fun j blk a hj y=>by rcases V j blk hj with⟨A,w,B⟩|⟨i,b',rfl,w,_⟩;rw[H j A w] at y;exact E.1 ⟨Al.own_lt hG.st B y,.inr ⟨j,blk,a,w,B,y⟩⟩;rw[G] at y;exact E.2 i b' a w y⟩
  have a0:Fwd w' an L U z (Al (fun b=>b<l.w0.heap.size/\(l.N b\/∃(j:Id) (blk:Blk) (a:Nat),j.1 ∉ d/\l.σ0[j]? =some (some blk)/\l.φ0 j=some (b,a))) an U) (Al l.N L z) (emb d m):=by refine⟨A3,fun i K=>⟨?_,G i,fun b' cd=> ?_⟩⟩;rcases cZ i.1 d.length with g|g;have:=a2 _ (O (i:=i) (by omega));omega;have:(emb d m i).1=m+(i.1 - d.length):=Q3 g;omega;rcases V _ _ cd with⟨A,w,_⟩|⟨i',b0,M,w,B⟩;exfalso;rcases cZ i.1 d.length with g|g;exact w (O (by omega));have:(emb d m i).1=m+(i.1 - d.length):=Q3 g;omega;rw[inj M];exact⟨b0,w,B⟩
  have a1:Kept l.w0 w' l.φ0 L l.σ0 z (Al l.N l.φ0 l.σ0) (Al l.N L z):=by
   refine⟨fun b E hl=>hK b hl fun i blk a K y=>E.2 _ _ a (c i blk K) y,A2,?_,fun j k ce hj M=> ?_,fun j p' cf hj M=> ?_⟩;rw[hm];omega;rw[hm] at hj;rcases V j _ M with⟨A,w,B⟩|⟨i,b',rfl,w,B⟩;refine⟨ce,B,rfl,H j A w,fun b a al av y E=>⟨al,?_,rfl⟩⟩;rw[ac j _ b a w B y];exact E;have K:i.1<eH D:=by rcases cZ i.1 d.length with g|g;omega;have:(emb d m i).1=m+(i.1 - d.length):=Q3 g;omega
   cases b' with
   |obj p cs=>simp[Blk.ren] at B
   |cells k2 bv=>
    simp only[Blk.ren,Blk.cells.injEq] at B
    obtain⟨rfl,rfl⟩:=B
    obtain⟨es,g1,g2,g3,g4⟩:=hk.cells i k bv K w
    refine⟨es.map (C.renL (emb d m)),?_,by simpa using g2,by rw[G];exact g3,fun b a al av y E=>g4 b a al av y E⟩
    have:=c i _ g1
    simpa[Blk.ren] using this
   rw[hm] at hj;rcases V j _ M with⟨A,w,B⟩|⟨i,b',rfl,w,B⟩;exact⟨H j A w,p',cf,B⟩;have K:i.1<eH D:=by rcases cZ i.1 d.length with g|g;omega;have:(emb d m i).1=m+(i.1 - d.length):=Q3 g;omega
   cases b' with
   |cells k2 bv=>simp[Blk.ren] at B
   |obj p cs=>
    obtain⟨g1,p0,ch,g2⟩:=hk.obj i p cs K w
    exact⟨by rw[G];exact g1,p0,_,c i _ g2⟩
  refine⟨v,_,z,L,rfl,⟨rfl,rfl⟩,hr.fwd a0,⟨hG,⟨fun j b hj=> ?_,fun i j bi bj p q K hj y hq M=> ?_⟩,fun j blk b a hj y a5=> ?_,hs.os,hs.tape,hs.drawn,hs.output,hs.size,fun b E=>hK b E.1 fun i blk a K y=>E.2 _ _ a (c i blk K) y,a1⟩⟩
  ·rcases V j b hj with⟨A,w,B⟩|⟨i,b',rfl,w,rfl⟩
   ·rw[H j A w]
    exact(hG.st.blk j b B).mono a1 fun g a y=>ac j b g a w B y
   ·rw[G]
    have E:=hs.st.blk i b' w
    cases b' with
    |cells k es=>
     rcases E with⟨A,a6⟩|⟨b,a,al,av,A,a6,B,h4,h5⟩
     ·exact .inl ⟨A,by simpa using a6⟩
     ·refine .inr ⟨b,a,al,av,A,a6,by simpa using B,fun j e M=> ?_,fun j e o x M Q=> ?_⟩
      ·rw[lM,oM] at M
       obtain⟨e0,a7,rfl⟩:=M
       rw[x6,df]
       exact h4 j e0 a7
      ·rw[lM,oM] at M
       obtain⟨e0,a7,rfl⟩:=M
       rw[x6,lM,oM] at Q
       obtain⟨x0,a8,rfl⟩:=Q
       obtain⟨u,hu,hr⟩:=h5 j e0 o x0 a7 a8
       exact⟨u,hu,hr.fwd a0⟩
    |obj p cs=>
     obtain⟨b,o,us,g1,g2,g3,g4⟩:=E
     refine⟨b,o,us,g1,g2,g3,fun i x Q=> ?_⟩
     rw[x6,lM,oM] at Q
     obtain⟨x0,a8,rfl⟩:=Q
     obtain⟨u,hu,hr⟩:=g4 i x0 a8
     exact⟨u,hu,hr.fwd a0⟩
  ·rcases V i bi K with⟨A,w,B⟩|⟨i',b1,rfl,w,_⟩<;>rcases V j bj hj with⟨g1,g2,g3⟩|⟨j',b2,rfl,g2,_⟩
   ·rw[H i A w] at y
    rw[H j g1 g2] at hq
    exact hG.st.inj _ _ _ _ p q B g3 y hq M
   ·exfalso
    rw[H i A w] at y
    rw[G] at hq
    obtain⟨p1,p2⟩:=p
    obtain⟨q1,q2⟩:=q
    simp only at M
    subst M
    refine hs.keep j' b2 p1 q2 g2 hq ⟨Al.own_lt hG.st B y,fun i' F J X ao=> ?_⟩
    have:=hG.st.inj _ _ _ _ _ _ (c i' F X) B ao y rfl
    rw[<- this] at w
    exact w (O (b6.lt_of X))
   ·exfalso
    rw[H j g1 g2] at hq
    rw[G] at y
    obtain⟨p1,p2⟩:=p
    obtain⟨q1,q2⟩:=q
    simp only at M
    subst M
    refine hs.keep i' b1 p1 p2 w y ⟨Al.own_lt hG.st g3 hq,fun i' F J X ao=> ?_⟩
    have:=hG.st.inj _ _ _ _ _ _ (c i' F X) g3 ao hq rfl
    rw[<- this] at g2
    exact g2 (O (b6.lt_of X))
   ·rw[G] at y hq
    rw[hs.st.inj _ _ _ _ p q w g2 y hq M]
  ·rcases V j blk hj with⟨A,w,B⟩|⟨i,b',rfl,w,_⟩
   ·rw[H j A w] at y
    exact a5.2 j blk a B y
   ·rw[G] at y
    exact hs.keep i b' b a w y ⟨a5.1,fun i' F J X ao=>a5.2 _ _ J (c i' F X) ao⟩
/-! ### The same by lists of entries -/
def an0{a:Id->Id}:(vec i V Q).ren a=vec i V Q:=Blk.im_ren _ _ _
def hdr_emb{b:Id->Id}(h:∀a,b (i,a)=(p,a)):(Blk.cells 1 (hdr (i,[]) X)).ren b=.cells 1 (hdr (p,[]) X):=by
 simp only[Blk.ren];congr 1;apply cY;intro j;simp only[hdr,lM,cL,eG];cases X[j]? with
 |none=>rfl
 |some row=>simp[C.renL,C.ren,h]
inductive RenE(π:Id->Id):Nat->Ent->Nat->Ent->Prop
 |one {r r':Nat} {j b':Blk} (h:j.ren π=b'):RenE π r (.one j) r' (.one b')
 |vec {r r':Nat} {α:Type} {k:Nat} {f:α->List I} {l:List α}:RenE π r (.one (vec k f l)) r' (.one (vec k f l))
 |mat {r r':Nat} {α:Type} {k:Nat} {f:α->List I} {M:List (List α)}:RenE π r (mat (r,[]) k f M) r' (mat (r',[]) k f M)
 |any {r r':Nat} {e e':Ent} (h1:∀p j,e.sub p=some j->e'.sub p=some (j.ren π)) (h2:∀p j,e'.sub p=some j->∃b0,e.sub p=some b0/\j=b0.ren π):RenE π r e r' e'
def RenE.fwd{d:Id->Id}{e g:Ent}(h:RenE d i e p g)(f:∀a,d (i,a)=(p,a)):∀a b,e.sub a=some b->g.sub a=some (b.ren d):=by
 intro a b c;cases h with
 |one h=>cases a with
  |nil=>cases c;rw[h];rfl
  |cons=>cases c
 |vec=>cases a with
  |nil=>cases c;rw[an0];rfl
  |cons=>cases c
 |mat=>
  rcases ac8 c with⟨rfl,rfl⟩|⟨q,row,rfl,j,rfl⟩
  ·rw[hdr_emb f];rfl
  ·rw[an0,O0,j]
 |any k l=>exact k a b c
def RenE.bwd{d:Id->Id}{e g:Ent}(h:RenE d i e p g)(f:∀a,d (i,a)=(p,a)):∀a b,g.sub a=some b->∃j,e.sub a=some j/\b=j.ren d:=by
 intro a b c;cases h with
 |one h=>cases a with
  |nil=>cases c;exact⟨_,rfl,h.symm⟩
  |cons=>cases c
 |vec=>cases a with
  |nil=>cases c;exact⟨_,rfl,an0.symm⟩
  |cons=>cases c
 |mat=>
  rcases ac8 c with⟨rfl,rfl⟩|⟨q,row,rfl,k,rfl⟩
  ·exact⟨_,rfl,(hdr_emb f).symm⟩
  ·exact⟨Ab.vec _ _ row,by rw[O0,k],an0.symm⟩
 |any n l=>exact l a b c
inductive LentE(π:Id->Id)(σv:b6):Nat->Ent->Nat->Prop
 |dead {r x:Nat}:LentE π σv r .dead x
 |live {r x:Nat} {e e':Ent} (h:σv[x]? =some e') (he:RenE π r e x e'):LentE π σv r e x
def LentL(b:Id->Id)(a:b6):Nat->List Ent->List Nat->Prop
 |_,[],_=>True
 |r,e::l,x::c=>LentE b a r e x/\LentL b a (r+1) l c
 |_,_::_,[]=>False
def LentL.get{c:Id->Id}:∀{r:Nat} {l:List Ent} {b:List Nat},LentL c g r l b->∀j e,l[j]? =some e->∃x,b[j]? =some x/\LentE c g (r+j) e x
 |_,_::_,x::_,h,0,e,a=>by simp only[cD,Option.some.injEq] at a;subst a;exact⟨x,rfl,h.1⟩
 |r,_::l,_::b,h,j+1,e,a=>by obtain⟨x,d,f⟩:=LentL.get h.2 j e (by simpa using a);exact⟨x,by simpa using d,by rwa [show r+1+j=r+(j+1) by omega] at f⟩
 |_,_::_,[],h,_,_,_=>h.elim
inductive MrgE(ι:List Nat)(m:Nat)(σv σ':b6):Nat->Ent->Prop
 |dead {j:Nat}:MrgE ι m σv σ' j .dead
 |old {j:Nat} {e:Ent} (h1:di j m=true) (h2:memN j ι=false) (h3:σv[j]? =some e):MrgE ι m σv σ' j e
 |new {j:Nat} {e e0:Ent} (r:Nat) (h1:V3 ι m r=j) (h2:σ'[r]? =some e0) (h3:RenE (emb ι m) r e0 j e):MrgE ι m σv σ' j e
def MrgL(c:List Nat)(m:Nat)(a b:b6):Nat->List Ent->Prop
 |_,[]=>True
 |j,e::l=>MrgE c m a b j e/\MrgL c m a b (j+1) l
def MrgL.get{σ':b6}:∀{j:Nat} {l:List Ent},MrgL b i g σ' j l->∀a e,l[a]? =some e->MrgE b i g σ' (j+a) e
 |_,_::_,h,0,e,c=>by simp only[cD,Option.some.injEq] at c;subst c;exact h.1
 |j,_::l,h,a+1,e,c=>by have:=MrgL.get h.2 a e (by simpa using c);rwa [show j+1+a=j+(a+1) by omega] at this
def dead_sub{p:List Nat}{b:Blk}(h:Ent.dead.sub p=some b):False:=by cases p<;>cases h
def ent_of{b:Blk}(h:g[M]? =some (some b)):∃e,g[M.1]? =some e/\e.sub M.2=some b:=by
 rw[b6.at_eq] at h;simp only[b6.at] at h;cases a:g[M.1]? with
 |none=>simp[a] at h
 |some e=>rw[a] at h;simp only[Option.some.injEq] at h;exact⟨e,rfl,h⟩
def lenB:List Nat->Nat->Bool
 |[],n=>cG n 0
 |_::l,n+1=>lenB l n
 |_::_,0=>false
def nodupB:List Nat->Bool
 |[]=>true
 |x::l=> !memN x l && nodupB l
def nodupB_iff:∀{l:List Nat},nodupB l=true->l.Nodup
 |[],_=>.nil
 |x::l,h=>by simp only[nodupB,cE,ez] at h;refine List.nodup_cons.2 ⟨fun a=> ?_,nodupB_iff h.2⟩;rw[(J5 x l).2 a] at h;cases h.1
def allLt(m:Nat):List Nat->Bool
 |[]=>true
 |x::l=>di x m && allLt m l
def allLt_iff:∀{l:List Nat},allLt i l=true->∀r ∈ l,r<i
 |x::l,h,r,a=>by simp only[allLt,cE] at h;rcases dN.1 a with rfl|a;simpa using h.1;exact allLt_iff h.2 r a
inductive OkE(n:Nat):Nat->Ent->Prop
 |dead {r:Nat}:OkE n r .dead
 |one {r:Nat} {j:Blk} (h:j.ok n=true):OkE n r (.one j)
 |vec {r:Nat} {α:Type} {k:Nat} {f:α->List I} {l:List α}:OkE n r (.one (vec k f l))
 |mat {r:Nat} {α:Type} {k:Nat} {f:α->List I} {M:List (List α)} (h:di r n=true):OkE n r (mat (r,[]) k f M)
 |any {r:Nat} {e:Ent} (h:∀p j,e.sub p=some j->j.ok n=true):OkE n r e
def OkEs(n:Nat):Nat->List Ent->Prop
 |_,[]=>True
 |r,e::l=>OkE n r e/\OkEs n (r+1) l
def OkEs.get{n:Nat}:∀{r:Nat} {l:List Ent},OkEs n r l->∀j e,l[j]? =some e->OkE n (r+j) e
 |_,_::_,h,0,e,a=>by simp only[cD,Option.some.injEq] at a;subst a;exact h.1
 |r,_::l,h,j+1,e,a=>by have:=OkEs.get h.2 j e (by simpa using a);rwa [show r+1+j=r+(j+1) by omega] at this
def OkEs.all{n:Nat}(h:OkEs n 0 g)(i:Id)(b:Blk)(d:g[i]? =some (some b)):b.ok n=true:=by
 obtain⟨e,f,a⟩:=ent_of d;have:=OkEs.get h _ _ f;rw[cQ] at this;cases this with
 |dead=>exact(dead_sub a).elim
 |one h=>cases c:i.2 with
  |nil=>rw[c] at a;cases a;exact h
  |cons=>rw[c] at a;cases a
 |vec=>cases c:i.2 with
  |nil=>rw[c] at a;cases a;exact W9
  |cons=>rw[c] at a;cases a
 |mat h=>
  rcases ac8 a with⟨_,rfl⟩|⟨q,row,_,_,rfl⟩
  ·exact hdr_ok (by simpa using h) _
  ·exact W9
 |any h=>exact h _ _ a
def FnOk.lend0{P:Program}{f:FuncId}{args d:List T}{g a o k:b6}{N O:T}(c:List Nat)(H:FnOk P f d g fun r s=>r=N/\s=o)
  (hl:lenB c (eH g)=true) (Q:nodupB c=true) (z:allLt (eH a) c=true) (u:T.okL (eH g) d=true) (A:OkEs (eH g) 0 g) (q:T.renL (emb c (eH a)) d=args) (U:LentL (emb c (eH a)) a 0 g c)
  (V:N.ren (emb c (eH a))=O) (t:de (eH a+(o.length - c.length)) (eH k)=true) (X:MrgL c (eH a) a o 0 k):FnOk P f args a fun r s=>r=O/\s=k:=by
 have el:c.length=eH g:=by
  clear U Q z X t V q;have:∀(l:List Nat) n,lenB l n=true->eH l=n:=by
   intro l;induction l with
   |nil=>intro n h;exact(cC h).symm
   |cons x l ih=>intro n h;cases n with
    |zero=>cases h
    |succ n=>simp[ih n h]
  exact this _ _ hl
 have J:=nodupB_iff Q
 have B:=allLt_iff z
 have v:∀r p,emb c (eH a) (r,p)=(V3 c (eH a) r,p):=fun _ _=>rfl
 subst q V
 have K:MergeOk c a o k:=by
  refine⟨cO t,fun j b hj=> ?_⟩;obtain⟨e,L,w⟩:=ent_of hj;have D:=MrgL.get X _ _ L;rw[cQ] at D;cases D with
  |dead=>exact(dead_sub w).elim
  |old E F M=>
   refine .inl ⟨by simpa using E,fun hx=> ?_,?_⟩
   ·rw[(J5 _ _).2 hx] at F;cases F
   ·show a[((j.1,j.2):Id)]? =_
    rw[w9 M,w]
  |new r E F M=>
   obtain⟨b0,k1,k2⟩:=M.bwd (fun p=>by rw[v,E]) _ _ w
   refine .inr ⟨(r,j.2),b0,?_,?_,k2⟩
   ·rw[v,E]
   ·rw[w9 F,k1]
 refine FnOk.frame H c a el J B u (fun i b G=>A.all i b G) (fun i b G=> ?_) _ _ (fun r' aa hq=>⟨by rw[hq.1],by rw[hq.2];exact K⟩)
 ·obtain⟨e,L,w⟩:=ent_of G
  obtain⟨x,D,h4⟩:=LentL.get U _ _ L
  rw[cQ] at h4
  obtain⟨y,g1,g2⟩:=af7 (m:=eH a) (ι:=c) (r:=i.1) (by rw[el];exact b6.lt_of G)
  rw[D] at g1;cases g1
  cases h4 with
  |dead=>exact(dead_sub w).elim
  |live h he=>
   have:=he.fwd (fun p=>by rw[v,g2]) _ _ w
   show a[((V3 c (eH a) i.1,i.2):Id)]? =_
   rw[g2,w9 h,this]
def AOps.callF{Q:Post}{rest:List Oper}{j:Option Nat}{k:List Od}{l:Array Ti}{f:FuncId}{b:List C}{n:T}{e:b6}(o:ev s L=some (.c (.fn f b)))(p:evs s k=some q)(u:h9 i j=true)(w:FnOk c f (q++b.map T.c) t fun r a=>r=n/\a=e)(h:AOps c g i v Q rest (St.mk (putE s j n) e)):
  AOps c g i v Q (⟨j,.call ⟨.value L,k.toArray,l⟩,d,B,H,none⟩::rest) (St.mk s t):=
 .callS o p u w fun r a ⟨y,z⟩=>by subst y z;exact h
def AOps.newAt{f:Program}{D:Array Oper}{rest:List Oper}{o:Oper}{J:Option Nat}{V:List T}{e E:Env}{m:Nat}{l y Q:b6}{c':T}(n:Nat)(c:T)(blk:Blk)(O:y=l\/∃id,putF l id .none=some y)(hm:idF l=some m)(hE:EOk P V s p E)(hb:envNo (n,[]) s=true)(hV:vNo (n,[]) P p V 0=true)(he:envNo (n,[]) e=true)(av:setF y n (.one blk)=some Q)(ay:NoE n (.one blk))(a0:OkE m n (.one blk))(a1:c.ok m=true)(a2:c.ren (mv (n,[]) (m,[]))=c')(h0:de (eH g) n=true)(hs:NoL n y)(L:AOps f g i D r rest (St.mk (putE (e++E) J c') (y++[.one blk]))->AOps f g i D r (o::rest) (St.mk (e++E) l))(h:AOps f g i D r rest (St.mk (putE (e++E) J c) Q)):AOps f g i D r (o::rest) (St.mk (e++E) l):=fun Γ φ a w a3 hR=>by
 have a4:=ag1 hm;have h3:=Q7 av
 subst a4
 obtain⟨rfl,aa⟩:=h3
 have A:eH y=eH l:=by rcases O with rfl|⟨id,O⟩;rfl;rw[putF_eq O,b6.length_put]
 have a7:n<eH l:=by omega
 have ac:∀(p:Id) (b:Blk),y[p]? =some (some b)->l[p]? =some (some b):=fun p b z=>by rcases O with rfl|⟨id,O⟩;exact z;rw[putF_eq O] at z;exact(b6.get_kill z).2
 have G:∃n0,n0=eH l/\blk.ok n0=true:=⟨_,rfl,by
  cases a0 with
  |one h=>exact h
  |vec=>exact Blk.im_ok _ _ _
  |any h=>exact h [] blk rfl⟩
 have ad:blk.no (n,[])=true:=by
  cases ay with
  |one h=>exact h
  |vec=>exact Blk.im_no _ _ _
  |any h=>exact h [] blk rfl
 obtain⟨n0,a5,G⟩:=G
 refine L (AOps.sub (s':=St.mk (putE (e++E) J c) (y.set n (.one blk))) ?_ h) Γ φ a w a3 hR
 have a8:=cO h0
 have al:∀(t:Nat) (v:T),lookup t (e++E)=some v->v.ok (eH l)=true:=fun t v B=>by obtain⟨u,_,hr⟩:=hR.env t v B;exact hr.ok
 have an:∀(t:Nat) (v:T),lookup t (e++E)=some v->v.no (n,[])=true:=fun t v B=>by
  rw[K3] at B;cases hx:lookup t e with
  |some x=>
   rw[hx] at B;cases B
   exact ay3 he t v hx
  |none=>
   rw[hx] at B
   rcases hE t v B with k|⟨j,U,X,g3⟩
   ·exact ay3 hb t v k
   ·exact vNo_get hV j v g3 (by rw[cQ];exact U) (by rw[cQ];exact X)
 have M:mv (n,[]) (eH l,[]) (n,[])=(eH l,[]):=by simp[mv,O7.2 rfl]
 have F:∀p:Id,p ≠ (n,[])->mv (n,[]) (eH l,[]) p=p:=fun p h=>by simp[mv,ap7 h]
 have H:∀(p:Id) (b:Blk),(y.set n (.one blk))[p]? =some (some b)->p.1<eH l:=fun p b z=>by have:=b6.lt_of z;rw[lS,A] at this;exact this
 refine Sub.mk (mv (n,[]) (eH l,[])) (fun p z=>F p (fun e=>by subst e;simp at z;omega)) (by simp only[lS];omega) (fun p j b b' z hj h=> ?_) (fun p b z=> ?_) (fun t v B=> ?_)
 ·have l1:=H p b z
  have l2:=H j b' hj
  by_cases U:p=(n,[])<;>by_cases X:j=(n,[])
  ·rw[U,X]
  ·rw[U,M,F j X] at h
   rw[<- h] at l2;simp at l2
  ·rw[X,M,F p U] at h
   rw[h] at l1;simp at l1
  ·rwa [F p U,F j X] at h
 ·have a6:=H p b z
  obtain⟨j,q⟩:=p
  by_cases hj:j=n
  ·subst hj
   have ao:(Ent.one blk).sub q=some b:=by rw[b6.at_eq] at z;simp only[b6.at,List.getElem?_set_self aa,Option.some.injEq] at z;exact z
   cases q with
   |cons=>cases ao
   |nil=>
    cases ao
    refine⟨by rw[lS,A,<- a5];exact G,?_⟩
    rw[M,Blk.ren_no _ ad,<- A]
    exact b6.get_last y _
  ·have N:y[((j,q):Id)]? =some (some b):=by rw[b6.at_eq] at z ⊢;simp only[b6.at] at z ⊢;rwa [List.getElem?_set_ne (fun e=>hj e.symm)] at z
   refine⟨by rw[lS,A];exact hR.st.okB (ac _ _ N),?_⟩
   rw[F (j,q) (fun e=>hj (by cases e;rfl)),Blk.ren_no _ (hs.all _ _ N)]
   show(y++_)[_]? =_
   rw[b6.get_left (by rw[A];exact a6)];exact N
 ·have rest:∀v,lookup t (e++E)=some v->v.ok (y.set n (Ent.one blk)).length=true/\lookup t (e++E)=some (v.ren (mv (n,[]) (eH l,[]))):=fun v hv=>
   ⟨by rw[lS,A];exact al t v hv,by rw[T.ren_no v (an t v hv)];exact hv⟩
  cases K:J with
  |none=>rw[K] at B;exact rest v B
  |some d=>
   rw[K] at B
   simp only[putE,lookup] at B ⊢
   split at B
   ·cases B
    refine⟨by rw[lS,A];exact a1,?_⟩
    rw[a2]
   ·exact rest v B
def AOps.nilCheck{rest:List Oper}{e:Option Nat}{o k:Nat}{q:List (List C)}(u:ev s L=some (.c (.ptr M p o)))(f:t[M]? =some (some (.cells k q)))(y:h9 i e=true)(h:AOps c g i v r rest (St.mk (putE s e (.c (.ptr M p o))) t)):AOps c g i v r (⟨e,.nilCheck L,d,B,H,none⟩::rest) (St.mk s t):=
 .value rfl y _ (fun E F a w z=>by have l:=m9 z u;obtain⟨A,b,n,G,D⟩:=av5 l f;exact⟨a.eval L,by simp[execOp,D],l⟩) h
def AOps.nilCheckI{rest:List Oper}{b:Option Nat}{cs:List I}(f:ev s L=some (.c (.imm (.ipt cs))))(j:h9 i b=true)(h:AOps c g i v r rest (St.mk (putE s b (.c (.imm (.ipt cs)))) t)):AOps c g i v r (⟨b,.nilCheck L,d,B,H,none⟩::rest) (St.mk s t):=
 .value rfl j _ (fun o p a w k=>by have e:=m9 k f;obtain⟨q,u,l,n⟩:=ipt_inv e;exact⟨a.eval L,by simp[execOp,l],e⟩) h
def AOps.nilCheckF{P:Program}{ops:Array Oper}{rest:List Oper}{e:Option Nat}{f:FuncId}{b:List C}(n:ev s L=some (.c (.fn f b)))(o:h9 i e=true)(h:AOps P g i ops r rest (St.mk (putE s e (.c (.fn f b))) t)):AOps P g i ops r (⟨e,.nilCheck L,d,B,H,none⟩::rest) (St.mk s t):=
 .value rfl o _ (fun q u a w p=>by
  have j:=m9 p n;have k:∃l,a.eval L=.func (.func f) #[] l:=by generalize a.eval L=v at j;cases j with|c j=>cases j with|fn y h=>exact⟨_,rfl⟩
  obtain⟨l,k⟩:=k;exact⟨a.eval L,by simp[execOp,k],j⟩) h
def W.buildP{P:Program}{f:b6}{ops:Array Oper}{rest:List Oper}{e:Option Nat}{t:Ti}{n:Array Field}{parts:List (Nat×Od)}{o:List (Nat×T)}{k cs:List C}{b:List (Nat×Nat)}[E:TyD P t (.struct n)][F:PlacesC P n.toList b][q:TyZ P t k](u:de 2 (eH k)=true)(l:evP s parts=some o)(w:fillC (fun a=>b[a]?) k o=some cs)(y:h9 i e=true)(h:AOps P g i ops r rest (St.mk (putE s e (.agg cs)) f)):AOps P g i ops r (⟨e,.build t parts.toArray,d,B,H,none⟩::rest) (St.mk s f):=by
 obtain⟨size,bytes,z,v,p,A,j⟩:=q.h
 cases v with
 |c x=>cases j;cases u
 |agg D=>cases j;exact AOps.build (hs:=p) A l w y h
 |tup _=>cases j
 |undef=>cases j
section
open Go.Proofs
open Tryz
def oneL:List Nat:=[3,4,5,22,23,34,38,53,112,113,118,148,164,183,187,189,192,207,232]
def aggL:List (Nat×Nat):=[(25,4),(28,2),(30,2),(40,3),(55,4),(77,2),(88,3),(95,2),(110,4),(157,3),(160,2),(179,4),(182,0),(263,20),(267,32)]
def fldL:List (Nat×List Nat):=[(25,[0,1,2,3]),(28,[0,1]),(30,[0,1]),(40,[0,1,2]),(55,[0,1,2,3]),(70,[0,4,5,6,7]),(77,[0,1]),(88,[0,1,2]),(95,[0,1]),(110,[0,1,2,3]),(157,[0,1,2]),(160,[0,1]),(166,[0,1,2]),(179,[0,1,2,3]),(191,[0,1,2]),(195,[0,1,2,3])]
def zerL:List (Nat×List C):=[(3,[.imm (.val (.int .i64 0))]),(22,[.imm (.val (.slice none 0 0))]),(25,[.imm (.val (.int .i64 0)),.imm (.val (.slice none 0 0)),.imm (.val (.slice none 0 0)),.imm (.val (.slice none 0 0))]),(28,[.imm (.val (.int .i64 0)),.imm (.val (.int .i64 0))]),(30,[.imm (.val (.int .i64 0)),.imm (.val (.int .i64 0))]),(34,[.imm (.val (.slice none 0 0))]),(40,[.imm (.val (.slice none 0 0)),.imm (.val (.slice none 0 0)),.imm (.val (.int .i64 0))]),(55,[.imm (.val (.int .i64 0)),.imm (.val (.slice none 0 0)),.imm (.val (.slice none 0 0)),.imm (.val (.slice none 0 0))]),(70,[.imm (.val (.int .i64 0)),.imm (.val (.slice none 0 0)),.imm (.val (.slice none 0 0)),.imm (.val (.slice none 0 0)),.imm (.val (.slice none 0 0)),.imm (.val (.slice none 0 0)),.imm (.val (.slice none 0 0)),.imm (.val (.int .i64 0))]),(77,[.imm (.val (.slice none 0 0)),.imm (.val (.slice none 0 0))]),(88,[.imm (.val (.slice none 0 0)),.imm (.val (.slice none 0 0)),.imm (.val (.int .i64 0))]),(95,[.imm (.val (.slice none 0 0)),.imm (.val (.int .i64 0))]),(110,[.imm (.val (.slice none 0 0)),.imm (.val (.slice none 0 0)),.imm (.val (.slice none 0 0)),.imm (.val (.int .i64 0))]),(111,[.imm (.val (.int .i64 0)),.imm (.val (.int .i64 0))]),(113,[.imm (.val (.slice none 0 0))]),(118,[.imm (.val (.int .u32 0))]),(148,[.imm (.val (.map none))]),(157,[.imm (.val (.int .i64 0)),.imm (.val (.int .i64 0)),.imm (.val (.int .u32 0))]),(160,[.imm (.val (.int .u32 0)),.imm (.val (.int .i64 0))]),(166,[.imm (.val (.int .u32 0)),.imm (.val (.int .u32 0)),.imm (.val (.slice none 0 0))]),(179,[.imm (.val (.int .u32 0)),.imm (.val (.int .u32 0)),.imm (.val (.int .u32 0)),.imm (.val (.int .i64 0))]),(182,[]),(183,[.imm (.val (.map none))]),(191,[.imm (.val (.slice none 0 0)),.imm (.val (.map none)),.imm (.val (.int .i64 0))]),(195,[.imm (.val (.int .u32 0)),.imm (.val (.int .i64 0)),.imm (.val (.int .i64 0)),.imm (.val (.int .i64 0))]),(232,[.imm (.val (.int .u64 0))]),(253,[.imm (.val (.int .u8 0)),.imm (.val (.int .u8 0)),.imm (.val (.int .u8 0)),.imm (.val (.int .u8 0)),.imm (.val (.int .u8 0)),.imm (.val (.int .u8 0)),.imm (.val (.int .u8 0)),.imm (.val (.int .u8 0)),.imm (.val (.int .u8 0)),.imm (.val (.int .u8 0)),.imm (.val (.int .u8 0)),.imm (.val (.int .u8 0)),.imm (.val (.int .u8 0)),.imm (.val (.int .u8 0)),.imm (.val (.int .u8 0)),.imm (.val (.int .u8 0)),.imm (.val (.int .u8 0)),.imm (.val (.int .u8 0)),.imm (.val (.int .u8 0)),.imm (.val (.int .u8 0)),.imm (.val (.int .u8 0)),.imm (.val (.int .u8 0)),.imm (.val (.int .u8 0)),.imm (.val (.int .u8 0))]),(263,[.imm (.val (.int .u64 0)),.imm (.val (.int .u64 0)),.imm (.val (.int .u64 0)),.imm (.val (.int .u64 0)),.imm (.val (.int .u64 0)),.imm (.val (.int .u64 0)),.imm (.val (.int .u64 0)),.imm (.val (.int .u64 0)),.imm (.val (.int .u64 0)),.imm (.val (.int .u64 0)),.imm (.val (.int .u64 0)),.imm (.val (.int .u64 0)),.imm (.val (.int .u64 0)),.imm (.val (.int .u64 0)),.imm (.val (.int .u64 0)),.imm (.val (.int .u64 0)),.imm (.val (.int .u64 0)),.imm (.val (.int .u64 0)),.imm (.val (.int .u64 0)),.imm (.val (.int .u64 0))]),(267,[.imm (.val (.int .u8 0)),.imm (.val (.int .u8 0)),.imm (.val (.int .u8 0)),.imm (.val (.int .u8 0)),.imm (.val (.int .u8 0)),.imm (.val (.int .u8 0)),.imm (.val (.int .u8 0)),.imm (.val (.int .u8 0)),.imm (.val (.int .u8 0)),.imm (.val (.int .u8 0)),.imm (.val (.int .u8 0)),.imm (.val (.int .u8 0)),.imm (.val (.int .u8 0)),.imm (.val (.int .u8 0)),.imm (.val (.int .u8 0)),.imm (.val (.int .u8 0)),.imm (.val (.int .u8 0)),.imm (.val (.int .u8 0)),.imm (.val (.int .u8 0)),.imm (.val (.int .u8 0)),.imm (.val (.int .u8 0)),.imm (.val (.int .u8 0)),.imm (.val (.int .u8 0)),.imm (.val (.int .u8 0)),.imm (.val (.int .u8 0)),.imm (.val (.int .u8 0)),.imm (.val (.int .u8 0)),.imm (.val (.int .u8 0)),.imm (.val (.int .u8 0)),.imm (.val (.int .u8 0)),.imm (.val (.int .u8 0)),.imm (.val (.int .u8 0))])]
def flaL:List (Nat×Nat):=[(25,4),(28,2),(30,2),(40,3),(55,4),(77,2),(88,3),(95,2),(110,4),(157,3),(160,2),(166,3),(179,4),(191,3),(195,4)]
def intL:List (Nat×IntKind):=[(2,.i64),(3,.i64),(5,.u8),(118,.u32),(137,.u64),(207,.u64),(232,.u64)]
def tyOne(P : Program)(t : Nat) : Bool := (match P.underlying t with
 |some d=>(D8 d).not
 |none=>false) && match P.info? t with
 |some i=>cG i.size 1 && i.zero.isSome
 |none=>false
def tyAgg(P : Program)(p : Nat × Nat) : Bool := (match P.underlying p.1 with
 |some d=>D8 d
 |none=>false) && match P.info? p.1 with
 |some i=>cG i.size p.2 && i.zero.isSome
 |none=>false
def tyFld(P:Program):List Field->List Nat->Bool
 |[],[]=>true
 | a :: r, o :: os => cG a.offset o && (match P.info? a.type with
  |some i=>i.size !=0 && i.zero.isSome
  |none=>false) && tyFld P r os
 |_,_=>false
def tyStr(P:Program)(p:Nat×List Nat):Bool:=match P.underlying p.1 with
 |some (.struct a)=>tyFld P a.toList p.2
 |_=>false
def kN:IntKind->Nat
 | .i8=>0| .i16=>1| .i32=>2| .i64=>3| .u8=>4| .u16=>5| .u32=>6| .u64=>7
def tyInt(P:Program)(p:Nat×IntKind):Bool:=match P.underlying p.1 with
 |some (.int k)=>cG (kN k) (kN p.2)
 |_=>false
def tyZer(P:Program):List (Nat×List C)->Prop
 |[]=>True
 |(t,z)::r=>TyZ P t z/\tyZer P r
def tyFla(P:Program):List (Nat×Nat)->Prop
 |[]=>True
 |(t,z)::r=>FlatC P t z/\tyFla P r
def oneL_all:oneL.all (tyOne prog)=true:=by kernel_rfl
def aggL_all:aggL.all (tyAgg prog)=true:=by kernel_rfl
def fldL_all:fldL.all (tyStr prog)=true:=by kernel_rfl
def intL_all:intL.all (tyInt prog)=true:=by kernel_rfl
def zerL_all:tyZer prog zerL:=⟨inferInstance,inferInstance,inferInstance,inferInstance,inferInstance,inferInstance,inferInstance,inferInstance,inferInstance,inferInstance,inferInstance,inferInstance,inferInstance,inferInstance,inferInstance,inferInstance,inferInstance,inferInstance,inferInstance,inferInstance,inferInstance,inferInstance,inferInstance,inferInstance,inferInstance,inferInstance,inferInstance,inferInstance,inferInstance,trivial⟩
def flaL_all:tyFla prog flaL:=⟨inferInstance,inferInstance,inferInstance,inferInstance,inferInstance,inferInstance,inferInstance,inferInstance,inferInstance,inferInstance,inferInstance,inferInstance,inferInstance,inferInstance,inferInstance,trivial⟩
end
section
open Go.Proofs
open Tryz
def memN_mem:∀{l:List Nat},memN i l=true->i ∈ l
 |[],h=>by cases h
 |m::r,h=>by simp only[memN] at h;split at h;rename_i e;rw[cC e];exact .head _;exact .tail _ (memN_mem h)
def ldC(σ:b6):C->Option C
 | .imm (.ipt (c::_))=>some (.imm c)
 | .ptr id j o=>match b6.at σ id with
  |some (some (.cells _ a))=>match a[j]? with
   |some e=>e[o]?
   |none=>none
  |_=>none
 |_=>none
def fAd(σ:b6)(a:Nat):C->Option C
 | .ptr id j 0=>match b6.at σ id with
  |some (some (.cells _ _))=>some (.ptr id j a)
  |_=>none
 | .imm (.ipt cs)=>match dropF a cs with
  |some b=>some (.imm (.ipt b))
  |none=>none
 |_=>none
def offOf(t f:Nat):List (Nat×List Nat)->Option Nat
 |[]=>none
 |(s,os)::r=>match cG s t with
  |true=>os[f]?
  |false=>offOf t f r
def all_get{f:A->Bool}(h:Q.all f=true){x:A}(a:x ∈ Q):f x=true:=cJ.1 h x a
theorem size_get(h : (match c.info? i with
 |some a=>cG a.size p && a.zero.isSome
 |none=>false)=true):∃b z,TyS c i p b z:=by
 split at h
 ·rename_i a d
  simp only[cE,dG] at h
  obtain⟨e,z,f⟩:=h
  exact⟨_,z,⟨a,d,cC e,rfl,f⟩⟩
 ·cases h
theorem tyOne_get(h:tyOne c i=true):(∃d,c.underlying i=some d/\D8 d=false)/\∃b z,TyS c i 1 b z:=by unfold tyOne at h;rw[cE] at h;obtain⟨h,a⟩:=h;refine⟨?_,size_get a⟩;split at h;exact⟨_,by assumption,by simpa using h⟩;cases h
theorem oneL_ok(h:i ∈ oneL):(∃d,prog.underlying i=some d/\D8 d=false)/\∃b z,TyS prog i 1 b z:=tyOne_get (all_get oneL_all h)
def X6(t:Nat):List (Nat×A)->Option A
 |[]=>none
 |(s,n)::r=>match cG s t with
  |true=>some n
  |false=>X6 t r
def numOf_mem{n:A}:∀{l:List (Nat×A)},X6 i l=some n->(i,n) ∈ l
 |[],h=>by cases h
 |(s,m)::r,h=>by simp only[X6] at h;split at h;rename_i e;cases h;rw[<- cC e];exact .head _;exact .tail _ (numOf_mem h)
theorem tyAgg_get(h:tyAgg c (i,p)=true):(∃d,c.underlying i=some d/\D8 d=true)/\∃b z,TyS c i p b z:=by unfold tyAgg at h;rw[cE] at h;obtain⟨h,a⟩:=h;refine⟨?_,size_get a⟩;split at h;exact⟨_,by assumption,h⟩;cases h
theorem aggL_ok(h:X6 i aggL=some p):(∃d,prog.underlying i=some d/\D8 d=true)/\∃b z,TyS prog i p b z:=tyAgg_get (all_get aggL_all (numOf_mem h))
def tyInt_get{k:IntKind}(h:tyInt c (i,k)=true):c.underlying i=some (.int k):=by
 unfold tyInt at h;split at h;rename_i a hk;rw[hk];have h:=cC h;congr 2;revert h;cases k<;>cases a<;>intro h<;>first|rfl|cases h
 cases h
def intL_ok{k:IntKind}(h:X6 i intL=some k):prog.underlying i=some (.int k):=tyInt_get (all_get intL_all (numOf_mem h))
theorem tyZer_get{z:List C}:∀{l:List (Nat×List C)},tyZer c l->X6 i l=some z->TyZ c i z
 |(s,m)::r,a,h=>by simp only[X6] at h;split at h;rename_i e;cases h;rw[<- cC e];exact a.1;exact tyZer_get (l:=r) a.2 h
theorem tyFla_get:∀{l:List (Nat×Nat)},tyFla c l->X6 i l=some p->FlatC c i p
 |(s,m)::r,a,h=>by simp only[X6] at h;split at h;rename_i e;cases h;rw[<- cC e];exact a.1;exact tyFla_get (l:=r) a.2 h
def offOf_mem{a:Nat}:∀{l:List (Nat×List Nat)},offOf i p l=some a->∃os,(i,os) ∈ l/\os[p]? =some a
 |[],h=>by cases h
 |(s,os)::r,h=>by simp only[offOf] at h;split at h;rename_i e;rw[<- cC e];exact⟨os,.head _,h⟩;obtain⟨x,b,c⟩:=offOf_mem h;exact⟨x,.tail _ b,c⟩
def tyFld_get{P:Program}:∀{fs:List Field} {os:List Nat} {f off:Nat},tyFld P fs os=true->os[f]? =some off->∃fd,fs[f]? =some fd/\fd.offset=off/\∃i,P.info? fd.type=some i/\i.size ≠ 0/\∃z,i.zero=some z
 |[],[],f,off,_,h=>by simp at h
 |[],_::_,_,_,h,_=>by cases h
 |_::_,[],_,_,h,_=>by cases h
 |fd::r,o::os,f,off,h,hf=>by
  simp only[tyFld,cE] at h;cases f with
  |succ f=>exact tyFld_get (fs:=r) (os:=os) h.2 hf
  |zero=>
   cases hf
   refine⟨fd,rfl,cC h.1.1,?_⟩
   have h3:=h.1.2
   split at h3
   ·rename_i i hi
    simp only[cE,bne_iff_ne,ne_eq,dG] at h3
    exact⟨i,hi,h3⟩
   ·cases h3
def tyStr_get{d:Nat}(h:tyStr c (i,b)=true)(j:b[p]? =some d):∃g e,c.underlying i=some (.struct g)/\g[p]? =some e/\e.offset=d/\∃a,c.info? e.type=some a/\a.size ≠ 0/\∃z,a.zero=some z:=by unfold tyStr at h;split at h;rename_i g k;obtain⟨e,l,n⟩:=tyFld_get h j;exact⟨g,e,k,by simpa using l,n⟩;cases h
def fldL_ok{b:Nat}(h:offOf i p fldL=some b):∃d c,prog.underlying i=some (.struct d)/\d[p]? =some c/\c.offset=b/\∃a,prog.info? c.type=some a/\a.size ≠ 0/\∃z,a.zero=some z:=by obtain⟨os,e,g⟩:=offOf_mem h;exact tyStr_get (all_get fldL_all e) g
def kN_inj{k a:IntKind}(h:cG (kN k) (kN a)=true):k=a:=by have h:=cC h;cases k<;>cases a<;>first|rfl|cases h
def wrK(n:Int):IntKind->C
 | .i64=>int (w64 n)
 |k=>.imm (.val (.int k (k.wrap n)))
def wrK_eq(n:Int)(k:IntKind):wrK n k=.imm (.val (.int k (k.wrap n))):=by cases k<;>rfl
def binD(k:IntKind)(a b:Int):BinOp->Option C
 | .lss=>some (bool (decide (a<b)))
 | .leq=>some (bool (decide (a<=b)))
 | .gtr=>some (bool (decide (b<a)))
 | .geq=>some (bool (decide (b<=a)))
 | .eql=>some (bool (decide (a=b)))
 | .neq=>some (bool (!decide (a=b)))
 | .add=>some (wrK (a+b) k)
 | .sub=>some (wrK (a - b) k)
 | .mul=>some (wrK (a * b) k)
 |_=>none
def dOps:Op->List Od
 | .move x| .assign x| .load _ x| .fieldAddr _ x _| .unOp .not _ x| .extract x _=>[x]
 | .binOp _ _ x y _=>[x,y]
 | .pick c x y=>[c,x,y]
 | .build _ p=>p.toList.map (·.2)
 | .nilCheck x| .convert _ _ x=>[x]
 |_=>[]
def zipP:List (Nat×Od)->List T->Option (List (Nat×T))
 |[],[]=>some []
 |(i,_)::r,t::a=>match zipP r a with
  |some x=>some ((i,t)::x)
  |none=>none
 |_,_=>none
def ldA(σ:b6)(n:Nat):C->Option T
 | .imm (.ipt cs)=>match takeF n cs with
  |some x=>match immF x with
   |some y=>some (.agg y)
   |none=>none
  |none=>none
 | .ptr id j o=>match b6.at σ id with
  |some (some (.cells _ a))=>match a[j]? with
   |some e=>match dropF o e with
    |some x=>match takeF n x with
     |some y=>some (.agg y)
     |none=>none
    |none=>none
   |none=>none
  |_=>none
 |_=>none
def nilC(σ:b6):C->Option T
 | .ptr id j o=>match b6.at σ id with
  |some (some (.cells _ _))=>some (.c (.ptr id j o))
  |_=>none
 | .imm (.ipt cs)=>some (.c (.imm (.ipt cs)))
 | .fn f a=>some (.c (.fn f a))
 |_=>none
def cT:Option C->Option T
 |some c=>some (.c c)
 |none=>none
def dv(σ:b6):Op->List T->Option T
 | .move _,[t]=>some t
 | .assign _,[t]=>some t
 | .load e _,[.c c]=>match memN e oneL with
  |true=>cT (ldC σ c)
  |false=>match X6 e aggL with
   |some n=>ldA σ n c
   |none=>none
 | .build e p,h=>match X6 e zerL,X6 e flaL with
  |some z,some n=>match idF z with
   |some m=>match cG m n with
    |true=>match zipP p.toList h with
     |some l=>match fillF z l with
      |some cs=>some (.agg cs)
      |none=>none
     |none=>none
    |false=>none
   |none=>none
  |_,_=>none
 | .nilCheck _,[.c c]=>nilC σ c
 | .convert s d _,[.c (.imm (.val (.int _ n)))]=>match X6 s intL,X6 d intL with
  |some _,some g=>some (.c (.imm (.val (.int g (g.wrap n)))))
  |_,_=>none
 | .fieldAddr e _ f,[.c c]=>match offOf e f fldL with
  |some j=>cT (fAd σ j c)
  |none=>none
 | .binOp op _ _ _ _,[.c (.imm (.val (.int k a))),.c (.imm (.val (.int g b)))]=>match cG (kN k) (kN g) with
  |true=>cT (binD k a b op)
  |false=>none
 | .unOp .not _ _,[.c (.imm (.val (.bool b)))]=>some (.c (bool (!b)))
 | .extract _ i,[.tup h]=>h[i]?
 | .pick _ _ _,[.c (.imm (.val (.bool b))),x,y]=>match b with
  |true=>some x
  |false=>some y
 |_,_=>none
def dvE(σ:b6)(env:Env)(op:Op):Option T:=match evs env (dOps op) with
 |some a=>dv σ op a
 |none=>none
def gdo(ops:List Oper)(env:Env)(o:Oper):Option Bool:=match o.guard with
 |none=>some true
 |some (j,b)=>match A4 ops j with
  |some t=>match lookup t env with
   |some .undef=>some false
   |some (.c (.imm (.val (.bool a))))=>match a,b with
    |true,true=>some true
    |false,false=>some true
    |true,false=>some false
    |false,true=>some false
   |_=>none
  |none=>none
def dgo(ops:List Oper)(σ:b6)(env:Env)(o:Oper):Option T:=match gdo ops env o with
 |some true=>dvE σ env o.op
 |some false=>some .undef
 |none=>none
def newC(σ:b6)(cs:List C):Option (T×b6):=match idF cs with
 |some k=>match newF σ with
  |some id=>match w8 σ (.one (.cells k [cs])) with
   |some a=>some (.c (.ptr id 0 0),a)
   |none=>none
  |none=>none
 |none=>none
def stoC(σ:b6)(b:Nat)(id:Id)(o k:Nat)(e:List C):T->Option b6
 | .c c=>match memN b oneL with
  |true=>match setF e o c with
   |some a=>putF σ id (some (.cells k [a]))
   |none=>none
  |false=>none
 | .agg cs=>match X6 b aggL with
  |some n=>match idF cs with
   |some m=>match cG m n,di 0 n with
    |true,true=>match Y7 e o cs with
     |some a=>putF σ id (some (.cells k [a]))
     |none=>none
    |_,_=>none
   |none=>none
  |none=>none
 |_=>none
def deo(σ:b6)(env:Env):Option Nat->Op->Option (T×b6)
 |_,.alloc t=>match X6 t zerL with
  |some cs=>newC σ cs
  |none=>none
 |_,.box _ x=>match ev env x with
  |some v=>match ac7 v with
   |some cs=>newC σ cs
   |none=>none
  |none=>none
 |none,.store t x y=>match ev env x with
  |some (.c (.ptr id 0 o))=>match ev env y with
   |some v=>match b6.at σ id with
    |some (some (.cells k [e]))=>match stoC σ t id o k e v with
     |some a=>some (.undef,a)
     |none=>none
    |_=>none
   |none=>none
  |_=>none
 |_,_=>none
def dwo(ops:List Oper)(σ:b6)(env:Env)(o:Oper):Option (T×b6):=match gdo ops env o with
 |some true=>match dvE σ env o.op with
  |some v=>some (v,σ)
  |none=>deo σ env o.dst o.op
 |some false=>some (.undef,σ)
 |none=>none
def drv(ops:List Oper)(b:Nat):Nat->List Oper->Env->b6->Option (List Oper×Env×b6)
 |0,l,env,σ=>some (l,env,σ)
 |_+1,[],_,_=>none
 |n+1,o::l,env,σ=>match h9 b o.dst with
  |true=>match dwo ops σ env o with
   |some (v,a)=>match o.dst with
    |some d=>drv ops b n l ((d,v)::env) a
    |none=>drv ops b n l env a
   |none=>none
  |false=>none
def evs1{t:T}(h:evs s [L]=some [t]):ev s L=some t:=by simp only[evs] at h;split at h;rename_i a b;cases h;exact a;cases h
def evs2{y:Od}{t u:T}(h:evs s [L,y]=some [t,u]):ev s L=some t/\ev s y=some u:=by simp only[evs] at h;cases a:ev s L<;>cases b:ev s y<;>simp[a,b] at h;exact⟨by rw[h.1],by rw[h.2]⟩
def evs3{y z:Od}{t u v:T}(h:evs s [L,y,z]=some [t,u,v]):ev s L=some t/\ev s y=some u/\ev s z=some v:=by simp only[evs] at h;cases a:ev s L<;>cases b:ev s y<;>cases c:ev s z<;>simp[a,b,c] at h;exact⟨by rw[h.1],by rw[h.2.1],by rw[h.2.2]⟩
def cT_some{o:Option C}{v:T}(h:cT o=some v):∃c,o=some c/\v=.c c:=by
 cases o with
 |none=>cases h
 |some c=>cases h;exact⟨c,rfl,rfl⟩
def zipP_ok:∀{p:List (Nat×Od)} {b:List T} {c:List (Nat×T)},evs s (p.map (·.2))=some b->zipP p b=some c->evP s p=some c
 |[],b,c,h,a=>by cases h;exact a
 |(i,x)::r,b,c,h,a=>by simp only[dA,evs] at h;split at h;rename_i d e;cases h;simp only[zipP] at a;split at a;rename_i f;cases a;simp only[evP,d,zipP_ok e f];cases a;cases h
def dv_ok{rest:List Oper}{L:Ti}{ops:Array Oper}{op:Op}{v:T}(h:dvE t s op=some v)(f:h9 i x=true)(k:AOps prog g i ops r rest (St.mk (putE s x v) t)):AOps prog g i ops r (⟨x,op,L,B,H,none⟩::rest) (St.mk s t):=by
 unfold dvE at h;cases c:evs s (dOps op) with
 |none=>rw[c] at h;cases h
 |some ts=>
  rw[c] at h
  simp only at h
  unfold dv at h
  split at h
  ·cases h;exact .F (evs1 c) f k
  ·cases h;exact .E (evs1 c) f k
  ·split at h
   ·rename_i A
    obtain⟨⟨d,n,u⟩,_⟩:=oneL_ok (memN_mem A)
    obtain⟨J,e,rfl⟩:=cT_some h
    unfold ldC at e
    split at e
    ·cases e;exact AOps.loadI (ht:=⟨n⟩) u (evs1 c) rfl f k
    ·split at e
     ·rename_i o
      split at e
      ·rename_i M;exact AOps.load (ht:=⟨n⟩) u (evs1 c) o M e f k
      ·cases e
     ·cases e
    ·cases e
   ·split at h
    ·rename_i N
     obtain⟨⟨d,n,u⟩,b,z,p⟩:=aggL_ok N
     unfold ldA at h
     split at h
     ·split at h
      ·split at h
       ·cases h;exact W.loadIAgg (ht:=⟨n⟩) (hs:=p) u (evs1 c) (by assumption) (by assumption) f k
       ·cases h
      ·cases h
     ·split at h
      ·split at h
       ·split at h
        ·split at h
         ·cases h;exact W.loadAgg (ht:=⟨n⟩) (hs:=p) u (evs1 c) (by assumption) (by assumption) (by assumption) (by assumption) f k
         ·cases h
        ·cases h
       ·cases h
      ·cases h
     ·cases h
    ·cases h
  ·split at h
   ·rename_i e q
    split at h
    ·split at h
     ·rename_i A
      split at h
      ·rename_i O
       split at h
       ·cases h
        obtain rfl:=cC A
        exact W.build (hf:=tyFla_get flaL_all q) (hz:=tyZer_get zerL_all e) (by assumption) (zipP_ok c O) (by assumption) f k
       ·cases h
      ·cases h
     ·cases h
    ·cases h
   ·cases h
  ·unfold nilC at h
   split at h
   ·split at h
    ·cases h;exact .nilCheck (evs1 c) (by assumption) f k
    ·cases h
   ·cases h;exact .nilCheckI (evs1 c) f k
   ·cases h;exact .nilCheckF (evs1 c) f k
   ·cases h
  ·split at h
   ·rename_i e q
    cases h
    exact AOps.convInt (h1:=⟨intL_ok e⟩) (h2:=⟨intL_ok q⟩) (evs1 c) f k
   ·cases h
  ·split at h
   ·rename_i P
    obtain⟨fs,fd,n,G,U,⟨a,K,V,y⟩⟩:=fldL_ok P
    obtain⟨J,e,rfl⟩:=cT_some h
    obtain⟨zv,y⟩:=y
    subst U
    have p:(a.size==0)=false:=by simpa using V
    unfold fAd at e
    split at e
    ·split at e
     ·rename_i o
      cases e
      exact AOps.fieldAddr (ht:=⟨n⟩) G (hs:=⟨a,K,rfl,rfl,y⟩) p (evs1 c) o f (by rw[cQ];exact k)
     ·cases e
    ·split at e
     ·rename_i hdr
      cases e
      obtain⟨X,_⟩:=ax2 hdr
      subst X
      exact AOps.fieldAddrI (ht:=⟨n⟩) G (hs:=⟨a,K,rfl,rfl,y⟩) p (evs1 c) f k
     ·cases e
    ·cases e
   ·cases h
  ·split at h
   ·rename_i hk
    obtain rfl:=kN_inj hk
    obtain⟨J,e,rfl⟩:=cT_some h
    obtain⟨j,l⟩:=evs2 c
    unfold binD at e
    split at e<;>cases e
    ·exact .lss j l f k
    ·exact .leq j l f k
    ·exact .gtr j l f k
    ·exact .geq j l f k
    ·exact .eql j l f k
    ·exact .neq j l f k
    ·rw[wrK_eq] at k;exact .addW j l f k
    ·rw[wrK_eq] at k;exact .subW j l f k
    ·rw[wrK_eq] at k;exact .mulW j l f k
   ·cases h
  ·cases h;exact .not (evs1 c) f k
  ·exact .extract (evs1 c) h f k
  ·obtain⟨e,q,Q⟩:=evs3 c
   split at h
   ·cases h;exact .pickT e rfl q f k
   ·cases h;exact .pickF e rfl Q f k
  ·cases h
def gdo_ok{σ:b6}{rest:List Oper}{b:Bool}{op:Op}{guard:Option (Nat×Bool)}(h:gdo P s ⟨x,op,d,B,H,guard⟩=some b)(c:h9 i x=true)(f:b=true->AOps prog g i P.toArray r (⟨x,op,d,B,H,none⟩::rest) (St.mk s σ))(k:b=false->AOps prog g i P.toArray r rest (St.mk (putE s x .undef) σ)):AOps prog g i P.toArray r (⟨x,op,d,B,H,guard⟩::rest) (St.mk s σ):=by
 unfold gdo at h
 simp only at h
 split at h
 ·cases h;exact f rfl
 ·rename_i j b
  split at h
  ·rename_i t l
   have e:((P.toArray)[j]?).bind (·.dst)=some t:=by simpa[A4] using l
   split at h
   ·rename_i a;cases h;exact .guardSkip e a c (k rfl)
   ·rename_i n a
    split at h<;>cases h
    ·exact .J e a c rfl (f rfl)
    ·exact .J e a c rfl (f rfl)
    ·exact .guardF e a c rfl (k rfl)
    ·exact .guardF e a c rfl (k rfl)
   ·cases h
  ·cases h
def dgo_ok{rest:List Oper}{o:Oper}{v:T}(h:dgo P t s o=some v)(a:h9 i o.dst=true)(k:AOps prog g i P.toArray r rest (St.mk (putE s o.dst v) t)):AOps prog g i P.toArray r (o::rest) (St.mk s t):=by unfold dgo at h;split at h;rename_i b;exact gdo_ok b a (fun _=>dv_ok h a k) nofun;rename_i b;cases h;exact gdo_ok b a nofun (fun _=>k);cases h
def newC_ok{cs:List C}{v:T}(h:newC g cs=some (v,t)):∃k id,idF cs=some k/\newF g=some id/\w8 g (.one (.cells k [cs]))=some t/\v=.c (.ptr id 0 0):=by unfold newC at h;split at h;split at h;split at h;cases h;exact⟨_,_,by assumption,by assumption,by assumption,rfl⟩;cases h;cases h;cases h
def deo_ok{rest:List Oper}{ops:Array Oper}{op:Op}{v:T}{e:b6}(h:deo t s x op=some (v,e))(u:h9 i x=true)(k:AOps prog g i ops r rest (St.mk (putE s x v) e)):AOps prog g i ops r (⟨x,op,d,B,H,none⟩::rest) (St.mk s t):=by unfold deo at h;split at h;split at h;rename_i c;obtain⟨n,id,j,l,o,rfl⟩:=newC_ok h;exact W.alloc (hz:=tyZer_get zerL_all c) j l o u k;cases h;split at h;split at h;obtain⟨n,id,j,l,o,rfl⟩:=newC_ok h;exact W.box (by assumption) (by assumption) j l o u k;cases h;cases h;split at h;rename_i w;split at h;rename_i y;split at h;rename_i f;split at h;rename_i a;cases h;unfold stoC at a;split at a;split at a;rename_i p;obtain⟨_,b,z,c⟩:=oneL_ok (memN_mem p);split at a;rename_i q;exact W.store (hs:=c) w y f q a k;cases a;cases a;split at a;rename_i A;obtain⟨_,b,z,c⟩:=aggL_ok A;split at a;rename_i D;split at a;rename_i p E;obtain rfl:=cC p;split at a;rename_i q;exact W.storeAgg (hs:=c) w y f D E q a k;cases a;cases a;cases a;cases a;cases a;cases h;cases h;cases h;cases h;cases h
def dwo_ok{rest:List Oper}{o:Oper}{v:T}{a:b6}(h:dwo P t s o=some (v,a))(b:h9 i o.dst=true)(k:AOps prog g i P.toArray r rest (St.mk (putE s o.dst v) a)):AOps prog g i P.toArray r (o::rest) (St.mk s t):=by unfold dwo at h;split at h;rename_i c;split at h;rename_i d;cases h;exact gdo_ok c b (fun _=>dv_ok d b k) nofun;exact gdo_ok c b (fun _=>deo_ok h b k) nofun;rename_i c;cases h;exact gdo_ok c b nofun (fun _=>k);cases h
def AOps.G{σ0 σ:b6}{sz:Nat}{Q:Post}{env env':Env}{ops l l':List Oper}{σ':b6}(n:Nat)(h:drv ops sz n l env σ=some (l',env',σ'))(k:AOps prog σ0 sz ops.toArray Q l' (St.mk env' σ')):AOps prog σ0 sz ops.toArray Q l (St.mk env σ):=by
 induction n generalizing l env σ with
 |zero=>cases h;exact k
 |succ n ih=>
  cases l with
  |nil=>cases h
  |cons o l=>
   simp only[drv] at h
   split at h
   ·rename_i hd
    split at h
    ·rename_i v σ2 hv
     refine dwo_ok hv hd ?_
     split at h
     ·rename_i d e;rw[e];exact ih h
     ·rename_i e;rw[e];exact ih h
    ·cases h
   ·cases h
def AWP.G{env':Env}{l:List Oper}{σ':b6}{id:Nat}(n:Nat)(h:drv l i n l s t=some (P,env',σ'))(k:AOps prog g i l.toArray r P (St.mk env' σ')):AWP prog g i (.region id l.toArray false) r (St.mk s t):=AWP.aa (AOps.G n h k)
def AWP.gs{env':Env}{l:List Oper}{σ':b6}{d:Code}(n:Nat)(h:drv l i n l s t=some (P,env',σ'))(k:AOps prog g i l.toArray (thn (fun a=>AWP prog g i d r a) r) P (St.mk env' σ')):AWP prog g i (.seq (.region p l.toArray false) d) r (St.mk s t):=AWP.j (AWP.aa (AOps.G n h k))
def AOps.gn{a:Env}{l:List Oper}{b:b6}(n:Nat)(h:drv P i n l s t=some ([],a,b))(k:r .normal (St.mk a b)):AOps prog g i P.toArray r l (St.mk s t):=AOps.G n h (AOps.nil k)
def AOps.ge{env':Env}{l:List Oper}{σ':b6}{d:Code}(n:Nat)(h:drv P i n l s t=some ([],env',σ'))(k:AWP prog g i d r (St.mk env' σ')):AOps prog g i P.toArray (thn (fun a=>AWP prog g i d r a) r) l (St.mk s t):=AOps.G n h (AOps.nil k)
def AOps.ne{d:Code}(k:AWP c g i d r (St.mk s t)):AOps c g i v (thn (fun a=>AWP c g i d r a) r) [] (St.mk s t):=AOps.nil k
def AWP.gk{env':Env}{l:List Oper}{σ':b6}{d:Code}(n:Nat)(h:drv l i n l s t=some ([],env',σ'))(k:AWP prog g i d r (St.mk env' σ')):AWP prog g i (.seq (.region p l.toArray false) d) r (St.mk s t):=AWP.j (AWP.aa (AOps.G n h (AOps.nil k)))
def AOps.K{σ0 σ:b6}{i:Nat}{Q:Post}{env:Env}{rest:List Oper}{d:Option Nat}{l:Ti}{pos:String}{a:Array Edge}{P:Program}{ops:Array Oper}{op:Op}{j t:Nat}{b h n:Bool}(s:(ops[j]?).bind (·.dst)=some t)(o:lookup t env=some (.c (bool h)))(p:h=n)
  (k:AOps P σ0 i ops Q (⟨d,op,l,pos,a,some (j,b)⟩::rest) (St.mk ((t,.c (bool n))::env) σ)):AOps P σ0 i ops Q (⟨d,op,l,pos,a,some (j,b)⟩::rest) (St.mk env σ):=by
 subst p
 have q:Sub σ0 (St.mk env σ) (St.mk ((t,.c (bool h))::env) σ):=fun _ _ r _ _ _ f=>⟨r,{toRs:=f.toRs,defers:=f.defers,asize:=f.asize,env:=fun x v g=>f.env x v (by simp only[lookup] at g;split at g;rename_i e;cases g;rw[<- cC e];exact o;exact g)}⟩
 exact AOps.sub q k
def lkL(env:Env):Env->List (Option T)
 |[]=>[]
 |(t,_)::r=>lookup t env::lkL env r
def vsL:Env->List (Option T)
 |[]=>[]
 |(_,v)::r=>some v::vsL r
def lkL_sub:∀{a:Env},lkL s a=vsL a->K7 s a
 |[],_=>trivial
 |(t,v)::r,h=>by simp only[lkL,vsL,List.cons.injEq] at h;exact⟨h.1,lkL_sub h.2⟩
def Sub.en{a:Env}(h:lkL s a=vsL a):Sub g ⟨s,t⟩ ⟨a,t⟩:=Sub.env (lkL_sub h)
def Done.e{a:List RV}{Q:T->b6->Prop}{env:Env}{σ:b6}{r:T}(h:retT (St.mk env σ) a=some r)(b:Q r σ):∃J,Sub g (St.mk env σ) J/\Done a Q .ret J:=⟨_,Sub.refl _ _,Done.ret h b⟩
/-! ## Regions that draw -/
def aA6{v:T}{e:Env}(h:lookup i e=some v):lookup i (e++s)=some v:=by rw[K3,h]
def ev_app{e:Env}{v:T}(h:ev e L=some v):ev (e++s) L=some v:=by
 cases L with
 |tmp t=>exact aA6 h
 |_=>exact h
def evs_app{e:Env}:∀{l:List Od} {a:List T},evs e l=some a->evs (e++s) l=some a
 |[],a,h=>h
 |x::r,a,h=>by simp only[evs] at h ⊢;split at h;rename_i b c;rw[ev_app b,evs_app c];exact h;cases h
def dvE_app{e:Env}{op:Op}{v:T}(h:dvE g e op=some v):dvE g (e++s) op=some v:=by unfold dvE at h ⊢;split at h;rename_i a;rw[evs_app a];exact h;cases h
def gdo_app{e:Env}{o:Oper}{b:Bool}(h:gdo P e o=some b):gdo P (e++s) o=some b:=by unfold gdo at h ⊢;split at h;exact h;split at h;rename_i t c;split at h;rename_i a;rw[aA6 a];exact h;rename_i a;rw[aA6 a];exact h;cases h;cases h
def dgo_app{e:Env}{o:Oper}{v:T}(h:dgo P g e o=some v):dgo P g (e++s) o=some v:=by unfold dgo at h ⊢;split at h;rename_i a;rw[gdo_app a];exact dvE_app h;rename_i a;rw[gdo_app a];exact h;cases h
def drvD(ops:List Oper)(d:Nat)(σ:b6)(b:Env):Nat->List Oper->List T->Option (List Oper×List T)
 |0,l,a=>some (l,a)
 |_+1,[],_=>none
 |n+1,o::l,a=>match h9 d o.dst with
  |true=>match envF ops a b o with
   |some e=>match dgo ops σ e o with
    |some v=>match w8 a v with
     |some c=>drvD ops d σ b n l c
     |none=>none
    |none=>none
   |none=>none
  |false=>none
def dgo_only{o:Oper}{v:T}(a:h9 i o.dst=true)(b:dgo P t s o=some v)(E:Env):AOps prog g i P.toArray (Only (St.mk (putE (s++E) o.dst v) t)) [o] (St.mk (s++E) t):=dgo_ok (dgo_app b) a (AOps.nil ⟨rfl,rfl⟩)
def drvD_step{o:Oper}{l b:List Oper}{c:List T}(h:drvD P i g s (p+1) (o::l) q=some (b,c)):∃e v a,h9 i o.dst=true/\envF P q s o=some e/\dgo P g e o=some v/\w8 q v=some a/\drvD P i g s p l a=some (b,c):=by simp only[drvD] at h;split at h;split at h;split at h;split at h;exact⟨_,_,_,by assumption,by assumption,by assumption,by assumption,h⟩;cases h;cases h;cases h;cases h
def b7.D{σ0 σ:b6}{sz:Nat}{Q:Post}{env:Env}{ops:List Oper}{l l':List Oper}{acc acc':List T}(n:Nat)(h:drvD ops sz σ env n l acc=some (l',acc'))(k:b7 prog σ0 sz ops env σ Q l' acc'):b7 prog σ0 sz ops env σ Q l acc:=by
 induction n generalizing l acc with
 |zero=>cases h;exact k
 |succ n ih=>
  cases l with
  |nil=>cases h
  |cons o l=>
   obtain⟨e,v,a2,h1,h2,h3,h4,h5⟩:=drvD_step h
   exact .consF h2 (dgo_only h1 h3) h4 (ih h5)
def noE(a:List Nat):Nat->Nat->Bool
 |0,_=>true
 |n+1,i=>match memN i a with
  |true=>false
  |false=>noE a n (i+1)
def b8.D{σ0 σ:b6}{sz:Nat}{Q:Post}{env:Env}{ops:List Oper}{effs:List Nat}{l l':List Oper}{i:Nat}{acc acc':List T}{σs:List b6}(n:Nat)(hn:noE effs n i=true)(h:drvD ops sz σ env n l acc=some (l',acc'))(k:b8 prog σ0 sz ops effs env Q l' (i+n) acc' σs σ):b8 prog σ0 sz ops effs env Q l i acc σs σ:=by
 induction n generalizing l acc i with
 |zero=>cases h;exact k
 |succ n ih=>
  cases l with
  |nil=>cases h
  |cons o l=>
   obtain⟨e,v,a2,h1,h2,h3,h4,h5⟩:=drvD_step h
   simp only[noE] at hn
   split at hn
   ·cases hn
   ·rename_i hm
    exact .consN hm h2 (dgo_only h1 h3) h4 (ih hn h5 (by rw[show i+1+n=i+(n+1) by omega];exact k))
def setF_same{b:List A}{x:A}(h:Q[i]? =some x)(c:setF Q i x=some b):b=Q:=by obtain⟨e,_⟩:=Q7 c;rw[e];apply cY;intro j;rw[cN];by_cases a:i=j;subst a;have d:=(lG.1 h).1;simp only[d,if_true,h];simp[a]
def b7.K{Q:Post}{op:Op}{r:List Oper}{b e f:Bool}{a:List T}(h:q[p]? =some (.c (bool e)))(l:e=f)(n:setF q p (.c (bool f))=some a)(k:b7 c g i P s t Q (⟨x,op,d,B,H,some (p,b)⟩::r) a):b7 c g i P s t Q (⟨x,op,d,B,H,some (p,b)⟩::r) q:=by
 subst l
 rw[setF_same h n] at k
 exact k
def b8.K{Q:Post}{a:List Nat}{f:List b6}{op:Op}{r:List Oper}{j:Nat}{b h l:Bool}{e:List T}(n:q[j]? =some (.c (bool h)))(o:h=l)(u:setF q j (.c (bool l))=some e)(k:b8 c g i P a s Q (⟨x,op,d,B,H,some (j,b)⟩::r) p e f t):b8 c g i P a s Q (⟨x,op,d,B,H,some (j,b)⟩::r) p q f t:=by
 subst o
 rw[setF_same n u] at k
 exact k
def drvK(ops:List Oper)(d:Nat)(a:Env)(V:List T)(c:List b6)(b:List Nat)(i:Nat)(o:Oper):List Nat->Option (List T)
 |[]=>some []
 |k::f=>match drvK ops d a V c b i o f with
  |some r=>match feas ops b i k with
   |false=>some r
   |true=>match c[k]? with
    |some σ=>match envF ops V a o with
     |some e=>match dgo ops σ e o with
      |some v=>some (v::r)
      |none=>none
     |none=>none
    |none=>none
  |none=>none
def repL(v:T):List T->List T
 |[]=>[]
 |_::r=>v::repL v r
def drvI(ops:List Oper)(d:Nat)(b:Env)(V:List T)(c:List b6)(a:List Nat)(e:List Nat):Nat->List Oper->Nat->Option (List Oper×List T×List T)
 |0,l,_=>some (l,[],[])
 |_+1,[],_=>none
 |n+1,o::l,i=>match memN i a with
  |true=>drvI ops d b V c a e n l (i+1)
  |false=>match h9 d o.dst with
   |true=>match V[i]? with
    |some v=>match drvK ops d b V c a i o e with
     |some r=>match drvI ops d b V c a e n l (i+1) with
      |some (f,x,y)=>some (f,r++x,repL v r++y)
      |none=>none
     |none=>none
    |none=>none
   |false=>none
def drvK_ok{a:List b6}{o:Oper}{v:T}(d:h9 i o.dst=true):∀{f:List Nat} {r:List T},drvK P i s q a b p o f=some r->r=repL v r->d9 prog g i P s q a b p o v f
 |[],r,_,_=>.nil
 |k::f,r,h,c=>by simp only[drvK] at h;split at h;rename_i w j;split at h;rename_i l;cases h;exact .skip l (drvK_ok d j c);split at h;rename_i σ n;split at h;rename_i e t;split at h;rename_i x u;cases h;simp only[repL,List.cons.injEq] at c;obtain⟨rfl,c⟩:=c;exact .go n t (dgo_only d u) (drvK_ok d j c);cases h;cases h;cases h;cases h
def repL_len(v:T):∀r:List T,(repL v r).length=eH r
 |[]=>rfl
 |_::r=>congrArg (· +1) (repL_len v r)
def d8.D{σ0:b6}{sz:Nat}{env:Env}{ops:List Oper}{effs ks:List Nat}{V:List T}{σs:List b6}{l l':List Oper}{i:Nat}{x y:List T}(n:Nat)(h:drvI ops sz env V σs effs ks n l i=some (l',x,y))(hxy:x=y)(k:d8 prog σ0 sz ops env V σs effs ks l' (i+n)):d8 prog σ0 sz ops env V σs effs ks l i:=by
 induction n generalizing l i x y with
 |zero=>cases h;exact k
 |succ n ih=>
  have e:i+1+n=i+(n+1):=by omega
  cases l with
  |nil=>cases h
  |cons o l=>
   simp only[drvI] at h
   split at h
   ·rename_i hm;exact .skip hm (ih h hxy (by rw[e];exact k))
   ·rename_i hm
    split at h
    ·rename_i hd
     split at h
     ·rename_i v hv
      split at h
      ·rename_i r hr
       split at h
       ·rename_i h2
        cases h
        obtain⟨h3,h4⟩:=List.append_inj hxy (repL_len v r).symm
        exact .cons hm hv (drvK_ok hd hr h3) (ih h2 h4 (by rw[e];exact k))
       ·cases h
      ·cases h
     ·cases h
    ·cases h
/-! ## Loops over numbers, their head reckoned by a run -/
def drv_all{a:Env}{d:Code}(h:drv P i (eH P) P s t=some ([],a,t))(k:AWP prog g i d r (St.mk a t)):AWP prog g i (.seq (.region p P.toArray false) d) r (St.mk s t):=AWP.gk (eH P) h k
def headF(l:List Oper)(a:Nat)(x:Od)(s:St):Option (Env×b6×T×List (Option T)):=match drv l a (eH l) l s.env s.σ with
 |some ([],E,σ)=>match ev E x with
  |some v=>some (E,σ,v,lkL E s.env)
  |none=>none
 |_=>none
def headF_some{a:St}{v:T}{r:List (Option T)}(h:headF P i L a=some (s,g,v,r)):drv P i (eH P) P a.env a.σ=some ([],s,g)/\ev s L=some v/\lkL s a.env=r:=by unfold headF at h;split at h;rename_i b;split at h;rename_i c;cases h;exact⟨b,c,rfl⟩;cases h;cases h
def AWP.rngH{y:Nat}{K:Code}{z n:Int}{O:Type}{f:Int->A->Option (A⊕O)}{M:A}{o:A⊕O}{E:Int->A->Env}(h:rngX z n f M=some o)(F:Int->A->St)(B:O->Post)(N:∀a b,headF P i L (F a b)=some (E a b,(F a b).σ,.c (bool (decide (a<n))),vsL (F a b).env))(Q:Sub g (St.mk s t) (F z M))(d:∀a b q,z<=a->a<n->f a b=some q->AWP prog g i K (thn (fun st=>∃v,q=.inl v/\Sub g st (F (a+1) v)) (fun e st=>∃o,q=.inr o/\B o e st)) (St.mk (E a b) (F a b).σ))(k:∀a b,o=.inl b->r (.exit y) (F a b))(u:∀L e st,o=.inr L->B L e st->∃J,Sub g st J/\r e J):AWP prog g i (.loop (.seq (.region p P.toArray false) (.seq (.cond L .skip (.exit y)) K))) r (St.mk s t):=by
 refine AWP.rngS h F (fun o e st=>match o with| .inl b=>e=.exit y/\∃a,Sub g st (F a b)| .inr L=>B L e st) Q (fun a b U w D=> ?_) (fun a b q U w D=> ?_) (fun e b V=> ?_)
 ·obtain⟨G,H,X⟩:=headF_some (N a b)
  refine drv_all G (AWP.j (AWP.cond H (fun h=>absurd (of_decide_eq_true h) w) fun _=>AWP.exit ⟨rfl,a,Sub.en X⟩))
 ·obtain⟨G,H,X⟩:=headF_some (N a b)
  refine drv_all G (AWP.j (AWP.cond H (fun _=>AWP.skip (d a b q U w D)) fun h=>absurd D (fun _=>absurd w (of_decide_eq_false h))))
 ·cases o with
  |inl v=>obtain⟨rfl,a,h⟩:=V;exact⟨_,h,k a v rfl⟩
  |inr L=>exact u L e b rfl V
def AWP.forH{w:Nat}{y:Code}{q n:Int}{d:Int->A->Option A}{z o:A}{E:Int->A->Env}(h:forR q n d z=some o)(F:Int->A->St)(D:∀a b,headF P i L (F a b)=some (E a b,(F a b).σ,.c (bool (decide (a<n))),vsL (F a b).env))(G:Sub g (St.mk s t) (F q z))(f:∀a b u,q<=a->a<n->d a b=some u->AWP prog g i y (thn (fun st=>Sub g st (F (a+1) u)) (fun _ _=>False)) (St.mk (E a b) (F a b).σ))(j:∀a,r (.exit w) (F a o)):AWP prog g i (.loop (.seq (.region p P.toArray false) (.seq (.cond L .skip (.exit w)) y))) r (St.mk s t):=by
 refine AWP.rngH (O:=Empty) (aC4 h) F (fun e=>e.elim) D G (fun a b u H J k=> ?_) (fun a b h=>by cases h;exact j a) (fun L=>L.elim)
 cases v:d a b with
 |none=>rw[v] at k;cases k
 |some L=>
  rw[v] at k
  cases k
  refine(f a b L H J v).mono fun e st B=> ?_
  cases e with
  |normal=>exact⟨L,rfl,B⟩
  |_=>exact B.elim
def AWP.rngL{D:Nat}{K:Code}{G n:Int}{O:Type}{q:Int->A->Option (A⊕O)}{M:A}{o:A⊕O}{E:Int->A->Env}{B:Prop}(h:rngX G n q M=some o)(F:Int->A->St)(H:O->Post)(N:∀a d r,(B->r .normal (St.mk (E a d) (F a d).σ))->AOps c g i P.toArray r P (F a d))(Q:∀a d,(ev (E a d) L,lkL (E a d) (F a d).env)=(some (.c (bool (decide (a<n)))),vsL (F a d).env))(l:Sub g (St.mk s t) (F G M))(k:∀a d v,G<=a->a<n->q a d=some v->B->AWP c g i K (thn (fun st=>∃y,v=.inl y/\Sub g st (F (a+1) y)) (fun e st=>∃o,v=.inr o/\H o e st)) (St.mk (E a d) (F a d).σ))(u:∀a d,o=.inl d->r (.exit D) (F a d))(w:∀L e st,o=.inr L->H L e st->∃J,Sub g st J/\r e J):AWP c g i (.loop (.seq (.seq (.region p P.toArray false) (.cond L .skip (.exit D))) K)) r (St.mk s t):=by
 have f (a d):=eu.inj (Q a d)
 refine AWP.rngS h F (fun o e st=>match o with| .inl d=>e=.exit D/\∃a,Sub g st (F a d)| .inr L=>H L e st) l (fun a d U z V=> ?_) (fun a d v U z V=> ?_) (fun e d X=> ?_)
 ·exact AWP.j (AWP.j (AWP.aa (N a d _ fun _=>AWP.cond (f a d).1 (fun h=>absurd (of_decide_eq_true h) z) fun _=>AWP.exit ⟨rfl,a,Sub.en (f a d).2⟩)))
 ·exact AWP.j (AWP.j (AWP.aa (N a d _ fun b=>AWP.cond (f a d).1 (fun _=>AWP.skip (k a d v U z V b)) fun h=>absurd z (of_decide_eq_false h))))
 ·cases o with
  |inl y=>obtain⟨rfl,a,h⟩:=X;exact⟨_,h,u a y rfl⟩
  |inr L=>exact w L e d rfl X
def AWP.forL{y:Nat}{z:Code}{u n:Int}{f:Int->A->Option A}{D o:A}{E:Int->A->Env}{B:Prop}(h:forR u n f D=some o)(F:Int->A->St)(H:∀a d r,(B->r .normal (St.mk (E a d) (F a d).σ))->AOps c g i P.toArray r P (F a d))(J:∀a d,(ev (E a d) L,lkL (E a d) (F a d).env)=(some (.c (bool (decide (a<n)))),vsL (F a d).env))(K:Sub g (St.mk s t) (F u D))(j:∀a d v,u<=a->a<n->f a d=some v->B->AWP c g i z (thn (fun st=>Sub g st (F (a+1) v)) (fun _ _=>False)) (St.mk (E a d) (F a d).σ))(k:∀a,r (.exit y) (F a o)):AWP c g i (.loop (.seq (.seq (.region p P.toArray false) (.cond L .skip (.exit y))) z)) r (St.mk s t):=by
 refine AWP.rngL (O:=Empty) (aC4 h) F (fun e=>e.elim) H J K (fun a d v M N q b=> ?_) (fun a d h=>by cases h;exact k a) (fun L=>L.elim)
 cases w:f a d with
 |none=>rw[w] at q;cases q
 |some L=>
  rw[w] at q
  cases q
  refine(j a d L M N w b).mono fun e st G=> ?_
  cases e with
  |normal=>exact⟨L,rfl,G⟩
  |_=>exact G.elim
end
abbrev ob(p:Obj->Prop):Blk:=.obj (fun o _=>p o) []
def Rs.allocB{v:Cx}{o:Phi}(h:Rs v g o a){y:Obj->List Vl->Prop}{k:List C}{us0:List Vl}{obj:Obj}(J:y obj us0)(K:∀(i:Nat) (x:C),k[i]? =some x->∃u,us0[i]? =some u/\RelC a o g (Al v.N o g) x u):
  Kept a (a.alloc obj) o (r7 (eH g) o a.heap.size) g (g++[.one (.obj y k)]) (Al v.N o g) (Al v.N (r7 (eH g) o a.heap.size) (g++[.one (.obj y k)]))/\
  Rs v (g++[.one (.obj y k)]) (r7 (eH g) o a.heap.size) (a.alloc obj):=by
 have old:∀b,b<a.heap.size->(a.alloc obj).heap[b]? =a.heap[b]? :=fun b D=>by first|exact heap_alloc_old a _ D|exact heap_alloc_old a _ _ D
 have new:(a.alloc obj).heap[a.heap.size]? =some obj:=heap_alloc_new a _
 have l:∀i:Id,i.1<eH g->r7 (eH g) o a.heap.size i=o i:=fun i n=>by
  have:i ≠ (eH g,[]):=fun e=>by rw[e] at n;exact Nat.lt_irrefl _ n
  simp[r7,this]
 have r:r7 (eH g) o a.heap.size (eH g,[])=some (a.heap.size,0):=by simp[r7]
 have d:∀(i:Id) blk,(g++[.one (.obj y k)])[i]? =some (some blk)->(i.1<eH g/\g[i]? =some (some blk))\/(i=(eH g,[])/\blk=.obj y k):=fun i blk n=>b6.get_new n
 have V:∀b,Al v.N o g b->b<a.heap.size->Al v.N (r7 (eH g) o a.heap.size) (g++[.one (.obj y k)]) b:=fun b D P=>⟨D.1,fun i blk s n f=>by rcases d i blk n with⟨B,z⟩|⟨rfl,rfl⟩;rw[l i B] at f;exact D.2 i blk s z f;rw[r] at f;cases f;omega⟩
 have F:Kept a (a.alloc obj) o (r7 (eH g) o a.heap.size) g (g++[.one (.obj y k)]) (Al v.N o g) (Al v.N (r7 (eH g) o a.heap.size) (g++[.one (.obj y k)])):=
  {imm:=fun b _ P=>old b P,all:=V,len:=by simp,
   cells:=fun i kk L n A=>by rw[b6.get_left n] at A;exact⟨L,A,rfl,l i n,fun b s M X f D=>⟨M,(old b (Al.own_lt h.st A f)).trans D,rfl⟩⟩,
   obj:=fun i w O n A=>by rw[b6.get_left n] at A;exact⟨l i n,w,O,A⟩}
 refine⟨F,?_⟩
 exact {
  good:=h.good
  st:=⟨fun i b n=>by rcases d i b n with⟨B,z⟩|⟨rfl,rfl⟩;rw[l i B];exact(h.st.blk i b z).mono F fun c s f=>old c (Al.own_lt h.st z f);rw[r];exact⟨a.heap.size,obj,us0,rfl,new,J,fun i x hx=>let ⟨u,G,H⟩:=K i x hx; ⟨u,G,H.mono F⟩⟩,
   fun i j Q U p q n hj f E A=>by obtain⟨pb,po⟩:=p;obtain⟨qb,qo⟩:=q;dsimp only at A;subst A;rcases d i Q n with⟨B,z⟩|⟨rfl,rfl⟩<;>rcases d j U hj with⟨G,H⟩|⟨rfl,rfl⟩;rw[l i B] at f;rw[l j G] at E;exact h.st.inj i j Q U _ _ z H f E rfl;rw[l i B] at f;rw[r] at E;cases E;have:=Al.own_lt h.st z f;omega;rw[l j G] at E;rw[r] at f;cases f;have:=Al.own_lt h.st H E;omega;rfl⟩
  keep:=fun i blk b s n f t=>by rcases d i blk n with⟨B,z⟩|⟨rfl,rfl⟩;rw[l i B] at f;exact h.keep i blk b s z f t;rw[r] at f;cases f;have:=t.1;have:=h.size;omega
  os:=h.os
  tape:=h.tape
  drawn:=h.drawn
  output:=h.output
  size:=dF h.size (by simp)
  block:=fun b t=>(old b (dM t.1 h.size)).trans (h.block b t)
  kept:=Kept.trans h.size h.kept F}
def Rs.allocO{c:Cx}{b:Phi}(h:Rs c g b a){p0:Obj->Prop}{obj:Obj}(d:p0 obj):
  Kept a (a.alloc obj) b (r7 (eH g) b a.heap.size) g (g++[.one (ob p0)]) (Al c.N b g) (Al c.N (r7 (eH g) b a.heap.size) (g++[.one (ob p0)]))/\
  Rs c (g++[.one (ob p0)]) (r7 (eH g) b a.heap.size) (a.alloc obj):=
 h.allocB (us0:=[]) d fun i x f=>by simp at f
theorem Rs.writeB{Γ:Cx}{σ:b6}{φ:Phi}{w:World}(h:Rs Γ σ φ w){id:Id}{b:Nat}{q0 q1:Obj->List Vl->Prop}{cs0 cs1:List C}{us1:List Vl}{o0 o1:Obj}(hid:σ[id]? =some (some (.obj q0 cs0)))(hp:φ id=some (b,0))(hb:w.heap[b]? =some o0)(hq:q1 o1 us1)(hcs:∀(i:Nat) (x:C),cs1[i]? =some x->∃u,us1[i]? =some u/\RelC w φ σ (Al Γ.N φ σ) x u):
  Kept w ({w with heap:=w.heap.setIfInBounds b o1}:World) φ φ σ (σ.put id (some (.obj q1 cs1))) (Al Γ.N φ σ) (Al Γ.N φ (σ.put id (some (.obj q1 cs1))))/\Rs Γ (σ.put id (some (.obj q1 cs1))) φ ({w with heap:=w.heap.setIfInBounds b o1}:World):=by
 have new:({w with heap:=w.heap.setIfInBounds b o1}:World).heap[b]? =some o1:=(Go.MapKept.heap_set hb).1
 have old:∀g,g ≠ b->({w with heap:=w.heap.setIfInBounds b o1}:World).heap[g]? =w.heap[g]? :=fun g hg=>(Go.MapKept.heap_set hb).2 g hg
 have hsize:({w with heap:=w.heap.setIfInBounds b o1}:World).heap.size=w.heap.size:=by simp
 have at_:∀(i:Id) x,(σ.put id (some (.obj q1 cs1)))[i]? =some (some x)->(i=id/\x=.obj q1 cs1)\/(i ≠ id/\σ[i]? =some (some x)):=fun i x hi=>by
  rcases b6.get_put hid hi with⟨h1,h2⟩|h
  ·cases h2;exact .inl ⟨h1,rfl⟩
  ·exact .inr h
 have other:∀(i:Id) blk g bs,i ≠ id->σ[i]? =some (some blk)->φ i=some (g,bs)->g ≠ b:=fun i blk g bs hne hi hpi e=>by
  subst e
  exact hne (h.st.inj i id _ _ _ _ hi hid hpi hp rfl)
 have A1:∀g,Al Γ.N φ σ g->Al Γ.N φ (σ.put id (some (.obj q1 cs1))) g:=fun g hg=>⟨hg.1,fun i blk bs hi hpi=>by
  rcases at_ i blk hi with⟨rfl,_⟩|⟨_,hi⟩
  ·exact hg.2 i _ bs hid hpi
  ·exact hg.2 i blk bs hi hpi⟩
 have hK:Kept w ({w with heap:=w.heap.setIfInBounds b o1}:World) φ φ σ (σ.put id (some (.obj q1 cs1))) (Al Γ.N φ σ) (Al Γ.N φ (σ.put id (some (.obj q1 cs1)))):=
  {imm:=fun g hg _=>old g (fun e=>by subst e;exact hg.2 id _ 0 hid hp),all:=fun g hg _=>A1 g hg,len:=by simp,
   cells:=fun i kk es2 hi he=>by
    rcases at_ i _ he with⟨rfl,e⟩|⟨hne,he⟩
    ·cases e
    ·refine⟨es2,he,rfl,rfl,fun b2 base2 arr2 ety2 hp2 hb2=>⟨arr2,?_,rfl⟩⟩
     exact(old b2 (other i _ b2 base2 hne he hp2)).trans hb2,
   obj:=fun i p' cs' hi he=>by
    rcases at_ i _ he with⟨rfl,e⟩|⟨_,he⟩
    ·exact⟨rfl,_,_,hid⟩
    ·exact⟨rfl,p',cs',he⟩}
 refine⟨hK,?_⟩
 exact {
  good:=h.good
  st:=⟨fun i bk hi=>by
    rcases at_ i _ hi with⟨rfl,e⟩|⟨hne,hi⟩
    ·cases e
     rw[hp]
     exact⟨b,o1,us1,rfl,new,hq,fun i x hx=>let ⟨u,g1,g2⟩:=hcs i x hx; ⟨u,g1,g2.mono hK⟩⟩
    ·exact(h.st.blk i bk hi).mono hK fun g bs hpi=>old g (other i bk g bs hne hi hpi),
   fun i j bi bj p q hi hj hpi hqj he=>by
    have alive:∀(i:Id) bi,(σ.put id (some (.obj q1 cs1)))[i]? =some (some bi)->∃b0,σ[i]? =some (some b0):=fun i bi hi=>by
     rcases at_ i _ hi with⟨rfl,_⟩|⟨_,hi⟩
     ·exact⟨_,hid⟩
     ·exact⟨_,hi⟩
    obtain⟨b1,h1⟩:=alive i bi hi
    obtain⟨b2,h2⟩:=alive j bj hj
    exact h.st.inj i j b1 b2 p q h1 h2 hpi hqj he⟩
  keep:=fun i blk g bs hi hpi hKb=>by
   rcases at_ i _ hi with⟨rfl,_⟩|⟨_,hi⟩
   ·exact h.keep i _ g bs hid hpi hKb
   ·exact h.keep i blk g bs hi hpi hKb
  os:=h.os
  tape:=h.tape
  drawn:=h.drawn
  output:=h.output
  size:=by rw[hsize];exact h.size
  block:=fun g hKb=>(old g (fun e=>by subst e;exact h.keep id _ g 0 hid hp hKb)).trans (h.block g hKb)
  kept:=Kept.trans h.size h.kept hK}
/-! ### What the slots hold that rounds read -/
def Rs.writeO{e:Cx}{d:Phi}(h:Rs e g d a){j q1:Obj->Prop}{k o1:Obj}(f:g[M]? =some (some (ob j)))(l:d M=some (i,0))(n:a.heap[i]? =some k)(o:q1 o1):
  Kept a ({a with heap:=a.heap.setIfInBounds i o1}:World) d d g (g.put M (some (ob q1))) (Al e.N d g) (Al e.N d (g.put M (some (ob q1))))/\Rs e (g.put M (some (ob q1))) d ({a with heap:=a.heap.setIfInBounds i o1}:World):=
 h.writeB (us1:=[]) f l n o fun c x q=>by simp at q
def mget{V:Type}[DecidableEq A]:List (A×V)->A->Option V
 |[],_=>none
 |p::r,k=>if k=p.1 then some p.2 else mget r k
def mset{V:Type}[DecidableEq A]:List (A×V)->A->V->List (A×V)
 |[],k,v=>[(k,v)]
 |p::r,k,v=>if k=p.1 then(k,v)::r else p::mset r k v
def mapP{V:Type}(b:A->Vl)(d:V->Vl)(m:List (A×V)):Obj->Prop:=fun o=>∃a c,o=.map a c/\a.toList.map (fun e=>(e.key,e.val))=m.map fun p=>(b p.1,d p.2)
abbrev mapB{V:Type}(a:A->Vl)(b:V->Vl)(m:List (A×V)):Blk:=ob (mapP a b m)
structure KeyT(d:TypeDesc){K:Type}(fk:K->Vl):Prop where
 key:∀k,Go.MapKept.IsKey d (fk k)
 inj:∀{e f},fk e=fk f->e=f
def keyStr:KeyT .string Value.string:=⟨fun _=>trivial,fun h=>by cases h;rfl⟩
section
variable {K V:Type}[DecidableEq K]{fk:K->Vl}{fv:V->Vl}{d:TypeDesc}
def aC6(hk:KeyT d fk)(k:K):∀(m:List (K×V)) (l:List MapEntry) (i:Nat),l.map (fun e=>(e.key,e.val))=m.map (fun p=>(fk p.1,fv p.2))->
  (mget m k=none/\Instr.findNow d (fk k) l i=some none/\∀v born,(l++[({key:=fk k,val:=fv v,born:=born}:MapEntry)]).map (fun e=>(e.key,e.val))=(mset m k v).map fun p=>(fk p.1,fv p.2))\/
  ∃v j e,mget m k=some v/\Instr.findNow d (fk k) l i=some (some (i+j,fv v))/\l[j]? =some e/\e.key=fk k/\∀f,(l.modify j fun e=>{e with key:=fk k,val:=fv f}).map (fun e=>(e.key,e.val))=(mset m k f).map fun p=>(fk p.1,fv p.2)
 |[],[],i,_=>.inl ⟨rfl,rfl,fun v born=>rfl⟩
 |[],_::_,i,h=>by simp at h
 |_::_,[],i,h=>by simp at h
 |p::m,e::l,i,h=>by
  simp only[dA,List.cons.injEq,eu.injEq] at h;obtain⟨⟨b,g⟩,t⟩:=h;have u:∃r,Instr.sameNow d (fk k) e.key=some r/\(r=true↔fk k=e.key):=Go.MapKept.sameNow_of_keys (hk.key k) (by rw[b];exact hk.key p.1);obtain⟨r,n,a⟩:=u;by_cases c:k=p.1;have:r=true:=a.2 (by rw[b,c]);subst this;right;refine⟨p.2,0,e,by simp[mget,c],by simp[Instr.findNow,n,g],rfl,by rw[b,c],fun f=> ?_⟩;simp only[List.modify_zero_cons,dA,mset,if_pos c];rw[t];have:r=false:=by
   cases r with
   |false=>rfl
   |true=>exact absurd (hk.inj ((a.1 rfl).trans b)) c
  subst this;rcases aC6 hk k m l (i+1) t with⟨o,q,s⟩|⟨v,j,w,o,q,s,x,y⟩;left;refine⟨by simp[mget,c,o],by simp[Instr.findNow,n,q],fun v born=> ?_⟩;simp only[List.cons_append,dA,mset,if_neg c];rw[s v born,b,g];right;refine⟨v,j+1,w,by simp[mget,c,o],by simp[Instr.findNow,n,q];omega,by simpa using s,x,fun f=> ?_⟩;simp only[List.modify_succ_cons,dA,mset,if_neg c];rw[y f,b,g]
end
section
variable {P:Program}{σ0:b6}{sz:Nat}{Q:Post}{env env':Env}{σv σ':b6}{ops:Array Oper}{rest:List Oper}{dst:Option Nat}{ty:Ti}{pos:String}{after:Array Edge}
variable {K V:Type}[DecidableEq K]{fk:K->Vl}{fv:V->Vl}{d:TypeDesc}
def map_inv{i:Phi}{A:Nat->Prop}{p:Obj->Prop}{u:Vl}(h:RelT a i g A (.c (.map M)) u)(f:g[M]? =some (some (ob p))):∃b e,i M=some (b,e)/\u=.map (some b):=by
 cases h with|c h=>cases h with|map j k h=>exact h _ _ f
def aq9{b:Phi}{A:Nat->Prop}{v u:Vl}(h:RelT a b g A (.c (.imm (.val v))) u):u=v/\v.oneCell'=true:=by
 cases h with|c h=>cases h with|imm h=>cases h with|val h=>exact⟨rfl,h⟩
def W.makeMap{t:Ti}(fk:K->Vl)(fv:V->Vl)(b:newF σv=some M)(e:w8 σv (.one (mapB fk fv []))=some σ')(i:h9 sz dst=true)(h:AOps P σ0 sz ops Q rest (St.mk (putE env dst (.c (.map M))) σ')):AOps P σ0 sz ops Q (⟨dst,.makeMap t none,ty,pos,after,none⟩::rest) (St.mk env σv):=by
 have j:=D6 b;have k:=v7 e
 subst j k
 refine .valueW rfl i _ _ (fun l n a w f=> ?_) h
 have g:=Rs.allocO (p0:=mapP fk fv []) (obj:=.map #[] 0) f.toRs ⟨#[],0,rfl,rfl⟩
 refine⟨.map (some w.heap.size),w.alloc (.map #[] 0),_,by simp[execOp,Instr.makeMap],.c (.map (by simp) rfl fun p cs q=>⟨w.heap.size,0,by simp[r7],rfl⟩),f.of g.1 g.2⟩
def W.lookup{y:Od}{t s p:Ti}{m:List (K×V)}{k:K}{z:V}{bytes:Nat}{u:Vl}[A:TyD P t (.map s p)][f:TyD P s d][hs:TyS P p i bytes u](hk:KeyT d fk)(G:u=fv z)(H:∀v,(fv v).oneCell'=true)(J:ev env L=some (.c (.map M)))(N:ev env y=some (.c (.imm (.val (fk k)))))(g:σv[M]? =some (some (mapB fk fv m)))(O:h9 sz dst=true)(h:AOps P σ0 sz ops Q rest (St.mk (putE env dst (.c (.imm (.val (fv ((mget m k).getD z)))))) σv)):AOps P σ0 sz ops Q (⟨dst,.lookup t L y false,ty,pos,after,none⟩::rest) (St.mk env σv):=by
 refine .valueW rfl O _ _ (fun Γ U a w n=> ?_) h
 obtain⟨b,B,X,D⟩:=map_inv (m9 n J) g
 obtain⟨l,_⟩:=aq9 (m9 n N)
 obtain⟨b',o,_,E,F,⟨x,c,rfl,g3⟩,_⟩:=n.st.blk _ _ g
 rw[X] at E;cases E
 refine⟨fv ((mget m k).getD z),w,U,?_,.c (.imm (.val (H _))),n⟩
 rcases aC6 hk k m x.toList 0 g3 with⟨q,r,_⟩|⟨v,j,e,q,r,_⟩
 ·simp[execOp,D,l,Instr.lookup,run_underlying A.h,Go.MapKept.run_getObj_map F,Go.MapKept.run_checkKey f.h (hk.key k),Go.MapKept.run_findKey f.h r,am6 (t:=p),q,G,Result.andThen]
 ·simp[execOp,D,l,Instr.lookup,run_underlying A.h,Go.MapKept.run_getObj_map F,Go.MapKept.run_checkKey f.h (hk.key k),Go.MapKept.run_findKey f.h r,q,Result.andThen]
def W.mapUpdate{y v:Od}{t A N:Ti}{m:List (K×V)}{k:K}{a:V}[B:TyD P t (.map A N)][f:TyD P A d](hk:KeyT d fk)(O:ev env L=some (.c (.map M)))(U:ev env y=some (.c (.imm (.val (fk k)))))(X:ev env v=some (.c (.imm (.val (fv a)))))(g:σv[M]? =some (some (mapB fk fv m)))(n:σv.put M (some (mapB fk fv (mset m k a)))=σ')(h:AOps P σ0 sz ops Q rest (St.mk env σ')):AOps P σ0 sz ops Q (⟨none,.mapUpdate t L y v,ty,pos,after,none⟩::rest) (St.mk env σv):=by
 subst n
 refine .skipW rfl rfl _ (fun Γ D ac w i=> ?_) h
 obtain⟨b,E,r,F⟩:=map_inv (m9 i O) g
 obtain⟨G,_⟩:=aq9 (m9 i U)
 obtain⟨H,_⟩:=aq9 (m9 i X)
 obtain⟨b',o,_,J,l,⟨q,c,rfl,x⟩,_⟩:=i.st.blk _ _ g
 rw[r] at J;cases J
 rcases aC6 hk k m q.toList 0 x with⟨s,u,z⟩|⟨v0,j,e,s,u,z,q4,q5⟩
 ·have p:=Rs.writeO (q1:=mapP fk fv (mset m k a)) (o1:=.map (q.push {key:=fk k,val:=fv a,born:=c}) (c+1)) i.toRs g r l ⟨_,_,rfl,by rw[eB];exact z a c⟩
  refine⟨_,D,?_,i.of p.1 p.2⟩
  simp[execOp,F,G,H,Instr.mapUpdate,run_underlying B.h,Go.MapKept.run_getObj_map l,Go.MapKept.run_checkKey f.h (hk.key k),Go.MapKept.run_findKey f.h u,Go.MapKept.run_setObj_map _ l,Result.andThen]
 ·have hj:q[j]? =some e:=by simpa using z
  have p:=Rs.writeO (q1:=mapP fk fv (mset m k a)) (o1:=.map (q.modify j fun e=>{e with key:=fk k,val:=fv a}) c) i.toRs g r l ⟨_,_,rfl,by rw[dY];exact q5 a⟩
  refine⟨_,D,?_,i.of p.1 p.2⟩
  simp[execOp,F,G,H,Instr.mapUpdate,run_underlying B.h,Go.MapKept.run_getObj_map l,Go.MapKept.run_checkKey f.h (hk.key k),Go.MapKept.run_findKey f.h u,hj,q4,Go.MapKept.run_keyThatStays (hk.key k),Go.MapKept.run_setObj_map _ l,Result.andThen]
def W.insert{y v:Od}{t A M:Ti}{id:Id}{m:List (K×V)}{k:K}{a:V}[B:TyD P t (.map A M)][f:TyD P A d](hk:KeyT d fk)(N:ev env L=some (.c (.map id)))(O:ev env y=some (.c (.imm (.val (fk k)))))(U:ev env v=some (.c (.imm (.val (fv a)))))(g:σv[id]? =some (some (mapB fk fv m)))(n:σv.put id (some (mapB fk fv (mset m k a)))=σ')(h:AOps P σ0 sz ops Q rest (St.mk env σ')):AOps P σ0 sz ops Q (⟨none,.insert t L y v,ty,pos,after,none⟩::rest) (St.mk env σv):=by
 subst n
 refine .skipW rfl rfl _ (fun Γ D ac w i=> ?_) h
 obtain⟨b,E,r,F⟩:=map_inv (m9 i N) g
 obtain⟨G,_⟩:=aq9 (m9 i O)
 obtain⟨H,_⟩:=aq9 (m9 i U)
 obtain⟨b',o,_,J,l,⟨q,c,rfl,X⟩,_⟩:=i.st.blk _ _ g
 rw[r] at J;cases J
 rcases aC6 hk k m q.toList 0 X with⟨s,u,z⟩|⟨v0,j,e,s,u,z,x,q5⟩
 ·have p:=Rs.writeO (q1:=mapP fk fv (mset m k a)) (o1:=.map (q.push {key:=fk k,val:=fv a,born:=c}) (c+1)) i.toRs g r l ⟨_,_,rfl,by rw[eB];exact z a c⟩
  refine⟨_,D,?_,i.of p.1 p.2⟩
  simp[execOp,F,G,H,Instr.mapUpdate,run_underlying B.h,Go.MapKept.run_getObj_map l,Go.MapKept.run_checkKey f.h (hk.key k),Go.MapKept.run_findKey f.h u,Go.MapKept.run_setObj_map _ l,Result.andThen]
 ·have hj:q[j]? =some e:=by simpa using z
  have p:=Rs.writeO (q1:=mapP fk fv (mset m k a)) (o1:=.map (q.modify j fun e=>{e with key:=fk k,val:=fv a}) c) i.toRs g r l ⟨_,_,rfl,by rw[dY];exact q5 a⟩
  refine⟨_,D,?_,i.of p.1 p.2⟩
  simp[execOp,F,G,H,Instr.mapUpdate,run_underlying B.h,Go.MapKept.run_getObj_map l,Go.MapKept.run_checkKey f.h (hk.key k),Go.MapKept.run_findKey f.h u,hj,x,Go.MapKept.run_keyThatStays (hk.key k),Go.MapKept.run_setObj_map _ l,Result.andThen]
end
/-! ### Functions that call themselves -/
def recN{R:Type}(F:(A->Option R)->A->Option R):Nat->A->Option R
 |0,_=>none
 |n+1,a=>F (recN F n) a
noncomputable def Rec{R:Type}(F:(A->Option R)->A->Option R)(a:A):Option R:=open Classical in
 if h:∃r n,recN F n a=some r then some h.choose else none
def Rec_some{R:Type}{F:(A->Option R)->A->Option R}{a:A}{r:R}(h:Rec F a=some r):∃n,recN F n a=some r:=by unfold Rec at h;split at h;rename_i b;cases h;exact b.choose_spec;cases h
def Rec_of{R:Type}{F:(A->Option R)->A->Option R}{a:A}{r:R}(h:recN F i a=some r):∃c,Rec F a=some c/\∃m,recN F m a=some c:=by have b:∃r i,recN F i a=some r:=⟨r,i,h⟩;refine⟨b.choose,?_,b.choose_spec⟩;unfold Rec;rw[dif_pos b]
def strL(s:ByteArray):Li:=s.data.toList.map fun b=>(b.toNat:Int)
def strB(l:Li):ByteArray:=⟨(l.map fun n=>UInt8.ofNat n.toNat).toArray⟩
def subS(s:ByteArray)(a b:Int):Option ByteArray:=if 0<=a/\a<=b/\b<=s.size then some (s.extract a.toNat b.toNat) else none
def strL_len(s:ByteArray):(strL s).length=s.size:=by
 simp[strL]
def strCells_eq(s:ByteArray):Lib.strCells s=(strL s).map fun n=>Value.int .u8 n:=by
 simp[Lib.strCells,strL]
structure ShowsS(w:World)(φ:Phi)(σ:b6)(A:Nat->Prop)(k:Nat)(es:List (List C))(us:List Vl):Prop where
 len:eH us=eH es * k
 one:∀u ∈ us,u.oneCell'=true
 hk:∀(j:Nat) (e:List C),es[j]? =some e->eH e=k
 rel:∀(j:Nat) (e:List C) (o:Nat) (x:C),es[j]? =some e->e[o]? =some x->∃u,us[j * k+o]? =some u/\RelC w φ σ A x u
def strE(s:ByteArray):List (List C):=(strL s).map fun n=>[C.imm (.val (.int .u8 n))]
def str_shows(w:World)(c:Phi)(σ:b6)(A:Nat->Prop)(s:ByteArray):ShowsS w c σ A 1 (strE s) (Lib.strCells s):=by
 refine⟨by simp[strE,strL,Lib.strCells],Lib.strCells_oneCell s,fun j e a=> ?_,fun j e o x a b=> ?_⟩;simp only[strE,lM,oM] at a;obtain⟨n,_,rfl⟩:=a;rfl;simp only[strE,lM,oM] at a;obtain⟨n,d,rfl⟩:=a;cases o with
 |succ o=>simp at b
 |zero=>
  simp only[cD,Option.some.injEq] at b
  subst b
  refine⟨.int .u8 n,?_,.imm (.val rfl)⟩
  rw[strCells_eq,lM,dI,dC,d]
  rfl
def app_relS{n:Phi}{A:Nat->Prop}{f new:List (List C)}{b:Option Addr}{p vs:List Vl}(h:ak7 a n g A i f b p)(c:ShowsS a n g A i new vs):
  (∀(j:Nat) (e:List C),(f++new)[j]? =some e->eH e=i)/\∀(j:Nat) (e:List C) (o:Nat) (x:C),(f++new)[j]? =some e->e[o]? =some x->∃u,(p++vs)[j * i+o]? =some u/\RelC a n g A x u:=by
 refine⟨fun j e d=> ?_,fun j e o x d s=> ?_⟩
 ·rw[dV] at d
  split at d
  ·exact h.hk _ _ d
  ·exact c.hk _ _ d
 ·rw[dV] at d
  split at d
  ·rename_i q
   obtain⟨u,l,r⟩:=h.rel j e o x d s
   exact⟨u,by rw[cX (lG.1 l).1];exact l,r⟩
  ·rename_i q
   obtain⟨u,l,r⟩:=c.rel _ e o x d s
   refine⟨u,?_,r⟩
   have:eH p<=j * i+o:=by rw[h.len];have:=dh i (Nat.not_lt.1 q);omega
   rw[cW this,h.len]
   rw[Nat.sub_mul] at l
   have:=dh i (Nat.not_lt.1 q)
   rw[show j * i+o - (eH f) * i=j * i - (eH f) * i+o by omega]
   exact l
section
variable {P:Program}(w:World)
def aG6{t u ty:Ti}{bytes:Nat}{z:Vl}[r:TyD P t (.slice d)][v:TyD P u .string][B:TyS P d i bytes z]{a sLen sCap:Nat}{b:Array Vl}{f:Ti}(x:w.heap[p]? =some (.cells b f (0,0)))(s:ByteArray)(l:i=1)(c:sLen+s.size<=sCap)(q:a+sCap * i<=b.size):
  (Builtin.append_ #[t,u] ty #[.slice (some ⟨p,a,none⟩) sLen sCap,.string s]).run P w=
   .ok (.slice (some ⟨p,a,none⟩) (sLen+s.size) sCap) (w.setRow p (b.toList.take (a+sLen * i)++(Lib.strCells s)++b.toList.drop (a+sLen * i+(Lib.strCells s).length)).toArray):=by
 have D:(Lib.strCells s).length=s.size * i:=by rw[Lib.strCells_length,l,dI]
 have y:=Lib.strCells_oneCell s
 have A:=Lib.run_firstCells_string (P:=P) w i s
 have n:(sLen+s.size) * i<=sCap * i:=dh _ c
 rw[dm] at n
 have j:=run_storeCells_at P p (a+sLen * i) f (Lib.strCells s) 0 b w x (by omega) y
 simp only[dC] at j
 have o:=p7 (P:=P) (t:=d) w
 simp[Builtin.append_,run_underlying r.h,run_underlying v.h,o,Builtin.lenOf,c,A,H8,j]
def aG5{t u ty:Ti}{bytes:Nat}{z:Vl}[F:TyD P t (.slice d)][f:TyD P u .string][G:TyS P d i bytes z]{g:Option Addr}{sLen sCap:Nat}{b:List Vl}(l:eH b=sLen * i)(n:g=none->b=[])(o:∀c,g=some c->∀(j:Nat) (u:Vl),b[j]? =some u->w.cell? (c.add j)=some u)(s:ByteArray)(H:i=1)(J:sCap<sLen+s.size)(K:(sLen+s.size) * bytes<=140737488355328)(D:sLen+s.size<=9223372036854775807):
  (Builtin.append_ #[t,u] ty #[.slice g sLen sCap,.string s]).run P w=
   .ok (.slice (some ⟨w.heap.size,0,none⟩) (sLen+s.size) (grownCap w (sLen+s.size) sCap d)) (w.drew.alloc (.cells (b.toArray++(Lib.strCells s).toArray++Builtin.zeroCells z.cells (grownCap w (sLen+s.size) sCap d - (sLen+s.size))) d)):=by
 obtain⟨a,p,q,r,v⟩:=G.h
 subst q r
 have E:=growslice_fits J K
 have x:¬ (281474976710656<Builtin.nextslicecap (sLen+s.size) sCap * a.bytes):=by omega
 have y:¬ (9223372036854775807<((sLen:Int)+(s.size:Int))):=by omega
 have A:¬ (sLen+s.size<=sCap):=by omega
 have L:=Lib.run_firstCells_string (P:=P) w.drew a.size s
 have B:=ag5 (P:=P) w.drew (size:=a.size) (cap:=sCap) l n (fun c h j u f=>by simpa using o c h j u f)
 simp[Builtin.append_,run_underlying F.h,run_underlying f.h,Go.sizeOf,typeInfo,zeroValue,p,v,Builtin.lenOf,A,y,x,Question.forced,L,B,newRow,grownCap]
 rw[<- Array.append_assoc,List.append_toArray b (Lib.strCells s)]
end
def append_newS{P:Program}{r:Cx}{f:Phi}{b:Act}(hR:R r i (St.mk s g) f b a){t u ty' e:Ti}{bytes:Nat}{z:Vl}[ht:TyD P t (.slice e)][O:TyD P u .string][hs:TyS P e p bytes z](Q:(z.cells.size==p)=true){b0:Option Addr}{n cap0:Nat}{old:List (List C)}{E:List Vl}(F:ak7 a f g (Al r.N f g) p old b0 E)(v:eH old=n){new:List (List C)}(d:ByteArray)(U:p=1)(J:eH new=d.size)(hn:ShowsS a f g (Al r.N f g) p new (Lib.strCells d))(hg:cap0<n+eH new)(hb:(n+eH new) * bytes<=140737488355328)(A:n+eH new<=maxLen)(l:b6)(G:∀(f:Phi) (a:World),Rs r g f a->Kept a a f f g l (Al r.N f g) (Al r.N f l)/\Rs r l f a)(K:eH l=eH g):
  ∃v' V H,(Builtin.append_ #[t,u] ty' #[.slice b0 n cap0,.string d]).run P a=.ok v' V/\
   RelT V H (l++[.one (.cells p (old++new))]) (Al r.N H (l++[.one (.cells p (old++new))])) (.c (.own (eH g,[]) 0 (n+eH new))) v'/\R r i ⟨s,l++[.one (.cells p (old++new))]⟩ H b V:=by
 have X:n+eH new<=9223372036854775807:=by simpa[maxLen] using A
 have B:=aG5 (P:=P) (t:=t) (u:=u) (ty:=ty') (sLen:=n) (sCap:=cap0) a (by rw[F.len,v]) (fun h=>by rw[F.none h] at F;exact cU (by simpa using F.len)) F.cell d U (by omega) (by rw[<- J];exact hb) (by omega)
 rw[<- J] at B
 have L:=grownCap_ge a (n+eH new) cap0 e
 have w:grownCap a (n+eH new) cap0 e<=maxLen:=grownCap_le_maxLen a (n+eH new) cap0 e A
 obtain⟨k,aa⟩:=G f a.drew hR.toRs.drew
 have ac:=Kept.drew a f g (Al r.N f g)
 have D:=Kept.trans (show a.heap.size<=a.drew.heap.size from dq _) ac k
 have M:=app_relS F hn
 have hz:z.cells.size=p:=by simpa using Q
 generalize an:grownCap a (n+eH new) cap0 e=y at *
 have q:(E.toArray++(Lib.strCells d).toArray++Builtin.zeroCells z.cells (y - (n+eH new))).size=y * p:=by simp only[Array.size_append,dH,size_zeroCells,hz,F.len,hn.len,v,<- dm];congr 1;omega
 have hA:=Rs.alloc (k:=p) (es:=old++new) (arr:=E.toArray++(Lib.strCells d).toArray++Builtin.zeroCells z.cells (y - (n+eH new))) (ety:=e) aa M.1 (by
   rw[q,dr,v];exact dh _ L) (fun j e' o x he hx=>by
   obtain⟨u,O,hr⟩:=M.2 j e' o x he hx;refine⟨u,?_,hr.mono D⟩;rw[Array.getElem?_append_left (by have:=(lG.1 O).1;simpa using this)];simpa using O)
 rw[K] at hA
 refine⟨_,_,r7 (eH g) f a.heap.size,B,K0 (k:=p) (es:=old++new) (by rw[<- K];exact b6.get_last _ _) rfl (.inr ⟨a.heap.size,0,y,_,e,_,by simp[r7],rfl,fun _=>by simp,L,w,by simp[v],heap_alloc_new a.drew _,by rw[q];simp⟩),?_⟩
 exact hR.of (Kept.trans (show a.heap.size<=a.drew.heap.size from dq _) D hA.1) hA.2
theorem AOps.appendStr{P:Program}{σ0:b6}{sz:Nat}{Q:Post}{env:Env}{σv:b6}{ops:Array Oper}{rest:List Oper}{dst:Option Nat}{ty:Ti}{pos:String}{after:Array Edge}{x y:Od}{t u e:Ti}{k bytes:Nat}{z:Vl}{id:Id}{j n:Nat}{es:List (List C)}{s:ByteArray}(hk1:k=1)[ht:TyD P t (.slice e)][hu:TyD P u .string][hs:TyS P e k bytes z](hzk:(z.cells.size==k)=true)(hbp:di 0 bytes=true)
  (hx:ev env x=some (.c (.own id j n))) (hσ:σv[id]? =some (some (.cells k es))) (hy:ev env y=some (.c (.imm (.val (.string s))))) (hb:(n+s.size) * bytes<=140737488355328) (hd:h9 sz dst=true)
  (h:AOps P σ0 sz ops Q rest ((St.mk env (σv.put id none++[.one (.cells k ((es.drop j).take n++strE s))])).put dst (.c (.own (eH σv,[]) 0 (n+s.size))))):
  AOps P σ0 sz ops Q (⟨dst,.call ⟨.builtin .append,#[x,y],#[t,u]⟩,ty,pos,after,none⟩::rest) (St.mk env σv):=
 .valueW rfl hd _ _ (fun Γ φ a w hR=>by
  have hy1:a.eval y=.string s:=(aq9 (m9 hR hy)).1
  have hy2:ShowsS w φ σv (Al Γ.N φ σv) k (strE s) (Lib.strCells s):=by subst hk1;exact str_shows _ _ _ _ s
  have hns:(strE s).length=s.size:=by simp[strE,strL_len]
  rw[<- hns] at hb ⊢
  generalize hnw:strE s=new at hb hy2 hns ⊢
  generalize hus':Lib.strCells s=us' at hy2
  have hv:=H1 (m9 hR hx) hσ
  obtain⟨b0,cap0,us0,hx1,hx2,hx3⟩:=W7 hR hσ hv
  have ex:(execOp a.eval ⟨dst,.call ⟨.builtin .append,#[x,y],#[t,u]⟩,ty,pos,after,none⟩).run P w=((Builtin.append_ #[t,u] ty #[.slice b0 n cap0,.string s]).run P w).andThen fun v w=>.ok (.value v) w:=by
   simp[execOp,resolve,invoke,builtin,hx1,hy1]
  rw[ex]
  by_cases hroom:n+eH new<=cap0
  ·rcases hv with⟨h1,h2,h3,h4⟩|⟨b,base,cap,arr,ety,ad,hp,hv,had,hcap,hmax,hjn,hbk,hsz⟩
   · -- nil, and nothing is appended
    rw[hx1] at h2
    cases h2
    have hnew:new=[]:=cU (by omega)
    subst hnew
    subst h3
    obtain⟨hK1,hR1⟩:=hR.toRs.kill id
    obtain⟨hK2,hR2⟩:=hR1.virt k
    have hrun:(Builtin.append_ #[t,u] ty #[.slice none 0 0,.string s]).run P w=.ok (.slice none 0 0) w:=by
     have hs0:s.size=0:=by rw[<- hns];rfl
     have hc0:us'=[]:=cU (by simpa using hy2.len)
     have hf:=Lib.run_firstCells_string (P:=P) w k s
     rw[hs0,hus',hc0] at hf
     simp[Builtin.append_,run_underlying ht.h,run_underlying hu.h,p7 (t:=e),Builtin.lenOf,hs0,hf]
    refine⟨.slice none 0 0,w,(fun i=>if i=(eH σv,[]) then none else φ i),by rw[hrun];rfl,?_,?_⟩
    ·simp only[dK,dB]
     exact K0 (k:=k) (es:=[]) (by rw[<- b6.length_put σv id none];exact b6.get_last _ _) rfl (.inl ⟨by simp,rfl,rfl,rfl⟩)
    ·simp only[dK,dB]
     rw[b6.length_put] at hK2 hR2
     exact hR.of (Kept.trans (dq _) hK1 hK2) hR2
   ·rw[hx1] at hv
    cases hv
    have hpos:0<n+eH new\/n+eH new=0:=by omega
    by_cases hc0:0<cap0
    ·have:=had hc0
     subst this
     have hfit:base+j * k+cap0 * k<=arr.size:=by rw[dm] at hsz;omega
     have hrun:=aG6 (P:=P) (t:=t) (u:=u) (ty:=ty) w (sLen:=n) (sCap:=cap0) hbk s hk1 (by omega) hfit
     rw[<- hns,hus'] at hrun
     have hap:=app_relS hx3 hy2
     have hmk:(n+eH new) * k<=cap0 * k:=dh _ hroom
     rw[dm] at hmk
     have hus:eH us'=eH new * k:=hy2.len
     have hus0:eH us0=n * k:=by rw[hx3.len,hx2]
     have hA:=Rs.reown (k:=k) (base':=base+j * k) (es':=(es.drop j).take n++new) (arr':=(arr.toList.take (base+j * k+n * k)++us'++arr.toList.drop (base+j * k+n * k+eH us')).toArray) hR.toRs hσ hp hbk hap.1 (by simp only[dr,hx2,dH,dR,eD,dZ,dm];omega) (fun i e' o x' he hx'=>by
      obtain⟨u,hu,hr⟩:=hap.2 i e' o x' he hx'
      refine⟨u,?_,hr⟩
      have hsp:=D3 arr.toList us' (base+j * k+n * k) (base+j * k+(i * k+o)) (by simp;omega)
      simp only[dU]
      rw[hsp]
      by_cases hio:i * k+o<n * k
      ·rw[if_neg (by omega)]
       rw[cX (by omega)] at hu
       -- what stood there
       obtain⟨arr2,ety2,hb2,_,hkk,hcs⟩:=N5 hR hσ hp
       rw[hbk] at hb2;cases hb2
       have hi:i<n:=by
        rcases cZ i n with h|h
        ·exact h
        ·have:=dh k h;omega
       have hcell:=hx3.cell _ rfl _ u hu
       rw[H8,U9 hbk] at hcell
       simpa using hcell
      ·rw[cW (by omega)] at hu
       have hlt:=(lG.1 hu).1
       rw[if_pos (by omega),show base+j * k+(i * k+o) - (base+j * k+n * k)=i * k+o - (eH us0) by omega]
       exact hu)
     refine⟨_,_,_,by rw[hrun];rfl,?_,hR.of hA.1 hA.2⟩
     refine K0 (k:=k) (es:=(es.drop j).take n++new) (by rw[<- b6.length_put σv id none];exact b6.get_last _ _) rfl (.inr ⟨b,base+j * k,cap0,_,ety,_,by simp,rfl,fun _=>by simp,hroom,hmax,by simp[hx2],setRow_heap w b arr _ ety (0,0) hbk,?_⟩)
     simp only[dH,dr,dR,eD,dZ,cQ]
     omega
    · -- no room at all, and nothing is appended
     have h0:cap0=0:=by omega
     subst h0
     have hn0:n=0:=by omega
     have hnew:new=[]:=cU (by omega)
     subst hnew
     subst hn0
     have hrun:(Builtin.append_ #[t,u] ty #[.slice (some ad) 0 0,.string s]).run P w=.ok (.slice (some ad) 0 0) w:=by
      have hs0:s.size=0:=by rw[<- hns];rfl
      have hc0:us'=[]:=cU (by simpa using hy2.len)
      have hf:=Lib.run_firstCells_string (P:=P) w k s
      rw[hs0,hus',hc0] at hf
      simp[Builtin.append_,run_underlying ht.h,run_underlying hu.h,p7 (t:=e),Builtin.lenOf,hs0,hf,storeCells]
     have hA:=Rs.reown (k:=k) (base':=base+j * k) (es':=[]) (arr':=arr) hR.toRs hσ hp hbk (fun i e' he=>by simp at he) (by simp;rw[dm] at hsz;omega) (fun i e' o x' he=>by simp at he)
     rw[setRow_self w b arr ety (0,0) hbk] at hA
     refine⟨.slice (some ad) 0 0,w,(fun i=>if i=(eH σv,[]) then some (b,base+j * k) else φ i),by rw[hrun];rfl,?_,?_⟩
     ·simp only[dK,dB]
      exact K0 (k:=k) (es:=[]) (by rw[<- b6.length_put σv id none];exact b6.get_last _ _) rfl (.inr ⟨b,base+j * k,0,arr,ety,ad,by simp,rfl,fun h=>by omega,by simp,by simp[maxLen],by simp,hbk,by simp;rw[dm] at hsz;omega⟩)
     ·simp only[dK,dB]
      exact hR.of hA.1 hA.2
  ·have hmax:n+eH new<=maxLen:=by
    have hb0:0<bytes:=by simpa using hbp
    have:n+eH new<=(n+eH new) * bytes:=Nat.le_mul_of_pos_right _ hb0
    simp only[maxLen];omega
   obtain⟨v',w',φ',g1,g2,g3⟩:=append_newS (P:=P) (t:=t) (u:=u) (e:=e) (ty':=ty) hR hzk (cap0:=cap0) hx3 hx2 s hk1 hns (by rw[hus'];exact hy2) (Nat.not_le.1 hroom) hb hmax (σv.put id none) (fun φ w h=>h.kill id) (by simp)
   exact⟨v',w',φ',by rw[g1];rfl,g2,g3⟩) h
abbrev eU8(n:Int):List I:=[.val (.int .u8 n)]
def strE_eq(s:ByteArray):strE s=((strL s).map eU8).map (·.map C.imm):=by simp[strE]
def S.appendStr{env:Env}{a f:b6}{rest:List Oper}{b:Option Nat}{l q:Li}{s:ByteArray}{y:Od}{t u e:Ti}{bytes:Nat}{z:Vl}{id:Id}{j:b6}[n:TyD c t (.slice e)][hu:TyD c u .string][hs:TyS c e 1 bytes z](E:app bytes l (strL s)=some q)(w:(z.cells.size==1)=true)(A:di 0 bytes=true)(F:ev env L=some (.c (.own id 0 p)))(G:p=eH l)(D:a[id]? =some (some (vec 1 eU8 l)))(J:ev env y=some (.c (.imm (.val (.string s)))))(K:newF a=some M)(N:putF a id none=some j)(o:w8 j (.one (vec 1 eU8 q))=some f)(O:h9 i b=true)(h:AOps c g i v r rest (St.mk (putE env b (.c (.own M 0 (eH q)))) f)):
  AOps c g i v r (⟨b,.call ⟨.builtin .append,#[L,y],#[t,u]⟩,d,B,H,none⟩::rest) (St.mk env a):=by
 obtain⟨U,rfl⟩:=ar0 E
 have V:=G6 N
 have X:=D6 K;have P:=v7 o
 subst G V X P
 refine AOps.appendStr (s:=s) (k:=1) rfl w A F D J (by rw[<- strL_len];exact U) O ?_
 have Q:(((((l.map eU8).map (·.map C.imm)).drop 0).take (eH l))++strE s)=((l++strL s).map eU8).map (·.map C.imm):=by rw[dw,cV (by simp),strE_eq];simp
 have x:eH l+s.size=(l++strL s).length:=by simp[strL_len]
 rw[Q,x]
 exact h
def S.subStr{Q:Post}{j:b6}{rest:List Oper}{f:Option Nat}{b D:ByteArray}{l r:Od}{t:Ti}{E k:IntKind}{n o:Int}[F:TyD c t .string](e:subS b n o=some D)(G:ev s L=some (.c (.imm (.val (.string b)))))(J:ev s l=some (.c (.imm (.val (.int E n)))))(K:ev s r=some (.c (.imm (.val (.int k o)))))(M:h9 i f=true)(h:AOps c g i v Q rest (St.mk (putE s f (.c (.imm (.val (.string D))))) j)):AOps c g i v Q (⟨f,.slice t L (some l) (some r) none,d,B,H,none⟩::rest) (St.mk s j):=by
 unfold subS at e
 split at e
 ·rename_i N
  cases e
  refine .value rfl M _ (fun U V a w p=> ?_) h
  refine⟨.string (b.extract n.toNat o.toNat),?_,.c (.imm (.val rfl))⟩
  have q:=z7 p G
  have u:=z7 p J
  have y:=z7 p K
  obtain⟨a1,O,X⟩:=N
  obtain⟨z,rfl⟩:=dS a1
  obtain⟨A,rfl⟩:=dS (Int.le_trans a1 O)
  have:=run_slice_string (P:=c) w t b E k (z:Int) (A:Int) F.h (by omega) (by omega) (by omega)
  simp only[ew] at this
  simp[execOp,q,u,y,Instr.sliceAt,run_underlying F.h,this,Result.andThen]
 ·cases e
def S.bytesStr{ops:Array Oper}{rest:List Oper}{k:Option Nat}{X:Ti}{src e:Ti}{l:Li}[K:TyD c src (.slice e)][N:TyD c e (.int .u8)][O:TyD c d .string](P:ev s L=some (.c (.own M 0 p)))(Q:p=eH l)(o:t[M]? =some (some (vec 1 eU8 l)))(x:h9 i k=true)(h:AOps c g i ops r rest (St.mk (putE s k (.c (.imm (.val (.string (strB l)))))) t)):AOps c g i ops r (⟨k,.convert src d L,X,B,H,none⟩::rest) (St.mk s t):=by
 refine .value rfl x _ (fun Γ φ a w U=> ?_) h
 refine⟨.string (strB l),?_,.c (.imm (.val rfl))⟩
 subst Q
 have hv:=H1 (m9 U P) o
 obtain⟨b0,b,D,q,aa,f⟩:=W7 U o hv
 have E:(List.take (eH l) (List.drop 0 ((l.map eU8).map (·.map C.imm))))=(l.map eU8).map (·.map C.imm):=by rw[dw,cV (by simp)]
 rw[E] at f
 have F:D=l.map (Value.int .u8):=by
  apply cY;intro j;rcases cZ j (eH l) with n|n;obtain⟨u,V,hr⟩:=f.rel j [C.imm (.val (.int .u8 l[j]))] 0 _ (by simp[n]) rfl;rw[dI,dC] at V;have G:u=.int .u8 l[j]:=by cases hr with|imm h=>cases h with|val h=>rfl
  rw[V,G];simp[n];have:=f.len;rw[du (by rw[this];simpa using n),du (by simpa using n)]
 cases b0 with
 |none=>
  have A:l=[]:=by have:=f.none rfl;simpa using this
  subst A
  simp[execOp,q,convert,run_underlying K.h,run_underlying N.h,run_underlying O.h,Conv.bytesToString,strB,Result.andThen]
  rfl
 |some y=>
  have A:=run_loadCells_list (P:=c) w y (l.map (Value.int .u8)) (fun j v n=>f.cell y rfl j v (by rw[F];exact n))
  simp only[df] at A
  have z:(convert src d (.slice (some y) (eH l) b)).run c w=.ok (.string (strB l)) w:=by rw[run_convert_bytes_string w src d e (some y) (eH l) b K.h N.h O.h,run_bytesToString w y (eH l) b _ A,foldl_push_bytes];have J:ByteArray.empty.data=#[]:=rfl;rw[J];simp[strB]
  simp[execOp,q,z,Result.andThen]
/-! ### Arrays of numbers compared -/
end Ab
