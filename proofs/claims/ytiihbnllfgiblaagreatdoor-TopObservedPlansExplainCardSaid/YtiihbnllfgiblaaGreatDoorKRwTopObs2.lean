/-
  Texts that the proof stands on.
-/
import Derived.Test.YtiihbnllfgiblaaGreatDoorKRwTopObs1
import Derived.ProofKit
import Derived.Below
import Derived.ChangeSame
import Derived.OpenShut
import Derived.Test.YtiihbnllfgiblaaGreatDoorChecked
import Derived.KernelRfl
import Derived.MapKept
import Derived.Lib.AppendStr
import Derived.Laws.BytesArg
import Derived.Sort.Grow
import Derived.Shelf.Slices.CompactI
set_option linter.all false
open Nat renaming eq_of_beq_eq_true->cu,beq->cA,zero_add->cE,le_of_ble_eq_true->cH,lt_or_ge->cM,mul_le_mul_right->cN,blt->cQ,add_mul->cS,le_refl->cU,add_zero->cW,ble->cY,le_trans->cZ,zero_mul->dA,mul_one->dE,lt_of_lt_of_le->dF,min->dY,zero_le->eu
open List renaming getElem?_cons_zero->cw,eq_nil_of_length_eq_zero->cz,getElem?_eq_getElem->cC,all_eq_true->cD,mem_of_getElem?->cF,getElem?_append_left->cG,getElem?_append_right->cJ,take_of_length_le->cL,length_map->cV,getElem?_eq_none->cX,map_cons->df,length_append->dh,append_nil->di,getElem?_take->dm,ext_getElem?->dp,size_toArray->dq,drop_zero->dt,replicate->du,getElem?_of_mem->dw,mem_cons->dx,mem_filter->dz,take_zero->dD,pairwise_cons->dG,flatten_cons->dH,getElem_mem->dJ,length_take->dK,getElem?_set_self->dM,getElem?_toArray->dN,getElem?_mapIdx->dP,getElem?_set_ne->dQ,getElem?_append->dR,map_congr_left->dS,mem_map->dV,getElem?_drop->dW,getElem?_set->eh,filter_congr->er,length_drop->ew,length->ez
open Bool renaming and_eq_true->cy,or_eq_true->dC,not_eq_true'->ei
open Option renaming map_some->cK,bind_eq_some_iff->cO,isSome_iff_exists->dB
open Array renaming getElem?_replicate->dc,getElem?_eq_some_iff->dy,getElem?_eq_getElem->dI,getElem?_modify->dO,toList_modify->dT,length_toList->dU,ext_getElem?->dX,toList_push->et,replicate->ey
open Int renaming eq_ofNat_of_zero_le->dL
open Prod renaming mk->dZ
section
namespace Ab
open Go Go.RowKit Go.WideShapes Go.ChangeShapes
inductive Sh where
 |int
 |bool
 |sl (l:List Sh) (b:Nat)
 deriving Inhabited
def as9(P:Program)(g:Ti->Option (List Sh)):Nat->List Field->Option (List Sh)
 |_,[]=>some []
 |off,f::fs=>(g f.type).bind fun L=>if cA f.offset off && cA (P.cellsOf f.type) (ez L) then(as9 P g (off+ez L) fs).map (L++ ·) else none
def shRep(L:List Sh):Nat->List Sh
 |0=>[]
 |n+1=>L++shRep L n
def aa5(P:Program):Nat->Ti->Option (List Sh)
 |0,_=>none
 |n+1,t=>match P.underlying t with
  |some .bool=>some [.bool]
  |some (.int .i64)=>some [.int]
  |some (.slice e)=>(aa5 P n e).bind fun L=>if cA (P.cellsOf e) (ez L) then some [.sl L (P.bytesOf e)] else none
  |some (.struct fs)=>(as9 P (aa5 P n) 0 fs.toList).bind fun L=>if cA (P.cellsOf t) (ez L) then some L else none
  |some (.array m e)=>(aa5 P n e).bind fun L=>if cA (P.cellsOf e) (ez L) && cA (P.cellsOf t) (shRep L m).length then some (shRep L m) else none
  |_=>none
inductive DecL:List Sh->List I->Prop
 |nil:DecL [] []
 |int {n:Int} {L is} (h1: -9223372036854775808<=n) (h2:n<=9223372036854775807) (h:DecL L is):DecL (.int::L) (.val (.int .i64 n)::is)
 |bool {b:Bool} {L is} (h:DecL L is):DecL (.bool::L) (.val (.bool b)::is)
 |sl {L0 b es L is} (he:∀e ∈ es,DecL L0 e) (hw:ez es * b<=140737488355328) (h:DecL L is):DecL (.sl L0 b::L) (.sl (ez L0) es::is)
def DecL.length{L:List Sh}{e:List I}(h:DecL L e):ez e=ez L:=by
 induction h with
 |nil=>rfl
 |int _ _ _ c=>simp[c]
 |bool _ c=>simp[c]
 |sl _ _ _ _ c=>simp[c]
def DecL.append{L j:List Sh}{q c:List I}(h:DecL L q)(u:DecL j c):DecL (L++j) (q++c):=by
 induction h with
 |nil=>exact u
 |int h1 h2 _ e=>exact .int h1 h2 e
 |bool _ e=>exact .bool e
 |sl v z _ _ e=>exact .sl v z e
def Shown(w:World)(A:Nat->Prop)(c:List I)(cs:List Vl):Prop:=ez c=ez cs/\∀(i:Nat) (x:I) (v:Vl),c[i]? =some x->cs[i]? =some v->RelI w A x v
def Shown.append{w:World}{A:Nat->Prop}{q c:List I}{cs e:List Vl}(h:Shown w A q cs)(u:Shown w A c e):Shown w A (q++c) (cs++e):=by refine⟨by simp[h.1,u.1],fun i x v hi j=> ?_⟩;rcases cM i (ez q) with hl|hl;rw[cG hl] at hi;rw[cG (by rw[<- h.1];exact hl)] at j;exact h.2 i x v hi j;rw[cJ hl] at hi;rw[cJ (by rw[<- h.1];exact hl),<- h.1] at j;exact u.2 _ x v hi j
def Shown.one{w:World}{A:Nat->Prop}{x:I}{v:Vl}(h:RelI w A x v):Shown w A [x] [v]:=by
 refine⟨rfl,fun i y u hi c=> ?_⟩;match i with
 |0=>cases hi;cases c;exact h
 |i+1=>simp at hi
def ex_list{α:Type}{p:Nat->α->Prop}:∀n:Nat,(∀i,i<n->∃a,p i a)->∃l:List α,ez l=n/\∀i a,l[i]? =some a->p i a
 |0,_=>⟨[],rfl,fun i a h=>by simp at h⟩
 |n+1,h=>by
  obtain⟨l,h1,h2⟩:=ex_list n fun i hi=>h i (by omega);obtain⟨a,e⟩:=h n (by omega);refine⟨l++[a],by simp[h1],fun i b c=> ?_⟩;rcases cM i n with hi|hi;rw[cG (by omega)] at c;exact h2 i b c;rw[cJ (by omega)] at c;have:i=n:=by have:=(lG.1 c).1;simp at this;omega
  subst this;simp[h1] at c;subst c;exact e
section
variable {H:Type}{enc:Ti×Vl->H}{P:Program}{w:World}{base:Nat}{spare:Nat->Bool}{held:Bool}{A:Nat->Prop}
def Fits(l:List Nat):Prop:=l.all (· <=reachBytes)=true
def Fits.app{l m:List Nat}(h:Fits (l++m)):Fits l/\Fits m:=by unfold Fits at h;rw[List.all_append,cy] at h;exact h
def fits_all{e:Ti}:∀{c:List (DataW H)},Fits (DataW.weightsAll P e c)->∀d ∈ c,Fits (d.weights P e)
 |[],_,d,hd=>by cases hd
 |x::r,h,d,hd=>by unfold DataW.weightsAll at h;obtain⟨h1,h2⟩:=h.app;rcases dx.1 hd with rfl|hd;exact h1;exact fits_all h2 d hd
def fits_each:∀{ts:List Ti} {c:List (DataW H)},Fits (DataW.weightsEach P ts c)->∀(i:Nat) (t:Ti) (d:DataW H),ts[i]? =some t->c[i]? =some d->Fits (d.weights P t)
 |[],_,_,i,t,d,h1,_=>by simp at h1
 |_::_,[],_,i,t,d,_,h2=>by simp at h2
 |t0::ts,d0::c,h,i,t,d,h1,h2=>by
  unfold DataW.weightsEach at h;obtain⟨g1,e⟩:=h.app;match i with
  |0=>cases h1;cases h2;exact g1
  |i+1=>exact fits_each e i t d (by simpa using h1) (by simpa using h2)
def Reads(enc:Ti×Vl->H)(P:Program)(w:World)(base:Nat)(spare:Nat->Bool)(held:Bool)(A:Nat->Prop)(g:Ti->Option (List Sh)):Prop:=
 ∀(t:Ti) (L:List Sh) (c:Nat) (cs:List Vl) (x:DataW H×List MemPlace),g t=some L->DataW.trod enc P w base spare held c t cs=some x->Fits (x.1.weights P t)->∃e,DecL L e/\Shown w A e cs
def aA6{g:Ti->Option (List Sh)}(E:Reads enc P w base spare held A g):∀(fs:List Field) (off:Nat) (L:List Sh) (cs:List Vl),as9 P g off fs=some L->
  (∀f ∈ fs,∃(c:Nat) (x:DataW H×List MemPlace),DataW.trod enc P w base spare held c f.type ((cs.drop f.offset).take (P.cellsOf f.type))=some x/\Fits (x.1.weights P f.type))->
  ∃F,DecL L F/\Shown w A F ((cs.drop off).take (ez L))
 |[],off,L,cs,h,_=>by simp only[as9,Option.some.injEq] at h;subst h;exact⟨[],.nil,rfl,fun i x v hi=>by simp at hi⟩
 |f::fs,off,L,cs,h,hf=>by
  simp only[as9,cO] at h;obtain⟨q,h1,h2⟩:=h;split at h2;rename_i u;simp only[cy] at u;have b1:=cu u.1;have b2:=cu u.2;rw[oM] at h2;obtain⟨z,h2,rfl⟩:=h2;obtain⟨c,x,hx,j⟩:=hf f (by simp);obtain⟨N,g1,J⟩:=E _ _ _ _ _ h1 hx j;obtain⟨O,U,g4⟩:=aA6 E fs _ z cs h2 fun f' B=>hf f' (by simp[B]);refine⟨N++O,g1.append U,?_⟩;rw[b1,b2] at J;have e:(cs.drop off).take (q++z).length=(cs.drop off).take (ez q)++(cs.drop (off+ez q)).take (ez z):=by rw[dh,List.take_add,List.drop_drop]
  rw[e];exact J.append g4;cases h2
def reads_rep{g:Ti->Option (List Sh)}(j:Reads enc P w base spare held A g){e:Ti}{L:List Sh}(q:g e=some L):∀(m off:Nat) (cs:List Vl),
  (∀i,i<m->∃(c:Nat) (x:DataW H×List MemPlace),DataW.trod enc P w base spare held c e ((cs.drop (off+i * (ez L))).take (ez L))=some x/\Fits (x.1.weights P e))->
  ∃u,DecL (shRep L m) u/\Shown w A u ((cs.drop off).take (shRep L m).length)
 |0,off,cs,_=>⟨[],.nil,rfl,fun i x v hi=>by simp at hi⟩
 |m+1,off,cs,hf=>by
  obtain⟨c,x,hx,h⟩:=hf 0 (by omega);rw[dA,cW] at hx;obtain⟨z,g1,B⟩:=j _ _ _ _ _ q hx h;obtain⟨E,F,J⟩:=reads_rep j q m (off+ez L) cs fun i hi=>by have:=hf (i+1) (by omega);rwa [show off+(i+1) * (ez L)=off+ez L+i * (ez L) by rw[cS];omega] at this
  refine⟨z++E,g1.append F,?_⟩;have e:(cs.drop off).take (shRep L (m+1)).length=(cs.drop off).take (ez L)++(cs.drop (off+ez L)).take (shRep L m).length:=by rw[shRep,dh,List.take_add,List.drop_drop]
  rw[e];exact B.append J
def aB6(hA:∀b,A b):∀n:Nat,Reads enc P w base spare held A (aa5 P n)
 |0=>fun t L ac cs x h=>by simp[aa5] at h
 |n+1=>fun t L ac cs x h hx c=>by
  have ih:=aB6 hA n;unfold aa5 at h;split at h;rename_i ht;cases h;obtain⟨b,rfl,_⟩:=DataW.trod_bool ht hx;exact⟨[.val (.bool b)],.bool .nil,.one (.val rfl)⟩;rename_i ht;cases h;obtain⟨m,rfl,_,hw⟩:=DataW.trod_int ht hx;have z: -9223372036854775808<=m/\m<=9223372036854775807:=by simp only[Lit.wf,cy,decide_eq_true_eq] at hw;simpa[IntKind.min,IntKind.max,IntKind.signed,IntKind.bits] using hw
  exact⟨[.val (.int .i64 m)],.int z.1 z.2 .nil,.one (.val rfl)⟩;rename_i e ht;rw[cO] at h;obtain⟨F,h0,h⟩:=h;split at h;rename_i z;have z:=cu z;cases h;rcases DataW.trod_slice ht hx with⟨rfl,_⟩|⟨a,len,cap,v,rest,m,_,rfl,B,av,hl,hm,E,ay,_,_⟩;exact⟨[.sl F.length []],.sl (fun e he=>by simp at he) (by simp) .nil,.one .slNil⟩;have c:Fits ((v.map (·.1)).length.add (rest.map (·.1)).length * P.bytesOf e::(DataW.weightsAll P e (v.map (·.1))++DataW.weightsAll P e (rest.map (·.1)))):=by have:=c;rw[B] at this;dsimp only at this;unfold DataW.weights at this;rw[ht] at this;exact this
  obtain⟨O,ad⟩:=Fits.app (l:=[_]) c;have ai:=(Fits.app ad).1;obtain⟨es,e1,e2⟩:=ex_list (p:=fun j U=>DecL F U/\∃cs,(∀o,o<F.length->w.cell? (a.add (j * F.length+o))=cs[o]?)/\Shown w A U cs) len fun j J=>by have al:=ay j J;rw[cC (by omega),cO] at al;obtain⟨cs,N,hy⟩:=al;obtain⟨_,c1,c2⟩:=World.cells?_some N;obtain⟨U,d1,d2⟩:=ih _ _ _ _ _ h0 hy (fits_all ai _ (dV.2 ⟨_,dJ _,rfl⟩));refine⟨U,d1,cs,fun o ho=> ?_,d2⟩;rw[<- Addr.add_add,<- z];exact c2 o (by rw[z];exact ho)
  refine⟨[.sl F.length es],.sl (fun e he=> ?_) ?_ .nil,.one ?_⟩;obtain⟨i,hi⟩:=dw he;exact(e2 i e hi).1;simp only[Fits,List.all_cons,List.all_nil,Bool.and_true,decide_eq_true_eq,reachBytes,cV] at O;have:es.length * P.bytesOf e<=v.length.add rest.length * P.bytesOf e:=cN _ (by rw[e1,E];exact Nat.le_add_right _ _);exact cZ this (cZ (of_decide_eq_true O) (by decide));subst e1;have cell:∀(j:Nat) (e:List I) (o:Nat) (x:I),es[j]? =some e->e[o]? =some x->∃u,w.cell? (a.add (j * F.length+o))=some u/\RelI w A x u:=fun j e o x J ho=>by
   obtain⟨d1,cs,c1,c2⟩:=e2 j e J;have aa:=(lG.1 ho).1;rw[d1.length] at aa;have N:o<cs.length:=by rw[<- c2.1,d1.length];exact aa
   refine⟨cs[o],by rw[c1 o aa];simp[N],c2.2 o x _ ho (by simp[N])⟩
  refine .sl (fun j o=>(w.cell? (a.add (j * F.length+o))).getD undef) hl hm (fun j e J=>(e2 j e J).1.length) (fun j e o x J ho=> ?_) (fun j e o x J ho=> ?_);obtain⟨u,hu,_⟩:=cell j e o x J ho;rw[hu];exact⟨hA _,rfl⟩;obtain⟨u,hu,hr⟩:=cell j e o x J ho;rw[hu];exact hr;cases h;rename_i fs ht;rw[cO] at h;obtain⟨F,h0,h⟩:=h;split at h;rename_i z;have z:=cu z;cases h;obtain⟨xs,m,_,B,E,ab,hf⟩:=DataW.trod_struct ht hx;obtain⟨U,d1,d2⟩:=aA6 (H:=H) (base:=base) (spare:=spare) (held:=held) (A:=A) ih fs.toList 0 L cs h0 fun f a2=>by
   obtain⟨i,hi⟩:=dw a2;have an:fs[i]? =some f:=by simpa using hi
   have hl:i<xs.length:=by rw[ab];exact(dy.1 an).1
   have c:Fits (DataW.weightsEach P (fs.toList.map (·.type)) (xs.map (·.1))):=by have:=c;rw[B] at this;dsimp only at this;unfold DataW.weights at this;rw[ht] at this;exact this
   exact⟨m,xs[i],by rw[hf i f an];simp[hl],fits_each c i _ _ (by rw[lM,hi];rfl) (by simp[hl])⟩
  rw[dt,cL (by omega)] at d2;exact⟨U,d1,d2⟩;cases h;rename_i m e ht;rw[cO] at h;obtain⟨F,h0,h⟩:=h;split at h;rename_i z;simp only[cy] at z;have b1:=cu z.1;have b2:=cu z.2;cases h;obtain⟨xs,q,_,B,E,ab,hf⟩:=Go.DataW.trod_array ht hx;obtain⟨U,d1,d2⟩:=reads_rep (H:=H) (base:=base) (spare:=spare) (held:=held) (A:=A) ih h0 m 0 cs fun i hi=>by
   have:=hf i hi;rw[b1] at this;have c:Fits (DataW.weightsAll P e (xs.map (·.1))):=by have:=c;rw[B] at this;dsimp only at this;unfold DataW.weights at this;rw[ht] at this;exact this
   refine⟨q,xs[i]'(by omega),?_,fits_all c _ (dV.2 ⟨_,dJ _,rfl⟩)⟩;rw[cE,this];simp[ab,hi]
  rw[dt,cL (by omega)] at d2;exact⟨U,d1,d2⟩;cases h;cases h
def X7(P:Program)(t:Ti)(e:List I):T:=match P.underlying t with
 |some (.struct _)=>.agg (e.map .imm)
 |some (.array _ _)=>.agg (e.map .imm)
 |_=>match e with
  |x::_=>.c (.imm x)
  |[]=>.undef
def ArgT(P:Program)(t:Ti)(x:T):Prop:=∃L c,aa5 P 9 t=some L/\DecL L c/\x=X7 P t c
def relT_agg{φ:Phi}{σ:c9}{j:List I}{cs:Array Vl}(h:Shown w A j cs.toList):RelT w φ σ A (.agg (j.map .imm)) (.agg cs):=by
 have e:cs=((List.range (j.map C.imm).length).map fun i=>(cs.toList[i]?).getD undef).toArray:=by apply Array.ext';simp only[];rw[cV,h.1];apply dp;intro i;rw[lM];rcases cM i (ez cs.toList) with hl|hl;rw[List.getElem?_range hl,cK,cC hl];rfl;rw[cX hl,cX (by simpa using hl)];rfl
 rw[e];refine .agg _ fun i c q=> ?_;rw[lM,oM] at q;obtain⟨x,hx,rfl⟩:=q;have hl:i<ez cs.toList:=by rw[<- h.1];exact(lG.1 hx).1
 rw[cC hl];exact .imm (h.2 i x _ hx (cC hl))
def argT{φ:Phi}{σ:c9}(hA:∀b,A b){r:Reach}{b0:Nat}{t:Ti}{v:Vl}{d:DataW H}{ps:List MemPlace}(hs:(aa5 P 9 t).isSome=true)(hok:Value.okWide P w r b0 t v)(hd:DataW.Trod enc P w base spare held t v d ps)(hfit:Fits (d.weights P t)):
  ∃x,ArgT P t x/\RelT w φ σ A x v:=by
 obtain⟨L,hL⟩:=dB.1 hs
 obtain⟨fuel,hf⟩:=hd
 obtain⟨is,d1,d2⟩:=aB6 hA 9 t L fuel _ _ hL hf hfit
 refine⟨X7 P t is,⟨L,is,hL,d1,rfl⟩,?_⟩
 have hL0:=hL
 unfold aa5 at hL
 split at hL
 ·rename_i ht
  obtain⟨b,rfl⟩:=okWide_bool ht hok
  cases hL
  have hlen:=d1.length
  match is,hlen with
  |[x],_=>
   have:X7 P t [x]=.c (.imm x):=by simp[X7,ht]
   rw[this]
   exact .c (.imm (d2.2 0 x _ rfl rfl))
 ·rename_i ht
  obtain⟨b,rfl⟩:=okWide_int ht hok
  cases hL
  have hlen:=d1.length
  match is,hlen with
  |[x],_=>
   have:X7 P t [x]=.c (.imm x):=by simp[X7,ht]
   rw[this]
   exact .c (.imm (d2.2 0 x _ rfl rfl))
 ·rename_i e ht
  obtain⟨a,len,cap,rfl⟩:=okWide_slice ht hok
  rw[cO] at hL
  obtain⟨L0,_,hL⟩:=hL
  split at hL
  ·cases hL
   have hlen:=d1.length
   match is,hlen with
   |[x],_=>
    have:X7 P t [x]=.c (.imm x):=by simp[X7,ht]
    rw[this]
    exact .c (.imm (d2.2 0 x _ rfl rfl))
  ·cases hL
 ·rename_i fs ht
  obtain⟨cs,rfl,_⟩:=okWide_struct ht hok
  have:X7 P t is=.agg (is.map .imm):=by simp[X7,ht]
  rw[this]
  exact relT_agg d2
 ·rename_i m e ht
  have:∃cs,v=.agg cs:=by simp only[Value.okWide,ht] at hok;obtain⟨cs,h1,_⟩:=hok;exact⟨cs,h1⟩
  obtain⟨cs,rfl⟩:=this
  have:X7 P t is=.agg (is.map .imm):=by simp[X7,ht]
  rw[this]
  exact relT_agg d2
 ·cases hL
def ArgsT(P:Program):List Ti->List T->Prop
 |[],[]=>True
 |t::ts,x::c=>ArgT P t x/\ArgsT P ts c
 |_,_=>False
def argsT{φ:Phi}{σ:c9}(J:∀b,A b){r:Reach}{b0:Nat}:∀{ts:List Ti} {vs:List Vl} {F:List (DataW H)} {ps:List MemPlace},(∀t ∈ ts,(aa5 P 9 t).isSome=true)->
  (∀(j:Nat) t v,ts[j]? =some t->vs[j]? =some v->Value.okWide P w r b0 t v)->DataW.TrodAll enc P w base spare held ts vs F ps->Fits (DataW.weightsEach P ts F)->
  ∃B:List T,ArgsT P ts B/\(ez B)=ez vs/\∀(i:Nat) (x:T) (u:Vl),B[i]? =some x->vs[i]? =some u->RelT w φ σ A x u
 |[],[],[],_,_,_,_,_=>⟨[],trivial,rfl,fun i x u h=>by simp at h⟩
 |t::ts,v::vs,d::F,ps,hs,E,h,c=>by
  unfold DataW.weightsEach at c;obtain⟨e,z⟩:=c.app;obtain⟨p,q,h1,h2,_⟩:=h;obtain⟨x,O,U⟩:=argT (φ:=φ) (σ:=σ) J (hs t (by simp)) (E 0 t v rfl rfl) h1 e;obtain⟨B,y1,y2,y3⟩:=argsT (φ:=φ) (σ:=σ) J (fun t' ht=>hs t' (by simp[ht])) (fun j t' v' h1 h2=>E (j+1) t' v' (by simpa using h1) (by simpa using h2)) h2 z;refine⟨x::B,⟨O,y1⟩,by simp[y2],fun i y u hi N=> ?_⟩;match i with
  |0=>cases hi;cases N;exact U
  |i+1=>exact y3 i y u (by simpa using hi) (by simpa using N)
 |[],[],_::_,_,_,_,h,_=>h.elim
 |[],_::_,_,_,_,_,h,_=>by cases h
 |_::_,[],_,_,_,_,h,_=>by cases h
 |_::_,_::_,[],_,_,_,h,_=>h.elim
def good_all(W:World):Good ⟨W,fun _=>False,fun _=>none,[]⟩:=
 ⟨⟨fun i b h=>by simp at h,fun i j c e p q h=>by simp at h⟩,fun b h=>h.elim,fun i blk b base h=>by simp at h⟩
def al_all(φ:Phi)(b:Nat):Al (fun _=>False) φ [] b:=⟨id,fun i blk base h=>by simp at h⟩
def law_calls{f:FuncId}{ts:List T}{vs:List Vl}(hf:FnOk P f ts [] fun r _=>r=.c (bool true))(hl:ez ts=ez vs)
  (hr:∀(i:Nat) (x:T) (u:Vl),ts[i]? =some x->vs[i]? =some u->RelT w (fun _=>none) [] (Al (fun _=>False) (fun _=>none) []) x u):
  Calls P f vs.toArray w fun e W'=>e=.returned (.bool true)/\Below w.heap.size w W':=
 (hf.run ⟨w,fun _=>False,fun _=>none,[]⟩ vs rfl (good_all w) hl hr).mono fun e W' ⟨v,r,σ',φ',he,hq,hv,hs⟩=>by
  subst hq;cases hv with|c hv=>cases hv with|imm hv=>cases hv with|val hv=>
   exact⟨he,hs.os,hs.tape,hs.output,hs.size,fun k hk=>hs.block k ⟨hk,fun i blk base h=>by simp at h⟩⟩
def stays_all(hl:laidOutB P=true){W W':World}(hb:Below W.heap.size W W'){sp':Nat->Bool}:∀{ts:List Ti} {vs:List Vl} {ds:List (DataW H)} {ps:List MemPlace},(∀t ∈ ts,P.readableRec t=true/\t<P.types.size)->
  DataW.TrodAll enc P W 0 (fun _=>true) true ts vs ds ps->(∀p ∈ ps,p.block<W.heap.size)->(∀p ∈ ps,sp' p.block=true)->DataW.TrodAll enc P W' 0 sp' true ts vs ds ps
 |[],[],[],_,_,h,_,_=>h
 |t::ts,v::vs,d::ds,ps,ht,h,h1,h2=>by
  obtain⟨p,q,g1,g2,rfl⟩:=h;exact⟨p,q,WideElems.Trod_stays hl (ht t (by simp)).1 (ht t (by simp)).2 g1 (fun x hx=>hb.same (h1 x (by simp[hx]))) (fun x hx=>h2 x (by simp[hx])),
   stays_all hl hb (fun t' ht'=>ht t' (by simp[ht'])) g2 (fun x hx=>h1 x (by simp[hx])) (fun x hx=>h2 x (by simp[hx])),rfl⟩
 |[],[],_::_,_,_,h,_,_=>h.elim
 |[],_::_,_,_,_,h,_,_=>by cases h
 |_::_,[],_,_,_,h,_,_=>by cases h
 |_::_,_::_,[],_,_,h,_,_=>h.elim
def trodAll_len:∀{ts:List Ti} {vs:List Vl} {c:List (DataW H)} {ps:List MemPlace},DataW.TrodAll enc P w base spare held ts vs c ps->ez c=ez ts
 |[],[],[],_,_=>rfl
 |_::_,_::_,_::_,_,⟨_,_,_,h,_⟩=>by simp[trodAll_len h]
 |[],[],_::_,_,h=>h.elim
 |[],_::_,_,_,h=>by cases h
 |_::_,[],_,_,h=>by cases h
 |_::_,_::_,[],_,h=>h.elim
def law_contract{f:FuncId}{fn:Func}{s:ChangeSpec}{tb:Ti}{apart fresh handsOn again:Bool}(hlo:laidOutB P=true)(hp:∀t ∈ fn.params.toList,(P.readableRec t=true/\t<P.types.size)/\(aa5 P 9 t).isSome=true)(hv:s.vars=[])(hr:fn.resultTypes=#[tb])(hb:P.underlying tb=some .bool)
  (hs:∀ds:List (DataW H),ez ds=ez fn.params.toList->s.fn H (ds++[])={results:=[.lit (.bool true)],args:=ds})
  (hlaw:∀xs:List T,ArgsT P fn.params.toList xs->FnOk P f xs [] fun r _=>r=.c (bool true))
  {W:World} {base:Nat} {args:Array Vl} {ds gs:List (DataW H)} {before:List MemPlace} (hz:(DataW.weightsEach P (fn.params.toList++s.plain.varTypes P) (ds++gs)).all (· <=reachBytes)=true) (hval:∀(j:Nat) t v,fn.params[j]? =some t->args[j]? =some v->Value.okWide P W .any base t v) (hW:DataW.Whole enc P fn.params.toList s.vars apart W args.toList ds gs before):
  Calls P f args W fun e W'=>∃v,e=.returned v/\s.post enc P fn apart fresh handsOn again W args v W':=by
 obtain⟨p,q,hA,hV,rfl,hfz,hnd⟩:=id hW
 rw[hv] at hV
 obtain⟨rfl,rfl⟩:=trodVars_none hV
 have hfit:Fits (DataW.weightsEach P fn.params.toList ds):=by
  have e:s.plain.varTypes P=[]:=by simp[DataSpec.varTypes,ChangeSpec.plain,hv]
  rw[e,di,di] at hz;exact hz
 obtain⟨xs,x1,x2,x3⟩:=argsT (φ:=fun _=>none) (σ:=[]) (al_all fun _=>none) (fun t ht=>(hp t ht).2) (fun j t v h1 h2=>hval j t v (by simpa using h1) (by simpa using h2)) hA hfit
 refine(law_calls (hlaw xs x1) x2 x3).mono fun e W' ⟨he,hbe⟩=>⟨_,he,?_⟩
 have hlt:∀x ∈ p++[],x.block<W.heap.size:=fun x hx=>hW.lt x hx
 have hS:=hs ds (trodAll_len hA)
 have hres:∀(b:Nat) (sp:Nat->Bool) (hd:Bool),DataW.TrodAll enc P W' b sp hd fn.resultTypes.toList ((Value.bool true).resultList fn.resultTypes.size) (s.fn H (ds++[])).results []:=fun b sp hd=>by rw[hS,hr];exact trodAll_mk1 (shut_bool hb true)
 have hargs:∀sp:Nat->Bool,(∀x ∈ p++[],sp x.block=true)->DataW.TrodAll enc P W' 0 sp true fn.params.toList args.toList (s.fn H (ds++[])).args p:=fun sp hsp=>by rw[hS];exact stays_all hlo hbe (fun t ht=>(hp t ht).1) hA (fun x hx=>hlt x (by simp[hx])) (fun x hx=>hsp x (by simp[hx]))
 have hvars:∀sp:Nat->Bool,DataW.TrodVars enc P W' sp s.vars (s.fn H (ds++[])).vars []:=fun sp=>by rw[hS,hv];rfl
 have hold:∀x ∈ p++[],(fun b=>decide (b<W.heap.size)) x.block=true:=fun x hx=>by simpa using hlt x hx
 refine⟨ds,[],p++[],[],p,[],hW,hres _ _ _,hargs _ hold,hvars _,World.keptBut_mono (fun x hx=>⟨hx,?_⟩) (hbe.frame (· ∈ p++[])),fun _=> ?_⟩
 ·simpa using hx
 ·refine⟨ok_one hr rfl (okWide_bool_mk hb true),_,_,([]++p)++[],⟨[]++p,[],trodAll_append (hargs _ (fun _ _=>rfl)) (hres _ _ _),hvars _,rfl,?_,?_⟩,?_⟩
  ·intro b off hx
   have hin:MemPlace.cell b off ∈ p++[]:=by simpa using hx
   rw[hbe.frozen (hlt _ hin)]
   exact hfz b off hin
  ·intro ha
   simpa using hnd ha
  ·intro x hx _
   simpa using hx
end
end Ab
end
section
namespace Ab
open Go
section
variable {P:Program}{σ0:c9}{sz:Nat}{Q:Post}{env:Env}{σv:c9}{ops:Array Oper}{rest:List Oper}{dst:Option Nat}{ty:Ti}{pos:String}{after:Array Edge}
def AOps.shr{t t':Ti}{x y:Od}{k k':IntKind}{a b c:Int}(hx:ev env x=some (.c (.imm (.val (.int k a)))))(hy:ev env y=some (.c (.imm (.val (.int k' b)))))(hd:j6 sz dst=true)(hb:¬ b<0)(hr:a.fdiv (2 ^ (min b.toNat k.bits))=c)
  (h:AOps P σ0 sz ops Q rest (St.mk (putE env dst (.c (.imm (.val (.int k c))))) σv)):AOps P σ0 sz ops Q (⟨dst,.binOp .shr t x y t',ty,pos,after,none⟩::rest) (St.mk env σv):=
 .bin hx hy hd rfl (fun w=>by simp[go_sem]) (fun w=>by subst hr;simp[binOp,Op.shift,hb]) h
def AOps.andE{t t':Ti}{x y:Od}{k:IntKind}{a b c:Int}(hx:ev env x=some (.c (.imm (.val (.int k a)))))(hy:ev env y=some (.c (.imm (.val (.int k b)))))(hd:j6 sz dst=true)(hr:Go.bits .and k a b=c)
  (h:AOps P σ0 sz ops Q rest (St.mk (putE env dst (.c (.imm (.val (.int k c))))) σv)):AOps P σ0 sz ops Q (⟨dst,.binOp .and t x y t',ty,pos,after,none⟩::rest) (St.mk env σv):=
 .bits hx hy hd (.inl rfl) (by rw[hr];exact h)
def AOps.mulE{t t':Ti}{x y:Od}{k:IntKind}{a b c:Int}(hx:ev env x=some (.c (.imm (.val (.int k a)))))(hy:ev env y=some (.c (.imm (.val (.int k b)))))(hd:j6 sz dst=true)(hr:k.wrap (a * b)=c)
  (h:AOps P σ0 sz ops Q rest (St.mk (putE env dst (.c (.imm (.val (.int k c))))) σv)):AOps P σ0 sz ops Q (⟨dst,.binOp .mul t x y t',ty,pos,after,none⟩::rest) (St.mk env σv):=
 .mulW hx hy hd (by rw[hr];exact h)
def AOps.addE{t t':Ti}{x y:Od}{k:IntKind}{a b c:Int}(hx:ev env x=some (.c (.imm (.val (.int k a)))))(hy:ev env y=some (.c (.imm (.val (.int k b)))))(hd:j6 sz dst=true)(hr:k.wrap (a+b)=c)
  (h:AOps P σ0 sz ops Q rest (St.mk (putE env dst (.c (.imm (.val (.int k c))))) σv)):AOps P σ0 sz ops Q (⟨dst,.binOp .add t x y t',ty,pos,after,none⟩::rest) (St.mk env σv):=
 .addW hx hy hd (by rw[hr];exact h)
def AOps.copy1{x y:Od}{t t' e:Ti}{bytes:Nat}{z:Vl}{id:Id}{j n:Nat}{es new:List (List C)}{v:T}[ht:TyD P t (.slice e)][hs:TyS P e 1 bytes z]
  (hx:ev env x=some (.c (.own id j n))) (J:σv[id]? =some (some (.cells 1 es))) (bi:0<n) (hy:ev env y=some v) (U:Src σv 1 v new) (hd:j6 sz dst=true)
  (h:AOps P σ0 sz ops Q rest (St.mk (putE env dst (.c (int ((dY (ez new) n:Nat):Int)))) (σv.put id (some (.cells 1 (es.take j++new.take (dY (ez new) n)++es.drop (j+(new.take (dY (ez new) n)).length))))))):
  AOps P σ0 sz ops Q (⟨dst,.call ⟨.builtin .copy,#[x,y],#[t,t']⟩,ty,pos,after,none⟩::rest) (St.mk env σv):=
 .valueW rfl hd _ _ (fun Γ φ a w hR=>by
  obtain⟨b',F,B,a3,E⟩:=U.shows hR hy;have hv:=F8 (k7 hR hx) J;rcases hv with⟨_,_,_,h4⟩|⟨b,base,cap,arr,ety,ad,hp,hv,a4,a8,a9,bj,N,bk⟩;omega;have:=a4 (by omega);subst this;obtain⟨bb,bd,aa,ab,ac,a5⟩:=G6 hR J hp;rw[N] at aa;cases aa;generalize hm:dY (ez new) n=m;have bs:m<=n:=by rw[<- hm];exact Nat.min_le_right _ _
  have ai:m<=ez new:=by rw[<- hm];exact Nat.min_le_left _ _
  have bv:ez B=ez new:=by rw[E.len,dE]
  have hf:(Builtin.firstCells 1 m (.slice b' (ez new) F)).run P w=.ok (B.take m).toArray w:=by
   cases b' with
   |none=>
    have al:new=[]:=E.none rfl
    have a6:m=0:=by rw[al] at ai;simpa using ai
    subst a6
    simp[Builtin.firstCells]
   |some ad=>exact run_firstCells_some w 1 m ad (ez new) F (B.take m) (by simp;omega) (fun i u hi=>by rw[dm] at hi;split at hi;exact E.cell ad rfl i u hi;cases hi)
  have an:∀u ∈ B.take m,u.oneCell'=true:=fun u hu=>E.one u (List.mem_of_mem_take hu);have av:=run_storeCells_at P b (base+j * 1) ety (B.take m) 0 arr w N (by simp;omega) an;simp only[cW,dE] at av;have a7:(B.take m).length=m:=by simp;omega
  have ay:(new.take m).length=m:=by simp;omega
  rw[ay];have a2:∀i:Nat,(es.take j++new.take m++es.drop (j+m))[i]? =if j<=i/\i<j+m then(new.take m)[i - j]? else es[i]? :=fun i=>by have:=D7 es (new.take m) j i (by omega);rwa [ay] at this
  have hW:=Rs.write (k:=1) (es':=es.take j++new.take m++es.drop (j+m)) (arr':=(arr.toList.take (base+j)++B.take m++arr.toList.drop (base+j+(B.take m).length)).toArray) hR.toRs J hp N (by simp;omega) (by simp;omega) (fun i e' q=>by
    rw[a2] at q;split at q;rw[dm] at q;split at q;exact E.hk _ _ q;cases q;exact ac _ _ q) ab (fun i e' o x' q O=>by
    rw[a2] at q;simp only[dN];rw[D7 arr.toList (B.take m) (base+j) (base+(i * 1+o)) (by simp;omega)];have ho:o=0:=by
     have be:ez e'=1:=by split at q;rw[dm] at q;split at q;exact E.hk _ _ q;cases q;exact ac _ _ q
     have:=(lG.1 O).1;omega
    subst ho;rw[a7];by_cases hi:j<=i/\i<j+m;rw[if_pos hi] at q;rw[if_pos (by omega)];rw[dm,if_pos (by omega)] at q;obtain⟨u,hu,hr⟩:=E.rel _ _ _ _ q O;refine⟨u,?_,hr⟩;rw[dm,if_pos (by omega),<- hu];congr 1;omega;rw[if_neg hi] at q;rw[if_neg (by omega)];obtain⟨u,hu,hr⟩:=a5 _ _ _ _ q O;exact⟨u,by simpa using hu,hr⟩)
  refine⟨.int .i64 m,_,φ,?_,.c (.imm (.val rfl)),hR.of hW.1 hW.2⟩;have hz:=s9 (P:=P) (t:=e) w;simp[execOp,resolve,invoke,builtin,hv,a3,Builtin.copy_,run_underlying ht.h,hz,Builtin.lenOf,hm,hf,av];rfl) h
def AOps.copyE{x y:Od}{t t' e:Ti}{bytes:Nat}{z:Vl}{id:Id}{j n m:Nat}{es es' new:List (List C)}{v:T}{σ':c9}[ht:TyD P t (.slice e)][hs:TyS P e 1 bytes z]
  (hx:ev env x=some (.c (.own id j n))) (B:σv[id]? =some (some (.cells 1 es))) (E:0<n) (hy:ev env y=some v) (q:Src σv 1 v new) (hd:j6 sz dst=true) (F:dY (ez new) n=m) (J:es.take j++new.take m++es.drop (j+m)=es') (u:σv.put id (some (.cells 1 es'))=σ')
  (h:AOps P σ0 sz ops Q rest (St.mk (putE env dst (.c (int (m:Int)))) σ')):
  AOps P σ0 sz ops Q (⟨dst,.call ⟨.builtin .copy,#[x,y],#[t,t']⟩,ty,pos,after,none⟩::rest) (St.mk env σv):=by
 subst u
 subst J
 refine .copy1 hx B E hy q hd ?_
 rw[F]
 have:(new.take m).length=m:=by
  rw[dK];have:m<=ez new:=by rw[<- F];exact Nat.min_le_left _ _
  omega
 rw[this]
 exact h
def AOps.convE{x:Od}{src d:Ti}{k e:IntKind}{n c:Int}{j:TypeDesc}[h1:TyD P src j][h2:TyD P d (.int e)](hx:ev env x=some (.c (.imm (.val (.int k n)))))(hd:j6 sz dst=true)(hr:e.wrap n=c)
  (h:AOps P σ0 sz ops Q rest (St.mk (putE env dst (.c (.imm (.val (.int e c))))) σv)):AOps P σ0 sz ops Q (⟨dst,.convert src d x,ty,pos,after,none⟩::rest) (St.mk env σv):=
 .convInt hx hd (by rw[hr];exact h)
def aB2{o:Oper}(hg:o.guard=none){x:Od}{k lo hi:Nat}{id:Id}{j n:Nat}{es:List (List C)}(hx:ev env x=some (.c (.own id j n)))(q:σv[id]? =some (some (.cells k es)))(hb:lo<=hi/\hi<=n)(hd:j6 sz o.dst=true)
  (key:∀(a:Act) (w:World) (φ:Phi) (F:Cx),R F sz (St.mk env σv) φ a w->∀(b:Option Addr) (cap:Nat),a.eval x=.slice b n cap->n<=cap->(execOp a.eval o).run P w=.ok (.value (.slice (if cap=lo then b else b.map (·.add (lo * k))) (hi - lo) (cap - lo))) w)
  (h:AOps P σ0 sz ops Q rest (St.mk (putE env o.dst (.c (.own id (j+lo) (hi - lo)))) σv)):AOps P σ0 sz ops Q (o::rest) (St.mk env σv):=
 .value hg hd _ (fun F φ a w hR=>by
  have v:=k7 hR hx;have hid:id.1<ez σv:=c9.lt_of q;have E:=F8 v q;have key:=key a w φ F hR;generalize hu:a.eval x=u at E key;rcases E with⟨h1,h2,h3,h4⟩|⟨b,base,cap,arr,ety,ad,hp,E,J,aa,ab,ac,N,O⟩;subst h3 h4;have h0:hi=0:=by omega
  have U:lo=0:=by omega
  subst h0 U;exact ⟨.slice none 0 0,by rw[key none 0 h2 (by omega)];simp,.c (.own hid rfl fun k' es' he=> (.inl ⟨h1,rfl,rfl,rfl⟩))⟩;rw[key _ _ E (by omega)];refine⟨_,rfl,.c (.own hid rfl fun k' es' he=> ?_)⟩;rw[q] at he;cases he;have z:∀e:Addr,(lo<cap->e=ad.add (lo * k))->U3 w (φ id) k (ez es) (j+lo) (hi - lo) (.slice (some e) (hi - lo) (cap - lo)):=fun e h'=>by refine .inr ⟨b,base,cap - lo,arr,ety,e,hp,rfl,fun hc=> ?_,by omega,by omega,by omega,N,?_⟩;rw[h' (by omega),J (by omega),G3,cS,Nat.add_assoc];rw[show j+lo+(cap - lo)=j+cap by omega];exact O
  by_cases B:cap=lo;rw[if_pos B];exact z ad (fun h=>by omega);rw[if_neg B];exact z _ (fun _=>rfl)) h
def AOps.sliceOwnTo{x r:Od}{t e:Ti}{k bytes:Nat}{z:Vl}{q:IntKind}{hi:Nat}{id:Id}{j n:Nat}{es:List (List C)}[ht:TyD P t (.slice e)][hs:TyS P e k bytes z]
  (hx:ev env x=some (.c (.own id j n))) (u:σv[id]? =some (some (.cells k es))) (hr:ev env r=some (.c (.imm (.val (.int q (hi:Int)))))) (E:hi<=n) (hd:j6 sz dst=true)
  (h:AOps P σ0 sz ops Q rest (St.mk (putE env dst (.c (.own id j hi))) σv)):AOps P σ0 sz ops Q (⟨dst,.slice t x none (some r) none,ty,pos,after,none⟩::rest) (St.mk env σv):=
 aB2 (lo:=0) (hi:=hi) rfl hx u ⟨eu _,E⟩ hd (fun a w φ N F b cap J B=>by have v:=ai6 (P:=P) w (y:=cap) (c:=.sliceAcap) (kk:=q) (i:=(hi:Int)) (by omega);simp[execOp,J,D8 F hr,Instr.sliceAt,Instr.slice,Instr.sliceBounds,run_underlying ht.h,s9 (t:=e),v];done) (by simpa using h)
def AOps.sliceOwnFrom{x l:Od}{t e:Ti}{k bytes:Nat}{z:Vl}{kk:IntKind}{lo:Nat}{id:Id}{j n:Nat}{es:List (List C)}[ht:TyD P t (.slice e)][hs:TyS P e k bytes z]
  (hx:ev env x=some (.c (.own id j n))) (q:σv[id]? =some (some (.cells k es))) (hl:ev env l=some (.c (.imm (.val (.int kk (lo:Int)))))) (B:lo<=n) (hd:j6 sz dst=true)
  (h:AOps P σ0 sz ops Q rest (St.mk (putE env dst (.c (.own id (j+lo) (n - lo)))) σv)):AOps P σ0 sz ops Q (⟨dst,.slice t x (some l) none none,ty,pos,after,none⟩::rest) (St.mk env σv):=
 aB2 (lo:=lo) (hi:=n) rfl hx q ⟨B,cU _⟩ hd (fun a w φ J E b cap F v=>by have u:=ai6 (P:=P) w (y:=n) (c:=.sliceB) (kk:=kk) (i:=(lo:Int)) (by omega);simp[execOp,F,D8 E hl,Instr.sliceAt,Instr.slice,Instr.sliceBounds,run_underlying ht.h,s9 (t:=e),u];done) h
end
end Ab
end
section
namespace Ab
open Go
/-! ## Words -/
def w64(n:Int):Int:=IntKind.i64.wrap n
def w64_eq{n:Int}(h: -9223372036854775808<=n/\n<=9223372036854775807):w64 n=n:=wrap_i64 h
def ix{α:Type}(l:List α)(i:Int):Option α:=if 0<=i then l[i.toNat]? else none
def app{α:Type}(b:Nat)(l new:List α):Option (List α):=if(ez l+ez new) * b<=140737488355328 then some (l++new) else none
def subL{α:Type}(l:List α)(lo hi:Int):Option (List α):=if 0<=lo/\lo<=hi/\hi<=ez l then some ((l.take hi.toNat).drop lo.toNat) else none
def quo(a b:Int):Option Int:=if b=0 then none else some (w64 (a.tdiv b))
def bind_some{α β:Type}{m:Option α}{K:α->Option β}{r:β}(h:m.bind K=some r):∃x,m=some x/\K x=some r:=by
 cases m with
 |none=>cases h
 |some x=>exact⟨x,rfl,h⟩
def b2{α β c:Type}{m:Option α}{n:α->Option β}{K:α->β->Option c}{r:c}(h:(m.bind fun x=>(n x).bind (K x))=some r):∃x,m=some x/\∃y,n x=some y/\K x y=some r:=by obtain⟨x,h1,h2⟩:=bind_some h;obtain⟨y,e,j⟩:=bind_some h2;exact⟨x,h1,y,e,j⟩
def b3{α β c e:Type}{m:Option α}{n:α->Option β}{l:α->β->Option e}{K:α->β->e->Option c}{r:c}(h:(m.bind fun x=>(n x).bind fun y=>(l x y).bind (K x y))=some r):∃x,m=some x/\∃y,n x=some y/\∃z,l x y=some z/\K x y z=some r:=by obtain⟨x,h1,h2⟩:=bind_some h;obtain⟨y,j,z,q⟩:=b2 h2;exact⟨x,h1,y,j,z,q⟩
def bB{α β:Type}{G:Prop}{m:Option α}{K:α->Option β}{r:β}(h:m.bind K=some r)(k:∀x,m=some x->K x=some r->G):G:=by obtain⟨x,a,b⟩:=bind_some h;exact k x a b
def bC{α β c:Type}{G:Prop}{m:Option α}{n:α->Option β}{K:α->β->Option c}{r:c}(h:(m.bind fun x=>(n x).bind (K x))=some r)(k:∀x,m=some x->∀y,n x=some y->K x y=some r->G):G:=
  bB h fun x a h=>bB h fun y b h=>k x a y b h
def bD{α β e j:Type}{G:Prop}{m:Option α}{n:α->Option β}{l:α->β->Option j}{K:α->β->j->Option e}{r:e}(h:(m.bind fun x=>(n x).bind fun y=>(l x y).bind (K x y))=some r)(k:∀x,m=some x->∀y,n x=some y->∀z,l x y=some z->K x y z=some r->G):G:=
  bB h fun x a h=>bC h fun y b z c h=>k x a y b z c h
def T4{S O:Type}(body:S->Option (S⊕O)):Nat->S->Option O
 |0,_=>none
 |n+1,s=>match body s with
  |none=>none
  |some (.inl s')=>T4 body n s'
  |some (.inr o)=>some o
def az4{S O:Type}{body:S->Option (S⊕O)}{o:O}:∀{n m:Nat} {s:S},n<=m->T4 body n s=some o->T4 body m s=some o
 |0,m,s,_,h=>by cases h
 |n+1,0,s,hl,h=>by omega
 |n+1,m+1,s,hl,h=>by
  simp only[T4] at h ⊢;cases c:body s with
  |none=>rw[c] at h;cases h
  |some x=>
   rw[c] at h
   cases x with
   |inl s'=>exact az4 (by omega) h
   |inr o'=>exact h
def LoopN_det{S O:Type}{body:S->Option (S⊕O)}{o o':O}{n m:Nat}{s:S}(h:T4 body n s=some o)(c:T4 body m s=some o'):o=o':=by rcases Nat.le_total n m with hl|hl;rw[az4 hl h] at c;exact Option.some.inj c;rw[az4 hl c] at h;exact(Option.some.inj h).symm
noncomputable def Loop{S O:Type}(body:S->Option (S⊕O))(s:S):Option O:=match T4 body 100000 s with
 |some o=>some o
 |none=>open Classical in if h:∃o n,T4 body n s=some o then some h.choose else none
def as6{S O:Type}{body:S->Option (S⊕O)}{s:S}{o:O}:Loop body s=some o↔∃n,T4 body n s=some o:=by unfold Loop;constructor;intro h;split at h;rename_i h1;exact⟨_,h1.trans h⟩;split at h;rename_i hx;cases h;exact hx.choose_spec;cases h;rintro ⟨n,c⟩;split;rename_i h1;rw[LoopN_det h1 c];have hx:∃o n,T4 body n s=some o:=⟨o,n,c⟩;rw[dif_pos hx];obtain⟨m,e⟩:=hx.choose_spec;rw[LoopN_det e c]
def am5{S O:Type}(body:S->Option (S⊕O))(s:S):Loop body s=match body s with
  |none=>none
  |some (.inl s')=>Loop body s'
  |some (.inr o)=>some o:=by
 apply Option.ext
 intro o
 rw[as6]
 constructor
 ·rintro ⟨n,c⟩
  cases n with
  |zero=>cases c
  |succ n=>
   simp only[T4] at c
   cases e:body s with
   |none=>rw[e] at c;cases c
   |some x=>
    rw[e] at c
    cases x with
    |inl s'=>exact as6.2 ⟨n,c⟩
    |inr o'=>exact c
 ·intro h
  cases e:body s with
  |none=>rw[e] at h;cases h
  |some x=>
   rw[e] at h
   cases x with
   |inl s'=>
    obtain⟨n,c⟩:=as6.1 h
    exact⟨n+1,by simp only[T4,e];exact c⟩
   |inr o'=>exact⟨1,by simp only[T4,e];exact h⟩
def rngN{S O:Type}(body:Int->S->Option (S⊕O)):Nat->Int->S->Option (S⊕O)
 |0,_,s=>some (.inl s)
 |n+1,i,s=>match body i s with
  |none=>none
  |some (.inl s')=>rngN body n (i+1) s'
  |some (.inr o)=>some (.inr o)
def rngX{S O:Type}(lo n:Int)(body:Int->S->Option (S⊕O))(s:S):Option (S⊕O):=rngN body (n - lo).toNat lo s
def forN{S:Type}(body:Int->S->Option S):Nat->Int->S->Option S
 |0,_,s=>some s
 |n+1,i,s=>match body i s with
  |none=>none
  |some s'=>forN body n (i+1) s'
def forR{S:Type}(lo n:Int)(body:Int->S->Option S)(s:S):Option S:=forN body (n - lo).toNat lo s
/-! ## Rules for code -/
section
variable {P:Program}{σ0:c9}{sz:Nat}{Q:Post}{env:Env}{σv:c9}{ops:Array Oper}{rest:List Oper}{dst:Option Nat}{ty:Ti}{pos:String}{after:Array Edge}
def AWP.O{ρ:Type}{x:Od}{c d:Code}{p:Prop}[Decidable p]{A B:Option ρ}{r:ρ}(hx:ev env x=some (.c (bool (decide p))))(h:(if p then A else B)=some r)
  (ht:p->A=some r->AWP P σ0 sz c Q (St.mk env σv)) (hf:¬ p->B=some r->AWP P σ0 sz d Q (St.mk env σv)):AWP P σ0 sz (.cond x c d) Q (St.mk env σv):=
 .condD hx (fun hp=>ht hp (by rwa [if_pos hp] at h)) (fun hp=>hf hp (by rwa [if_neg hp] at h))
def AWP.iteN{ρ:Type}{x:Od}{c d:Code}{p:Prop}[Decidable p]{A B:Option ρ}{r:ρ}(hx:ev env x=some (.c (bool (!decide p))))(h:(if p then A else B)=some r)
  (ht:¬ p->B=some r->AWP P σ0 sz c Q (St.mk env σv)) (hf:p->A=some r->AWP P σ0 sz d Q (St.mk env σv)):AWP P σ0 sz (.cond x c d) Q (St.mk env σv):=
 .condN hx (fun hp=>ht hp (by rwa [if_neg hp] at h)) (fun hp=>hf hp (by rwa [if_pos hp] at h))
def AWP.U{ρ:Type}{x:Od}{c d:Code}{b:Bool}{A B:Option ρ}{r:ρ}(hx:ev env x=some (.c (bool b)))(h:(if b=true then A else B)=some r)
  (ht:b=true->A=some r->AWP P σ0 sz c Q (St.mk env σv)) (hf:b=false->B=some r->AWP P σ0 sz d Q (St.mk env σv)):AWP P σ0 sz (.cond x c d) Q (St.mk env σv):=
 .cond hx (fun hp=>ht hp (by rwa [if_pos hp] at h)) (fun hp=>hf hp (by rwa [if_neg (by simp[hp])] at h))
def AWP.weak{c:Code}{s:St}(h:AWP P σ0 sz c (fun e st=>∃J,Sub σ0 st J/\Q e J) s):AWP P σ0 sz c Q s:=fun B φ a w j E ro v=>
 wpIn_mono (h B φ a w j E ro v) fun e a' w' ⟨s',φ',⟨J,hs,F⟩,z⟩=>by obtain⟨q,u⟩:=hs B sz φ' a' w' j z;exact⟨J,q,F,u⟩
def AWP.condP{x:Od}{c d:Code}{p:Prop}[Decidable p](hx:ev env x=some (.c (bool (decide p))))(hp:p)(h:AWP P σ0 sz c Q (St.mk env σv)):AWP P σ0 sz (.cond x c d) Q (St.mk env σv):=.condD hx (fun _=>h) (fun e=>absurd hp e)
def AWP.condNP{x:Od}{c d:Code}{p:Prop}[Decidable p](hx:ev env x=some (.c (bool (decide p))))(hp:¬ p)(h:AWP P σ0 sz d Q (St.mk env σv)):AWP P σ0 sz (.cond x c d) Q (St.mk env σv):=.condD hx (fun e=>absurd e hp) (fun _=>h)
def EntOk(n:Nat):Ent->Prop
 | .dead=>True
 | .one b=>b.ok n=true
 | .node m s=>∀(p:List Nat) (b:Blk),(Ent.node m s).sub p=some b->b.ok n=true
def StOk(n:Nat):c9->Prop
 |[]=>True
 |e::r=>EntOk n e/\StOk n r
def EntOk.get{n:Nat}{e:Ent}(h:EntOk n e){p:List Nat}{b:Blk}(j:e.sub p=some b):b.ok n=true:=by
 cases e with
 |dead=>cases p<;>cases j
 |one c=>cases p with
  |nil=>cases j;exact h
  |cons=>cases j
 |node m s=>exact h p b j
def StOk.get{n:Nat}:∀{σ:c9},StOk n σ->∀(i:Id) (b:Blk),σ[i]? =some (some b)->b.ok n=true
 |[],_,i,b,h=>by simp at h
 |e::r,h,(0,p),b,c=>by rw[c9.at_eq] at c;simp only[c9.at,cw,Option.some.injEq] at c;exact h.1.get c
 |e::r,h,(i+1,p),b,c=>StOk.get (σ:=r) h.2 (i,p) b (by rw[c9.at_eq] at c ⊢;simpa[c9.at] using c)
def Sub.tail{env env':Env}{s σ:c9}(hs:∃c,s=σ++c)(h:aa9 env env')(hl:cY (ez σ0) (ez σ)=true)(e:StOk (ez σ) σ)(q:ag9 (ez σ) env'=true):Sub σ0 ⟨env,s⟩ ⟨env',σ⟩:=by obtain⟨c,rfl⟩:=hs;refine Sub.mk (fun i=>i) (fun i _=>rfl) (cH hl) (fun i j b u _ _ h=>h) (fun i b hi=>⟨e.get i b hi,?_⟩) (fun t v ht=>⟨an8 q t v ht,?_⟩);rw[Blk.ren_id,c9.get_left (c9.lt_of hi)];exact hi;rw[T.ren_id];exact h.get t v ht
def AWP.seqJ{c d:Code}(J:St)(q:AWP P σ0 sz c (thn (fun s=>Sub σ0 s J) Q) (St.mk env σv))(hd:AWP P σ0 sz d Q J):AWP P σ0 sz (.seq c d) Q (St.mk env σv):=
 .j (q.mono fun e s h=>by
  cases e with
  |normal=>exact AWP.sub h hd
  |_=>exact h)
def AWP.loopS{S O:Type}{c:Code}{body:S->Option (S⊕O)}{s0:S}{o:O}(h:Loop body s0=some o)(F:S->St)(N:O->Post)(hs:Sub σ0 (St.mk env σv) (F s0))
  (j:∀s o',body s=some o'->AWP P σ0 sz c (thn (fun st=>∃s',o'=.inl s'/\Sub σ0 st (F s')) (fun e st=>∃o,o'=.inr o/\N o e st)) (F s))
  (q:∀e s,N o e s->∃J,Sub σ0 s J/\Q e J):AWP P σ0 sz (.loop c) Q (St.mk env σv):=by
 obtain⟨n,U⟩:=as6.1 h
 refine AWP.weak ?_
 refine AWP.loop (X:=S×Nat) (fun x=>F x.1) (fun x=>T4 body x.2 x.1=some o) (fun x=>x.2) (s0,n) hs U ?_
 rintro ⟨s,n⟩ hi
 dsimp only at hi ⊢
 cases n with
 |zero=>cases hi
 |succ n=>
  simp only[T4] at hi
  cases B:body s with
  |none=>rw[B] at hi;cases hi
  |some x=>
   rw[B] at hi
   refine(j s x B).mono fun e st v=> ?_
   cases x with
   |inl s'=>
    cases e with
    |normal=>
     obtain⟨E,u,z⟩:=v
     cases u
     exact⟨(s',n),z,hi,Nat.lt_succ_self n⟩
    |_=>obtain⟨o',u,_⟩:=v;cases u
   |inr o'=>
    cases hi
    cases e with
    |normal=>obtain⟨E,u,_⟩:=v;cases u
    |_=>obtain⟨o',u,v⟩:=v;cases u;exact q _ _ v
def AWP.rngS{S O:Type}{c:Code}{body:Int->S->Option (S⊕O)}{lo n:Int}{s0:S}{o:S⊕O}(h:rngX lo n body s0=some o)(F:Int->S->St)(U:S⊕O->Post)(hs:Sub σ0 (St.mk env σv) (F lo s0))
  (B:∀i s,lo<=i->¬ i<n->o=.inl s->AWP P σ0 sz c (thn (fun _=>False) (U (.inl s))) (F i s))
  (q:∀i s o',lo<=i->i<n->body i s=some o'->AWP P σ0 sz c (thn (fun st=>∃s',o'=.inl s'/\Sub σ0 st (F (i+1) s')) (fun e st=>∃o,o'=.inr o/\U (.inr o) e st)) (F i s))
  (j:∀e s,U o e s->∃J,Sub σ0 s J/\Q e J):AWP P σ0 sz (.loop c) Q (St.mk env σv):=by
 refine AWP.weak ?_
 refine AWP.loop (X:=S×Int) (fun x=>F x.2 x.1) (fun x=>lo<=x.2/\rngN body (n - x.2).toNat x.2 x.1=some o) (fun x=>(n - x.2).toNat) (s0,lo) hs ⟨Int.le_refl _,h⟩ ?_
 rintro ⟨s,i⟩ ⟨v,hi⟩
 dsimp only at hi v ⊢
 by_cases E:i<n
 ·obtain⟨k,hk⟩:∃k,(n - i).toNat=k+1:=⟨(n - i).toNat - 1,by omega⟩
  have aa:(n - (i+1)).toNat=k:=by omega
  rw[hk] at hi
  simp only[rngN] at hi
  cases hb:body i s with
  |none=>rw[hb] at hi;cases hi
  |some x=>
   rw[hb] at hi
   refine(q i s x v E hb).mono fun e st u=> ?_
   cases x with
   |inl s'=>
    cases e with
    |normal=>
     obtain⟨ab,z,N⟩:=u
     cases z
     refine⟨(s',i+1),N,⟨by dsimp only;omega,?_⟩,by dsimp only;omega⟩
     dsimp only
     rw[aa];exact hi
    |_=>obtain⟨o',z,_⟩:=u;cases z
   |inr o'=>
    cases hi
    cases e with
    |normal=>obtain⟨ab,z,_⟩:=u;cases z
    |_=>obtain⟨o',z,u⟩:=u;cases z;exact j _ _ u
 ·have:(n - i).toNat=0:=by omega
  rw[this] at hi
  simp only[rngN] at hi
  cases hi
  refine(B i s v E rfl).mono fun e st u=> ?_
  cases e with
  |normal=>exact u.elim
  |_=>exact j _ _ u
def forN_rng{S:Type}{body:Int->S->Option S}{s':S}:∀{n:Nat} {i:Int} {s:S},forN body n i s=some s'->rngN (O:=Empty) (fun i s=>(body i s).map .inl) n i s=some (.inl s')
 |0,i,s,h=>by cases h;rfl
 |n+1,i,s,h=>by
  simp only[forN] at h;simp only[rngN];cases c:body i s with
  |none=>rw[c] at h;cases h
  |some x=>
   rw[c] at h
   exact forN_rng h
def AWP.forS{S:Type}{c:Code}{body:Int->S->Option S}{lo n:Int}{s0 o:S}(h:forR lo n body s0=some o)(F:Int->S->St)(z:S->Post)(hs:Sub σ0 (St.mk env σv) (F lo s0))
  (v:∀i s,lo<=i->¬ i<n->o=s->AWP P σ0 sz c (thn (fun _=>False) (z s)) (F i s))
  (j:∀i s o',lo<=i->i<n->body i s=some o'->AWP P σ0 sz c (thn (fun st=>Sub σ0 st (F (i+1) o')) (fun _ _=>False)) (F i s))
  (q:∀e s,z o e s->∃J,Sub σ0 s J/\Q e J):AWP P σ0 sz (.loop c) Q (St.mk env σv):=by
 refine AWP.rngS (O:=Empty) (forN_rng h) F (fun| .inl s=>z s| .inr e=>e.elim) hs (fun i s h1 h2 u=>v i s h1 h2 (by cases u;rfl)) (fun i s o' h1 h2 u=> ?_) q
 cases B:body i s with
 |none=>rw[B] at u;cases u
 |some x=>
  rw[B] at u
  cases u
  refine(j i s x h1 h2 B).mono fun e st E=> ?_
  cases e with
  |normal=>exact⟨x,rfl,E⟩
  |_=>exact E.elim
/-! ## Rules for operations -/
abbrev row{α:Type}(k:Nat)(f:α->List I)(l:List α):C:=.imm (.sl k (l.map f))
abbrev vec{α:Type}(k:Nat)(f:α->List I)(l:List α):Blk:=Blk.im k (l.map f)
def V3{α:Type}{l:List α}{i:Int}{x:α}(h:ix l i=some x):0<=i/\l[i.toNat]? =some x:=by unfold ix at h;split at h;exact⟨‹_›,h⟩;cases h
def S.idx{α:Type}{f:α->List I}{l:List α}{x y:Od}{t e:Ti}{k bytes:Nat}{z:Vl}{kk:IntKind}{i:Int}{a:α}{j:List I}[ht:TyD P t (.slice e)][hs:TyS P e k bytes z]
  (q:ix l i=some a) (hx:ev env x=some (.c (row k f l))) (hy:ev env y=some (.c (.imm (.val (.int kk i))))) (hf:f a=j) (hd:j6 sz dst=true)
  (h:AOps P σ0 sz ops Q rest (St.mk (putE env dst (.c (.imm (.ipt j)))) σv)):AOps P σ0 sz ops Q (⟨dst,.indexAddr t x y,ty,pos,after,none⟩::rest) (St.mk env σv):=
 .indexAddr hx hy (V3 q).1 (by rw[lM,(V3 q).2,<- hf];rfl) hd h
def S.len{α:Type}{f:α->List I}{l:List α}{x:Od}{t e:Ti}{k:Nat}[ht:TyD P t (.slice e)]
  (hx:ev env x=some (.c (row k f l))) (hd:j6 sz dst=true) (h:ez l<=9223372036854775807->AOps P σ0 sz ops Q rest (St.mk (putE env dst (.c (int (ez l)))) σv)):AOps P σ0 sz ops Q (⟨dst,.call ⟨.builtin .len,#[x],#[t]⟩,ty,pos,after,none⟩::rest) (St.mk env σv):=
 .lenB hx hd h
def S.add{t t':Ti}{x y:Od}{a b:Int}(hx:ev env x=some (.c (int a)))(hy:ev env y=some (.c (int b)))(hd:j6 sz dst=true)(h:AOps P σ0 sz ops Q rest (St.mk (putE env dst (.c (int (w64 (a+b))))) σv)):AOps P σ0 sz ops Q (⟨dst,.binOp .add t x y t',ty,pos,after,none⟩::rest) (St.mk env σv):=.addW hx hy hd h
def S.sub{t t':Ti}{x y:Od}{a b:Int}(hx:ev env x=some (.c (int a)))(hy:ev env y=some (.c (int b)))(hd:j6 sz dst=true)(h:AOps P σ0 sz ops Q rest (St.mk (putE env dst (.c (int (w64 (a - b))))) σv)):AOps P σ0 sz ops Q (⟨dst,.binOp .sub t x y t',ty,pos,after,none⟩::rest) (St.mk env σv):=.subW hx hy hd h
def S.mul{t t':Ti}{x y:Od}{a b:Int}(hx:ev env x=some (.c (int a)))(hy:ev env y=some (.c (int b)))(hd:j6 sz dst=true)(h:AOps P σ0 sz ops Q rest (St.mk (putE env dst (.c (int (w64 (a * b))))) σv)):AOps P σ0 sz ops Q (⟨dst,.binOp .mul t x y t',ty,pos,after,none⟩::rest) (St.mk env σv):=.mulW hx hy hd h
end
def rv{P:Program}{t n b:Nat}{z:Vl}{d:TypeDesc}(a:Nat)[h:TyD P t d][k:TyS P t n b z](c:A7 d=true):RV.ok P (.cell a t n):=by obtain⟨i,h1,h2,_⟩:=k.h;exact⟨d,i,h.h,c,h1,h2⟩
def rv1{P:Program}{t:Nat}{d:TypeDesc}(a:Nat)[h:TyD P t d](c:A7 d=false):RV.ok P (.one a t):=⟨d,h.h,c⟩
def ite_none{p:Prop}[Decidable p]{α:Type}{m:Option α}{r:α}(h:(if p then m else none)=some r):p/\m=some r:=by by_cases hp:p;exact⟨hp,by rwa [if_pos hp] at h⟩;rw[if_neg hp] at h;cases h
def H3{p:Prop}[Decidable p]{α:Type}{m k:Option α}{r:α}(c:decide p=true)(h:(if p then m else k)=some r):m=some r:=by rwa [if_pos (of_decide_eq_true c)] at h
def H0{p:Prop}[Decidable p]{α:Type}{m k:Option α}{r:α}(c:decide p=false)(h:(if p then m else k)=some r):k=some r:=by rwa [if_neg (of_decide_eq_false c)] at h
def ab7{b:Bool}{α:Type}{m k:Option α}{r:α}(c:b=true)(h:(if b=true then m else k)=some r):m=some r:=by rwa [if_pos c] at h
def ac5{b:Bool}{α:Type}{m k:Option α}{r:α}(c:b=false)(h:(if b=true then m else k)=some r):k=some r:=by rwa [if_neg (by simp[c])] at h
def R3{a b:Bool}(h:a=true):(a && b)=b:=by rw[h];rfl
def N2{a b:Bool}(h:a=false):(a && b)=false:=by rw[h];rfl
def or_t{a b:Bool}(h:a=true):(a||b)=true:=by rw[h];rfl
def or_f{a b:Bool}(h:a=false):(a||b)=b:=by rw[h];rfl
end Ab
end
section
namespace Ab
open Go
def ArgsT.len{P:Program}:∀{ts:List Ti} {c:List T},ArgsT P ts c->ez c=ez ts
 |[],[],_=>rfl
 |_::_,_::_,h=>by simp[ArgsT.len h.2]
 |[],_::_,h=>h.elim
 |_::_,[],h=>h.elim
def dec_int{L:List Sh}{c:List I}(h:DecL (.int::L) c):∃(n:Int) (r:List I),c=.val (.int .i64 n)::r/\(-9223372036854775808<=n/\n<=9223372036854775807)/\DecL L r:=by
 cases h with
 |int h1 h2 h=>exact⟨_,_,rfl,⟨h1,h2⟩,h⟩
def dec_nil{c:List I}(h:DecL [] c):c=[]:=by cases h;rfl
def dec_list{α:Type}{j:List Sh}{f:α->List I}{p:α->Prop}(hf:∀e,DecL j e->∃a,e=f a/\p a):∀{es:List (List I)},(∀e ∈ es,DecL j e)->∃l:List α,es=l.map f/\∀a ∈ l,p a
 |[],_=>⟨[],rfl,fun a h=>by simp at h⟩
 |e::es,h=>by obtain⟨a,rfl,q⟩:=hf e (h e (by simp));obtain⟨l,rfl,hl⟩:=dec_list hf (es:=es) fun e u=>h e (by simp[u]);exact⟨a::l,rfl,fun b c=>by rcases dx.1 c with rfl|c;exact q;exact hl b c⟩
def dec_sl{α:Type}{c L:List Sh}{f:α->List I}{p:α->Prop}(hf:∀e,DecL c e->∃a,e=f a/\p a){j:List I}{b:Nat}(h:DecL (.sl c b::L) j):∃(l:List α) (r:List I),j=.sl (ez c) (l.map f)::r/\(ez l * b<=140737488355328/\∀a ∈ l,p a)/\DecL L r:=by
 cases h with
 |sl q u h=>
  obtain⟨l,rfl,hl⟩:=dec_list hf q
  exact⟨l,_,rfl,⟨by simpa using u,hl⟩,h⟩
end Ab
end
section
namespace Ab
open Go Go.Proofs
open Tryz
theorem TyS.of{P:Program}{t size bytes:Nat}{z:Vl}(h:(P.info? t).map (fun i=>(i.size,i.bytes,i.zero))=some (size,bytes,some z)):TyS P t size bytes z:=by obtain⟨i,h1,h2⟩:=oM.1 h;simp only[dZ.injEq] at h2;exact⟨i,h1,h2.1,h2.2.1,h2.2.2⟩
instance:TyD prog 3 (TypeDesc.int IntKind.i64):=⟨underlying3⟩
instance:TyS prog 3 1 8 (.int .i64 0):=.of (by kernel_rfl)
instance:TyZ prog 3 [.imm (.val (.int .i64 0))]:=.of rfl
instance:TyD prog 4 (TypeDesc.bool):=⟨underlying4⟩
instance:TyS prog 4 1 1 (.bool false):=.of (by kernel_rfl)
instance:TyZ prog 4 [.imm (.val (.bool false))]:=.of rfl
instance:TyD prog 5 (TypeDesc.int IntKind.u8):=⟨underlying5⟩
instance:TyS prog 5 1 1 (.int .u8 0):=.of (by kernel_rfl)
instance:TyZ prog 5 [.imm (.val (.int .u8 0))]:=.of rfl
instance:TyD prog 9 (TypeDesc.string):=⟨underlying9⟩
instance:TyD prog 22 (TypeDesc.slice 3):=⟨underlying22⟩
instance:TyS prog 22 1 24 (.slice none 0 0):=.of (by kernel_rfl)
instance:TyZ prog 22 [.imm (.val (.slice none 0 0))]:=.of rfl
instance:TyD prog 23 (TypeDesc.slice 90):=⟨underlying23⟩
instance:TyS prog 23 1 24 (.slice none 0 0):=.of (by kernel_rfl)
@[reducible, instance] def tyq25 := TyD.mk (P := prog) (t := 25) underlying25
instance:TyS prog 25 4 80 (.agg #[.int .i64 0,.slice none 0 0,.slice none 0 0,.slice none 0 0]):=.of (by kernel_rfl)
instance:TyZ prog 25 [.imm (.val (.int .i64 0)),.imm (.val (.slice none 0 0)),.imm (.val (.slice none 0 0)),.imm (.val (.slice none 0 0))]:=.of rfl
instance:FieldC prog 25 0 0 3:=.of rfl rfl rfl
instance:FieldC prog 25 1 1 22:=.of rfl rfl rfl
instance:FieldC prog 25 2 2 22:=.of rfl rfl rfl
instance:FlatC prog 25 4:=.of rfl rfl
@[reducible, instance] def tyq27 := TyD.mk (P := prog) (t := 27) underlying27
instance:TyS prog 27 4 48 (.agg #[.bool false,.slice none 0 0,.int .i64 0,.int .i64 0]):=.of (by kernel_rfl)
instance:TyZ prog 27 [.imm (.val (.bool false)),.imm (.val (.slice none 0 0)),.imm (.val (.int .i64 0)),.imm (.val (.int .i64 0))]:=.of rfl
instance:FlatC prog 27 4:=.of rfl rfl
@[reducible, instance] def tyq29 := TyD.mk (P := prog) (t := 29) underlying29
instance:TyS prog 29 2 16 (.agg #[.int .i64 0,.int .i64 0]):=.of (by kernel_rfl)
instance:TyZ prog 29 [.imm (.val (.int .i64 0)),.imm (.val (.int .i64 0))]:=.of rfl
instance:FlatC prog 29 2:=.of rfl rfl
instance:TyD prog 35 (TypeDesc.slice 41):=⟨underlying35⟩
instance:TyD prog 38 (TypeDesc.slice 22):=⟨underlying38⟩
instance:TyS prog 38 1 24 (.slice none 0 0):=.of (by kernel_rfl)
instance:TyD prog 41 (TypeDesc.array 2 3):=⟨underlying41⟩
instance:TyS prog 41 2 16 (.agg #[.int .i64 0,.int .i64 0]):=.of (by kernel_rfl)
instance:TyZ prog 41 [.imm (.val (.int .i64 0)),.imm (.val (.int .i64 0))]:=.of rfl
instance:TyD prog 44 (TypeDesc.pointer 104):=⟨underlying44⟩
instance:TyD prog 45 (TypeDesc.slice 51):=⟨underlying45⟩
instance:TyS prog 45 1 24 (.slice none 0 0):=.of (by kernel_rfl)
instance:TyZ prog 45 [.imm (.val (.slice none 0 0))]:=.of rfl
instance:TyD prog 51 (TypeDesc.int IntKind.u32):=⟨underlying51⟩
instance:TyS prog 51 1 4 (.int .u32 0):=.of (by kernel_rfl)
instance:TyZ prog 51 [.imm (.val (.int .u32 0))]:=.of rfl
instance:TyD prog 52 (TypeDesc.func #[51] #[3] false):=⟨underlying52⟩
instance:TyD prog 56 (TypeDesc.map 51 3):=⟨underlying56⟩
instance:TyS prog 56 1 8 (.map none):=.of (by kernel_rfl)
instance:TyZ prog 56 [.imm (.val (.map none))]:=.of rfl
@[reducible, instance] def tyq68 := TyD.mk (P := prog) (t := 68) underlying68
instance:TyS prog 68 2 16 (.agg #[.int .u32 0,.int .i64 0]):=.of (by kernel_rfl)
instance:TyZ prog 68 [.imm (.val (.int .u32 0)),.imm (.val (.int .i64 0))]:=.of rfl
instance:FlatC prog 68 2:=.of rfl rfl
instance:TyD prog 69 (TypeDesc.map 51 68):=⟨underlying69⟩
instance:TyS prog 69 1 8 (.map none):=.of (by kernel_rfl)
instance:TyZ prog 69 [.imm (.val (.map none))]:=.of rfl
instance:TyS prog 70 1 8 (.pointer none):=.of (by kernel_rfl)
instance:TyZ prog 70 [.imm (.val (.pointer none))]:=.of rfl
instance:TyD prog 73 (TypeDesc.map 51 79):=⟨underlying73⟩
instance:TyS prog 73 1 8 (.map none):=.of (by kernel_rfl)
instance:TyZ prog 73 [.imm (.val (.map none))]:=.of rfl
instance:TyD prog 79 (TypeDesc.struct #[]):=⟨underlying79⟩
instance:TyS prog 79 0 0 (.agg #[]):=.of (by kernel_rfl)
instance:TyZ prog 79 []:=.of rfl
@[reducible, instance] def tyq84 := TyD.mk (P := prog) (t := 84) underlying84
instance:TyS prog 84 3 24 (.agg #[.int .i64 0,.int .i64 0,.int .u32 0]):=.of (by kernel_rfl)
instance:TyZ prog 84 [.imm (.val (.int .i64 0)),.imm (.val (.int .i64 0)),.imm (.val (.int .u32 0))]:=.of rfl
instance:FieldC prog 84 2 2 51:=.of rfl rfl rfl
instance:FlatC prog 84 3:=.of rfl rfl
@[reducible, instance] def tyq90 := TyD.mk (P := prog) (t := 90) underlying90
instance:TyS prog 90 4 80 (.agg #[.slice none 0 0,.slice none 0 0,.slice none 0 0,.int .i64 0]):=.of (by kernel_rfl)
instance:TyZ prog 90 [.imm (.val (.slice none 0 0)),.imm (.val (.slice none 0 0)),.imm (.val (.slice none 0 0)),.imm (.val (.int .i64 0))]:=.of rfl
instance:FlatC prog 90 4:=.of rfl rfl
instance:TyD prog 98 (TypeDesc.map 51 99):=⟨underlying98⟩
instance:TyS prog 98 1 8 (.map none):=.of (by kernel_rfl)
instance:TyZ prog 98 [.imm (.val (.map none))]:=.of rfl
instance:TyD prog 99 (TypeDesc.slice 101):=⟨underlying99⟩
instance:TyS prog 99 1 24 (.slice none 0 0):=.of (by kernel_rfl)
@[reducible, instance] def tyq101 := TyD.mk (P := prog) (t := 101) underlying101
instance:TyS prog 101 2 16 (.agg #[.int .u32 0,.int .i64 0]):=.of (by kernel_rfl)
instance:TyZ prog 101 [.imm (.val (.int .u32 0)),.imm (.val (.int .i64 0))]:=.of rfl
instance:FlatC prog 101 2:=.of rfl rfl
instance:TyD prog 102 (TypeDesc.slice 151):=⟨underlying102⟩
instance:TyS prog 102 1 24 (.slice none 0 0):=.of (by kernel_rfl)
@[reducible, instance] def tyq104 := TyD.mk (P := prog) (t := 104) underlying104
instance:TyS prog 104 3 32 (.agg #[.int .u32 0,.int .u32 0,.slice none 0 0]):=.of (by kernel_rfl)
instance:TyZ prog 104 [.imm (.val (.int .u32 0)),.imm (.val (.int .u32 0)),.imm (.val (.slice none 0 0))]:=.of rfl
instance:FlatC prog 104 3:=.of rfl rfl
instance:TyD prog 120 (TypeDesc.pointer 124):=⟨underlying120⟩
instance:TyS prog 120 1 8 (.pointer none):=.of (by kernel_rfl)
instance:TyZ prog 120 [.imm (.val (.pointer none))]:=.of rfl
@[reducible, instance] def tyq122 := TyD.mk (P := prog) (t := 122) underlying122
instance:TyS prog 122 4 48 (.agg #[.slice none 0 0,.int .i64 0,.int .i64 0,.int .i64 0]):=.of (by kernel_rfl)
instance:TyZ prog 122 [.imm (.val (.slice none 0 0)),.imm (.val (.int .i64 0)),.imm (.val (.int .i64 0)),.imm (.val (.int .i64 0))]:=.of rfl
instance:FieldC prog 122 0 0 22:=.of rfl rfl rfl
instance:FieldC prog 122 1 1 3:=.of rfl rfl rfl
instance:FlatC prog 122 4:=.of rfl rfl
instance:TyD prog 124 (TypeDesc.slice 122):=⟨underlying124⟩
instance:TyS prog 124 1 24 (.slice none 0 0):=.of (by kernel_rfl)
instance:TyD prog 125 (TypeDesc.map 9 3):=⟨underlying125⟩
instance:TyS prog 125 1 8 (.map none):=.of (by kernel_rfl)
instance:TyZ prog 125 [.imm (.val (.map none))]:=.of rfl
instance:TyD prog 130 (TypeDesc.map 51 135):=⟨underlying130⟩
instance:TyS prog 130 1 8 (.map none):=.of (by kernel_rfl)
instance:TyD prog 132 (TypeDesc.slice 135):=⟨underlying132⟩
instance:TyS prog 132 1 24 (.slice none 0 0):=.of (by kernel_rfl)
@[reducible, instance] def tyq134 := TyD.mk (P := prog) (t := 134) underlying134
instance:TyS prog 134 3 40 (.agg #[.slice none 0 0,.map none,.int .i64 0]):=.of (by kernel_rfl)
instance:TyZ prog 134 [.imm (.val (.slice none 0 0)),.imm (.val (.map none)),.imm (.val (.int .i64 0))]:=.of rfl
instance:FlatC prog 134 3:=.of rfl rfl
instance:TyD prog 135 (TypeDesc.pointer 138):=⟨underlying135⟩
instance:TyS prog 135 1 8 (.pointer none):=.of (by kernel_rfl)
@[reducible, instance] def tyq138 := TyD.mk (P := prog) (t := 138) underlying138
instance:TyS prog 138 4 32 (.agg #[.int .u32 0,.int .i64 0,.int .i64 0,.int .i64 0]):=.of (by kernel_rfl)
instance:TyZ prog 138 [.imm (.val (.int .u32 0)),.imm (.val (.int .i64 0)),.imm (.val (.int .i64 0)),.imm (.val (.int .i64 0))]:=.of rfl
instance:FieldC prog 138 0 0 51:=.of rfl rfl rfl
instance:FieldC prog 138 1 1 3:=.of rfl rfl rfl
instance:FieldC prog 138 2 2 3:=.of rfl rfl rfl
instance:FieldC prog 138 3 3 3:=.of rfl rfl rfl
instance:FlatC prog 138 4:=.of rfl rfl
instance:TyD prog 140 (TypeDesc.pointer 132):=⟨underlying140⟩
@[reducible, instance] def tyq151 := TyD.mk (P := prog) (t := 151) underlying151
instance:TyS prog 151 4 24 (.agg #[.int .u32 0,.int .u32 0,.int .u32 0,.int .i64 0]):=.of (by kernel_rfl)
instance:TyZ prog 151 [.imm (.val (.int .u32 0)),.imm (.val (.int .u32 0)),.imm (.val (.int .u32 0)),.imm (.val (.int .i64 0))]:=.of rfl
instance:FieldC prog 151 1 1 51:=.of rfl rfl rfl
instance:FieldC prog 151 2 2 51:=.of rfl rfl rfl
instance:FieldC prog 151 3 3 3:=.of rfl rfl rfl
instance:FlatC prog 151 4:=.of rfl rfl
instance:TyD prog 155 (TypeDesc.int IntKind.u64):=⟨underlying155⟩
instance:TyD prog 163 (TypeDesc.slice 5):=⟨underlying163⟩
@[reducible, instance] def tyq166 := TyD.mk (P := prog) (t := 166) underlying166
instance:TyS prog 166 3 40 (.agg #[.slice none 0 0,.int .i64 0,.int .i64 0]):=.of (by kernel_rfl)
instance:TyZ prog 166 [.imm (.val (.slice none 0 0)),.imm (.val (.int .i64 0)),.imm (.val (.int .i64 0))]:=.of rfl
instance:FlatC prog 166 3:=.of rfl rfl
instance:TyD prog 167 (TypeDesc.slice 166):=⟨underlying167⟩
instance:TyS prog 167 1 24 (.slice none 0 0):=.of (by kernel_rfl)
instance:TyZ prog 167 [.imm (.val (.slice none 0 0))]:=.of rfl
instance:TyS prog 185 1 24 (.slice none 0 0):=.of (by kernel_rfl)
instance:TyZ prog 185 [.imm (.val (.slice none 0 0))]:=.of rfl
instance:TyS prog 186 1 8 (.nilFunc):=.of (by kernel_rfl)
instance:TyZ prog 186 [.imm (.val (.nilFunc))]:=.of rfl
instance:TyS prog 219 7 152 (.agg #[.int .i64 0,.slice none 0 0,.slice none 0 0,.slice none 0 0,.slice none 0 0,.slice none 0 0,.slice none 0 0]):=.of (by kernel_rfl)
instance:TyZ prog 219 [.imm (.val (.int .i64 0)),.imm (.val (.slice none 0 0)),.imm (.val (.slice none 0 0)),.imm (.val (.slice none 0 0)),.imm (.val (.slice none 0 0)),.imm (.val (.slice none 0 0)),.imm (.val (.slice none 0 0))]:=.of rfl
@[reducible, instance] def tyq221 := TyD.mk (P := prog) (t := 221) underlying221
instance:TyS prog 221 2 32 (.agg #[.slice none 0 0,.int .i64 0]):=.of (by kernel_rfl)
instance:TyZ prog 221 [.imm (.val (.slice none 0 0)),.imm (.val (.int .i64 0))]:=.of rfl
instance:FlatC prog 221 2:=.of rfl rfl
instance:TyS prog 224 1 8 (.int .u64 0):=.of (by kernel_rfl)
instance:TyZ prog 224 [.imm (.val (.int .u64 0))]:=.of rfl
instance:TyS prog 251 24 24 (.agg #[.int .u8 0,.int .u8 0,.int .u8 0,.int .u8 0,.int .u8 0,.int .u8 0,.int .u8 0,.int .u8 0,.int .u8 0,.int .u8 0,.int .u8 0,.int .u8 0,.int .u8 0,.int .u8 0,.int .u8 0,.int .u8 0,.int .u8 0,.int .u8 0,.int .u8 0,.int .u8 0,.int .u8 0,.int .u8 0,.int .u8 0,.int .u8 0]):=.of (by kernel_rfl)
instance:TyZ prog 251 [.imm (.val (.int .u8 0)),.imm (.val (.int .u8 0)),.imm (.val (.int .u8 0)),.imm (.val (.int .u8 0)),.imm (.val (.int .u8 0)),.imm (.val (.int .u8 0)),.imm (.val (.int .u8 0)),.imm (.val (.int .u8 0)),.imm (.val (.int .u8 0)),.imm (.val (.int .u8 0)),.imm (.val (.int .u8 0)),.imm (.val (.int .u8 0)),.imm (.val (.int .u8 0)),.imm (.val (.int .u8 0)),.imm (.val (.int .u8 0)),.imm (.val (.int .u8 0)),.imm (.val (.int .u8 0)),.imm (.val (.int .u8 0)),.imm (.val (.int .u8 0)),.imm (.val (.int .u8 0)),.imm (.val (.int .u8 0)),.imm (.val (.int .u8 0)),.imm (.val (.int .u8 0)),.imm (.val (.int .u8 0))]:=.of rfl
instance:TyS prog 260 20 160 (.agg #[.int .u64 0,.int .u64 0,.int .u64 0,.int .u64 0,.int .u64 0,.int .u64 0,.int .u64 0,.int .u64 0,.int .u64 0,.int .u64 0,.int .u64 0,.int .u64 0,.int .u64 0,.int .u64 0,.int .u64 0,.int .u64 0,.int .u64 0,.int .u64 0,.int .u64 0,.int .u64 0]):=.of (by kernel_rfl)
instance:TyZ prog 260 [.imm (.val (.int .u64 0)),.imm (.val (.int .u64 0)),.imm (.val (.int .u64 0)),.imm (.val (.int .u64 0)),.imm (.val (.int .u64 0)),.imm (.val (.int .u64 0)),.imm (.val (.int .u64 0)),.imm (.val (.int .u64 0)),.imm (.val (.int .u64 0)),.imm (.val (.int .u64 0)),.imm (.val (.int .u64 0)),.imm (.val (.int .u64 0)),.imm (.val (.int .u64 0)),.imm (.val (.int .u64 0)),.imm (.val (.int .u64 0)),.imm (.val (.int .u64 0)),.imm (.val (.int .u64 0)),.imm (.val (.int .u64 0)),.imm (.val (.int .u64 0)),.imm (.val (.int .u64 0))]:=.of rfl
instance:TyS prog 264 32 32 (.agg #[.int .u8 0,.int .u8 0,.int .u8 0,.int .u8 0,.int .u8 0,.int .u8 0,.int .u8 0,.int .u8 0,.int .u8 0,.int .u8 0,.int .u8 0,.int .u8 0,.int .u8 0,.int .u8 0,.int .u8 0,.int .u8 0,.int .u8 0,.int .u8 0,.int .u8 0,.int .u8 0,.int .u8 0,.int .u8 0,.int .u8 0,.int .u8 0,.int .u8 0,.int .u8 0,.int .u8 0,.int .u8 0,.int .u8 0,.int .u8 0,.int .u8 0,.int .u8 0]):=.of (by kernel_rfl)
instance:TyZ prog 264 [.imm (.val (.int .u8 0)),.imm (.val (.int .u8 0)),.imm (.val (.int .u8 0)),.imm (.val (.int .u8 0)),.imm (.val (.int .u8 0)),.imm (.val (.int .u8 0)),.imm (.val (.int .u8 0)),.imm (.val (.int .u8 0)),.imm (.val (.int .u8 0)),.imm (.val (.int .u8 0)),.imm (.val (.int .u8 0)),.imm (.val (.int .u8 0)),.imm (.val (.int .u8 0)),.imm (.val (.int .u8 0)),.imm (.val (.int .u8 0)),.imm (.val (.int .u8 0)),.imm (.val (.int .u8 0)),.imm (.val (.int .u8 0)),.imm (.val (.int .u8 0)),.imm (.val (.int .u8 0)),.imm (.val (.int .u8 0)),.imm (.val (.int .u8 0)),.imm (.val (.int .u8 0)),.imm (.val (.int .u8 0)),.imm (.val (.int .u8 0)),.imm (.val (.int .u8 0)),.imm (.val (.int .u8 0)),.imm (.val (.int .u8 0)),.imm (.val (.int .u8 0)),.imm (.val (.int .u8 0)),.imm (.val (.int .u8 0)),.imm (.val (.int .u8 0))]:=.of rfl
instance:EqT prog 29:=⟨by kernel_rfl,by kernel_rfl⟩
instance:EqT prog 41:=⟨by kernel_rfl,by kernel_rfl⟩
def mixed:prog.follows .mixedOrders=true:=by kernel_rfl
end Ab
end
section
namespace Ab
open Go
/-! ## No mention of a block -/
mutual
def C.no(id:Id):C->Bool
 | .imm _=>true
 | .own i _ _=> !idb i id
 | .ptr i _ _=> !idb i id
 | .fn _ caps=>C.noL id caps
 | .ifc _ cs _=>C.noL id cs
 | .map i=> !idb i id
 | .fnb _ caps=>C.noL id caps
 | .yld i=> !idb i id
def C.noL(id:Id):List C->Bool
 |[]=>true
 |c::r=>C.no id c && C.noL id r
end
mutual
def T.no(id:Id):T->Bool
 | .c x=>x.no id
 | .agg cs=>C.noL id cs
 | .tup ts=>T.noL id ts
 | .undef=>true
def T.noL(id:Id):List T->Bool
 |[]=>true
 |t::r=>T.no id t && T.noL id r
end
def Blk.no(id:Id):Blk->Bool
 | .cells _ es=>es.all (C.noL id)
 | .obj _ cs=>C.noL id cs
def envNo(id:Id):Env->Bool
 |[]=>true
 |(_,v)::r=>v.no id && envNo id r
def noL_eq(id:Id):∀l:List C,C.noL id l=l.all (C.no id)
 |[]=>rfl
 |c::r=>by rw[C.noL,noL_eq id r];rfl
def ad6{id:Id}:∀{env:Env},envNo id env=true->∀t v,lookup t env=some v->v.no id=true
 |[],_,t,v,h=>by simp[lookup] at h
 |(k,x)::r,h,t,v,c=>by simp only[envNo,cy] at h;simp only[lookup] at c;split at c;cases c;exact h.1;exact ad6 h.2 t v c
def mv(id n:Id):Id->Id:=fun i=>if idb i id then n else i
mutual
theorem C.ren_no{id n:Id}:∀c:C,c.no id=true->c.ren (mv id n)=c
 | .imm _,_=>rfl
 | .own i _ _,h=>by
  have:idb i id=false:=by simpa[C.no] using h
  simp[C.ren,mv,this]
 | .ptr i _ _,h=>by
  have:idb i id=false:=by simpa[C.no] using h
  simp[C.ren,mv,this]
 | .fn _ caps,h=>by simp only[C.ren,C.renL_no caps h]
 | .ifc _ cs _,h=>by simp only[C.ren,C.renL_no cs h]
 | .map i,h=>by
  have:idb i id=false:=by simpa[C.no] using h
  simp[C.ren,mv,this]
 | .fnb _ caps,h=>by simp only[C.ren,C.renL_no caps h]
 | .yld i,h=>by
  have:idb i id=false:=by simpa[C.no] using h
  simp[C.ren,mv,this]
theorem C.renL_no{id n:Id}:∀l:List C,C.noL id l=true->C.renL (mv id n) l=l
 |[],_=>rfl
 |c::r,h=>by simp only[C.noL,cy] at h;simp only[C.renL,C.ren_no c h.1,C.renL_no r h.2]
end
mutual
theorem T.ren_no{id n:Id}:∀t:T,t.no id=true->t.ren (mv id n)=t
 | .c x,h=>by simp only[T.ren,C.ren_no x h]
 | .agg cs,h=>by simp only[T.ren,C.renL_no cs h]
 | .tup ts,h=>by simp only[T.ren,T.renL_no ts h]
 | .undef,_=>rfl
theorem T.renL_no{id n:Id}:∀l:List T,T.noL id l=true->T.renL (mv id n) l=l
 |[],_=>rfl
 |x::r,h=>by simp only[T.noL,cy] at h;simp only[T.renL,T.ren_no x h.1,T.renL_no r h.2]
end
def Blk.ren_no{id n:Id}(b:Blk)(h:b.no id=true):b.ren (mv id n)=b:=by
 cases b with
 |cells k es=>
  simp only[Blk.no,cD] at h
  simp only[Blk.ren]
  congr 1
  conv=>rhs;rw[<- List.map_id es]
  exact dS fun l hl=>C.renL_no l (h l hl)
 |obj p cs=>simp only[Blk.ren,C.renL_no cs h]
def noL_imm(id:Id)(l:List I):C.noL id (l.map .imm)=true:=by rw[noL_eq];simp[C.no]
def Blk.im_no(id:Id)(k:Nat)(es:List (List I)):(Blk.im k es).no id=true:=by simp only[Blk.im,Blk.no,List.all_map,cD];exact fun l _=>noL_imm id l
section
variable {P:Program}{σ0:c9}{sz:Nat}{Q:Post}{env env':Env}{σv σ':c9}{ops:Array Oper}{rest:List Oper}{dst:Option Nat}{ty:Ti}{pos:String}{after:Array Edge}
inductive SrcF{α:Type}(σ:c9)(k:Nat)(f:α->List I):T->List α->Prop
 |own {id:Id} {n:Nat} {l:List α} (h:σ[id]? =some (some (vec k f l))) (hn:n=ez l):SrcF σ k f (.c (.own id 0 n)) l
 |row {l:List α}:SrcF σ k f (.c (row k f l)) l
 |nil:SrcF σ k f (.c (.imm (.val (.slice none 0 0)))) []
def SrcF.src{α:Type}{σ:c9}{k:Nat}{f:α->List I}{v:T}{l:List α}(h:SrcF σ k f v l):Src σ k v ((l.map f).map (·.map .imm)):=by
 cases h with
 |@own id n l h c=>
  subst c
  have:=Src.own (j:=0) (n:=ez l) h
  have e:List.take (ez l) (List.drop 0 ((l.map f).map (·.map C.imm)))=(l.map f).map (·.map C.imm):=by rw[dt,cL (by simp)]
  rwa [e] at this
 |row=>exact .imm
 |nil=>exact .nil
def aq8{α:Type}{b:Nat}{l new r:List α}(h:app b l new=some r):(ez l+ez new) * b<=140737488355328/\r=l++new:=by unfold app at h;split at h;cases h;exact⟨‹_›,rfl⟩;cases h
def A4{σ r:c9}{i:Id}{b:Option Blk}(h:putF σ i b=some r):r=σ.put i b:=putF_eq h
def S.append{α:Type}{f:α->List I}{l new l':List α}{x y:Od}{t e:Ti}{k bytes m:Nat}{n:Id}{z:Vl}{id:Id}{v:T}{σ1:c9}[ht:TyD P t (.slice e)][hs:TyS P e k bytes z]
  (F:app bytes l new=some l') (u:(z.cells.size==k)=true) (B:cQ 0 bytes=true)
  (hx:ev env x=some (.c (.own id 0 m))) (J:m=ez l) (E:σv[id]? =some (some (vec k f l))) (hy:ev env y=some v) (j:SrcF σv k f v new) (N:newF σv=some n) (h1:putF σv id none=some σ1) (q:w8 σ1 (.one (vec k f l'))=some σ') (hd:j6 sz dst=true)
  (h:AOps P σ0 sz ops Q rest (St.mk (putE env dst (.c (.own n 0 (ez l')))) σ')):
  AOps P σ0 sz ops Q (⟨dst,.call ⟨.builtin .append,#[x,y],#[t,t]⟩,ty,pos,after,none⟩::rest) (St.mk env σv):=by
 obtain⟨O,rfl⟩:=aq8 F
 have h2:=A4 h1
 have U:=B2 N;have h4:=v7 q
 subst J h2 U h4
 refine AOps.append (new:=(new.map f).map (·.map .imm)) u B hx E hy j.src (by simpa using O) hd ?_
 have e1:(((((l.map f).map (·.map C.imm)).drop 0).take (ez l))++(new.map f).map (·.map C.imm))=((l++new).map f).map (·.map C.imm):=by rw[dt,cL (by simp)];simp
 have e2:ez l+((new.map f).map (·.map C.imm)).length=(l++new).length:=by simp
 rw[e1,e2]
 exact h
inductive ZI:List I->List C->Prop
 |nil:ZI [] []
 |val {v:Vl} {l:List I} {cs:List C} (h:ZI l cs):ZI (.val v::l) (.imm (.val v)::cs)
 |row {k:Nat} {l:List I} {cs:List C} (h:ZI l cs):ZI (.sl k []::l) (.imm (.val (.slice none 0 0))::cs)
def ZI.get{w:World}{φ:Phi}{σ:c9}{A:Nat->Prop}{l:List I}{cs:List C}(h:ZI l cs):∀(o:Nat) (x:I),l[o]? =some x->∃c,cs[o]? =some c/\∀u,RelC w φ σ A c u->RelI w A x u:=by
 induction h with
 |nil=>intro o x h;simp at h
 |@val v l cs _ j=>
  intro o x hx
  cases o with
  |zero=>
   simp only[cw,Option.some.injEq] at hx
   subst hx
   exact⟨_,rfl,fun u e=>by cases e with|imm e=>exact e⟩
  |succ o=>simpa using j o x (by simpa using hx)
 |@row k l cs _ j=>
  intro o x hx
  cases o with
  |zero=>
   simp only[cw,Option.some.injEq] at hx
   subst hx
   exact⟨_,rfl,fun u e=>by cases e with|imm e=>cases e;exact .slNil⟩
  |succ o=>simpa using j o x (by simpa using hx)
def ZI.len{l:List I}{cs:List C}(h:ZI l cs):ez l=ez cs:=by
 induction h with
 |nil=>rfl
 |val _ c=>simp[c]
 |row _ c=>simp[c]
def Sub.blk{id:Id}{k:Nat}{es es':List (List C)}(v:σv[id]? =some (some (.cells k es)))(hl:ez es'=ez es)(hk:∀(j:Nat) (e:List C),es'[j]? =some e->ez e=k)
  (hc:∀(j:Nat) (e:List C) (o:Nat) (x:C),es'[j]? =some e->e[o]? =some x->∃F J,es[j]? =some F/\F[o]? =some J/\∀w φ σ A u,RelC w φ σ A J u->RelC w φ σ A x u):
  Sub σ0 ⟨env,σv⟩ ⟨env,σv.put id (some (.cells k es'))⟩:=fun E sz φ a w ai c=>by
 have ad:id.1<ez σv:=c9.lt_of v
 have z:∀(i:Id) x,(σv.put id (some (.cells k es')))[i]? =some (some x)->(i=id/\x=.cells k es')\/(i ≠ id/\σv[i]? =some (some x)):=fun i x hi=>by rcases c9.get_put v hi with⟨h1,h2⟩|h;cases h2;exact .inl ⟨h1,rfl⟩;exact .inr h
 have back:∀(i:Id) x,(σv.put id (some (.cells k es')))[i]? =some (some x)->∃y,σv[i]? =some (some y):=fun i x hi=>by rcases z i x hi with⟨rfl,_⟩|⟨_,h⟩;exact⟨_,v⟩;exact⟨x,h⟩
 have A1:∀b,Al E.N φ σv b->Al E.N φ (σv.put id (some (.cells k es'))) b:=fun b O=>⟨O.1,fun i blk base hi=>by obtain⟨y,hy⟩:=back i blk hi;exact O.2 i y base hy⟩
 have U:Kept w w φ φ σv (σv.put id (some (.cells k es'))) (Al E.N φ σv) (Al E.N φ (σv.put id (some (.cells k es')))):=
  {imm:=fun _ _ _=>rfl,all:=fun b O _=>A1 b O,len:=by simp,
   cells:=fun i kk aa hi B=>by rcases z i _ B with⟨rfl,h⟩|⟨_,h⟩;cases h;exact⟨es,v,hl.symm,rfl,fun _ _ arr _ _ h2=>⟨arr,h2,rfl⟩⟩;exact⟨aa,h,rfl,rfl,fun _ _ arr _ _ h2=>⟨arr,h2,rfl⟩⟩,
   obj:=fun i p' ab hi B=>by rcases z i _ B with⟨_,h⟩|⟨_,h⟩;cases h;exact⟨rfl,p',ab,h⟩}
 have ac:Rs E (σv.put id (some (.cells k es'))) φ w:=
  {good:=c.good
   st:=⟨fun i b hi=>by rcases z i b hi with⟨rfl,rfl⟩|⟨_,h⟩;rcases c.st.blk _ _ v with⟨h1,h2⟩|⟨b,base,arr,ety,g1,g2,g3,g4,g5⟩;exact .inl ⟨h1,by subst h2;exact cz (by simpa using hl)⟩;refine .inr ⟨b,base,arr,ety,g1,g2,by rw[hl];exact g3,hk,fun j e o x B hx=> ?_⟩;obtain⟨F,J,k1,k2,k3⟩:=hc j e o x B hx;obtain⟨u,hu,hr⟩:=g5 j F o J k1 k2;exact⟨u,hu,(k3 _ _ _ _ _ hr).mono U⟩;exact(c.st.blk i b h).mono U fun _ _ _=>rfl,
    fun i j bi bj p q hi hj hp hq B=>by obtain⟨x,hx⟩:=back i bi hi;obtain⟨y,hy⟩:=back j bj hj;exact c.st.inj i j x y p q hx hy hp hq B⟩
   keep:=fun i blk b base hi=>by obtain⟨x,hx⟩:=back i blk hi;exact c.keep i x b base hx
   os:=c.os
   tape:=c.tape
   drawn:=c.drawn
   output:=c.output
   size:=c.size
   block:=c.block
   kept:=Kept.trans c.size c.kept U}
 exact⟨φ,c.of U ac⟩
/-! ### Reading and writing -/
def q7{α:Type}{l:List α}{i:Int}{a:α}(h:ix l i=some a):i.toNat<ez l:=(lG.1 (V3 h).2).1
def ix_set{α:Type}{l:List α}{i:Int}{a b:α}(h:ix l i=some a):ix (l.set i.toNat b) i=some b:=by have h1:=V3 h;have h2:=q7 h;simp[ix,h1.1,h2]
def S.idxO{α:Type}{f:α->List I}{l:List α}{x y:Od}{t e:Ti}{id:Id}{k bytes n:Nat}{z:Vl}{kk:IntKind}{i:Int}{a:α}[ht:TyD P t (.slice e)][hs:TyS P e k bytes z]
  (q:ix l i=some a) (hx:ev env x=some (.c (.own id 0 n))) (u:n=ez l) (j:σv[id]? =some (some (vec k f l))) (hy:ev env y=some (.c (.imm (.val (.int kk i))))) (hd:j6 sz dst=true)
  (h:AOps P σ0 sz ops Q rest (St.mk (putE env dst (.c (.ptr id i.toNat 0))) σv)):AOps P σ0 sz ops Q (⟨dst,.indexAddr t x y,ty,pos,after,none⟩::rest) (St.mk env σv):=
 .indexAddrOwn hx j hy (by have:=V3 q;have:=q7 q;omega) hd (by rw[cE];exact h)
def vec_get{α:Type}{f:α->List I}{l:List α}{i:Nat}{a:α}(h:l[i]? =some a):((l.map f).map (·.map C.imm))[i]? =some ((f a).map .imm):=by simp[h]
def S.loadO{α:Type}{f:α->List I}{l:List α}{x:Od}{t:Ti}{d:TypeDesc}{id:Id}{k o:Nat}{i:Int}{a:α}{c:I}[ht:TyD P t d](j:ix l i=some a)(q:A7 d=false)(hx:ev env x=some (.c (.ptr id i.toNat o)))(e:σv[id]? =some (some (vec k f l)))
  (u:(f a)[o]? =some c) (hd:j6 sz dst=true) (h:AOps P σ0 sz ops Q rest (St.mk (putE env dst (.c (.imm c))) σv)):AOps P σ0 sz ops Q (⟨dst,.load t x,ty,pos,after,none⟩::rest) (St.mk env σv):=
 .aa q hx e (vec_get (V3 j).2) (by rw[lM,u];rfl) hd h
def S.loadOAgg{α:Type}{f:α->List I}{l:List α}{x:Od}{t:Ti}{d:TypeDesc}{id:Id}{k o size bytes:Nat}{z:Vl}{i:Int}{a:α}{q cs:List I}{u:List C}[ht:TyD P t d][hs:TyS P t size bytes z](v:ix l i=some a)(B:A7 d=true)(hx:ev env x=some (.c (.ptr id i.toNat o)))(e:σv[id]? =some (some (vec k f l)))
  (h1:dropF o (f a)=some q) (h2:takeF size q=some cs) (j:immF cs=some u) (hd:j6 sz dst=true) (h:AOps P σ0 sz ops Q rest (St.mk (putE env dst (.agg u)) σv)):AOps P σ0 sz ops Q (⟨dst,.load t x,ty,pos,after,none⟩::rest) (St.mk env σv):=by
 obtain⟨h1,g1⟩:=an0 h1
 obtain⟨h2,E⟩:=ay6 h2
 have j:=immF_eq j
 subst h1 h2 j
 refine .loadAgg B hx e (vec_get (V3 v).2) (by simp at E ⊢;omega) hd ?_
 rw[<- List.map_drop,<- List.map_take]
 exact h
def vec_set{α:Type}{f:α->List I}{l:List α}{i:Nat}{a:α}{k:Nat}:Blk.cells k (((l.map f).map (·.map C.imm)).set i ((f a).map .imm))=vec k f (l.set i a):=by
 simp only[vec,Blk.im,List.map_set]
def S.storeO{α:Type}{f:α->List I}{l:List α}{x y:Od}{t:Ti}{bytes:Nat}{z:Vl}{id:Id}{k o:Nat}{i:Nat}{a a':α}{c:I}[hs:TyS P t 1 bytes z](q:l[i]? =some a)(hf:setF (f a) o c=some (f a'))(hx:ev env x=some (.c (.ptr id i o)))(hy:ev env y=some (.c (.imm c)))(j:σv[id]? =some (some (vec k f l)))
  (e:putF σv id (some (vec k f (l.set i a')))=some σ') (h:AOps P σ0 sz ops Q rest (St.mk env σ')):AOps P σ0 sz ops Q (⟨none,.store t x y,ty,pos,after,none⟩::rest) (St.mk env σv):=by
 have h1:=H7 hf
 have h2:=A4 e
 subst h2
 refine AOps.store hx hy j (vec_get q) (by simpa using h1.2) ?_
 rw[show(((f a).map C.imm).set o (.imm c))=(f a').map .imm by rw[<- List.map_set,<- h1.1]]
 rw[vec_set]
 exact h
def S.storeO1{α:Type}{f:α->List I}{l:List α}{x y:Od}{t:Ti}{bytes:Nat}{z:Vl}{id:Id}{k:Nat}{i:Nat}{a':α}{c:I}[hs:TyS P t 1 bytes z](hi:i<ez l)(hf:∀a,∃u,f a=[u])(j:f a'=[c])(hx:ev env x=some (.c (.ptr id i 0)))(hy:ev env y=some (.c (.imm c)))(q:σv[id]? =some (some (vec k f l)))
  (e:putF σv id (some (vec k f (l.set i a')))=some σ') (h:AOps P σ0 sz ops Q rest (St.mk env σ')):AOps P σ0 sz ops Q (⟨none,.store t x y,ty,pos,after,none⟩::rest) (St.mk env σv):=by
 obtain⟨u,v⟩:=hf l[i]
 exact S.storeO (a:=l[i]) (cC hi) (by rw[v,j];rfl) hx hy q e h
def S.storeOAgg{α:Type}{f:α->List I}{l:List α}{x y:Od}{t:Ti}{size bytes:Nat}{z:Vl}{id:Id}{k:Nat}{i:Nat}{a':α}{cs:List C}[hs:TyS P t size bytes z](hi:i<ez l)(j:∀a,(f a).length=size)(hz:cQ 0 size=true)(hf:(f a').map .imm=cs)(hx:ev env x=some (.c (.ptr id i 0)))(hy:ev env y=some (.agg cs))(q:σv[id]? =some (some (vec k f l)))
  (e:putF σv id (some (vec k f (l.set i a')))=some σ') (h:AOps P σ0 sz ops Q rest (St.mk env σ')):AOps P σ0 sz ops Q (⟨none,.store t x y,ty,pos,after,none⟩::rest) (St.mk env σv):=by
 have h2:=A4 e
 subst h2
 have hl:ez cs=size:=by rw[<- hf,cV,j]
 refine AOps.storeAgg hx hy q (vec_get (cC hi)) (by simp[j,hl]) hl ?_
 have:((f l[i]).map C.imm).take 0++cs++((f l[i]).map C.imm).drop (0+ez cs)=(f a').map .imm:=by rw[List.drop_of_length_le (by simp[j,hl]),hf];simp
 rw[this,vec_set]
 exact h
def S.lenO{α:Type}{f:α->List I}{l:List α}{x:Od}{t e:Ti}{id:Id}{k n:Nat}[ht:TyD P t (.slice e)](hx:ev env x=some (.c (.own id 0 n)))(j:σv[id]? =some (some (vec k f l)))(hd:j6 sz dst=true)
  (h:n<=9223372036854775807->AOps P σ0 sz ops Q rest (St.mk (putE env dst (.c (int n))) σv)):AOps P σ0 sz ops Q (⟨dst,.call ⟨.builtin .len,#[x],#[t]⟩,ty,pos,after,none⟩::rest) (St.mk env σv):=
 .lenOwnB hx j hd h
/-! ### A block takes the place of another one -/
def z7(id n:Id)(σ:c9)(m i:Nat):Ent->Prop
 | .dead=>True
 | .one b=>b.ok m=true/\σ[mv id n (i,[])]? =some (some (b.ren (mv id n)))
 | .node x s=>∀(p:List Nat) (b:Blk),(Ent.node x s).sub p=some b->b.ok m=true/\σ[mv id n (i,p)]? =some (some (b.ren (mv id n)))
def StMv(id n:Id)(σ:c9)(m:Nat):Nat->c9->Prop
 |_,[]=>True
 |i,e::r=>z7 id n σ m i e/\StMv id n σ m (i+1) r
def z7.get{id n:Id}{σ:c9}{m i:Nat}{e:Ent}(h:z7 id n σ m i e){p:List Nat}{b:Blk}(j:e.sub p=some b):b.ok m=true/\σ[mv id n (i,p)]? =some (some (b.ren (mv id n))):=by
 cases e with
 |dead=>cases p<;>cases j
 |one c=>cases p with
  |nil=>cases j;exact h
  |cons=>cases j
 |node x s=>exact h p b j
def StMv.get{id n:Id}{m:Nat}{σ:c9}:∀{i:Nat} {σ':c9},StMv id n σ m i σ'->∀(j:Nat) (p:List Nat) (b:Blk),σ'[((j,p):Id)]? =some (some b)->b.ok m=true/\σ[mv id n (i+j,p)]? =some (some (b.ren (mv id n)))
 |_,[],_,j,p,b,h=>by simp at h
 |i,e::r,h,0,p,b,c=>by rw[c9.at_eq] at c;simp only[c9.at,cw,Option.some.injEq] at c;exact h.1.get c
 |i,e::r,h,j+1,p,b,c=>by have:=StMv.get (i:=i+1) h.2 j p b (by rw[c9.at_eq] at c ⊢;simpa[c9.at] using c);rwa [show i+1+j=i+(j+1) by omega] at this
def EnvMv(id n:Id)(env:Env):Env->Prop
 |[]=>True
 |(t,v)::r=>lookup t env=some (v.ren (mv id n))/\EnvMv id n env r
def EnvMv.get{id n:Id}:∀{env':Env},EnvMv id n env env'->∀t v,lookup t env'=some v->lookup t env=some (v.ren (mv id n))
 |[],_,t,v,h=>by simp[lookup] at h
 |(k,x)::r,⟨h1,h2⟩,t,v,h=>by simp only[lookup] at h;split at h;rename_i c;cases h;rw[<- cu c];exact h1;exact EnvMv.get h2 t v h
def deadAt(σ:c9)(n:Id):Bool:=match σ[n]? with
 |some (some _)=>false
 |_=>true
def Sub.move(id n:Id)(B:cY (ez σ0) id.1=true)(hl:cY (ez σ0) (ez σ')=true)(E:deadAt σ' n=true)(q:EnvMv id n env env')(F:ag9 (ez σ') env'=true)(z:StMv id n σv (ez σ') 0 σ'):Sub σ0 ⟨env,σv⟩ ⟨env',σ'⟩:=by
 have J:=cH B;have hd:∀b,σ'[n]? ≠ some (some b):=fun b N=>by simp[deadAt,N] at E
 have u:mv id n id=n:=by simp[mv,G8.2 rfl]
 have c:∀i,i ≠ id->mv id n i=i:=fun i h=>by simp[mv,E3 h]
 refine Sub.mk (mv id n) (fun i hi=>c i (fun e=>by subst e;omega)) (cH hl) (fun i j b U hi O h=> ?_) (fun i b hi=> ?_) (fun t v ht=>⟨an8 F t v ht,q.get t v ht⟩);by_cases h1:i=id<;>by_cases h2:j=id;rw[h1,h2];rw[h1,u,c j h2] at h;subst h;exact absurd O (hd _);rw[h2,u,c i h1] at h;subst h;exact absurd hi (hd _);rwa [c i h1,c j h2] at h;have:=z.get i.1 i.2 b hi;rwa [cE] at this
def AWP.v{c:Code}(id n:Id)(q:cY (ez σ0) id.1=true)(hl:cY (ez σ0) (ez σ')=true)(u:deadAt σ' n=true)(e:EnvMv id n env env')(z:ag9 (ez σ') env'=true)(j:StMv id n σv (ez σ') 0 σ')(h:AWP P σ0 sz c Q (St.mk env' σ')):AWP P σ0 sz c Q (St.mk env σv):=
 AWP.sub (Sub.move id n q hl u e z j) h
def k6{α:Type}{π:Id->Id}{k:Nat}{i:Id}{f:α->List I}{l:List α}{σ:c9}(h:σ[i]? =some (some (vec k f l))):σ[i]? =some (some ((vec k f l).ren π)):=by rw[Blk.im_ren];exact h
def M8{id:Id}{a b:Nat}(h:a=b):some (T.c (C.own id 0 a))=some (T.c (C.own id 0 b)):=by rw[h]
end
end Ab
end
section
namespace Ab
open Go
section
variable {P:Program}{σ0:c9}{sz:Nat}{Q:Post}{env env':Env}{σv σ':c9}{ops:Array Oper}{rest:List Oper}{dst:Option Nat}{ty:Ti}{pos:String}{after:Array Edge}
/-! ### A row ceases to change -/
mutual
theorem C.frz_no{id:Id}{k:Nat}{es:List (List I)}:∀c:C,c.no id=true->c.frz id k es=c
 | .imm _,_=>rfl
 | .own i _ _,h=>by
  have:idb i id=false:=by simpa[C.no] using h
  simp[C.frz,this]
 | .ptr i _ _,h=>by
  have:idb i id=false:=by simpa[C.no] using h
  simp[C.frz,this]
 | .fn _ caps,h=>by simp only[C.frz,C.frzL_no caps h]
 | .ifc _ cs _,h=>by simp only[C.frz,C.frzL_no cs h]
 | .map i,h=>rfl
 | .fnb _ caps,h=>by simp only[C.frz,C.frzL_no caps h]
 | .yld i,h=>rfl
theorem C.frzL_no{id:Id}{k:Nat}{es:List (List I)}:∀l:List C,C.noL id l=true->C.frzL id k es l=l
 |[],_=>rfl
 |c::r,h=>by simp only[C.noL,cy] at h;simp only[C.frzL,C.frz_no c h.1,C.frzL_no r h.2]
end
mutual
theorem T.frz_no{id:Id}{k:Nat}{es:List (List I)}:∀t:T,t.no id=true->t.frz id k es=t
 | .c x,h=>by simp only[T.frz,C.frz_no x h]
 | .agg cs,h=>by simp only[T.frz,C.frzL_no cs h]
 | .tup ts,h=>by simp only[T.frz,T.frzL_no ts h]
 | .undef,_=>rfl
theorem T.frzL_no{id:Id}{k:Nat}{es:List (List I)}:∀l:List T,T.noL id l=true->T.frzL id k es l=l
 |[],_=>rfl
 |x::r,h=>by simp only[T.noL,cy] at h;simp only[T.frzL,T.frz_no x h.1,T.frzL_no r h.2]
end
def Blk.frz_no{id:Id}{k:Nat}{es:List (List I)}(b:Blk)(h:b.no id=true):b.frz id k es=b:=by
 cases b with
 |cells c es'=>
  simp only[Blk.no,cD] at h
  simp only[Blk.frz]
  congr 1
  conv=>rhs;rw[<- List.map_id es']
  exact dS fun l hl=>C.frzL_no l (h l hl)
 |obj p cs=>simp only[Blk.frz,C.frzL_no cs h]
def FrzC(id:Id)(X:C->C->Prop)(c c':C):Prop:=(c'=c/\c.no id=true)\/X c c'
def XRow(id:Id)(n:Nat)(x:C):C->C->Prop:=fun c c'=>∃m,c=.own id 0 m/\m=n/\c'=x
def XBox(id:Id)(e:List I):C->C->Prop:=fun c c'=>∃o e',c=.ptr id 0 o/\dropF o e=some e'/\c'=.imm (.ipt e')
def FrzL(id:Id)(X:C->C->Prop):List C->List C->Prop
 |[],[]=>True
 |c::l,c'::l'=>FrzC id X c c'/\FrzL id X l l'
 |_,_=>False
def FrzT(id:Id)(X:C->C->Prop):T->T->Prop
 | .c c,.c c'=>FrzC id X c c'
 | .agg l,.agg l'=>FrzL id X l l'
 |t,t'=>t'=t/\t.no id=true
def aa2(id:Id)(X:C->C->Prop)(env:Env):Env->Prop
 |[]=>True
 |(t,c)::r=>(∃v,lookup t env=some v/\FrzT id X v c)/\aa2 id X env r
def FrzB(id:Id)(X:C->C->Prop):Ent->Ent->Prop
 | .dead,.dead=>True
 | .one (.cells k [e]),.one (.cells c [e'])=>c=k/\FrzL id X e e'
 | .one b,.one h=>h=b/\b.no id=true
 | .node m s,e'=>e'=.node m s/\∀(p:List Nat) (b:Blk),(Ent.node m s).sub p=some b->b.no id=true
 |_,_=>False
def FrzS(id:Id)(X:C->C->Prop):c9->c9->Prop
 |[],[]=>True
 |b::r,c::e=>FrzB id X b c/\FrzS id X r e
 |_,_=>False
section
variable {es:List (List I)}{id:Id}{k:Nat}{X:C->C->Prop}
def FrzC.eq(e:∀c c',X c c'->c.frz id k es=c'){c c':C}(h:FrzC id X c c'):c.frz id k es=c':=by rcases h with⟨rfl,h⟩|h;exact C.frz_no _ h;exact e _ _ h
def FrzL.eq(e:∀c c',X c c'->c.frz id k es=c'):∀{c c':List C},FrzL id X c c'->C.frzL id k es c=c'
 |[],[],_=>rfl
 |c::r,c'::j,h=>by rw[C.frzL,FrzC.eq e h.1,FrzL.eq e h.2]
 |[],_::_,h=>h.elim
 |_::_,[],h=>h.elim
def FrzT.eq(e:∀c c',X c c'->c.frz id k es=c'){t t':T}(h:FrzT id X t t'):t.frz id k es=t':=by
 cases t<;>cases t'<;>simp only[FrzT] at h<;>first
  |(simp only[T.frz,FrzC.eq e h];done)
  |(simp only[T.frz,FrzL.eq e h];done)
  |(obtain⟨h1,h2⟩:=h;cases h1;exact T.frz_no _ h2)
  |(obtain⟨h1,h2⟩:=h;cases h1)
def aa2.get(q:∀c c',X c c'->c.frz id k es=c'):∀{env':Env},aa2 id X env env'->∀t v,lookup t env'=some v->(lookup t env).map (fun v=>v.frz id k es)=some v
 |[],_,t,v,j=>by simp[lookup] at j
 |(t0,u)::r,h,t,v,j=>by simp only[lookup] at j;split at j;rename_i e;have:=cu e;subst this;cases j;obtain⟨z,h1,h2⟩:=h.1;rw[h1];simp only[cK,FrzT.eq q h2];exact aa2.get q h.2 t v j
def FrzB.get(j:∀c c',X c c'->c.frz id k es=c'){e e':Ent}(h:FrzB id X e e')(p:List Nat):(e.sub p).map (Blk.frz id k es)=e'.sub p:=by
 unfold FrzB at h;split at h;cases p<;>rfl;obtain⟨rfl,h2⟩:=h;cases p with
 |nil=>simp only[Ent.sub,cK,Blk.frz,df,List.map_nil,FrzL.eq j h2]
 |cons=>rfl
 obtain⟨rfl,h2⟩:=h;cases p with
 |nil=>simp only[Ent.sub,cK,Blk.frz_no _ h2]
 |cons=>rfl
 obtain⟨rfl,h2⟩:=h;cases q:(Ent.node _ _).sub p with
 |none=>rfl
 |some b=>simp only[cK,Blk.frz_no _ (h2 p b q)]
 exact h.elim
def FrzS.get(j:∀c c',X c c'->c.frz id k es=c'):∀{σ σ2:c9},FrzS id X σ σ2->∀i:Id,(σ[i]?).map (Option.map (Blk.frz id k es))=σ2[i]?
 |[],[],_,i=>rfl
 |[],_::_,h,_=>h.elim
 |_::_,[],h,_=>h.elim
 |e::r,e'::q,h,(0,p)=>by rw[c9.at_eq,c9.at_eq];simp only[c9.at,cw,cK,FrzB.get j h.1 p]
 |e::r,e'::q,h,(i+1,p)=>by have:=FrzS.get j h.2 (i,p);rw[c9.at_eq,c9.at_eq] at this ⊢;simpa[c9.at] using this
def FrzS.len:∀{σ σ2:c9},FrzS id X σ σ2->ez σ2=ez σ
 |[],[],_=>rfl
 |[],_::_,h=>h.elim
 |_::_,[],h=>h.elim
 |e::r,e'::c,h=>by simp[FrzS.len h.2]
def Sub.same{env:Env}{σ1 σ2:c9}(hl:ez σ2=ez σ1)(h:∀i:Id,σ1[i]? =σ2[i]?):Sub σ0 ⟨env,σ1⟩ ⟨env,σ2⟩:=fun e sz φ a w F c=>by
 have v:∀b,Al e.N φ σ1 b->Al e.N φ σ2 b:=fun b u=>⟨u.1,fun i blk base hi=>u.2 i blk base (by rw[h i];exact hi)⟩;have z:Kept w w φ φ σ1 σ2 (Al e.N φ σ1) (Al e.N φ σ2):=
  ⟨fun _ _ _=>rfl,fun b u _=>v b u,by omega,fun i k es _ B=>⟨es,by rw[h i];exact B,rfl,rfl,fun _ _ arr _ _ h2=>⟨arr,h2,rfl⟩⟩,fun i p cs _ B=>⟨rfl,p,cs,by rw[h i];exact B⟩⟩
 have E:Rs e σ2 φ w:={
  good:=c.good
  st:=⟨fun i b hi=>BlkR.mono z (fun _ _ _=>rfl) (c.st.blk i b (by dsimp only;rw[h i];exact hi)),fun i j J O p q hi U=>c.st.inj i j J O p q (by dsimp only;rw[h i];exact hi) (by dsimp only;rw[h j];exact U)⟩
  keep:=fun i blk b base hi=>c.keep i blk b base (by dsimp only;rw[h i];exact hi)
  os:=c.os
  tape:=c.tape
  drawn:=c.drawn
  output:=c.output
  size:=c.size
  block:=c.block
  kept:=Kept.trans c.size c.kept z}
 exact⟨φ,c.of z E⟩
def Sub.frzX{env2:Env}{σ1 σ2:c9}(u:∀c c',X c c'->c.frz id k es=c')(hid:cY (ez σ0) id.1=true)(q:σv[id]? =some (some (Blk.im k es)))(e:aa2 id X env env2)(h1:putF σv id none=some σ1)(h:FrzS id X σ1 σ2):Sub σ0 ⟨env,σv⟩ ⟨env2,σ2⟩:=by have h2:=A4 h1;subst h2;have hf:=Sub.frz (σ0:=σ0) (s:=⟨env,σv⟩) id k es (cH hid) q;have hs:Sub σ0 (St.frz ⟨env,σv⟩ id k es) ⟨env.map fun p=>(p.1,p.2.frz id k es),σ2⟩:=Sub.same (by rw[h.len];simp[St.frz]) (fun i=>by rw[<- FrzS.get u h i,c9.get_map]);refine(hf.trans hs).trans (fun _ _ φ _ _ _ j=>⟨φ,{toRs:=j.toRs,defers:=j.defers,asize:=j.asize,env:=fun t v ht=>j.env t v ?_}⟩);show lookup t (env.map fun p=>(p.1,p.2.frz id k es))=some v;rw[ak5 (fun v=>v.frz id k es)];exact aa2.get u e t v ht
end
def XRow.eq{α:Type}{f:α->List I}{l:List α}{id:Id}{k:Nat}:∀c c',XRow id (ez l) (row k f l) c c'->c.frz id k (l.map f)=c':=by rintro c c' ⟨m,rfl,rfl,rfl⟩;simp[C.frz,row,cL,G8.2 rfl]
def XBox.eq{e:List I}{id:Id}{k:Nat}:∀c c',XBox id e c c'->c.frz id k [e]=c':=by rintro c c' ⟨o,e',rfl,h,rfl⟩;rw[(an0 h).1];simp[C.frz,G8.2 rfl]
def Sub.frzV{α:Type}{f:α->List I}{l:List α}{id:Id}{k:Nat}{env2:Env}{σ1 σ2:c9}(hid:cY (ez σ0) id.1=true)(e:σv[id]? =some (some (vec k f l)))(c:aa2 id (XRow id (ez l) (row k f l)) env env2)(h1:putF σv id none=some σ1)(h:FrzS id (XRow id (ez l) (row k f l)) σ1 σ2):Sub σ0 ⟨env,σv⟩ ⟨env2,σ2⟩:=Sub.frzX XRow.eq hid e c h1 h
def AWP.frzV{α:Type}{f:α->List I}{l:List α}{id:Id}{k:Nat}{c:Code}{env2:Env}{σ1 σ2:c9}(hid:cY (ez σ0) id.1=true)(j:σv[id]? =some (some (vec k f l)))(e:aa2 id (XRow id (ez l) (row k f l)) env env2)(h1:putF σv id none=some σ1)(q:FrzS id (XRow id (ez l) (row k f l)) σ1 σ2)
  (h:AWP P σ0 sz c Q (St.mk env2 σ2)):AWP P σ0 sz c Q (St.mk env σv):=AWP.sub (Sub.frzV hid j e h1 q) h
def AOps.frzV{α:Type}{f:α->List I}{l:List α}{id:Id}{k:Nat}{env2:Env}{σ1 σ2:c9}(hid:cY (ez σ0) id.1=true)(e:σv[id]? =some (some (vec k f l)))(c:aa2 id (XRow id (ez l) (row k f l)) env env2)(h1:putF σv id none=some σ1)(j:FrzS id (XRow id (ez l) (row k f l)) σ1 σ2)
  (h:AOps P σ0 sz ops Q rest (St.mk env2 σ2)):AOps P σ0 sz ops Q rest (St.mk env σv):=AOps.sub (Sub.frzV hid e c h1 j) h
/-! ### nil -/
def Sub.virtV{α:Type}(k:Nat)(f:α->List I)(t:Nat){n:Id}(ht:lookup t env=some (.c (.imm (.val (.slice none 0 0)))))(h:newF σv=some n)(e:w8 σv (.one (vec k f []))=some σ'):Sub σ0 ⟨env,σv⟩ ⟨(t,.c (.own n 0 ([]:List α).length))::env,σ'⟩:=by have h1:=B2 h;have h2:=v7 e;subst h1 h2;exact Sub.virt (s:=⟨env,σv⟩) t k ht
def AWP.virtV{α:Type}{c:Code}(k:Nat)(f:α->List I)(t:Nat){n:Id}(ht:lookup t env=some (.c (.imm (.val (.slice none 0 0)))))(j:newF σv=some n)(e:w8 σv (.one (vec k f []))=some σ')
  (h:AWP P σ0 sz c Q (St.mk ((t,.c (.own n 0 ([]:List α).length))::env) σ')):AWP P σ0 sz c Q (St.mk env σv):=AWP.sub (Sub.virtV k f t ht j e) h
def Sub.nilrow(k:Nat)(t:Nat)(ht:lookup t env=some (.c (.imm (.val (.slice none 0 0))))):Sub σ0 ⟨env,σv⟩ ⟨(t,.c (.imm (.sl k [])))::env,σv⟩:=by intro B sz φ a w q h;refine⟨φ,{toRs:=h.toRs,defers:=h.defers,asize:=h.asize,env:= ?_}⟩;intro t' v j;simp only[lookup] at j;split at j;rename_i e;have:=cu e;subst this;cases j;obtain⟨u,z,hr⟩:=h.env _ _ ht;refine⟨u,z,?_⟩;rw[val_inv hr];exact .c (.imm .slNil);exact h.env t' v j
def AWP.nilrow{c:Code}(k:Nat)(t:Nat)(ht:lookup t env=some (.c (.imm (.val (.slice none 0 0)))))(h:AWP P σ0 sz c Q (St.mk ((t,.c (.imm (.sl k [])))::env) σv)):AWP P σ0 sz c Q (St.mk env σv):=AWP.sub (Sub.nilrow k t ht) h
/-! ### Lent to a call -/
mutual
inductive LendC(σ:c9):C->C->Prop
 |imm {x:I}:LendC σ (.imm x) (.imm x)
 |own {α:Type} {id:Id} {k n:Nat} {f:α->List I} {l:List α} (h:σ[id]? =some (some (vec k f l))) (hn:n=ez l):LendC σ (.own id 0 n) (row k f l)
 |nil {k:Nat}:LendC σ (.imm (.val (.slice none 0 0))) (.imm (.sl k []))
 |ptr {id:Id} {o k:Nat} {cs:List C} {es es':List I} (h:σ[id]? =some (some (.cells k [cs]))) (hd:dropF o es=some es') (hl:Q8 σ cs (es.map .imm)):LendC σ (.ptr id 0 o) (.imm (.ipt es'))
 |fn {f:FuncId} {caps caps':List C} (h:Q8 σ caps caps'):LendC σ (.fn f caps) (.fn f caps')
 |fnI {f:FuncId} {caps:List C} {caps':List I} (h:Q8 σ caps (caps'.map .imm)):LendC σ (.fn f caps) (.imm (.fn f caps'))
inductive Q8(σ:c9):List C->List C->Prop
 |nil:Q8 σ [] []
 |cons {c c':C} {l l':List C} (h:LendC σ c c') (hl:Q8 σ l l'):Q8 σ (c::l) (c'::l')
end
inductive LendT(σ:c9):T->T->Prop
 |c {x y:C} (h:LendC σ x y):LendT σ (.c x) (.c y)
 |agg {l l':List C} (h:Q8 σ l l'):LendT σ (.agg l) (.agg l')
inductive ak1(σ:c9):List T->List T->Prop
 |nil:ak1 σ [] []
 |cons {c c':T} {l l':List T} (h:LendT σ c c') (hl:ak1 σ l l'):ak1 σ (c::l) (c'::l')
def Cx.open(w:World):Cx:=⟨w,fun _=>False,fun _=>none,[]⟩
def good_open(w:World):Good (Cx.open w):=
 {st:=⟨fun i b hi=>by simp[Cx.open] at hi,fun i j c e p q hi=>by simp[Cx.open] at hi⟩,lt:=fun _ h=>h.elim,own:=fun i blk b base hi=>by simp[Cx.open] at hi}
def al_open(w:World)(b:Nat):Al (Cx.open w).N (fun _=>none) [] b:=⟨fun h=>h,fun i blk base hi=>by simp at hi⟩
def lend_own{Γ:Cx}{a:Act}{w:World}{φ:Phi}{α:Type}{id:Id}{k:Nat}{f:α->List I}{l:List α}(hR:R Γ sz ⟨env,σv⟩ φ a w)(h:σv[id]? =some (some (vec k f l))){u:Vl}(z:U3 w (φ id) k ((l.map f).map (·.map C.imm)).length 0 (ez l) u){A:Nat->Prop}(hA:∀b,A b):RelI w A (.sl k (l.map f)) u:=by
 have hs:Src σv k (.c (.own id 0 (ez l))) ((l.map f).map (·.map .imm)):=(SrcF.own h rfl).src;rcases z with⟨h1,h2,_,h4⟩|⟨b,base,cap,arr,ety,ad,hp,hv,O,B,E,ac,F,ai⟩;have:l=[]:=cz h4;subst this;subst h2;exact .slNil;obtain⟨arr',aa,J,ab,hk,U⟩:=G6 hR h hp;rw[F] at J;cases J;subst hv;have N:∀(j:Nat) (e:List I),(l.map f)[j]? =some e->((l.map f).map (·.map C.imm))[j]? =some (e.map .imm):=fun j e v=>by rw[lM,v];rfl
 have q:ez l=(l.map f).length:=by simp
 have key:∀(j:Nat) (e:List I) (o:Nat) (x:I),(l.map f)[j]? =some e->e[o]? =some x->∃u,arr[base+(j * k+o)]? =some u/\RelI w A x u:=fun j e o x v hx=>by obtain⟨u,z,hr⟩:=U j _ o (.imm x) (N j e v) (by rw[lM,hx];rfl);cases hr with|imm hr=>exact⟨u,z,hr.mono (fun _ _ _=>rfl) (fun b _ _=>hA b)⟩
 rw[q];refine .sl (fun j o=>(arr[base+(j * k+o)]?).getD Go.undef) (by rw[<- q];exact B) E (fun j e v=> ?_) (fun j e o x v hx=>⟨hA _,?_⟩) (fun j e o x v hx=> ?_);have:=hk j _ (N j e v);simpa using this;obtain⟨u,z,_⟩:=key j e o x v hx;have hj:j<ez l:=by rw[q];exact(lG.1 v).1
 rw[O (by omega),G3,U2 F];simp only[dA,cW];rw[z];rfl;obtain⟨u,z,hr⟩:=key j e o x v hx;rw[z];exact hr
mutual
theorem LendC.rel{U:Cx}{a:Act}{w:World}{φ:Phi}{σ':c9}{φ':Phi}{A:Nat->Prop}(B:R U sz ⟨env,σv⟩ φ a w)(z:∀b,A b):∀{c c':C},LendC σv c c'->∀{u:Vl},RelC w φ σv (Al U.N φ σv) c u->RelC w φ' σ' A c' u
 |_,_,.imm,u,h=>by cases h with|imm h=>exact .imm (h.mono (fun _ _ _=>rfl) (fun b _ _=>z b))
 |_,_,.own v hn,u,h=>by subst hn;cases h with|own _ _ h=>exact .imm (lend_own B v (h _ _ v) z)
 |_,_,.nil,u,h=>by cases h with|imm h=>cases h;exact .imm .slNil
 |_,_,.ptr (o:=o) (cs:=cs) (es:=es) v hd hl,u,h=>by
  obtain⟨h1,h2⟩:=an0 hd;subst h1;cases h with|ptr hid _ h=>
   obtain⟨b,base,hp,rfl⟩:=h _ _ v
   obtain⟨arr,ety,hb,aa,hk,F⟩:=G6 B v hp
   have key:∀(o:Nat) (x:I),es[o]? =some x->∃u,arr[base+o]? =some u/\RelI w A x u:=fun o x hx=>by obtain⟨c,hc,j⟩:=Q8.get B z (φ':=φ') (σ':=σ') hl o (.imm x) (by rw[lM,hx];rfl);obtain⟨u,E,hr⟩:=F 0 cs o c rfl hc;have:=j hr;cases this with|imm this=>exact⟨u,by simpa using E,this⟩
   refine .imm (.ipt (fun q=>(arr[base+(o+q)]?).getD Go.undef) (fun q x hx=>⟨z _,?_⟩) (fun q x hx=> ?_))
   ·rw[dW] at hx
    obtain⟨u,E,_⟩:=key _ x hx
    rw[G3,U2 hb]
    simp only[dA,cE,Nat.add_assoc]
    rw[E];rfl
   ·rw[dW] at hx
    obtain⟨u,E,hr⟩:=key _ x hx
    rw[E];exact hr
 |_,_,.fn (caps:=caps) (caps':=caps') hl,u,h=>by
  cases h with|fn us hr=>
   have e:ez caps'=ez caps:=Q8.len hl
   rw[<- e]
   refine .fn us fun i c hi=> ?_
   obtain⟨J,O,j⟩:=Q8.get B z (φ':=φ') (σ':=σ') hl i c hi
   exact j (hr i J O)
 |_,_,.fnI (caps:=caps) (caps':=caps') hl,u,h=>by
  cases h with|fn us hr=>
   have e:ez caps'=ez caps:=by have:=Q8.len hl;simpa using this
   rw[<- e]
   refine .imm (.fn us fun i c hi=> ?_)
   obtain⟨J,O,j⟩:=Q8.get B z (φ':=φ') (σ':=σ') hl i (.imm c) (by rw[lM,hi];rfl)
   have:=j (hr i J O)
   cases this with|imm this=>exact this
theorem Q8.get{e:Cx}{a:Act}{w:World}{φ:Phi}{σ':c9}{φ':Phi}{A:Nat->Prop}(j:R e sz ⟨env,σv⟩ φ a w)(q:∀b,A b):∀{l l':List C},Q8 σv l l'->∀(i:Nat) (c':C),l'[i]? =some c'->∃c,l[i]? =some c/\∀{u:Vl},RelC w φ σv (Al e.N φ σv) c u->RelC w φ' σ' A c' u
 |_,_,.nil,i,c',h=>by simp at h
 |_,_,.cons h hl,0,c',hi=>by simp only[cw,Option.some.injEq] at hi;subst hi;exact⟨_,rfl,fun hr=>LendC.rel j q h hr⟩
 |_,_,.cons h hl,i+1,c',hi=>by obtain⟨c,h1,h2⟩:=Q8.get j q (φ':=φ') (σ':=σ') hl i c' (by simpa using hi);exact⟨c,by simpa using h1,h2⟩
theorem Q8.len:∀{l l':List C},Q8 σv l l'->ez l'=ez l
 |_,_,.nil=>rfl
 |_,_,.cons h hl=>by simp[Q8.len hl]
end
def LendT.rel{j:Cx}{a:Act}{w:World}{φ:Phi}{σ':c9}{φ':Phi}{A:Nat->Prop}(q:R j sz ⟨env,σv⟩ φ a w)(v:∀b,A b){c c':T}(h:LendT σv c c'){u:Vl}(hr:RelT w φ σv (Al j.N φ σv) c u):RelT w φ' σ' A c' u:=by
 cases h with
 |c h=>cases hr with|c hr=>exact .c (h.rel q v hr)
 |@agg l l' h=>
  cases hr with|agg us hr=>
   have e:ez l'=ez l:=Q8.len (env:=env) (sz:=sz) h
   rw[<- e]
   refine .agg us fun i c hi=> ?_
   obtain⟨z,B,hl⟩:=h.get q v (φ':=φ') (σ':=σ') i c hi
   exact hl (hr i z B)
def ak1.get:∀{l l':List T},ak1 σv l l'->ez l'=ez l/\∀(i:Nat) (t':T),l'[i]? =some t'->∃t,l[i]? =some t/\LendT σv t t'
 |_,_,.nil=>⟨rfl,fun i t h=>by simp at h⟩
 |_,_,.cons h hl=>⟨by simp[(ak1.get hl).1],fun i t' hi=>by
   cases i with
   |zero=>
    simp only[cw,Option.some.injEq] at hi
    subst hi
    exact⟨_,rfl,h⟩
   |succ i=>simpa using(ak1.get hl).2 i t' (by simpa using hi)⟩
def C.scal:C->Bool
 | .imm (.val _)=>true
 |_=>false
def T.scal1:T->Bool
 | .c x=>x.scal
 | .agg cs=>cs.all C.scal
 |_=>false
def T.scal:T->Bool
 | .tup l=>l.all T.scal1
 |t=>t.scal1
def C.scal_rel{w w':World}{φ φ':Phi}{σ σ':c9}{A A':Nat->Prop}{c:C}{v:Vl}(hs:c.scal=true)(h:RelC w φ σ A c v):RelC w' φ' σ' A' c v:=by
 cases h with
 |imm h=>cases h with
  |val h=>exact .imm (.val h)
  |_=>simp[C.scal] at hs
 |_=>simp[C.scal] at hs
def agg_scal{w w':World}{φ φ':Phi}{σ σ':c9}{A A':Nat->Prop}{cs:List C}{v:Vl}(hs:cs.all C.scal=true)(h:RelT w φ σ A (.agg cs) v):RelT w' φ' σ' A' (.agg cs) v:=by
 cases h with|agg us hr=>
  rw[cD] at hs
  exact .agg us fun i c hi=>C.scal_rel (hs c (cF hi)) (hr i c hi)
def T.scal1_rel{w w':World}{φ φ':Phi}{σ σ':c9}{A A':Nat->Prop}{t:T}{v:Vl}(hs:t.scal1=true)(h:RelT w φ σ A t v):RelT w' φ' σ' A' t v:=by
 cases t with
 |c x=>cases h with|c h=>exact .c (C.scal_rel hs h)
 |agg cs=>exact agg_scal hs h
 |_=>cases hs
def T.scal_rel{w w':World}{φ φ':Phi}{σ σ':c9}{A A':Nat->Prop}{t:T}{v:Vl}(hs:t.scal=true)(h:RelT w φ σ A t v):RelT w' φ' σ' A' t v:=by
 cases t with
 |tup l=>
  have hs:l.all T.scal1=true:=hs
  rw[cD] at hs
  cases h with|tup us hr=>exact .tup us fun i t hi=>T.scal1_rel (hs t (cF hi)) (hr i t hi)
 |c x=>exact T.scal1_rel (t:=.c x) hs h
 |agg cs=>exact T.scal1_rel (t:=.agg cs) hs h
 |undef=>cases hs
def Rs.same{c:Cx}{σ:c9}{φ:Phi}{w w':World}(h:Rs c σ φ w)(q:w'.os=w.os)(ht:w'.tape=w.tape)(hdr:w.drawn<=w'.drawn)(ho:w'.output=w.output)(hs:w.heap.size<=w'.heap.size)(j:∀b,b<w.heap.size->w'.heap[b]? =w.heap[b]?):
  Kept w w' φ φ σ σ (Al c.N φ σ) (Al c.N φ σ)/\Rs c σ φ w':=by
 have u:Kept w w' φ φ σ σ (Al c.N φ σ) (Al c.N φ σ):=
  ⟨fun b _ hl=>j b hl,fun _ h _=>h,cU _,fun i k es hi v=>⟨es,v,rfl,rfl,fun b base arr ety hp h2=>⟨arr,(j b (Al.own_lt h.st v hp)).trans h2,rfl⟩⟩,fun _ p cs _ h=>⟨rfl,p,cs,h⟩⟩
 refine⟨u,?_⟩
 exact {
  good:=h.good
  st:=⟨fun i b hi=>BlkR.mono u (fun g base hp=>j g (Al.own_lt h.st hi hp)) (h.st.blk i b hi),h.st.inj⟩
  keep:=h.keep
  os:=q.trans h.os
  tape:=ht.trans h.tape
  drawn:=cZ h.drawn hdr
  output:=ho.trans h.output
  size:=cZ h.size hs
  block:=fun b e=>(j b (dF e.1 h.size)).trans (h.block b e)
  kept:=Kept.trans h.size h.kept u}
def AOps.callL{x:Od}{q:List Od}{ats:Array Ti}{f:FuncId}{caps:List C}{ts z:List T}{r:T}(hx:ev env x=some (.c (.fn f caps)))(U:evs env q=some ts)(hl:ak1 σv (ts++caps.map T.c) z)(hd:j6 sz dst=true)
  (hf:j9 P f z r) (hr:r.scal=true) (h:AOps P σ0 sz ops Q rest (St.mk (putE env dst r) σv)):
  AOps P σ0 sz ops Q (⟨dst,.call ⟨.value x,q.toArray,ats⟩,ty,pos,after,none⟩::rest) (St.mk env σv):=fun Γ φ a w F E ro=>by
  obtain⟨vs,h1,h2,h3⟩:=aq5 (P:=P) (dst:=dst) (ty:=ty) (pos:=pos) (after:=after) (ats:=ats) E hx U hf.fn
  obtain⟨l1,l2⟩:=hl.get
  refine Y2 rfl (at4 h1 ?_)
  refine(hf.run (Cx.open w) vs rfl (good_open w) (by rw[l1];exact h2) (fun i t u hi hu=> ?_)).mono ?_
  ·obtain⟨t0,J,j⟩:=l2 i t hi
   exact j.rel E (al_open w) (h3 i t0 u J hu)
  ·rintro e w' ⟨v,r',σ',φ',rfl,hq,B,hs⟩
   subst hq
   obtain⟨N,O⟩:=E.toRs.same hs.os hs.tape hs.drawn hs.output hs.size (fun b hb=>hs.block b ⟨hb,fun i blk base hi=>by simp[Cx.open] at hi⟩)
   exact h Γ φ _ w' F ((E.of N O).put hd (T.scal_rel hr B)) ro
/-! ### New rows handed back -/
def S.fresh{α:Type}{g:α->List I}{l:List α}{x:Od}{e:List Od}{ats:Array Ti}{f:FuncId}{caps:List C}{ts:List T}{k:Nat}{n:Id}(hx:ev env x=some (.c (.fn f caps)))(u:evs env e=some ts)(j:T.okL 0 (ts++caps.map T.c)=true)(hd:j6 sz dst=true)
  (hf:v6 P f (ts++caps.map T.c) k (l.map g)) (v:newF σv=some n) (q:w8 σv (.one (vec k g l))=some σ') (h:AOps P σ0 sz ops Q rest (St.mk (putE env dst (.c (.own n 0 (ez l)))) σ')):
  AOps P σ0 sz ops Q (⟨dst,.call ⟨.value x,e.toArray,ats⟩,ty,pos,after,none⟩::rest) (St.mk env σv):=by
 have h1:=B2 v;have h2:=v7 q
 subst h1 h2
 exact .fresh hx u j hd hf (by rw[cV];exact h)
def Fresh.mk{α:Type}{g:α->List I}{l:List α}{id:Id}{k n:Nat}{σ:c9}(j:n=ez l)(h:σ[id]? =some (some (vec k g l))):∃e,(T.c (.own id 0 n))=.c (.own e 0 (l.map g).length)/\σ[e]? =some (some (Blk.im k (l.map g))):=
 ⟨id,by rw[cV,j],h⟩
def FrzL.imm{id:Id}{X:C->C->Prop}:∀l:List I,FrzL id X (l.map .imm) (l.map .imm)
 |[]=>trivial
 |_::r=>⟨.inl ⟨rfl,rfl⟩,FrzL.imm r⟩
def FrzB.vec{α:Type}{f:α->List I}{l:List α}{id:Id}{k:Nat}{X:C->C->Prop}:FrzB id X (.one (vec k f l)) (.one (vec k f l)):=by
 have h:=Blk.im_no id k (l.map f);unfold FrzB;split;rename_i h1 _;cases h1;rename_i k1 e q e' h1 h2;simp only[vec,Blk.im,Ent.one.injEq,Blk.cells.injEq] at h1 h2;obtain⟨rfl,h1⟩:=h1;obtain⟨rfl,h2⟩:=h2;have:e=e':=by rw[h1] at h2;simpa using h2
 subst this;refine⟨rfl,?_⟩;obtain⟨a,rfl⟩:∃a,l=[a]:=by
  cases l with
  |nil=>simp at h1
  |cons a l=>cases l with
   |nil=>exact⟨a,rfl⟩
   |cons b l=>simp at h1
 simp only[df,List.map_nil,List.cons.injEq,and_true] at h1;rw[<- h1];exact FrzL.imm _;rename_i h1 h2;cases h1;cases h2;exact⟨rfl,h⟩;rename_i h1;cases h1;rename_i h1 h2 c j;first|exact(c _ _ rfl rfl).elim|exact(j _ _ rfl rfl).elim|exact(h2 _ _ rfl rfl).elim
/-! ### nil where data is asked -/
def NilC(c c':C):Prop:=c'=c\/(c=.imm (.val (.slice none 0 0))/\∃k,c'=.imm (.sl k []))
def NilL:List C->List C->Prop
 |[],[]=>True
 |c::l,c'::l'=>NilC c c'/\NilL l l'
 |_,_=>False
def NilT:T->T->Prop
 | .c c,.c c'=>NilC c c'
 | .agg l,.agg l'=>NilL l l'
 |t,t'=>t'=t
def NilTs:List T->List T->Prop
 |[],[]=>True
 |c::l,c'::l'=>NilT c c'/\NilTs l l'
 |_,_=>False
def NilC.rel{w:World}{φ:Phi}{σ:c9}{A:Nat->Prop}{c c':C}{u:Vl}(h:NilC c c')(hr:RelC w φ σ A c u):RelC w φ σ A c' u:=by rcases h with rfl|⟨rfl,k,rfl⟩;exact hr;cases hr with|imm hr=>cases hr;exact .imm .slNil
def NilL.get{w:World}{φ:Phi}{σ:c9}{A:Nat->Prop}:∀{l l':List C},NilL l l'->ez l'=ez l/\∀(i:Nat) (c':C),l'[i]? =some c'->∃c,l[i]? =some c/\∀u,RelC w φ σ A c u->RelC w φ σ A c' u
 |[],[],_=>⟨rfl,fun i c h=>by simp at h⟩
 |[],_::_,h=>h.elim
 |_::_,[],h=>h.elim
 |c::l,c'::l',h=>⟨by simp[(NilL.get (w:=w) (φ:=φ) (σ:=σ) (A:=A) h.2).1],fun i x hi=>by
   cases i with
   |zero=>
    simp only[cw,Option.some.injEq] at hi
    subst hi
    exact⟨c,rfl,fun u e=>h.1.rel e⟩
   |succ i=>simpa using(NilL.get (w:=w) (φ:=φ) (σ:=σ) (A:=A) h.2).2 i x (by simpa using hi)⟩
def NilT.rel{w:World}{φ:Phi}{σ:c9}{A:Nat->Prop}{t t':T}{u:Vl}(h:NilT t t')(hr:RelT w φ σ A t u):RelT w φ σ A t' u:=by
 cases t<;>cases t'<;>simp only[NilT] at h<;>first
  |(cases hr with|c hr=>exact .c (h.rel hr))
  |(cases hr with|agg us hr=>
    obtain⟨h1,h2⟩:=h.get (w:=w) (φ:=φ) (σ:=σ) (A:=A)
    rw[<- h1]
    exact .agg us fun i c hi=>by obtain⟨e,j,q⟩:=h2 i c hi;exact q _ (hr i e j))
  |(cases h;exact hr)
  |(cases h)
def NilTs.get:∀{l l':List T},NilTs l l'->ez l'=ez l/\∀(i:Nat) (t':T),l'[i]? =some t'->∃t,l[i]? =some t/\NilT t t'
 |[],[],_=>⟨rfl,fun i c h=>by simp at h⟩
 |[],_::_,h=>h.elim
 |_::_,[],h=>h.elim
 |c::l,c'::l',h=>⟨by simp[(NilTs.get h.2).1],fun i x hi=>by
   cases i with
   |zero=>
    simp only[cw,Option.some.injEq] at hi
    subst hi
    exact⟨c,rfl,h.1⟩
   |succ i=>simpa using(NilTs.get h.2).2 i x (by simpa using hi)⟩
def FnOk.nil{f:FuncId}{ts c:List T}{σ:c9}{j:T->c9->Prop}(h:NilTs ts c)(hf:FnOk P f c σ j):FnOk P f ts σ j:=
 ⟨hf.fn,fun q vs e v hl hr=>by obtain⟨h1,h2⟩:=h.get;refine hf.run q vs e v (by rw[h1];exact hl) (fun i t u hi z=> ?_);obtain⟨t0,B,E⟩:=h2 i t hi;exact E.rel (hr i t0 u B z)⟩
def j9.nil{f:FuncId}{ts c:List T}{r:T}(h:NilTs ts c)(hf:j9 P f c r):j9 P f ts r:=FnOk.nil h hf
def v6.nil{f:FuncId}{ts c:List T}{k:Nat}{es:List (List I)}(h:NilTs ts c)(hf:v6 P f c k es):v6 P f ts k es:=FnOk.nil h hf
def v6.data{f:FuncId}{ts:List T}{k:Nat}{es:List (List I)}(hf:v6 P f ts k es):j9 P f ts (.c (.imm (.sl k es))):=by
 unfold v6 at hf;unfold j9;refine⟨hf.fn,fun B vs h F hl hr=>(hf.run B vs h F hl hr).mono ?_⟩;rintro e w ⟨v,r,σ',φ',rfl,⟨id,rfl,hid⟩,j,hs⟩;have J:R B 1 ⟨[(0,.c (.own id 0 (ez es)))],σ'⟩ φ' ⟨#[v],[]⟩ w:=
  {toRs:=hs,defers:=.nil,asize:=rfl,env:=fun t x ht=>by simp only[lookup] at ht;split at ht;rename_i e;have:=cu e;subst this;cases ht;exact⟨v,rfl,j⟩;cases ht}
 obtain⟨q,z⟩:=Sub.frz (σ0:=[]) id k es (eu _) hid B 1 φ' _ w h J;obtain⟨u,N,E⟩:=z.env 0 (.c (.imm (.sl k es))) (by simp[St.frz,lookup,T.frz,C.frz,G8.2 rfl]);cases N;exact⟨v,_,_,q,rfl,rfl,E,z.toRs⟩
def okL_app{ts:List T}{e:List C}(h1:T.okL 0 ts=true)(h2:C.okL 0 e=true):T.okL 0 (ts++e.map T.c)=true:=by rw[aq9,cD] at h1 ⊢;rw[K6,cD] at h2;intro x hx;rw[List.mem_append,dV] at hx;rcases hx with hx|⟨c,h,rfl⟩;exact h1 x hx;exact h2 c h
def Sub.look{env env':Env}(h:∀t v,lookup t env'=some v->lookup t env=some v):Sub σ0 ⟨env,σv⟩ ⟨env',σv⟩:=fun _ _ φ _ _ _ c=>
 ⟨φ,{toRs:=c.toRs,defers:=c.defers,asize:=c.asize,env:=fun t v ht=>c.env t v (h t v ht)}⟩
end
end Ab
end
section
namespace Ab
open Go
def flat_get{α:Type}{k:Nat}:∀{l:List (List α)},(∀e ∈ l,ez e=k)->∀(j:Nat) (e:List α) (o:Nat) (x:α),l[j]? =some e->e[o]? =some x->l.flatten[j * k+o]? =some x
 |[],_,j,e,o,x,h,_=>by simp at h
 |a::l,hk,0,e,o,x,h,hx=>by simp only[cw,Option.some.injEq] at h;subst h;rw[dH,dA,cE,cG (lG.1 hx).1];exact hx
 |a::l,hk,j+1,e,o,x,h,hx=>by have c:=hk a (by simp);have:=flat_get (l:=l) (fun e q=>hk e (List.mem_cons_of_mem _ q)) j e o x (by simpa using h) hx;rw[dH,cS,Nat.one_mul,cJ (by rw[c];omega),c];rw[show j * k+k+o - k=j * k+o by omega];exact this
def zrep_get{α:Type}{c:List α}(hz:0<ez c):∀(n i:Nat),i<n * (ez c)->(du n c).flatten[i]? =c[i % (ez c)]?
 |0,i,h=>by simp at h
 |n+1,i,h=>by rw[List.replicate_succ,dH];by_cases hi:i<ez c;rw[cG hi,Nat.mod_eq_of_lt hi];rw[cJ (by omega),zrep_get hz n _ (by rw[cS] at h;omega)];congr 1;rw[<- Nat.mod_eq_sub_mod (by omega)]
def NilLL:List (List C)->List (List C)->Prop
 |[],[]=>True
 |c::l,c'::l'=>NilL c c'/\NilLL l l'
 |_,_=>False
def NilLL.get:∀{l l':List (List C)},NilLL l l'->ez l'=ez l/\∀(i:Nat) (c':List C),l'[i]? =some c'->∃c,l[i]? =some c/\NilL c c'
 |[],[],_=>⟨rfl,fun i c h=>by simp at h⟩
 |[],_::_,h=>h.elim
 |_::_,[],h=>h.elim
 |c::l,c'::l',h=>⟨by simp[(NilLL.get h.2).1],fun i x hi=>by
   cases i with
   |zero=>
    simp only[cw,Option.some.injEq] at hi
    subst hi
    exact⟨c,rfl,h.1⟩
   |succ i=>simpa using(NilLL.get h.2).2 i x (by simpa using hi)⟩
def NilL.len:∀{l l':List C},NilL l l'->ez l'=ez l
 |[],[],_=>rfl
 |[],_::_,h=>h.elim
 |_::_,[],h=>h.elim
 |c::l,c'::l',h=>by simp[NilL.len h.2]
def lens(k:Nat):List (List C)->Bool
 |[]=>true
 |e::r=>cA (ez e) k && lens k r
def lens_mem{k:Nat}:∀{l:List (List C)},lens k l=true->∀e ∈ l,ez e=k
 |[],_,e,h=>by simp at h
 |a::l,h,e,c=>by simp only[lens,cy] at h;simp only[dx] at c;rcases c with rfl|c;exact cu h.1;exact lens_mem h.2 e c
section
variable {P:Program}{σ0:c9}{sz:Nat}{Q:Post}{env env':Env}{σv σ':c9}{ops:Array Oper}{rest:List Oper}{dst:Option Nat}{ty:Ti}{pos:String}{after:Array Edge}
theorem S.lit {α : Type} {f : α -> List I} {l : List α} {t e : Ti} {id : Id} {k bytes n : Nat} {z : Vl} {zc : List C} {parts : List (Nat × Od)} {ps : List (Nat × T)} {ess : List (List C)} [ht : TyD P t (.slice e)] [hs : TyS P e k bytes z] [hz : TyZ P e zc]
    (hl : cA (ez zc) k = true) (hkp : cQ 0 k = true) (hsm : cY (n * k) 16777216 = true) (hps : evP env parts = some ps) (hf : fillC (fun i => some (i * k, k)) (du n zc).flatten ps = some ess.flatten) (hlen : lens k ess = true) (hn : cA (ez ess) n = true)
    (hnil : NilLL ess ((l.map f).map (·.map .imm))) (hid : newF σv = some id) (hσ : w8 σv (.one (vec k f l)) = some σ') (hd : j6 sz dst = true)
    (h : AOps P σ0 sz ops Q rest (St.mk (putE env dst (.c (.own id 0 (ez l)))) σ')) : AOps P σ0 sz ops Q (⟨dst, .buildSlice t n parts.toArray, ty, pos, after, none⟩ :: rest) (St.mk env σv) := by
  have g1 := B2 hid; have g2 := v7 hσ
  subst g1 g2
  have hl' : (ez zc) = k := cu hl
  have hk0 : 0 < k := by simpa using hkp
  have hn' : (ez ess) = n := cu hn
  have hsm' : ¬ (16777216 < n * k) := by have : n * k <= 16777216 := cH hsm
                                         omega
  have hle := lens_mem hlen
  obtain ⟨nl1, nl2⟩ := hnil.get
  have hll : (ez l) = n := by simpa [hn'] using nl1
  have main : AOps P σ0 sz ops Q rest (St.mk (putE env dst (.c (.own (ez σv, []) 0 n))) (σv ++ [.one (.cells k ess)])) := by
    have hset : c9.put (σv ++ [.one (Blk.cells k ess)]) (ez σv, []) (some (.cells k ((l.map f).map (·.map .imm)))) = σv ++ [.one (vec k f l)] := c9.put_last _ _ σv
    have hsub := Sub.blk (σ0 := σ0) (env := putE env dst (.c (.own (ez σv, []) 0 n))) (σv := σv ++ [.one (Blk.cells k ess)]) (id := (ez σv, [])) (k := k) (es := ess) (es' := (l.map f).map (·.map .imm)) (c9.get_last _ _) nl1
      (fun j e he => by
        obtain ⟨c, hc, hh⟩ := nl2 j e he
        rw [hh.len, hle c (cF hc)]) (fun j e o x he hx => by
        obtain ⟨c, hc, hh⟩ := nl2 j e he
        have hh' : ∀ w φ σ A, _ := fun w φ σ A => (NilL.get (w := w) (φ := φ) (σ := σ) (A := A) hh).2 o x hx
        have ho : o < (ez c) := by rw [<- hh.len]; exact (lG.1 hx).1
        refine ⟨c, c[o], hc, cC ho, fun w φ σ A u hu => ?_⟩
        obtain ⟨c0, h1, h2⟩ := hh' w φ σ A
        rw [cC ho] at h1
        cases h1
        exact h2 u hu)
    rw [hset] at hsub
    rw [hll] at h
    exact AOps.sub hsub h
  refine AOps.valueW rfl hd (.c (.own (ez σv, []) 0 n)) (σv ++ [.one (.cells k ess)]) (fun Γ φ a w hR => ?_) (by cases dst <;> exact main)
  obtain ⟨e1, e2⟩ := ar0 hR hps
  obtain ⟨size', bytes', z', v, hs', k1, k2⟩ := hz.h
  have hzz : z' = z := by
    obtain ⟨i, a1, _, _, a4⟩ := hs.h
    obtain ⟨i', b1, _, _, b4⟩ := hs'.h
    rw [a1] at b1; cases b1
    rw [a4] at b4; cases b4; rfl
  subst hzz
  obtain ⟨zr1, zr2⟩ := R4 (w := w) (φ := φ) (σ := σv) (A := Al Γ.N φ σv) (Y9 k1) k2
  have hbase : ∀ base, base = (Array.range (n * k)).map (fun i => (if n * k = 0 then (#[] : Array Vl) else z'.cells)[i % (if n * k = 0 then (#[] : Array Vl) else z'.cells).size]!) -> RelL w φ σv (Al Γ.N φ σv) (du n zc).flatten base := by
    rintro base rfl
    refine ⟨by simp [hl'], fun i c hi => ?_⟩
    have hin : i < n * k := by
      have := (lG.1 hi).1
      simpa [hl'] using this
    have hne : ¬ n * k = 0 := by omega
    rw [zrep_get (by omega) n i (by rw [hl']; exact hin), hl'] at hi
    obtain ⟨u, hu, hr⟩ := zr2 _ c hi
    refine ⟨u, ?_, hr⟩
    have hzs : z'.cells.size = k := by rw [zr1, hl']
    have hlt : i % k < z'.cells.size := by rw [hzs]; exact Nat.mod_lt _ hk0
    simp only [if_neg hne, Array.getElem?_map, Array.getElem?_range, hzs, hin, if_true, cK]
    rw [dI hlt] at hu
    simp [getElem!_pos, hlt, Option.some.inj hu]
  obtain ⟨arr', f1, f2⟩ := al2 (w := w) e1 e2 (hbase _ rfl) hf
  have hfl : (ez ess.flatten) = n * k := by
    rw [List.length_flatten]
    have : ess.map ez = du n k := by
      rw [<- hn']
      apply dp
      intro i
      rw [lM, List.getElem?_replicate]
      by_cases hi : i < (ez ess)
      · rw [if_pos hi, cC hi]
        simp only [cK]
        rw [hle _ (dJ hi)]
      · rw [if_neg hi, cX (by omega)]; rfl
    rw [this, List.sum_replicate_nat]
  have hA := Rs.alloc (k := k) (es := ess) (arr := arr') (ety := e) hR.toRs (fun j e he => hle e (cF he)) (by rw [f2.1, hfl, hn']; exact cU _) (fun j e o x he hx => f2.2 _ x (flat_get hle j e o x he hx))
  have hnm : n <= maxLen := by
    have : n * 1 <= n * k := Nat.mul_le_mul_left _ hk0
    simp only [maxLen]; omega
  have hnle : 0 + n <= (ez ess) := by omega
  refine ⟨.slice (some ⟨w.heap.size, 0, none⟩) n n, _, _, ?_, P3 (k := k) (es := ess) (c9.get_last _ _) rfl (.inr ⟨w.heap.size, 0, n, arr', e, ⟨w.heap.size, 0, none⟩, by simp [w9], rfl, fun _ => by simp, cU _, hnm, hnle, heap_alloc_new w _, by rw [f2.1, hfl]; simp⟩), hR.of hA.1 hA.2⟩
  have e3 : (execOp a.eval ⟨dst, .buildSlice t n parts.toArray, ty, pos, after, none⟩).run P w = ((Instr.buildSlice t n (parts.map fun p => (p.1, a.eval p.2)).toArray).run P w).andThen fun v w => .ok (.value v) w := by
    simp [execOp]
  rw [e3]
  by_cases h0 : n * k = 0
  · simp only [h0, if_true] at f1
    simp [Instr.buildSlice, run_underlying ht.h, s9 (t := e), h0, newRow]
    simp at f1
    rw [f1]
    simp
  · simp only [if_neg h0] at f1
    have hz2 : (zeroValue e).run P w = .ok z' w := H4 (t := e) w
    simp [Instr.buildSlice, run_underlying ht.h, s9 (t := e), hz2, h0, hsm', newRow]
    try simp at f1
    rw [f1]
    simp
end
end Ab
end
section
namespace Ab
open Go
section
variable {α:Type}
def hdr(id:Id)(M:List (List α)):List (List C):=M.mapIdx fun p row=>[.own (id.1,id.2++[p]) 0 (ez row)]
def mat(id:Id)(k:Nat)(f:α->List I)(M:List (List α)):Ent:=.node (some (.cells 1 (hdr id M))) (M.map fun row=>.one (vec k f row))
def hdr_some{id:Id}{M:List (List α)}{p:Nat}{e:List C}(h:(hdr id M)[p]? =some e):∃row,M[p]? =some row/\e=[.own (id.1,id.2++[p]) 0 (ez row)]:=by simp only[hdr,dP,oM] at h;obtain⟨row,h1,h2⟩:=h;exact⟨row,h1,h2.symm⟩
@[simp] theorem hdr_length (id:Id) (M:List (List α)):(hdr id M).length=ez M:=by simp[hdr]
def mat_main{id:Id}{k:Nat}{f:α->List I}{M:List (List α)}:(mat id k f M).sub []=some (.cells 1 (hdr id M)):=rfl
def mat_row{id:Id}{k:Nat}{f:α->List I}{M:List (List α)}{p:Nat}{q:List Nat}:(mat id k f M).sub (p::q)=match M[p]? with|some row=>(match q with|[]=>some (vec k f row)|_::_=>none)|none=>none:=by
 simp only[mat,Ent.sub,lM];cases M[p]? with
 |none=>rfl
 |some row=>cases q<;>rfl
end
def w7{σ:c9}{r:Nat}{e:Ent}(h:σ[r]? =some e)(p:List Nat):σ[((r,p):Id)]? =some (e.sub p):=by
 rw[c9.at_eq];simp only[c9.at,h]
section
variable {P:Program}{σ0:c9}{sz:Nat}{Q:Post}{env env':Env}{σv σ':c9}{ops:Array Oper}{rest:List Oper}{dst:Option Nat}{ty:Ti}{pos:String}{after:Array Edge}
variable {α:Type}{f:α->List I}{M:List (List α)}{k r:Nat}
/-! ### Reading -/
/-! ### A row written -/
def set_ent{σ:c9}{r:Nat}{e e':Ent}(h:σ[r]? =some e)(i:Id):(σ.set r e')[i]? =if i.1=r then some (e'.sub i.2) else σ[i]? :=by have hr:=(lG.1 h).1;rw[c9.at_eq,c9.at_eq];simp only[c9.at,eh];by_cases hi:r=i.1;subst hi;simp[hr];rw[if_neg hi,if_neg (fun e=>hi e.symm)]
/-! ### Appended to a row -/
/-! ### A row made anew takes its place -/
def K4{n:Nat}{β:Type}{g:β->List I}{l:List β}{k:Nat}:(vec k g l).ok n=true:=Blk.im_ok _ _ _
def hdr_ok{n:Nat}(hr:r<n)(M:List (List α)):(Blk.cells 1 (hdr (r,[]) M)).ok n=true:=by simp only[Blk.ok,cD];intro e c;obtain⟨j,h⟩:=dw c;obtain⟨row,_,rfl⟩:=hdr_some h;simp[C.okL,C.ok,hr]
structure MatAt(σ:c9)(r k:Nat)(f:α->List I)(M:List (List α))(p:Nat)(n:Id)(m:Nat):Prop where
 main:σ[((r,[]):Id)]? =some (some (.cells 1 ((hdr (r,[]) M).set p [.own n 0 m])))
 rows:∀(q:Nat) (row:List α),q ≠ p->M[q]? =some row->σ[((r,[q]):Id)]? =some (some (vec k f row))
/-! ### Made -/
/-! ### The whole ceases to change -/
def rowless(r:Nat):C->Bool
 | .imm _=>true
 | .own i _ _=> !(cA i.1 r)||(match i.2 with|[]=>true|_=>false)
 | .ptr i _ _=> !(cA i.1 r)||(match i.2 with|[]=>true|_=>false)
 | .fn _ []=>true
 | .fn _ [.ptr i _ _]=> !(cA i.1 r)
 | .fn _ [.ptr i _ _,.ptr j _ _]=> !(cA i.1 r) && !(cA j.1 r)
 | .fn _ [.ptr i _ _,.ptr j _ _,.ptr l _ _]=> !(cA i.1 r) && !(cA j.1 r) && !(cA l.1 r)
 |_=>false
def rowless_no{r q:Nat}{c:C}(h:rowless r c=true):c.no (r,[q])=true:=by
 have j:∀{i:Id},(!(cA i.1 r))=true->idb i (r,[q])=false:=fun {i} hi=>E3 (fun e=>by subst e;simp at hi);unfold rowless at h;split at h;rfl;rename_i i _ _;simp only[dC] at h;rcases h with h|h;simp[C.no,j h];obtain⟨a,l⟩:=i;cases l with
 |nil=>simp[C.no,idb,lbeq]
 |cons=>simp at h
 rename_i i _ _;simp only[dC] at h;rcases h with h|h;simp[C.no,j h];obtain⟨a,l⟩:=i;cases l with
 |nil=>simp[C.no,idb,lbeq]
 |cons=>simp at h
 rfl;simp[C.no,C.noL,j h];simp only[cy] at h;simp[C.no,C.noL,j h.1,j h.2];simp only[cy] at h;simp[C.no,C.noL,j h.1.1,j h.1.2,j h.2];cases h
def ay3(r:Nat):List C->Bool
 |[]=>true
 |c::l=>rowless r c && ay3 r l
def rowlessL_no{r q:Nat}:∀{l:List C},ay3 r l=true->C.noL (r,[q]) l=true
 |[],_=>rfl
 |c::l,h=>by simp only[ay3,cy] at h;simp only[C.noL,rowless_no h.1,rowlessL_no h.2,Bool.and_self]
def rowlessT(r:Nat):T->Bool
 | .c c=>rowless r c
 | .agg l=>ay3 r l
 | .undef=>true
 | .tup _=>false
def al9(r:Nat):Env->Bool
 |[]=>true
 |(_,v)::l=>rowlessT r v && al9 r l
def rowlessT_no{r q:Nat}{t:T}(h:rowlessT r t=true):t.no (r,[q])=true:=by
 cases t with
 |c c=>exact rowless_no h
 |agg l=>exact rowlessL_no h
 |tup=>cases h
 |undef=>rfl
def aA9{r:Nat}:∀{env:Env},al9 r env=true->∀t v,lookup t env=some v->rowlessT r v=true
 |[],_,t,v,h=>by simp[lookup] at h
 |(k,x)::l,h,t,v,c=>by simp only[al9,cy] at h;simp only[lookup] at c;split at c;cases c;exact h.1;exact aA9 h.2 t v c
def ah5(r:Nat)(σ:c9):Prop:=∀(i:Id) (b:Blk),i.1 ≠ r->σ[i]? =some (some b)->∀q,b.no (r,[q])=true
end
end Ab
end
section
namespace Ab
open Go
def shrW(k:IntKind)(a b:Int):Int:=a.fdiv (2 ^ (min b.toNat k.bits))
section
variable {α:Type}
def ab2{r k:Nat}{f:α->List I}{M:List (List α)}{p:List Nat}{b:Blk}(h:(mat (r,[]) k f M).sub p=some b):(p=[]/\b=.cells 1 (hdr (r,[]) M))\/(∃q row,p=[q]/\M[q]? =some row/\b=vec k f row):=by
 cases p with
 |nil=>cases h;exact .inl ⟨rfl,rfl⟩
 |cons a q=>
  rw[mat_row] at h
  split at h
  ·rename_i row hr
   cases q with
   |nil=>cases h;exact .inr ⟨a,row,rfl,hr,rfl⟩
   |cons=>cases h
  ·cases h
def hdr_no{r:Nat}{M:List (List α)}{id:Id}(h:id.1 ≠ r):(Blk.cells 1 (hdr (r,[]) M)).no id=true:=by simp only[Blk.no,cD];intro e c;obtain⟨j,q⟩:=dw c;obtain⟨row,_,rfl⟩:=hdr_some q;have:idb (r,[j]) id=false:=E3 (fun e=>h (by rw[<- e]));simp[C.noL,C.no,this]
def EntOk.mat{n r k:Nat}{f:α->List I}{M:List (List α)}(h:cQ r n=true):EntOk n (mat (r,[]) k f M):=by
 have hr:r<n:=by simp[cQ] at h;omega
 intro p b c;rcases ab2 c with⟨rfl,rfl⟩|⟨q,row,rfl,_,rfl⟩;exact hdr_ok hr M;exact K4
def FrzB.mat{r k:Nat}{f:α->List I}{M:List (List α)}{id:Id}{X:C->C->Prop}(h:cA id.1 r=false):FrzB id X (mat (r,[]) k f M) (mat (r,[]) k f M):=by
 have hr:id.1 ≠ r:=fun e=>by simp[e] at h
 refine⟨rfl,fun p b c=> ?_⟩;rcases ab2 c with⟨rfl,rfl⟩|⟨q,row,rfl,_,rfl⟩;exact hdr_no hr;exact Blk.im_no _ _ _
def z7.mat{r k m:Nat}{f:α->List I}{M:List (List α)}{id n:Id}{σ:c9}(h:cA id.1 r=false)(hr:cQ r m=true)(j:σ[r]? =some (mat (r,[]) k f M)):z7 id n σ m r (mat (r,[]) k f M):=by
 have c:id.1 ≠ r:=fun e=>by simp[e] at h
 have u:r<m:=by simp[cQ] at hr;omega
 intro p b v;have z:mv id n (r,p)=(r,p):=by have:(r,p) ≠ id:=fun e=>c (by rw[<- e]);simp[mv,E3 this]
 rw[z,w7 j,show(Ab.mat (r,[]) k f M).sub p=some b from v];rcases ab2 v with⟨rfl,rfl⟩|⟨q,row,rfl,_,rfl⟩;exact⟨hdr_ok u M,by rw[Blk.ren_no _ (hdr_no c)]⟩;exact⟨K4,by rw[Blk.im_ren]⟩
end
section
variable {P:Program}{σ0:c9}{sz:Nat}{Q:Post}{env env':Env}{σv σ':c9}{ops:Array Oper}{rest:List Oper}{dst:Option Nat}{ty:Ti}{pos:String}{after:Array Edge}
variable {α:Type}{f:α->List I}{M:List (List α)}{k r:Nat}
inductive OthE(n r p:Nat):Nat->Option Ent->Ent->Prop
 |self {a b}:OthE n r p r a b
 |dead {j a}:OthE n r p j a .dead
 |one {j b} (h1:b.ok n=true) (h2:b.no (r,[p])=true):OthE n r p j (some (.one b)) (.one b)
 |vec {j} {β:Type} {k:Nat} {g:β->List I} {l:List β}:OthE n r p j (some (.one (vec k g l))) (.one (vec k g l))
 |mat {j} {β:Type} {k:Nat} {g:β->List I} {l:List (List β)} (h1:cA r j=false) (h2:cQ j n=true):OthE n r p j (some (mat (j,[]) k g l)) (mat (j,[]) k g l)
 |any {j e} (h:∀q b,e.sub q=some b->b.ok n=true/\b.no (r,[p])=true):OthE n r p j (some e) e
def OthL(n r p:Nat)(σ:c9):Nat->List Ent->Prop
 |_,[]=>True
 |j,e::l=>OthE n r p j σ[j]? e/\OthL n r p σ (j+1) l
def OthL.get{n r p:Nat}{σ:c9}:∀{j:Nat} {l:List Ent},OthL n r p σ j l->∀i e,l[i]? =some e->OthE n r p (j+i) σ[j+i]? e
 |_,[],_,i,e,h=>by simp at h
 |j,_::_,h,0,e,c=>by simp only[cw,Option.some.injEq] at c;subst c;exact h.1
 |j,_::l,h,i+1,e,c=>by have:=OthL.get h.2 i e (by simpa using c);rwa [show j+1+i=j+(i+1) by omega] at this
def OthL.all{n p:Nat}(h:OthL n r p σv 0 σ')(i:Id)(b:Blk)(hi:i.1 ≠ r)(u:σ'[i]? =some (some b)):σv[i]? =some (some b)/\b.ok n=true/\b.no (r,[p])=true:=by
 obtain⟨j,q⟩:=i;simp only at hi;have E:∃e,σ'[j]? =some e/\e.sub q=some b:=by
  rw[c9.at_eq] at u;simp only[c9.at] at u;cases v:σ'[j]? with
  |none=>simp[v] at u
  |some e=>rw[v] at u;simp only[Option.some.injEq] at u;exact⟨e,rfl,u⟩
 obtain⟨e,v,c⟩:=E;have g:=OthL.get h j e v;rw[cE] at g;generalize ho:σv[j]? =o at g;cases g with
 |self=>exact absurd rfl hi
 |dead=>cases q<;>cases c
 |one h1 h2=>
  rw[w7 ho]
  cases q with
  |nil=>cases c;exact⟨rfl,h1,h2⟩
  |cons=>cases c
 |vec=>
  rw[w7 ho]
  cases q with
  |nil=>cases c;exact⟨rfl,K4,Blk.im_no _ _ _⟩
  |cons=>cases c
 |mat h1 h2=>
  rw[w7 ho,c]
  have z:j<n:=by simp[cQ] at h2;omega
  have B:r ≠ j:=fun e=>by simp[e] at h1
  rcases ab2 c with⟨rfl,rfl⟩|⟨F,row,rfl,_,rfl⟩
  ·exact⟨rfl,hdr_ok z _,hdr_no (by simpa using B)⟩
  ·exact⟨rfl,K4,Blk.im_no _ _ _⟩
 |any h=>rw[w7 ho,c];exact⟨rfl,h q b c⟩
inductive RlE(r:Nat):Nat->Ent->Prop
 |self {b}:RlE r r b
 |dead {j}:RlE r j .dead
 |one {j b} (h2:∀p,b.no (r,[p])=true):RlE r j (.one b)
 |vec {j} {β:Type} {k:Nat} {g:β->List I} {l:List β}:RlE r j (.one (vec k g l))
 |mat {j} {β:Type} {k:Nat} {g:β->List I} {l:List (List β)} (h1:cA r j=false):RlE r j (mat (j,[]) k g l)
 |any {j e} (h:∀q b,e.sub q=some b->∀p,b.no (r,[p])=true):RlE r j e
def RlL(r:Nat):Nat->List Ent->Prop
 |_,[]=>True
 |j,e::l=>RlE r j e/\RlL r (j+1) l
def RlL.get{r:Nat}:∀{j:Nat} {l:List Ent},RlL r j l->∀i e,l[i]? =some e->RlE r (j+i) e
 |_,[],_,i,e,h=>by simp at h
 |j,_::_,h,0,e,c=>by simp only[cw,Option.some.injEq] at c;subst c;exact h.1
 |j,_::l,h,i+1,e,c=>by have:=RlL.get h.2 i e (by simpa using c);rwa [show j+1+i=j+(i+1) by omega] at this
def RlL.all(h:RlL r 0 σv):ah5 r σv:=by
 intro i b hi u q;obtain⟨j,t⟩:=i;simp only at hi;have B:∃e,σv[j]? =some e/\e.sub t=some b:=by
  rw[c9.at_eq] at u;simp only[c9.at] at u;cases v:σv[j]? with
  |none=>simp[v] at u
  |some e=>rw[v] at u;simp only[Option.some.injEq] at u;exact⟨e,rfl,u⟩
 obtain⟨e,v,c⟩:=B;have g:=RlL.get h j e v;rw[cE] at g;cases g with
 |self=>exact absurd rfl hi
 |dead=>cases t<;>cases c
 |one h2=>cases t with
  |nil=>cases c;exact h2 q
  |cons=>cases c
 |vec=>cases t with
  |nil=>cases c;exact Blk.im_no _ _ _
  |cons=>cases c
 |mat h1=>
  have z:r ≠ j:=fun e=>by simp[e] at h1
  rcases ab2 c with⟨rfl,rfl⟩|⟨E,row,rfl,_,rfl⟩
  ·exact hdr_no (by simpa using z)
  ·exact Blk.im_no _ _ _
 |any h=>exact h t b c q
/-! ### Blocks that nothing speaks of are forgotten -/
inductive CutE(n:Nat):Nat->Option Ent->Ent->Prop
 |dead {j a}:CutE n j a .dead
 |one {j b} (h1:b.ok n=true):CutE n j (some (.one b)) (.one b)
 |eq {j b b'} (h1:b'.ok n=true) (h2:b'=b):CutE n j (some (.one b)) (.one b')
 |vec {j} {β:Type} {k:Nat} {g:β->List I} {l:List β}:CutE n j (some (.one (vec k g l))) (.one (vec k g l))
 |mat {j} {β:Type} {k:Nat} {g:β->List I} {l:List (List β)} (h2:cQ j n=true):CutE n j (some (mat (j,[]) k g l)) (mat (j,[]) k g l)
 |any {j e} (h:∀q b,e.sub q=some b->b.ok n=true):CutE n j (some e) e
def CutL(n:Nat)(σ:c9):Nat->List Ent->Prop
 |_,[]=>True
 |j,e::l=>CutE n j σ[j]? e/\CutL n σ (j+1) l
def CutL.get{n:Nat}{σ:c9}:∀{j:Nat} {l:List Ent},CutL n σ j l->∀i e,l[i]? =some e->CutE n (j+i) σ[j+i]? e
 |_,[],_,i,e,h=>by simp at h
 |j,_::_,h,0,e,c=>by simp only[cw,Option.some.injEq] at c;subst c;exact h.1
 |j,_::l,h,i+1,e,c=>by have:=CutL.get h.2 i e (by simpa using c);rwa [show j+1+i=j+(i+1) by omega] at this
def Sub.cut(z:aa9 env env')(hl:cY (ez σ0) (ez σ')=true)(h:CutL (ez σ') σv 0 σ')(E:ag9 (ez σ') env'=true):Sub σ0 ⟨env,σv⟩ ⟨env',σ'⟩:=by
 refine Sub.mk (fun i=>i) (fun i _=>rfl) (cH hl) (fun i j b N _ _ h=>h) (fun i b u=> ?_) (fun t v ht=>⟨an8 E t v ht,?_⟩);rw[Blk.ren_id];obtain⟨j,q⟩:=i;dsimp only at u ⊢;have J:∃e,σ'[j]? =some e/\e.sub q=some b:=by
  rw[c9.at_eq] at u;simp only[c9.at] at u;cases B:σ'[j]? with
  |none=>simp[B] at u
  |some e=>rw[B] at u;simp only[Option.some.injEq] at u;exact⟨e,rfl,u⟩
 obtain⟨e,B,c⟩:=J;have g:=CutL.get h j e B;rw[cE] at g;generalize ho:σv[j]? =o at g;cases g with
 |dead=>cases q<;>cases c
 |one h1=>
  rw[w7 ho]
  cases q with
  |nil=>cases c;exact⟨h1,rfl⟩
  |cons=>cases c
 |eq h1 h2=>
  subst h2
  rw[w7 ho]
  cases q with
  |nil=>cases c;exact⟨h1,rfl⟩
  |cons=>cases c
 |vec=>
  rw[w7 ho]
  cases q with
  |nil=>cases c;exact⟨K4,rfl⟩
  |cons=>cases c
 |mat h2=>
  rw[w7 ho,c]
  have F:j<ez σ':=by simp[cQ] at h2;omega
  rcases ab2 c with⟨rfl,rfl⟩|⟨O,row,rfl,_,rfl⟩
  ·exact⟨hdr_ok F _,rfl⟩
  ·exact⟨K4,rfl⟩
 |any h=>
  rw[w7 ho,c]
  exact⟨h q b c,rfl⟩
 rw[T.ren_id];exact z.get t v ht
end
end Ab
end
section
namespace Ab
open Go
section
variable {P:Program}{σ0:c9}{sz:Nat}{Q:Post}{env:Env}{σv σ':c9}{ops:Array Oper}{rest:List Oper}{dst:Option Nat}{ty:Ti}{pos:String}{after:Array Edge}
end
end Ab
end
section
namespace Ab
open Go
section
variable {P:Program}{σ0:c9}{sz:Nat}{Q:Post}{ops:List Oper}{base:Env}
def feasS(ops:List Oper)(effs S:List Nat)(i:Nat):Bool:=
 !memN i S && (effs.all fun e=> !anc ops (ez ops) e i||memN e S) && S.all fun e=> !anc ops (ez ops) i e
def tabAt(S:List Nat):List (List Nat×c9)->Option c9
 |[]=>none
 |(c,σ)::r=>match lbeq c S with
  |true=>some σ
  |false=>tabAt S r
def f7(P:Program)(σ0:c9)(sz:Nat)(ops:List Oper)(base:Env)(V:List T)(effs:List Nat)(c:List (List Nat×c9))(S:List Nat)(σ:c9):List Oper->Nat->Prop
 |[],_=>True
 |o::r,i=>(feasS ops effs S i=true->∀v,V[i]? =some v->∃σ',(memN i effs=false->σ'=σ)/\(memN i effs=true->tabAt (effs.filter fun e=>memN e S||cA e i) c=some σ')/\∀E:Env,EOk ops V base i E->AOps P σ0 sz ops.toArray (Only (St.put ⟨x7 ops V base o++E,σ'⟩ o.dst v)) [o] ⟨x7 ops V base o++E,σ⟩)/\
  f7 P σ0 sz ops base V effs c S σ r (i+1)
def C7(P:Program)(σ0:c9)(sz:Nat)(ops:List Oper)(base:Env)(V:List T)(effs:List Nat)(c:List (List Nat×c9)):List (List Nat×c9)->Prop
 |[]=>True
 |(S,σ)::r=>f7 P σ0 sz ops base V effs c S σ ops 0/\C7 P σ0 sz ops base V effs c r
def f7.get{V:List T}{effs:List Nat}{j:List (List Nat×c9)}{S:List Nat}{σ:c9}:∀{r:List Oper} {c:Nat},f7 P σ0 sz ops base V effs j S σ r c->∀i o,r[i]? =some o->feasS ops effs S (c+i)=true->∀v,V[c+i]? =some v->
  ∃σ',(memN (c+i) effs=false->σ'=σ)/\(memN (c+i) effs=true->tabAt (effs.filter fun e=>memN e S||cA e (c+i)) j=some σ')/\∀E:Env,EOk ops V base (c+i) E->AOps P σ0 sz ops.toArray (Only (St.put ⟨x7 ops V base o++E,σ'⟩ o.dst v)) [o] ⟨x7 ops V base o++E,σ⟩
 |[],_,_,i,o,h=>by simp at h
 |_::_,c,h,0,o,ho=>by cases ho;exact h.1
 |_::r,c,h,i+1,o,ho=>by have:=f7.get h.2 i o (by simpa using ho);rwa [show c+1+i=c+(i+1) by omega] at this
def lbeq_eq{a b:List Nat}(h:lbeq a b=true):a=b:=by
 have:=@G8 (0,a) (0,b);have h2:idb (0,a) (0,b)=true:=by simp[idb,h]
 exact(dZ.inj (this.1 h2)).2
def C7.get{V:List T}{effs:List Nat}{c:List (List Nat×c9)}:∀{r:List (List Nat×c9)},C7 P σ0 sz ops base V effs c r->∀S σ,tabAt S r=some σ->f7 P σ0 sz ops base V effs c S σ ops 0
 |[],_,S,σ,h=>by cases h
 |(q,σ')::r,h,S,σ,e=>by simp only[tabAt] at e;split at e;rename_i j;cases e;rw[<- lbeq_eq j];exact h.1;exact C7.get h.2 S σ e
def memN_false{n:Nat}{l:List Nat}(h:n ∉ l):memN n l=false:=by
 cases c:memN n l with
 |false=>rfl
 |true=>exact absurd ((J9 n l).1 c) h
def AWP.drawT{id:Nat}{s:St}(V:List T)(effs:List Nat)(B:List (List Nat×c9))(ac:c9)(hm:P.follows .mixedOrders=true)(an:T0 ops=true)(hV:ez V=ez ops)(U:(effs.all fun e=>cQ e (ez ops))=true)
  (av:C7 P σ0 sz ops s.env V effs B B) (h0:tabAt [] B=some s.σ) (he:tabAt effs B=some ac) (hQ:Q .normal ⟨m6 ops V s.env,ac⟩):AWP P σ0 sz (.region id ops.toArray true) Q s:=fun Γ φ a w a3 J ro _=>by
 have ad:∀(i j:Nat) (o p:Oper) (t:Nat),ops[i]? =some o->ops[j]? =some p->i ≠ j->p.dst=some t->o.dst ≠ some t:=fun i j o p t hi z a4 ht=>((J1 an hi).2 j p t z a4 ht).1
 obtain⟨e1,e2⟩:=af7 ops V s.env hV ad
 refine wpIn_region_any hm ?_
 rw[dq]
 refine draw_anyS (V:=V) (base:=s.env) (Sg:=fun c σ=>tabAt (effs.filter fun e=>c.getD e false) B=some σ) an hV (fun c σ i o v ai F _ ho hv hn hw hc=> ?_) a3 (fun c σ E φ a w F ay h1 h2 J=> ?_) (ez ops) (ey (ez ops) false) s.σ s.env φ a _ (by simp) ?_ ⟨fun j z=> ?_,fun j p hp z=> ?_,fun j t z=> ?_,fun t _=>rfl⟩ ?_ (by simp)
 ·have a5:i<c.size:=by rw[ai];exact(lG.1 ho).1
  have aa:∀e,e ∈ effs->memN e (effs.filter fun e=>c.getD e false)=c.getD e false:=fun e q=>by
   cases N:c.getD e false with
   |true=>exact(J9 e _).2 (dz.2 ⟨q,N⟩)
   |false=>exact memN_false fun h=>by rw[(dz.1 h).2] at N;cases N
  have a6:feasS ops effs (effs.filter fun e=>c.getD e false) i=true:=by
   unfold feasS;simp only[cy,cD,ei,dC];refine⟨⟨memN_false (fun h=>by rw[(dz.1 h).2] at hn;cases hn),fun e q=> ?_⟩,fun e q=> ?_⟩;cases N:anc ops (ez ops) e i with
   |false=>exact .inl rfl
   |true=>right;rw[aa e q];exact aq3 ai hc _ e i o ho hw N
   cases N:anc ops (ez ops) i e with
   |false=>rfl
   |true=>
    have a7:=(dz.1 q).2
    have a2:e<ez ops:=by have:=cD.1 U e (dz.1 q).1;simpa using this
    have:=aq3 ai hc _ i e _ (cC a2) (hc e _ (cC a2) a7) N
    rw[hn] at this;cases this
  obtain⟨σ',k1,k2,k3⟩:=(av.get _ σ F).get i o ho (by rw[cE];exact a6) v (by rw[cE];exact hv)
  rw[cE] at k1 k2 k3
  refine⟨σ',?_,k3⟩
  have ab:∀e,(c.setIfInBounds i true).getD e false=(c.getD e false||cA e i):=fun e=>by by_cases z:i=e;subst z;simp[a5];have N:cA e i=false:=ao1 fun h=>z h.symm;rw[N,Bool.or_false];simp[Array.getElem?_setIfInBounds_ne z]
  cases O:memN i effs with
  |true=>
   have:=k2 O
   rw[<- this]
   congr 1
   refine er fun e q=> ?_
   rw[ab,aa e q]
  |false=>
   rw[k1 O,<- F]
   congr 1
   refine er fun e q=> ?_
   rw[ab]
   have:cA e i=false:=ao1 fun h=>by subst h;rw[(J9 e effs).2 q] at O;cases O
   rw[this,Bool.or_false]
 ·have al:(effs.filter fun e=>c.getD e false)=effs:=List.filter_eq_self.2 fun e q=>ay e (by have:=cD.1 U e q;simpa using this)
  rw[al,he] at F
  cases F
  refine⟨⟨m6 ops V s.env,ac⟩,φ,hQ,{toRs:=J.toRs,defers:=J.defers,asize:=J.asize,env:=fun t v ht=>J.env t v ?_}⟩
  rw[<- ht]
  by_cases hx:∃j,z8 ops j=some t
  ·obtain⟨j,z⟩:=hx
   exact(h1 j t z).trans (e1 j t z).symm
  ·have hn:∀j,z8 ops j ≠ some t:=fun j z=>hx ⟨j,z⟩
   exact(h2 t hn).trans (e2 t hn).symm
 ·have:(effs.filter fun e=>(ey (ez ops) false).getD e false)=[]:=List.filter_eq_nil_iff.2 fun e _=>by simp[dc];split<;>rfl
  rw[this];exact h0
 ·simp[dc] at z
  split at z<;>simp at z
 ·simp[dc] at z
  split at z<;>simp at z
 ·simp[dc] at z
  split at z<;>simp at z
 ·exact {toRs:=J.toRs.drew,defers:=J.defers,asize:=J.asize,env:=fun t v ht=>let ⟨u,hu,hr⟩:=J.env t v ht; ⟨u,hu,hr.mono (Kept.drew w φ s.σ _)⟩}
def AWP.drawTI{id:Nat}{env:Env}{σv:c9}(V:List T)(effs:List Nat)(c:List (List Nat×c9))(h:c9)(v:P.follows .mixedOrders=true)(u:T0 ops=true)(z:ez V=ez ops)(j:(effs.all fun e=>cQ e (ez ops))=true)
  (B:tabAt [] c=some σv) (E:tabAt effs c=some h) (q:C7 P σ0 sz ops env V effs c c) (F:Q .normal (St.mk (m6 ops V env) h)):AWP P σ0 sz (.region id ops.toArray true) Q (St.mk env σv):=.drawT V effs c h v u z j q B E F
def C7.nil{V:List T}{effs:List Nat}{c:List (List Nat×c9)}:C7 P σ0 sz ops base V effs c []:=trivial
def C7.cons{V:List T}{effs:List Nat}{c r:List (List Nat×c9)}{S:List Nat}{σ:c9}(h1:f7 P σ0 sz ops base V effs c S σ ops 0)(h2:C7 P σ0 sz ops base V effs c r):C7 P σ0 sz ops base V effs c ((S,σ)::r):=⟨h1,h2⟩
def f7.nil{V:List T}{effs:List Nat}{c:List (List Nat×c9)}{S:List Nat}{σ:c9}{i:Nat}:f7 P σ0 sz ops base V effs c S σ [] i:=trivial
def f7.no{V:List T}{effs:List Nat}{c:List (List Nat×c9)}{S:List Nat}{σ:c9}{i:Nat}{o:Oper}{r:List Oper}(hf:feasS ops effs S i=false)(h:f7 P σ0 sz ops base V effs c S σ r (i+1)):f7 P σ0 sz ops base V effs c S σ (o::r) i:=
 ⟨fun e=>(by rw[hf] at e;cases e),h⟩
def f7.go{V:List T}{effs:List Nat}{c:List (List Nat×c9)}{S:List Nat}{σ:c9}{i:Nat}{o:Oper}{r:List Oper}{v:T}{e:Env}(u:memN i effs=false)(z:V[i]? =some v)(B:envF ops V base o=some e)
  (h1:∀E:Env,EOk ops V base i E->AOps P σ0 sz ops.toArray (Only (St.mk (putE (e++E) o.dst v) σ)) [o] (St.mk (e++E) σ)) (h:f7 P σ0 sz ops base V effs c S σ r (i+1)):f7 P σ0 sz ops base V effs c S σ (o::r) i:=by
 have F:x7 ops V base o=e:=ae2 B
 refine⟨fun _ N j=> ?_,h⟩
 rw[z] at j;cases j
 refine⟨σ,fun _=>rfl,fun q=>(by rw[u] at q;cases q),fun E J=> ?_⟩
 rw[F];exact h1 E J
def f7.eff{V:List T}{effs:List Nat}{c:List (List Nat×c9)}{S:List Nat}{σ σ':c9}{i:Nat}{o:Oper}{r:List Oper}{v:T}{e:Env}(u:memN i effs=true)(z:V[i]? =some v)(ht:tabAt (effs.filter fun e=>memN e S||cA e i) c=some σ')(B:envF ops V base o=some e)
  (h1:∀E:Env,EOk ops V base i E->AOps P σ0 sz ops.toArray (Only (St.mk (putE (e++E) o.dst v) σ')) [o] (St.mk (e++E) σ)) (h:f7 P σ0 sz ops base V effs c S σ r (i+1)):f7 P σ0 sz ops base V effs c S σ (o::r) i:=by
 have F:x7 ops V base o=e:=ae2 B
 refine⟨fun _ N j=> ?_,h⟩
 rw[z] at j;cases j
 refine⟨σ',fun q=>(by rw[u] at q;cases q),fun _=>ht,fun E J=> ?_⟩
 rw[F];exact h1 E J
def vNo(id:Id)(ops:List Oper)(i:Nat):List T->Nat->Bool
 |[],_=>true
 |v::r,j=>(cA j i||anc ops (ez ops) i j||v.no id) && vNo id ops i r (j+1)
def vNo_get{id:Id}{i:Nat}:∀{V:List T} {j:Nat},vNo id ops i V j=true->∀k v,V[k]? =some v->j+k ≠ i->anc ops (ez ops) i (j+k)=false->v.no id=true
 |[],_,_,k,v,h=>by simp at h
 |x::r,j,h,k,v,e=>fun h1 h2=>by
  simp only[vNo,cy,dC] at h;match k with
  |0=>
   cases e
   rcases h.1 with(c|c)|c
   ·exact absurd (cu c) h1
   ·rw[cW] at h2;rw[h2] at c;cases c
   ·exact c
  |k+1=>exact vNo_get h.2 k v (by simpa using e) (by rw[show j+1+k=j+(k+1) by omega];exact h1) (by rw[show j+1+k=j+(k+1) by omega];exact h2)
inductive NoE(n:Nat):Ent->Prop
 |dead:NoE n .dead
 |one {b:Blk} (h:b.no (n,[])=true):NoE n (.one b)
 |vec {β:Type} {k:Nat} {g:β->List I} {l:List β}:NoE n (.one (vec k g l))
 |mat {β:Type} {k r:Nat} {g:β->List I} {l:List (List β)} (h:cA n r=false):NoE n (mat (r,[]) k g l)
 |any {e:Ent} (h:∀q b,e.sub q=some b->b.no (n,[])=true):NoE n e
def NoL(n:Nat):List Ent->Prop
 |[]=>True
 |e::r=>NoE n e/\NoL n r
def NoL.get{n:Nat}:∀{l:List Ent},NoL n l->∀(j:Nat) (e:Ent),l[j]? =some e->NoE n e
 |_::_,h,0,e,c=>by simp only[cw,Option.some.injEq] at c;subst c;exact h.1
 |_::l,h,j+1,e,c=>NoL.get h.2 j e (by simpa using c)
def NoL.all{n:Nat}{σ:c9}(h:NoL n σ)(i:Id)(b:Blk)(c:σ[i]? =some (some b)):b.no (n,[])=true:=by
 obtain⟨j,q⟩:=i;rw[c9.at_eq] at c;simp only[c9.at] at c;cases u:σ[j]? with
 |none=>simp[u] at c
 |some e=>
  rw[u] at c;simp only[Option.some.injEq] at c
  have g:=NoL.get h j e u
  cases g with
  |dead=>cases q<;>cases c
  |one h1=>cases q with
   |nil=>cases c;exact h1
   |cons=>cases c
  |vec=>cases q with
   |nil=>cases c;exact Blk.im_no _ _ _
   |cons=>cases c
  |mat h1=>
   rcases ab2 c with⟨rfl,rfl⟩|⟨v,row,rfl,_,rfl⟩
   ·exact hdr_no (fun e=>by simp at e;rw[e] at h1;simp at h1)
   ·exact Blk.im_no _ _ _
  |any h=>exact h q b c
def AOps.allocAt{N:Array Oper}{rest:List Oper}{dst:Option Nat}{ty:Ti}{pos:String}{after:Array Edge}{V:List T}{e E:Env}{i:Nat}{σv σ':c9}{t:Ti}{cs:List C}{k:Nat}(n:Nat)[hz:TyZ P t cs](hE:EOk ops V base i E)(hb:envNo (n,[]) base=true)(hV:vNo (n,[]) ops i V 0=true)(he:envNo (n,[]) e=true)
  (hk:idF cs=some k) (an:setF σv n (.one (.cells k [cs]))=some σ') (hi:C.okL 0 cs=true) (h0:cY (ez σ0) n=true) (hs:NoL n σv) (hd:j6 sz dst=true)
  (h:AOps P σ0 sz N Q rest (St.mk (putE (e++E) dst (.c (.ptr (n,[]) 0 0))) σ')):AOps P σ0 sz N Q (⟨dst,.alloc t,ty,pos,after,none⟩::rest) (St.mk (e++E) σv):=fun Γ φ a w av hR=>by
 have h1:=V4 hk;have h3:=H7 an
 subst h1
 obtain⟨rfl,ac⟩:=h3
 obtain⟨size,bytes,z,v,ay,g1,O⟩:=hz.h
 refine AOps.alloc (hs:=ay) g1 O hd (AOps.sub (s':=St.mk (putE (e++E) dst (.c (.ptr (n,[]) 0 0))) (σv.set n (.one (.cells (ez cs) [cs])))) ?_ h) Γ φ a w av hR
 have a3:=cH h0
 have U:(Blk.cells (ez cs) [cs]).ok 0=true:=by simp[Blk.ok,hi]
 have ad:∀(t:Nat) (v:T),lookup t (e++E)=some v->v.ok (ez σv)=true:=fun t v ht=>by obtain⟨u,_,hr⟩:=hR.env t v ht;exact hr.ok
 have ai:∀(t:Nat) (v:T),lookup t (e++E)=some v->v.no (n,[])=true:=fun t v ht=>by
  rw[F5] at ht;cases hx:lookup t e with
  |some x=>
   rw[hx] at ht;cases ht
   exact ad6 he t v hx
  |none=>
   rw[hx] at ht
   rcases hE t v ht with g|⟨j,g1,O,g3⟩
   ·exact ad6 hb t v g
   ·exact vNo_get hV j v g3 (by rw[cE];exact g1) (by rw[cE];exact O)
 have J:mv (n,[]) (ez σv,[]) (n,[])=(ez σv,[]):=by simp[mv,G8.2 rfl]
 have B:∀i:Id,i ≠ (n,[])->mv (n,[]) (ez σv,[]) i=i:=fun i h=>by simp[mv,E3 h]
 have F:∀(i:Id) (b:Blk),(σv.set n (.one (.cells (ez cs) [cs])))[i]? =some (some b)->i.1<ez σv:=fun i b hi=>by have:=c9.lt_of hi;simpa using this
 refine Sub.mk (mv (n,[]) (ez σv,[])) (fun i hi=>B i (fun e=>by subst e;simp at hi;omega)) (by simp;omega) (fun i j b b' hi hj h=> ?_) (fun i b hi=> ?_) (fun t v ht=> ?_)
 ·have l1:=F i b hi
  have l2:=F j b' hj
  by_cases g1:i=(n,[])<;>by_cases O:j=(n,[])
  ·rw[g1,O]
  ·rw[g1,J,B j O] at h
   rw[<- h] at l2;simp at l2
  ·rw[O,J,B i g1] at h
   rw[h] at l1;simp at l1
  ·rwa [B i g1,B j O] at h
 ·have a2:=F i b hi
  obtain⟨j,q⟩:=i
  by_cases hj:j=n
  ·subst hj
   have al:(Ent.one (.cells (ez cs) [cs])).sub q=some b:=by rw[c9.at_eq] at hi;simp only[c9.at,dM ac,Option.some.injEq] at hi;exact hi
   cases q with
   |cons=>cases al
   |nil=>
    cases al
    refine⟨Blk.ok_mono (eu _) _ U,?_⟩
    rw[J,Blk.ren_ok (m:=0) (fun i hi=>by omega) _ U]
    exact c9.get_last σv _
  ·have ab:σv[((j,q):Id)]? =some (some b):=by rw[c9.at_eq] at hi ⊢;simp only[c9.at] at hi ⊢;rwa [dQ (fun e=>hj e.symm)] at hi
   refine⟨Blk.ok_mono (by simp) _ (hR.st.okB ab),?_⟩
   rw[B (j,q) (fun e=>hj (by cases e;rfl)),Blk.ren_no _ (hs.all _ _ ab)]
   show(σv++_)[_]? =_
   rw[c9.get_left a2];exact ab
 ·have rest:∀v,lookup t (e++E)=some v->v.ok (σv.set n (Ent.one (.cells (ez cs) [cs]))).length=true/\lookup t (e++E)=some (v.ren (mv (n,[]) (ez σv,[]))):=fun v hv=>
   ⟨by simpa using ad t v hv,by rw[T.ren_no v (ai t v hv)];exact hv⟩
  cases aa:dst with
  |none=>rw[aa] at ht;exact rest v ht
  |some d=>
   rw[aa] at ht
   simp only[putE,lookup] at ht ⊢
   split at ht
   ·cases ht
    refine⟨by simp[T.ok,C.ok,ac],?_⟩
    simp only[T.ren,C.ren,J]
   ·exact rest v ht
end
end Ab
end
section
namespace Ab
open Go
def af8:List Nat->Nat->Nat->Nat
 |[],m,r=>m+r
 |x::_,_,0=>x
 |_::l,m,r+1=>af8 l m r
def emb(ι:List Nat)(m:Nat):Id->Id:=fun i=>(af8 ι m i.1,i.2)
def ac6{m:Nat}:∀{ι:List Nat} {r:Nat},r<ι.length->∃x,ι[r]? =some x/\af8 ι m r=x
 |x::_,0,_=>⟨x,rfl,rfl⟩
 |_::l,r+1,h=>by obtain⟨x,h1,h2⟩:=ac6 (m:=m) (ι:=l) (r:=r) (by simpa using h);exact⟨x,by simpa using h1,h2⟩
def R6{m:Nat}:∀{ι:List Nat} {r:Nat},ι.length<=r->af8 ι m r=m+(r - ι.length)
 |[],r,_=>by simp[af8]
 |_::l,r+1,h=>by simp only[af8];rw[R6 (by simpa using h)];simp
 |_::_,0,h=>by simp at h
def emb_inj{ι:List Nat}{m:Nat}(hd:ι.Nodup)(c:∀r ∈ ι,r<m){i j:Id}(h:emb ι m i=emb ι m j):i=j:=by obtain⟨r,p⟩:=i;obtain⟨s,q⟩:=j;simp only[emb,dZ.injEq] at h;obtain⟨h1,rfl⟩:=h;congr 1;rcases cM r ι.length with hr|hr<;>rcases cM s ι.length with hs|hs;obtain⟨x,e,u⟩:=ac6 (m:=m) hr;obtain⟨y,v,z⟩:=ac6 (m:=m) hs;rw[u,z] at h1;subst h1;obtain⟨_,B⟩:=lG.1 e;obtain⟨_,E⟩:=lG.1 v;exact(List.getElem_inj hd).1 (B.trans E.symm);obtain⟨x,e,u⟩:=ac6 (m:=m) hr;rw[u,R6 hs] at h1;have:=c x (cF e);omega;obtain⟨x,e,u⟩:=ac6 (m:=m) hs;rw[u,R6 hr] at h1;have:=c x (cF e);omega;rw[R6 hr,R6 hs] at h1;omega
structure MergeOk(ι:List Nat)(σv σ' σ'':c9):Prop where
 len:ez σv+(ez σ' - ι.length)<=ez σ''
 blk:∀(j:Id) b,σ''[j]? =some (some b)->(j.1<ez σv/\j.1 ∉ ι/\σv[j]? =some (some b))\/∃i b',j=emb ι (ez σv) i/\σ'[i]? =some (some b')/\b=b'.ren (emb ι (ez σv))
def FnOk.frame{P:Program}{f:FuncId}{args:List T}{σc:c9}{Qc:T->c9->Prop}(h:FnOk P f args σc Qc)(ι:List Nat)(σv:c9)(hl:ι.length=ez σc)(hd:ι.Nodup)(hlt:∀r ∈ ι,r<ez σv)
  (hargs:T.okL (ez σc) args=true) (hokc:∀(i:Id) b,σc[i]? =some (some b)->b.ok (ez σc)=true) (hlent:∀(i:Id) b,σc[i]? =some (some b)->σv[emb ι (ez σv) i]? =some (some (b.ren (emb ι (ez σv)))))
  (r'':T) (σ'':c9) (hq:∀r' σ',Qc r' σ'->r''=r'.ren (emb ι (ez σv))/\MergeOk ι σv σ' σ''):FnOk P f (T.renL (emb ι (ez σv)) args) σv fun r s=>r=r''/\s=σ'':=by
 refine⟨h.fn,fun Γ vs hΓ hG hlen hrel=> ?_⟩
 subst hΓ
 generalize hm:Γ.σ0.length=m at *
 have inj:∀{i j:Id},emb ι m i=emb ι m j->i=j:=fun h=>emb_inj hd hlt h
 have inι:∀{i:Id},i.1<ez σc->(emb ι m i).1 ∈ ι:=fun {i} hi=>by obtain⟨x,x1,x2⟩:=ac6 (m:=m) (ι:=ι) (r:=i.1) (by omega);show af8 ι m i.1 ∈ ι;rw[x2];exact cF x1
 have A1:∀b,Al Γ.N Γ.φ0 Γ.σ0 b->Al (fun b=>b<Γ.w0.heap.size/\(Γ.N b\/∃(j:Id) (blk:Blk) (base:Nat),j.1 ∉ ι/\Γ.σ0[j]? =some (some blk)/\Γ.φ0 j=some (b,base))) (fun i=>Γ.φ0 (emb ι m i)) σc b:=fun b hb=>
  ⟨fun hN=>by rcases hN.2 with hN|⟨j,blk,base,_,g1,g2⟩;exact hb.1 hN;exact hb.2 j blk base g1 g2,fun i blk base hi hp=>hb.2 _ _ base (hlent i blk hi) hp⟩
 have hBack:Back Γ.w0 Γ.φ0 (fun i=>Γ.φ0 (emb ι m i)) Γ.σ0 σc (Al Γ.N Γ.φ0 Γ.σ0) (Al (fun b=>b<Γ.w0.heap.size/\(Γ.N b\/∃(j:Id) (blk:Blk) (base:Nat),j.1 ∉ ι/\Γ.σ0[j]? =some (some blk)/\Γ.φ0 j=some (b,base))) (fun i=>Γ.φ0 (emb ι m i)) σc) (emb ι m):=
  ⟨fun b hb _=>A1 b hb,fun i b _ hi=>⟨hlent i b hi,rfl⟩⟩
 have okC:∀{n k:Nat} {es:List (List C)} {j o:Nat} {e:List C} {x:C},(Blk.cells k es).ok n=true->es[j]? =some e->e[o]? =some x->x.ok n=true:=by intro n k es j o e x h1 h2 h3;simp only[Blk.ok,cD] at h1;have:=h1 e (cF h2);rw[K6,cD] at this;exact this x (cF h3)
 have hGc:Good ⟨Γ.w0,fun b=>b<Γ.w0.heap.size/\(Γ.N b\/∃(j:Id) (blk:Blk) (base:Nat),j.1 ∉ ι/\Γ.σ0[j]? =some (some blk)/\Γ.φ0 j=some (b,base)),fun i=>Γ.φ0 (emb ι m i),σc⟩:=by
  refine⟨⟨fun i b hi=> ?_,fun i j bi bj p q hi hj hp hq he=> ?_⟩,fun b hb=>hb.1,fun i blk b base hi hp hN=> ?_⟩;have hs:=hlent i b hi;have hb:=hG.st.blk _ _ hs;have ho:=hokc i b hi;cases b with
  |cells k es=>
   simp only[Blk.ren] at hb hs
   rcases hb with⟨h1,h2⟩|⟨b,base,arr,ety,h1,h2,h3,h4,h5⟩
   ·exact .inl ⟨h1,by simpa using h2⟩
   ·refine .inr ⟨b,base,arr,ety,h1,h2,by simpa using h3,fun j e he=> ?_,fun j e o x he hx=> ?_⟩
    ·have:=h4 j (C.renL (emb ι m) e) (by simp[he])
     rw[y7] at this;simpa using this
    ·obtain⟨u,hu,hr⟩:=h5 j (C.renL (emb ι m) e) o (x.ren (emb ι m)) (by simp[he]) (by rw[y7];simp[hx])
     exact⟨u,hu,hr.back hBack (okC (k:=k) ho he hx)⟩
  |obj p cs=>
   simp only[Blk.ren] at hb hs
   obtain⟨b,o,us,h1,h2,h3,h4⟩:=hb
   refine⟨b,o,us,h1,h2,h3,fun i x hx=> ?_⟩
   obtain⟨u,hu,hr⟩:=h4 i (x.ren (emb ι m)) (by rw[y7];simp[hx])
   have hok:x.ok (ez σc)=true:=by simp only[Blk.ok,K6,cD] at ho;exact ho x (cF hx)
   exact⟨u,hu,hr.back hBack hok⟩
  exact inj (hG.st.inj _ _ _ _ p q (hlent i bi hi) (hlent j bj hj) hp hq he);rcases hN.2 with hN|⟨j,blk',base',g0,g1,g2⟩;exact hG.own _ _ b base (hlent i blk hi) hp hN;have:=hG.st.inj _ _ _ _ _ _ (hlent i blk hi) g1 hp g2 rfl;rw[<- this] at g0;exact g0 (inι (c9.lt_of hi))
 have hargs':∀t ∈ args,t.ok (ez σc)=true:=by rw[aq9,cD] at hargs;exact hargs
 refine(h.run _ vs rfl hGc (by rw[<- hlen,ah7];simp) (fun i t u ht hu=> ?_)).mono ?_
 ·exact(hrel i (t.ren (emb ι m)) u (by rw[ah7];simp[ht]) hu).back hBack (hargs' t (cF ht))
 ·rintro e w' ⟨v,r',σ',φ',rfl,hqc,hr,hs⟩
  obtain⟨rfl,hM⟩:=hq r' σ' hqc
  have hMb:∀(j:Id) b,σ''[j]? =some (some b)->(j.1<m/\j.1 ∉ ι/\Γ.σ0[j]? =some (some b))\/∃i b',j=emb ι m i/\σ'[i]? =some (some b')/\b=b'.ren (emb ι m):=by have:=hM.blk;rwa [hm] at this
  have hMl:m+(ez σ' - ι.length)<=ez σ'':=by have:=hM.len;rwa [hm] at this
  have hk:=hs.kept
  have hlen':=hk.len
  dsimp only at hlen'
  classical
  let φ'':Phi:=fun j=>if hx:∃i:Id,emb ι m i=j then φ' hx.choose else Γ.φ0 j
  have pnew:∀i:Id,φ'' (emb ι m i)=φ' i:=fun i=>by have hx:∃i':Id,emb ι m i'=emb ι m i:=⟨i,rfl⟩;show(if hx:∃i':Id,emb ι m i'=emb ι m i then φ' hx.choose else _)=_;rw[dif_pos hx,inj hx.choose_spec]
  have pold:∀j:Id,j.1<m->j.1 ∉ ι->φ'' j=Γ.φ0 j:=fun j h1 h2=>by show(if hx:∃i':Id,emb ι m i'=j then φ' hx.choose else _)=_;rw[dif_neg];rintro ⟨i,rfl⟩;rcases cM i.1 ι.length with hi|hi;exact h2 (inι (by omega));have:(emb ι m i).1=m+(i.1 - ι.length):=R6 hi;omega
  have hK:∀b,b<Γ.w0.heap.size->(∀(i:Id) blk base,σc[i]? =some (some blk)->Γ.φ0 (emb ι m i) ≠ some (b,base))->w'.heap[b]? =Γ.w0.heap[b]? :=fun b h1 h2=>hs.block b ⟨h1,h2⟩
  have keepOld:∀(j:Id) blk b base,j.1 ∉ ι->Γ.σ0[j]? =some (some blk)->Γ.φ0 j=some (b,base)->w'.heap[b]? =Γ.w0.heap[b]? :=fun j blk b base hj h1 h2=>
   hK b (Al.own_lt hG.st h1 h2) fun i blk' base' hi hp=>by have:=hG.st.inj _ _ _ _ _ _ (hlent i blk' hi) h1 hp h2 rfl;rw[<- this] at hj;exact hj (inι (c9.lt_of hi))
  have A2:∀b,Al Γ.N Γ.φ0 Γ.σ0 b->b<Γ.w0.heap.size->Al Γ.N φ'' σ'' b:=fun b hb hlt=>⟨hb.1,fun j blk base hj hp=>by rcases hMb j blk hj with⟨h1,h2,h3⟩|⟨i,b',rfl,h2,_⟩;rw[pold j h1 h2] at hp;exact hb.2 j blk base h3 hp;rw[pnew] at hp;exact hs.keep i b' b base h2 hp ⟨hlt,fun i' blk' base' hi' hp'=>hb.2 _ _ base' (hlent i' blk' hi') hp'⟩⟩
  have A3:∀b,Al (fun b=>b<Γ.w0.heap.size/\(Γ.N b\/∃(j:Id) (blk:Blk) (base:Nat),j.1 ∉ ι/\Γ.σ0[j]? =some (some blk)/\Γ.φ0 j=some (b,base))) φ' σ' b->b<w'.heap.size->Al Γ.N φ'' σ'' b:=fun b hb _=>⟨fun hN=>hb.1 ⟨hG.lt b hN,.inl hN⟩,fun j blk base hj hp=>by rcases hMb j blk hj with⟨h1,h2,h3⟩|⟨i,b',rfl,h2,_⟩;rw[pold j h1 h2] at hp;exact hb.1 ⟨Al.own_lt hG.st h3 hp,.inr ⟨j,blk,base,h2,h3,hp⟩⟩;rw[pnew] at hp;exact hb.2 i b' base h2 hp⟩
  have hFwd:Fwd w' φ' φ'' σ' σ'' (Al (fun b=>b<Γ.w0.heap.size/\(Γ.N b\/∃(j:Id) (blk:Blk) (base:Nat),j.1 ∉ ι/\Γ.σ0[j]? =some (some blk)/\Γ.φ0 j=some (b,base))) φ' σ') (Al Γ.N φ'' σ'') (emb ι m):=by refine⟨A3,fun i hi=>⟨?_,pnew i,fun b' hb'=> ?_⟩⟩;rcases cM i.1 ι.length with g|g;have:=hlt _ (inι (i:=i) (by omega));omega;have:(emb ι m i).1=m+(i.1 - ι.length):=R6 g;omega;rcases hMb _ _ hb' with⟨h1,h2,_⟩|⟨i',b0,he,h2,h3⟩;exfalso;rcases cM i.1 ι.length with g|g;exact h2 (inι (by omega));have:(emb ι m i).1=m+(i.1 - ι.length):=R6 g;omega;rw[inj he];exact⟨b0,h2,h3⟩
  have hkept:Kept Γ.w0 w' Γ.φ0 φ'' Γ.σ0 σ'' (Al Γ.N Γ.φ0 Γ.σ0) (Al Γ.N φ'' σ''):=by
   refine⟨fun b hb hl=>hK b hl fun i blk base hi hp=>hb.2 _ _ base (hlent i blk hi) hp,A2,?_,fun j k es' hj he=> ?_,fun j p' cs' hj he=> ?_⟩;rw[hm];omega;rw[hm] at hj;rcases hMb j _ he with⟨h1,h2,h3⟩|⟨i,b',rfl,h2,h3⟩;refine⟨es',h3,rfl,pold j h1 h2,fun b base arr ety hp hb=>⟨arr,?_,rfl⟩⟩;rw[keepOld j _ b base h2 h3 hp];exact hb;have hi:i.1<ez σc:=by rcases cM i.1 ι.length with g|g;omega;have:(emb ι m i).1=m+(i.1 - ι.length):=R6 g;omega
   cases b' with
   |obj p cs=>simp[Blk.ren] at h3
   |cells k2 es0=>
    simp only[Blk.ren,Blk.cells.injEq] at h3
    obtain⟨rfl,rfl⟩:=h3
    obtain⟨es,g1,g2,g3,g4⟩:=hk.cells i k es0 hi h2
    refine⟨es.map (C.renL (emb ι m)),?_,by simpa using g2,by rw[pnew];exact g3,fun b base arr ety hp hb=>g4 b base arr ety hp hb⟩
    have:=hlent i _ g1
    simpa[Blk.ren] using this
   rw[hm] at hj;rcases hMb j _ he with⟨h1,h2,h3⟩|⟨i,b',rfl,h2,h3⟩;exact⟨pold j h1 h2,p',cs',h3⟩;have hi:i.1<ez σc:=by rcases cM i.1 ι.length with g|g;omega;have:(emb ι m i).1=m+(i.1 - ι.length):=R6 g;omega
   cases b' with
   |cells k2 es0=>simp[Blk.ren] at h3
   |obj p cs=>
    obtain⟨g1,p0,cs0,g2⟩:=hk.obj i p cs hi h2
    exact⟨by rw[pnew];exact g1,p0,_,hlent i _ g2⟩
  refine⟨v,_,σ'',φ'',rfl,⟨rfl,rfl⟩,hr.fwd hFwd,⟨hG,⟨fun j b hj=> ?_,fun i j bi bj p q hi hj hp hq he=> ?_⟩,fun j blk b base hj hp hK'=> ?_,hs.os,hs.tape,hs.drawn,hs.output,hs.size,fun b hb=>hK b hb.1 fun i blk base hi hp=>hb.2 _ _ base (hlent i blk hi) hp,hkept⟩⟩
  ·rcases hMb j b hj with⟨h1,h2,h3⟩|⟨i,b',rfl,h2,rfl⟩
   ·rw[pold j h1 h2]
    exact(hG.st.blk j b h3).mono hkept fun g base hp=>keepOld j b g base h2 h3 hp
   ·rw[pnew]
    have hb:=hs.st.blk i b' h2
    cases b' with
    |cells k es=>
     rcases hb with⟨h1,h2'⟩|⟨b,base,arr,ety,h1,h2',h3,h4,h5⟩
     ·exact .inl ⟨h1,by simpa using h2'⟩
     ·refine .inr ⟨b,base,arr,ety,h1,h2',by simpa using h3,fun j e he=> ?_,fun j e o x he hx=> ?_⟩
      ·rw[lM,oM] at he
       obtain⟨e0,he0,rfl⟩:=he
       rw[y7,cV]
       exact h4 j e0 he0
      ·rw[lM,oM] at he
       obtain⟨e0,he0,rfl⟩:=he
       rw[y7,lM,oM] at hx
       obtain⟨x0,hx0,rfl⟩:=hx
       obtain⟨u,hu,hr⟩:=h5 j e0 o x0 he0 hx0
       exact⟨u,hu,hr.fwd hFwd⟩
    |obj p cs=>
     obtain⟨b,o,us,g1,g2,g3,g4⟩:=hb
     refine⟨b,o,us,g1,g2,g3,fun i x hx=> ?_⟩
     rw[y7,lM,oM] at hx
     obtain⟨x0,hx0,rfl⟩:=hx
     obtain⟨u,hu,hr⟩:=g4 i x0 hx0
     exact⟨u,hu,hr.fwd hFwd⟩
  ·rcases hMb i bi hi with⟨h1,h2,h3⟩|⟨i',b1,rfl,h2,_⟩<;>rcases hMb j bj hj with⟨g1,g2,g3⟩|⟨j',b2,rfl,g2,_⟩
   ·rw[pold i h1 h2] at hp
    rw[pold j g1 g2] at hq
    exact hG.st.inj _ _ _ _ p q h3 g3 hp hq he
   ·exfalso
    rw[pold i h1 h2] at hp
    rw[pnew] at hq
    obtain⟨p1,p2⟩:=p
    obtain⟨q1,q2⟩:=q
    simp only at he
    subst he
    refine hs.keep j' b2 p1 q2 g2 hq ⟨Al.own_lt hG.st h3 hp,fun i' blk' base' hi' hp'=> ?_⟩
    have:=hG.st.inj _ _ _ _ _ _ (hlent i' blk' hi') h3 hp' hp rfl
    rw[<- this] at h2
    exact h2 (inι (c9.lt_of hi'))
   ·exfalso
    rw[pold j g1 g2] at hq
    rw[pnew] at hp
    obtain⟨p1,p2⟩:=p
    obtain⟨q1,q2⟩:=q
    simp only at he
    subst he
    refine hs.keep i' b1 p1 p2 h2 hp ⟨Al.own_lt hG.st g3 hq,fun i' blk' base' hi' hp'=> ?_⟩
    have:=hG.st.inj _ _ _ _ _ _ (hlent i' blk' hi') g3 hp' hq rfl
    rw[<- this] at g2
    exact g2 (inι (c9.lt_of hi'))
   ·rw[pnew] at hp hq
    rw[hs.st.inj _ _ _ _ p q h2 g2 hp hq he]
  ·rcases hMb j blk hj with⟨h1,h2,h3⟩|⟨i,b',rfl,h2,_⟩
   ·rw[pold j h1 h2] at hp
    exact hK'.2 j blk base h3 hp
   ·rw[pnew] at hp
    exact hs.keep i b' b base h2 hp ⟨hK'.1,fun i' blk' base' hi' hp'=>hK'.2 _ _ base' (hlent i' blk' hi') hp'⟩
/-! ### The same by lists of entries -/
def F7{α:Type}{π:Id->Id}{k:Nat}{f:α->List I}{l:List α}:(vec k f l).ren π=vec k f l:=Blk.im_ren _ _ _
def hdr_emb{α:Type}{π:Id->Id}{r c:Nat}{M:List (List α)}(h:∀p,π (r,p)=(c,p)):(Blk.cells 1 (hdr (r,[]) M)).ren π=.cells 1 (hdr (c,[]) M):=by
 simp only[Blk.ren];congr 1;apply dp;intro j;simp only[hdr,lM,dP,Option.map_map];cases M[j]? with
 |none=>rfl
 |some row=>simp[C.renL,C.ren,h]
inductive RenE(π:Id->Id):Nat->Ent->Nat->Ent->Prop
 |one {r r':Nat} {b b':Blk} (h:b.ren π=b'):RenE π r (.one b) r' (.one b')
 |vec {r r':Nat} {α:Type} {k:Nat} {f:α->List I} {l:List α}:RenE π r (.one (vec k f l)) r' (.one (vec k f l))
 |mat {r r':Nat} {α:Type} {k:Nat} {f:α->List I} {M:List (List α)}:RenE π r (mat (r,[]) k f M) r' (mat (r',[]) k f M)
 |any {r r':Nat} {e e':Ent} (h1:∀p b,e.sub p=some b->e'.sub p=some (b.ren π)) (h2:∀p b,e'.sub p=some b->∃b0,e.sub p=some b0/\b=b0.ren π):RenE π r e r' e'
def RenE.fwd{π:Id->Id}{r u:Nat}{e e':Ent}(h:RenE π r e u e')(j:∀p,π (r,p)=(u,p)):∀p b,e.sub p=some b->e'.sub p=some (b.ren π):=by
 intro p b c;cases h with
 |one h=>cases p with
  |nil=>cases c;rw[h];rfl
  |cons=>cases c
 |vec=>cases p with
  |nil=>cases c;rw[F7];rfl
  |cons=>cases c
 |mat=>
  rcases ab2 c with⟨rfl,rfl⟩|⟨q,row,rfl,v,rfl⟩
  ·rw[hdr_emb j];rfl
  ·rw[F7,mat_row,v]
 |any h1 h2=>exact h1 p b c
def RenE.bwd{π:Id->Id}{r u:Nat}{e e':Ent}(h:RenE π r e u e')(j:∀p,π (r,p)=(u,p)):∀p b,e'.sub p=some b->∃b0,e.sub p=some b0/\b=b0.ren π:=by
 intro p b c;cases h with
 |one h=>cases p with
  |nil=>cases c;exact⟨_,rfl,h.symm⟩
  |cons=>cases c
 |vec=>cases p with
  |nil=>cases c;exact⟨_,rfl,F7.symm⟩
  |cons=>cases c
 |mat=>
  rcases ab2 c with⟨rfl,rfl⟩|⟨q,row,rfl,v,rfl⟩
  ·exact⟨_,rfl,(hdr_emb j).symm⟩
  ·exact⟨Ab.vec _ _ row,by rw[mat_row,v],F7.symm⟩
 |any h1 h2=>exact h2 p b c
inductive LentE(π:Id->Id)(σv:c9):Nat->Ent->Nat->Prop
 |dead {r x:Nat}:LentE π σv r .dead x
 |live {r x:Nat} {e e':Ent} (h:σv[x]? =some e') (he:RenE π r e x e'):LentE π σv r e x
def LentL(π:Id->Id)(σv:c9):Nat->List Ent->List Nat->Prop
 |_,[],_=>True
 |r,e::l,x::ι=>LentE π σv r e x/\LentL π σv (r+1) l ι
 |_,_::_,[]=>False
def LentL.get{π:Id->Id}{σv:c9}:∀{r:Nat} {l:List Ent} {ι:List Nat},LentL π σv r l ι->∀j e,l[j]? =some e->∃x,ι[j]? =some x/\LentE π σv (r+j) e x
 |_,_::_,x::_,h,0,e,c=>by simp only[cw,Option.some.injEq] at c;subst c;exact⟨x,rfl,h.1⟩
 |r,_::l,_::ι,h,j+1,e,c=>by obtain⟨x,h1,h2⟩:=LentL.get h.2 j e (by simpa using c);exact⟨x,by simpa using h1,by rwa [show r+1+j=r+(j+1) by omega] at h2⟩
 |_,_::_,[],h,_,_,_=>h.elim
inductive MrgE(ι:List Nat)(m:Nat)(σv σ':c9):Nat->Ent->Prop
 |dead {j:Nat}:MrgE ι m σv σ' j .dead
 |old {j:Nat} {e:Ent} (h1:cQ j m=true) (h2:memN j ι=false) (h3:σv[j]? =some e):MrgE ι m σv σ' j e
 |new {j:Nat} {e e0:Ent} (r:Nat) (h1:af8 ι m r=j) (h2:σ'[r]? =some e0) (h3:RenE (emb ι m) r e0 j e):MrgE ι m σv σ' j e
def MrgL(ι:List Nat)(m:Nat)(σv σ':c9):Nat->List Ent->Prop
 |_,[]=>True
 |j,e::l=>MrgE ι m σv σ' j e/\MrgL ι m σv σ' (j+1) l
def MrgL.get{ι:List Nat}{m:Nat}{σv σ':c9}:∀{j:Nat} {l:List Ent},MrgL ι m σv σ' j l->∀i e,l[i]? =some e->MrgE ι m σv σ' (j+i) e
 |_,_::_,h,0,e,c=>by simp only[cw,Option.some.injEq] at c;subst c;exact h.1
 |j,_::l,h,i+1,e,c=>by have:=MrgL.get h.2 i e (by simpa using c);rwa [show j+1+i=j+(i+1) by omega] at this
def dead_sub{p:List Nat}{b:Blk}(h:Ent.dead.sub p=some b):False:=by cases p<;>cases h
def ent_of{σ:c9}{i:Id}{b:Blk}(h:σ[i]? =some (some b)):∃e,σ[i.1]? =some e/\e.sub i.2=some b:=by
 rw[c9.at_eq] at h;simp only[c9.at] at h;cases c:σ[i.1]? with
 |none=>simp[c] at h
 |some e=>rw[c] at h;simp only[Option.some.injEq] at h;exact⟨e,rfl,h⟩
def lenB:List Nat->Nat->Bool
 |[],n=>cA n 0
 |_::l,n+1=>lenB l n
 |_::_,0=>false
def nodupB:List Nat->Bool
 |[]=>true
 |x::l=> !memN x l && nodupB l
def nodupB_iff:∀{l:List Nat},nodupB l=true->l.Nodup
 |[],_=>.nil
 |x::l,h=>by simp only[nodupB,cy,ei] at h;refine List.nodup_cons.2 ⟨fun hx=> ?_,nodupB_iff h.2⟩;rw[(J9 x l).2 hx] at h;cases h.1
def allLt(m:Nat):List Nat->Bool
 |[]=>true
 |x::l=>cQ x m && allLt m l
def allLt_iff{m:Nat}:∀{l:List Nat},allLt m l=true->∀r ∈ l,r<m
 |x::l,h,r,hr=>by simp only[allLt,cy] at h;rcases dx.1 hr with rfl|hr;simpa using h.1;exact allLt_iff h.2 r hr
inductive OkE(n:Nat):Nat->Ent->Prop
 |dead {r:Nat}:OkE n r .dead
 |one {r:Nat} {b:Blk} (h:b.ok n=true):OkE n r (.one b)
 |vec {r:Nat} {α:Type} {k:Nat} {f:α->List I} {l:List α}:OkE n r (.one (vec k f l))
 |mat {r:Nat} {α:Type} {k:Nat} {f:α->List I} {M:List (List α)} (h:cQ r n=true):OkE n r (mat (r,[]) k f M)
 |any {r:Nat} {e:Ent} (h:∀p b,e.sub p=some b->b.ok n=true):OkE n r e
def OkEs(n:Nat):Nat->List Ent->Prop
 |_,[]=>True
 |r,e::l=>OkE n r e/\OkEs n (r+1) l
def OkEs.get{n:Nat}:∀{r:Nat} {l:List Ent},OkEs n r l->∀j e,l[j]? =some e->OkE n (r+j) e
 |_,_::_,h,0,e,c=>by simp only[cw,Option.some.injEq] at c;subst c;exact h.1
 |r,_::l,h,j+1,e,c=>by have:=OkEs.get h.2 j e (by simpa using c);rwa [show r+1+j=r+(j+1) by omega] at this
def OkEs.all{n:Nat}{σ:c9}(h:OkEs n 0 σ)(i:Id)(b:Blk)(hi:σ[i]? =some (some b)):b.ok n=true:=by
 obtain⟨e,h1,h2⟩:=ent_of hi;have:=OkEs.get h _ _ h1;rw[cE] at this;cases this with
 |dead=>exact(dead_sub h2).elim
 |one h=>cases hp:i.2 with
  |nil=>rw[hp] at h2;cases h2;exact h
  |cons=>rw[hp] at h2;cases h2
 |vec=>cases hp:i.2 with
  |nil=>rw[hp] at h2;cases h2;exact K4
  |cons=>rw[hp] at h2;cases h2
 |mat h=>
  rcases ab2 h2 with⟨_,rfl⟩|⟨q,row,_,_,rfl⟩
  ·exact hdr_ok (by simpa using h) _
  ·exact K4
 |any h=>exact h _ _ h2
def FnOk.lend{P:Program}{f:FuncId}{args args':List T}{σc σv τc σ'':c9}{rr r2:T}{m n:Nat}(ι:List Nat)(hok:FnOk P f args' σc fun r s=>r=rr/\s=τc)
  (hm:idF σv=some m) (hn:idF σc=some n) (hl:lenB ι n=true) (hd:nodupB ι=true) (hlt:allLt m ι=true) (hargs:T.okL n args'=true) (hokc:OkEs n 0 σc) (hren:T.renL (emb ι m) args'=args) (hL:LentL (emb ι m) σv 0 σc ι)
  (hr:rr.ren (emb ι m)=r2) (hlen:cY (m+(τc.length - ι.length)) (ez σ'')=true) (hM:MrgL ι m σv τc 0 σ''):FnOk P f args σv fun r s=>r=r2/\s=σ'':=by
 have em:=V4 hm
 have en:=V4 hn
 subst em en
 have el:ι.length=ez σc:=by
  clear hL hd hlt hM hlen hr hren;have:∀(l:List Nat) n,lenB l n=true->ez l=n:=by
   intro l;induction l with
   |nil=>intro n h;exact(cu h).symm
   |cons x l ih=>intro n h;cases n with
    |zero=>cases h
    |succ n=>simp[ih n h]
  exact this _ _ hl
 have hd':=nodupB_iff hd
 have hlt':=allLt_iff hlt
 have hπ:∀r p,emb ι (ez σv) (r,p)=(af8 ι (ez σv) r,p):=fun _ _=>rfl
 subst hren hr
 have hM2:MergeOk ι σv τc σ'':=by
  refine⟨cH hlen,fun j b hj=> ?_⟩;obtain⟨e,h1,h2⟩:=ent_of hj;have h3:=MrgL.get hM _ _ h1;rw[cE] at h3;cases h3 with
  |dead=>exact(dead_sub h2).elim
  |old q1 q2 q3=>
   refine .inl ⟨by simpa using q1,fun hx=> ?_,?_⟩
   ·rw[(J9 _ _).2 hx] at q2;cases q2
   ·show σv[((j.1,j.2):Id)]? =_
    rw[w7 q3,h2]
  |new r q1 q2 q3=>
   obtain⟨b0,k1,k2⟩:=q3.bwd (fun p=>by rw[hπ,q1]) _ _ h2
   refine .inr ⟨(r,j.2),b0,?_,?_,k2⟩
   ·rw[hπ,q1]
   ·rw[w7 q2,k1]
 refine FnOk.frame hok ι σv el hd' hlt' hargs (fun i b hi=>hokc.all i b hi) (fun i b hi=> ?_) _ _ (fun r' σ' hq=>⟨by rw[hq.1],by rw[hq.2];exact hM2⟩)
 ·obtain⟨e,h1,h2⟩:=ent_of hi
  obtain⟨x,h3,h4⟩:=LentL.get hL _ _ h1
  rw[cE] at h4
  obtain⟨y,g1,g2⟩:=ac6 (m:=ez σv) (ι:=ι) (r:=i.1) (by rw[el];exact c9.lt_of hi)
  rw[h3] at g1;cases g1
  cases h4 with
  |dead=>exact(dead_sub h2).elim
  |live h he=>
   have:=he.fwd (fun p=>by rw[hπ,g2]) _ _ h2
   show σv[((af8 ι (ez σv) i.1,i.2):Id)]? =_
   rw[g2,w7 h,this]
section
variable {P:Program}{σ0:c9}{sz:Nat}{Q:Post}{env env':Env}{σv σ':c9}{ops:Array Oper}{rest:List Oper}{dst:Option Nat}{ty:Ti}{pos:String}{after:Array Edge}
def AOps.callF{x:Od}{e:List Od}{ats:Array Ti}{f:FuncId}{caps:List C}{ts:List T}{r2:T}{σ'':c9}(hx:ev env x=some (.c (.fn f caps)))(j:evs env e=some ts)(hd:j6 sz dst=true)
  (hf:FnOk P f (ts++caps.map T.c) σv fun r s=>r=r2/\s=σ'') (h:AOps P σ0 sz ops Q rest (St.mk (putE env dst r2) σ'')):
  AOps P σ0 sz ops Q (⟨dst,.call ⟨.value x,e.toArray,ats⟩,ty,pos,after,none⟩::rest) (St.mk env σv):=
 .callS hx j hd hf fun r s ⟨h1,h2⟩=>by subst h1 h2;exact h
end
end Ab
end
section
namespace Ab
open Go
section
variable {P:Program}{σ0:c9}{sz:Nat}{Q:Post}{ops:List Oper}{base:Env}
def AOps.newAt{B:Array Oper}{rest:List Oper}{o:Oper}{dst:Option Nat}{V:List T}{e E:Env}{i m:Nat}{σv σ1 σ':c9}{c':T}(n:Nat)(c:T)(blk:Blk)(h1:σ1=σv\/∃id,putF σv id .none=some σ1)(hm:idF σv=some m)(hE:EOk ops V base i E)(hb:envNo (n,[]) base=true)(hV:vNo (n,[]) ops i V 0=true)(he:envNo (n,[]) e=true)
  (ay:setF σ1 n (.one blk)=some σ') (a2:NoE n (.one blk)) (a3:OkE m n (.one blk)) (a4:c.ok m=true) (a5:c.ren (mv (n,[]) (m,[]))=c') (h0:cY (ez σ0) n=true) (hs:NoL n σ1)
  (U:AOps P σ0 sz B Q rest (St.mk (putE (e++E) dst c') (σ1++[.one blk]))->AOps P σ0 sz B Q (o::rest) (St.mk (e++E) σv))
  (h:AOps P σ0 sz B Q rest (St.mk (putE (e++E) dst c) σ')):AOps P σ0 sz B Q (o::rest) (St.mk (e++E) σv):=fun Γ φ a w a6 hR=>by
 have a7:=V4 hm;have h3:=H7 ay
 subst a7
 obtain⟨rfl,ac⟩:=h3
 have z:ez σ1=ez σv:=by rcases h1 with rfl|⟨id,h1⟩;rfl;rw[putF_eq h1,c9.length_put]
 have bb:n<ez σv:=by omega
 have ad:∀(i:Id) (b:Blk),σ1[i]? =some (some b)->σv[i]? =some (some b):=fun i b hi=>by rcases h1 with rfl|⟨id,h1⟩;exact hi;rw[putF_eq h1] at hi;exact(c9.get_kill hi).2
 have J:∃n0,n0=ez σv/\blk.ok n0=true:=⟨_,rfl,by
  cases a3 with
  |one h=>exact h
  |vec=>exact Blk.im_ok _ _ _
  |any h=>exact h [] blk rfl⟩
 have ai:blk.no (n,[])=true:=by
  cases a2 with
  |one h=>exact h
  |vec=>exact Blk.im_no _ _ _
  |any h=>exact h [] blk rfl
 obtain⟨n0,a8,J⟩:=J
 refine U (AOps.sub (s':=St.mk (putE (e++E) dst c) (σ1.set n (.one blk))) ?_ h) Γ φ a w a6 hR
 have bd:=cH h0
 have al:∀(t:Nat) (v:T),lookup t (e++E)=some v->v.ok (ez σv)=true:=fun t v ht=>by obtain⟨u,_,hr⟩:=hR.env t v ht;exact hr.ok
 have an:∀(t:Nat) (v:T),lookup t (e++E)=some v->v.no (n,[])=true:=fun t v ht=>by
  rw[F5] at ht;cases hx:lookup t e with
  |some x=>
   rw[hx] at ht;cases ht
   exact ad6 he t v hx
  |none=>
   rw[hx] at ht
   rcases hE t v ht with g|⟨j,g1,g2,g3⟩
   ·exact ad6 hb t v g
   ·exact vNo_get hV j v g3 (by rw[cE];exact g1) (by rw[cE];exact g2)
 have aa:mv (n,[]) (ez σv,[]) (n,[])=(ez σv,[]):=by simp[mv,G8.2 rfl]
 have F:∀i:Id,i ≠ (n,[])->mv (n,[]) (ez σv,[]) i=i:=fun i h=>by simp[mv,E3 h]
 have N:∀(i:Id) (b:Blk),(σ1.set n (.one blk))[i]? =some (some b)->i.1<ez σv:=fun i b hi=>by have:=c9.lt_of hi;rw[lS,z] at this;exact this
 refine Sub.mk (mv (n,[]) (ez σv,[])) (fun i hi=>F i (fun e=>by subst e;simp at hi;omega)) (by simp only[lS];omega) (fun i j b b' hi hj h=> ?_) (fun i b hi=> ?_) (fun t v ht=> ?_)
 ·have l1:=N i b hi
  have l2:=N j b' hj
  by_cases g1:i=(n,[])<;>by_cases g2:j=(n,[])
  ·rw[g1,g2]
  ·rw[g1,aa,F j g2] at h
   rw[<- h] at l2;simp at l2
  ·rw[g2,aa,F i g1] at h
   rw[h] at l1;simp at l1
  ·rwa [F i g1,F j g2] at h
 ·have a9:=N i b hi
  obtain⟨j,q⟩:=i
  by_cases hj:j=n
  ·subst hj
   have av:(Ent.one blk).sub q=some b:=by rw[c9.at_eq] at hi;simp only[c9.at,dM ac,Option.some.injEq] at hi;exact hi
   cases q with
   |cons=>cases av
   |nil=>
    cases av
    refine⟨by rw[lS,z,<- a8];exact J,?_⟩
    rw[aa,Blk.ren_no _ ai,<- z]
    exact c9.get_last σ1 _
  ·have ab:σ1[((j,q):Id)]? =some (some b):=by rw[c9.at_eq] at hi ⊢;simp only[c9.at] at hi ⊢;rwa [dQ (fun e=>hj e.symm)] at hi
   refine⟨by rw[lS,z];exact hR.st.okB (ad _ _ ab),?_⟩
   rw[F (j,q) (fun e=>hj (by cases e;rfl)),Blk.ren_no _ (hs.all _ _ ab)]
   show(σ1++_)[_]? =_
   rw[c9.get_left (by rw[z];exact a9)];exact ab
 ·have rest:∀v,lookup t (e++E)=some v->v.ok (σ1.set n (Ent.one blk)).length=true/\lookup t (e++E)=some (v.ren (mv (n,[]) (ez σv,[]))):=fun v hv=>
   ⟨by rw[lS,z];exact al t v hv,by rw[T.ren_no v (an t v hv)];exact hv⟩
  cases O:dst with
  |none=>rw[O] at ht;exact rest v ht
  |some d=>
   rw[O] at ht
   simp only[putE,lookup] at ht ⊢
   split at ht
   ·cases ht
    refine⟨by rw[lS,z];exact a4,?_⟩
    rw[a5]
   ·exact rest v ht
end
section
variable {P:Program}{σ0:c9}{sz:Nat}{Q:Post}{env env':Env}{σv σ':c9}{ops:Array Oper}{rest:List Oper}{dst:Option Nat}{ty:Ti}{pos:String}{after:Array Edge}
def AOps.nilCheck{x:Od}{id:Id}{j o k:Nat}{es:List (List C)}(hx:ev env x=some (.c (.ptr id j o)))(e:σv[id]? =some (some (.cells k es)))(hd:j6 sz dst=true)
  (h:AOps P σ0 sz ops Q rest (St.mk (putE env dst (.c (.ptr id j o))) σv)):AOps P σ0 sz ops Q (⟨dst,.nilCheck x,ty,pos,after,none⟩::rest) (St.mk env σv):=
 .value rfl hd _ (fun v φ a w q=>by have hr:=k7 q hx;obtain⟨hid,b,base,hp,u⟩:=af0 hr e;exact⟨a.eval x,by simp[execOp,u],hr⟩) h
def AOps.nilCheckI{x:Od}{cs:List I}(hx:ev env x=some (.c (.imm (.ipt cs))))(hd:j6 sz dst=true)
  (h:AOps P σ0 sz ops Q rest (St.mk (putE env dst (.c (.imm (.ipt cs)))) σv)):AOps P σ0 sz ops Q (⟨dst,.nilCheck x,ty,pos,after,none⟩::rest) (St.mk env σv):=
 .value rfl hd _ (fun u φ a w e=>by have hr:=k7 e hx;obtain⟨v,us,j,q⟩:=ipt_inv hr;exact⟨a.eval x,by simp[execOp,j],hr⟩) h
def AOps.nilCheckF{x:Od}{f:FuncId}{caps:List C}(hx:ev env x=some (.c (.fn f caps)))(hd:j6 sz dst=true)
  (h:AOps P σ0 sz ops Q rest (St.mk (putE env dst (.c (.fn f caps))) σv)):AOps P σ0 sz ops Q (⟨dst,.nilCheck x,ty,pos,after,none⟩::rest) (St.mk env σv):=
 .value rfl hd _ (fun q φ a w j=>by
  have hr:=k7 j hx;have e:∃l,a.eval x=.func (.func f) #[] l:=by generalize a.eval x=v at hr;cases hr with|c hr=>cases hr with|fn us h=>exact⟨_,rfl⟩
  obtain⟨l,e⟩:=e;exact⟨a.eval x,by simp[execOp,e],hr⟩) h
end
end Ab
end
section
namespace Ab
open Go Go.Proofs
open Tryz
def oneL:List Nat:=[3,4,5,22,23,38,44,45,51,52,56,69,70,73,98,102,110,120,124,125,130,132,135,167,185,186,200,224]
def aggL:List (Nat×Nat):=[(25,4),(27,4),(29,2),(41,2),(68,2),(79,0),(84,3),(90,4),(101,2),(122,4),(151,4),(221,2),(260,20),(264,32)]
def fldL:List (Nat×List Nat):=[(25,[0,1,2,3]),(27,[0,1,2,3]),(29,[0,1]),(68,[0,1]),(84,[0,1,2]),(90,[0,1,2,3]),(101,[0,1]),(104,[0,1,2]),(122,[0,1,2,3]),(134,[0,1,2]),(138,[0,1,2,3]),(151,[0,1,2,3]),(166,[0,1,2]),(219,[0,4,5,6]),(221,[0,1])]
def zerL:List (Nat×List C):=[(3,[.imm (.val (.int .i64 0))]),(4,[.imm (.val (.bool false))]),(22,[.imm (.val (.slice none 0 0))]),(25,[.imm (.val (.int .i64 0)),.imm (.val (.slice none 0 0)),.imm (.val (.slice none 0 0)),.imm (.val (.slice none 0 0))]),(27,[.imm (.val (.bool false)),.imm (.val (.slice none 0 0)),.imm (.val (.int .i64 0)),.imm (.val (.int .i64 0))]),(29,[.imm (.val (.int .i64 0)),.imm (.val (.int .i64 0))]),(41,[.imm (.val (.int .i64 0)),.imm (.val (.int .i64 0))]),(45,[.imm (.val (.slice none 0 0))]),(51,[.imm (.val (.int .u32 0))]),(56,[.imm (.val (.map none))]),(68,[.imm (.val (.int .u32 0)),.imm (.val (.int .i64 0))]),(69,[.imm (.val (.map none))]),(70,[.imm (.val (.pointer none))]),(73,[.imm (.val (.map none))]),(79,[]),(84,[.imm (.val (.int .i64 0)),.imm (.val (.int .i64 0)),.imm (.val (.int .u32 0))]),(90,[.imm (.val (.slice none 0 0)),.imm (.val (.slice none 0 0)),.imm (.val (.slice none 0 0)),.imm (.val (.int .i64 0))]),(98,[.imm (.val (.map none))]),(101,[.imm (.val (.int .u32 0)),.imm (.val (.int .i64 0))]),(104,[.imm (.val (.int .u32 0)),.imm (.val (.int .u32 0)),.imm (.val (.slice none 0 0))]),(120,[.imm (.val (.pointer none))]),(122,[.imm (.val (.slice none 0 0)),.imm (.val (.int .i64 0)),.imm (.val (.int .i64 0)),.imm (.val (.int .i64 0))]),(125,[.imm (.val (.map none))]),(134,[.imm (.val (.slice none 0 0)),.imm (.val (.map none)),.imm (.val (.int .i64 0))]),(138,[.imm (.val (.int .u32 0)),.imm (.val (.int .i64 0)),.imm (.val (.int .i64 0)),.imm (.val (.int .i64 0))]),(151,[.imm (.val (.int .u32 0)),.imm (.val (.int .u32 0)),.imm (.val (.int .u32 0)),.imm (.val (.int .i64 0))]),(166,[.imm (.val (.slice none 0 0)),.imm (.val (.int .i64 0)),.imm (.val (.int .i64 0))]),(167,[.imm (.val (.slice none 0 0))]),(185,[.imm (.val (.slice none 0 0))]),(186,[.imm (.val (.nilFunc))]),(219,[.imm (.val (.int .i64 0)),.imm (.val (.slice none 0 0)),.imm (.val (.slice none 0 0)),.imm (.val (.slice none 0 0)),.imm (.val (.slice none 0 0)),.imm (.val (.slice none 0 0)),.imm (.val (.slice none 0 0))]),(221,[.imm (.val (.slice none 0 0)),.imm (.val (.int .i64 0))]),(224,[.imm (.val (.int .u64 0))]),(251,[.imm (.val (.int .u8 0)),.imm (.val (.int .u8 0)),.imm (.val (.int .u8 0)),.imm (.val (.int .u8 0)),.imm (.val (.int .u8 0)),.imm (.val (.int .u8 0)),.imm (.val (.int .u8 0)),.imm (.val (.int .u8 0)),.imm (.val (.int .u8 0)),.imm (.val (.int .u8 0)),.imm (.val (.int .u8 0)),.imm (.val (.int .u8 0)),.imm (.val (.int .u8 0)),.imm (.val (.int .u8 0)),.imm (.val (.int .u8 0)),.imm (.val (.int .u8 0)),.imm (.val (.int .u8 0)),.imm (.val (.int .u8 0)),.imm (.val (.int .u8 0)),.imm (.val (.int .u8 0)),.imm (.val (.int .u8 0)),.imm (.val (.int .u8 0)),.imm (.val (.int .u8 0)),.imm (.val (.int .u8 0))]),(260,[.imm (.val (.int .u64 0)),.imm (.val (.int .u64 0)),.imm (.val (.int .u64 0)),.imm (.val (.int .u64 0)),.imm (.val (.int .u64 0)),.imm (.val (.int .u64 0)),.imm (.val (.int .u64 0)),.imm (.val (.int .u64 0)),.imm (.val (.int .u64 0)),.imm (.val (.int .u64 0)),.imm (.val (.int .u64 0)),.imm (.val (.int .u64 0)),.imm (.val (.int .u64 0)),.imm (.val (.int .u64 0)),.imm (.val (.int .u64 0)),.imm (.val (.int .u64 0)),.imm (.val (.int .u64 0)),.imm (.val (.int .u64 0)),.imm (.val (.int .u64 0)),.imm (.val (.int .u64 0))]),(264,[.imm (.val (.int .u8 0)),.imm (.val (.int .u8 0)),.imm (.val (.int .u8 0)),.imm (.val (.int .u8 0)),.imm (.val (.int .u8 0)),.imm (.val (.int .u8 0)),.imm (.val (.int .u8 0)),.imm (.val (.int .u8 0)),.imm (.val (.int .u8 0)),.imm (.val (.int .u8 0)),.imm (.val (.int .u8 0)),.imm (.val (.int .u8 0)),.imm (.val (.int .u8 0)),.imm (.val (.int .u8 0)),.imm (.val (.int .u8 0)),.imm (.val (.int .u8 0)),.imm (.val (.int .u8 0)),.imm (.val (.int .u8 0)),.imm (.val (.int .u8 0)),.imm (.val (.int .u8 0)),.imm (.val (.int .u8 0)),.imm (.val (.int .u8 0)),.imm (.val (.int .u8 0)),.imm (.val (.int .u8 0)),.imm (.val (.int .u8 0)),.imm (.val (.int .u8 0)),.imm (.val (.int .u8 0)),.imm (.val (.int .u8 0)),.imm (.val (.int .u8 0)),.imm (.val (.int .u8 0)),.imm (.val (.int .u8 0)),.imm (.val (.int .u8 0))])]
def flaL:List (Nat×Nat):=[(25,4),(27,4),(29,2),(68,2),(84,3),(90,4),(101,2),(104,3),(122,4),(134,3),(138,4),(151,4),(166,3),(221,2)]
def intL:List (Nat×IntKind):=[(2,.i64),(3,.i64),(5,.u8),(51,.u32),(155,.u64),(200,.u64),(224,.u64)]
def tyOne(P : Program)(t : Nat) : Bool := (match P.underlying t with
 |some d=>(A7 d).not
 |none=>false) && match P.info? t with
 |some i=>cA i.size 1 && i.zero.isSome
 |none=>false
def tyAgg(P : Program)(p : Nat × Nat) : Bool := (match P.underlying p.1 with
 |some d=>A7 d
 |none=>false) && match P.info? p.1 with
 |some i=>cA i.size p.2 && i.zero.isSome
 |none=>false
def tyFld(P:Program):List Field->List Nat->Bool
 |[],[]=>true
 | c :: r, o :: os => cA c.offset o && (match P.info? c.type with
  |some i=>i.size !=0 && i.zero.isSome
  |none=>false) && tyFld P r os
 |_,_=>false
def tyStr(P:Program)(p:Nat×List Nat):Bool:=match P.underlying p.1 with
 |some (.struct fs)=>tyFld P fs.toList p.2
 |_=>false
def kN:IntKind->Nat
 | .i8=>0| .i16=>1| .i32=>2| .i64=>3| .u8=>4| .u16=>5| .u32=>6| .u64=>7
def tyInt(P:Program)(p:Nat×IntKind):Bool:=match P.underlying p.1 with
 |some (.int k)=>cA (kN k) (kN p.2)
 |_=>false
def tyZer(P:Program):List (Nat×List C)->Prop
 |[]=>True
 |(t,z)::r=>TyZ P t z/\tyZer P r
def tyFla(P:Program):List (Nat×Nat)->Prop
 |[]=>True
 |(t,z)::r=>FlatC P t z/\tyFla P r
def oneL_all:oneL.all (tyOne prog)=true:=by kernel_rfl
def aggL_all:aggL.all (tyAgg prog)=true:=by kernel_rfl
def fldL_all:fldL.all (tyStr prog)=true:=by kernel_rfl
def intL_all:intL.all (tyInt prog)=true:=by kernel_rfl
def zerL_all:tyZer prog zerL:=⟨inferInstance,inferInstance,inferInstance,inferInstance,inferInstance,inferInstance,inferInstance,inferInstance,inferInstance,inferInstance,inferInstance,inferInstance,inferInstance,inferInstance,inferInstance,inferInstance,inferInstance,inferInstance,inferInstance,inferInstance,inferInstance,inferInstance,inferInstance,inferInstance,inferInstance,inferInstance,inferInstance,inferInstance,inferInstance,inferInstance,inferInstance,inferInstance,inferInstance,inferInstance,inferInstance,inferInstance,trivial⟩
def flaL_all:tyFla prog flaL:=⟨inferInstance,inferInstance,inferInstance,inferInstance,inferInstance,inferInstance,inferInstance,inferInstance,inferInstance,inferInstance,inferInstance,inferInstance,inferInstance,inferInstance,trivial⟩
end Ab
end
section
namespace Ab
open Go Go.Proofs
open Tryz
def memN_mem{n:Nat}:∀{l:List Nat},memN n l=true->n ∈ l
 |[],h=>by cases h
 |m::r,h=>by simp only[memN] at h;split at h;rename_i e;rw[cu e];exact .head _;exact .tail _ (memN_mem h)
def ldC(σ:c9):C->Option C
 | .imm (.ipt (c::_))=>some (.imm c)
 | .ptr id j o=>match c9.at σ id with
  |some (some (.cells _ es))=>match es[j]? with
   |some e=>e[o]?
   |none=>none
  |_=>none
 |_=>none
def fAd(σ:c9)(off:Nat):C->Option C
 | .ptr id j 0=>match c9.at σ id with
  |some (some (.cells _ _))=>some (.ptr id j off)
  |_=>none
 | .imm (.ipt cs)=>match dropF off cs with
  |some c=>some (.imm (.ipt c))
  |none=>none
 |_=>none
def offOf(t f:Nat):List (Nat×List Nat)->Option Nat
 |[]=>none
 |(s,os)::r=>match cA s t with
  |true=>os[f]?
  |false=>offOf t f r
def all_get{α:Type}{l:List α}{f:α->Bool}(h:l.all f=true){x:α}(hx:x ∈ l):f x=true:=cD.1 h x hx
theorem size_get{P : Program}{t n : Nat}(h : (match P.info? t with
 |some i=>cA i.size n && i.zero.isSome
 |none=>false)=true):∃b z,TyS P t n b z:=by
 split at h
 ·rename_i i hi
  simp only[cy,dB] at h
  obtain⟨h1,z,h2⟩:=h
  exact⟨_,z,⟨i,hi,cu h1,rfl,h2⟩⟩
 ·cases h
theorem tyOne_get{P:Program}{t:Nat}(h:tyOne P t=true):(∃d,P.underlying t=some d/\A7 d=false)/\∃b z,TyS P t 1 b z:=by unfold tyOne at h;rw[cy] at h;obtain⟨h,h2⟩:=h;refine⟨?_,size_get h2⟩;split at h;exact⟨_,by assumption,by simpa using h⟩;cases h
theorem oneL_ok{t:Nat}(h:t ∈ oneL):(∃d,prog.underlying t=some d/\A7 d=false)/\∃b z,TyS prog t 1 b z:=tyOne_get (all_get oneL_all h)
def X1{α:Type}(t:Nat):List (Nat×α)->Option α
 |[]=>none
 |(s,n)::r=>match cA s t with
  |true=>some n
  |false=>X1 t r
def numOf_mem{α:Type}{t:Nat}{n:α}:∀{l:List (Nat×α)},X1 t l=some n->(t,n) ∈ l
 |[],h=>by cases h
 |(s,m)::r,h=>by simp only[X1] at h;split at h;rename_i e;cases h;rw[<- cu e];exact .head _;exact .tail _ (numOf_mem h)
theorem tyAgg_get{P:Program}{t n:Nat}(h:tyAgg P (t,n)=true):(∃d,P.underlying t=some d/\A7 d=true)/\∃b z,TyS P t n b z:=by unfold tyAgg at h;rw[cy] at h;obtain⟨h,h2⟩:=h;refine⟨?_,size_get h2⟩;split at h;exact⟨_,by assumption,h⟩;cases h
theorem aggL_ok{t n:Nat}(h:X1 t aggL=some n):(∃d,prog.underlying t=some d/\A7 d=true)/\∃b z,TyS prog t n b z:=tyAgg_get (all_get aggL_all (numOf_mem h))
def tyInt_get{P:Program}{t:Nat}{k:IntKind}(h:tyInt P (t,k)=true):P.underlying t=some (.int k):=by
 unfold tyInt at h;split at h;rename_i k' hk;rw[hk];have h:=cu h;congr 2;revert h;cases k<;>cases k'<;>intro h<;>first|rfl|cases h
 cases h
def intL_ok{t:Nat}{k:IntKind}(h:X1 t intL=some k):prog.underlying t=some (.int k):=tyInt_get (all_get intL_all (numOf_mem h))
theorem tyZer_get{P:Program}{t:Nat}{z:List C}:∀{l:List (Nat×List C)},tyZer P l->X1 t l=some z->TyZ P t z
 |(s,m)::r,hl,h=>by simp only[X1] at h;split at h;rename_i e;cases h;rw[<- cu e];exact hl.1;exact tyZer_get (l:=r) hl.2 h
theorem tyFla_get{P:Program}{t:Nat}{z:Nat}:∀{l:List (Nat×Nat)},tyFla P l->X1 t l=some z->FlatC P t z
 |(s,m)::r,hl,h=>by simp only[X1] at h;split at h;rename_i e;cases h;rw[<- cu e];exact hl.1;exact tyFla_get (l:=r) hl.2 h
def offOf_mem{t f off:Nat}:∀{l:List (Nat×List Nat)},offOf t f l=some off->∃os,(t,os) ∈ l/\os[f]? =some off
 |[],h=>by cases h
 |(s,os)::r,h=>by simp only[offOf] at h;split at h;rename_i e;rw[<- cu e];exact⟨os,.head _,h⟩;obtain⟨x,h1,h2⟩:=offOf_mem h;exact⟨x,.tail _ h1,h2⟩
def tyFld_get{P:Program}:∀{fs:List Field} {os:List Nat} {f off:Nat},tyFld P fs os=true->os[f]? =some off->∃c,fs[f]? =some c/\c.offset=off/\∃i,P.info? c.type=some i/\i.size ≠ 0/\∃z,i.zero=some z
 |[],[],f,off,_,h=>by simp at h
 |[],_::_,_,_,h,_=>by cases h
 |_::_,[],_,_,h,_=>by cases h
 |c::r,o::os,f,off,h,hf=>by
  simp only[tyFld,cy] at h;cases f with
  |succ f=>exact tyFld_get (fs:=r) (os:=os) h.2 hf
  |zero=>
   cases hf
   refine⟨c,rfl,cu h.1.1,?_⟩
   have e:=h.1.2
   split at e
   ·rename_i i hi
    simp only[cy,bne_iff_ne,ne_eq,dB] at e
    exact⟨i,hi,e⟩
   ·cases e
def tyStr_get{P:Program}{t:Nat}{os:List Nat}{f off:Nat}(h:tyStr P (t,os)=true)(ho:os[f]? =some off):∃fs c,P.underlying t=some (.struct fs)/\fs[f]? =some c/\c.offset=off/\∃i,P.info? c.type=some i/\i.size ≠ 0/\∃z,i.zero=some z:=by unfold tyStr at h;split at h;rename_i fs e;obtain⟨c,g1,j⟩:=tyFld_get h ho;exact⟨fs,c,e,by simpa using g1,j⟩;cases h
def fldL_ok{t f off:Nat}(h:offOf t f fldL=some off):∃fs c,prog.underlying t=some (.struct fs)/\fs[f]? =some c/\c.offset=off/\∃i,prog.info? c.type=some i/\i.size ≠ 0/\∃z,i.zero=some z:=by obtain⟨os,h1,h2⟩:=offOf_mem h;exact tyStr_get (all_get fldL_all h1) h2
def kN_inj{k c:IntKind}(h:cA (kN k) (kN c)=true):k=c:=by have h:=cu h;cases k<;>cases c<;>first|rfl|cases h
def wrK(n:Int):IntKind->C
 | .i64=>int (w64 n)
 |k=>.imm (.val (.int k (k.wrap n)))
def wrK_eq(n:Int)(k:IntKind):wrK n k=.imm (.val (.int k (k.wrap n))):=by cases k<;>rfl
def binD(k:IntKind)(a b:Int):BinOp->Option C
 | .lss=>some (bool (decide (a<b)))
 | .leq=>some (bool (decide (a<=b)))
 | .gtr=>some (bool (decide (b<a)))
 | .geq=>some (bool (decide (b<=a)))
 | .eql=>some (bool (decide (a=b)))
 | .neq=>some (bool (!decide (a=b)))
 | .add=>some (wrK (a+b) k)
 | .sub=>some (wrK (a - b) k)
 | .mul=>some (wrK (a * b) k)
 |_=>none
def dOps:Op->List Od
 | .move x| .assign x| .load _ x| .fieldAddr _ x _| .unOp .not _ x| .extract x _=>[x]
 | .binOp _ _ x y _=>[x,y]
 | .pick c x y=>[c,x,y]
 | .build _ p=>p.toList.map (·.2)
 | .nilCheck x| .convert _ _ x=>[x]
 |_=>[]
def zipP:List (Nat×Od)->List T->Option (List (Nat×T))
 |[],[]=>some []
 |(i,_)::r,t::ts=>match zipP r ts with
  |some x=>some ((i,t)::x)
  |none=>none
 |_,_=>none
def ldA(σ:c9)(n:Nat):C->Option T
 | .imm (.ipt cs)=>match takeF n cs with
  |some x=>match immF x with
   |some y=>some (.agg y)
   |none=>none
  |none=>none
 | .ptr id j o=>match c9.at σ id with
  |some (some (.cells _ es))=>match es[j]? with
   |some e=>match dropF o e with
    |some x=>match takeF n x with
     |some y=>some (.agg y)
     |none=>none
    |none=>none
   |none=>none
  |_=>none
 |_=>none
def nilC(σ:c9):C->Option T
 | .ptr id j o=>match c9.at σ id with
  |some (some (.cells _ _))=>some (.c (.ptr id j o))
  |_=>none
 | .imm (.ipt cs)=>some (.c (.imm (.ipt cs)))
 | .fn f caps=>some (.c (.fn f caps))
 |_=>none
def cT:Option C->Option T
 |some c=>some (.c c)
 |none=>none
def dv(σ:c9):Op->List T->Option T
 | .move _,[t]=>some t
 | .assign _,[t]=>some t
 | .load ty _,[.c c]=>match memN ty oneL with
  |true=>cT (ldC σ c)
  |false=>match X1 ty aggL with
   |some n=>ldA σ n c
   |none=>none
 | .build ty p,ts=>match X1 ty zerL,X1 ty flaL with
  |some z,some n=>match idF z with
   |some m=>match cA m n with
    |true=>match zipP p.toList ts with
     |some ps=>match fillF z ps with
      |some cs=>some (.agg cs)
      |none=>none
     |none=>none
    |false=>none
   |none=>none
  |_,_=>none
 | .nilCheck _,[.c c]=>nilC σ c
 | .convert s d _,[.c (.imm (.val (.int _ n)))]=>match X1 s intL,X1 d intL with
  |some _,some e=>some (.c (.imm (.val (.int e (e.wrap n)))))
  |_,_=>none
 | .fieldAddr ty _ f,[.c c]=>match offOf ty f fldL with
  |some off=>cT (fAd σ off c)
  |none=>none
 | .binOp op _ _ _ _,[.c (.imm (.val (.int k a))),.c (.imm (.val (.int e b)))]=>match cA (kN k) (kN e) with
  |true=>cT (binD k a b op)
  |false=>none
 | .unOp .not _ _,[.c (.imm (.val (.bool b)))]=>some (.c (bool (!b)))
 | .extract _ i,[.tup ts]=>ts[i]?
 | .pick _ _ _,[.c (.imm (.val (.bool b))),x,y]=>match b with
  |true=>some x
  |false=>some y
 |_,_=>none
def dvE(σ:c9)(env:Env)(op:Op):Option T:=match evs env (dOps op) with
 |some ts=>dv σ op ts
 |none=>none
def gdo(ops:List Oper)(env:Env)(o:Oper):Option Bool:=match o.guard with
 |none=>some true
 |some (j,b)=>match z8 ops j with
  |some t=>match lookup t env with
   |some .undef=>some false
   |some (.c (.imm (.val (.bool e))))=>match e,b with
    |true,true=>some true
    |false,false=>some true
    |true,false=>some false
    |false,true=>some false
   |_=>none
  |none=>none
def dgo(ops:List Oper)(σ:c9)(env:Env)(o:Oper):Option T:=match gdo ops env o with
 |some true=>dvE σ env o.op
 |some false=>some .undef
 |none=>none
def newC(σ:c9)(cs:List C):Option (T×c9):=match idF cs with
 |some k=>match newF σ with
  |some id=>match w8 σ (.one (.cells k [cs])) with
   |some σ'=>some (.c (.ptr id 0 0),σ')
   |none=>none
  |none=>none
 |none=>none
def stoC(σ:c9)(ty:Nat)(id:Id)(o k:Nat)(e:List C):T->Option c9
 | .c c=>match memN ty oneL with
  |true=>match setF e o c with
   |some e'=>putF σ id (some (.cells k [e']))
   |none=>none
  |false=>none
 | .agg cs=>match X1 ty aggL with
  |some n=>match idF cs with
   |some m=>match cA m n,cQ 0 n with
    |true,true=>match Y1 e o cs with
     |some e'=>putF σ id (some (.cells k [e']))
     |none=>none
    |_,_=>none
   |none=>none
  |none=>none
 |_=>none
def deo(σ:c9)(env:Env):Option Nat->Op->Option (T×c9)
 |_,.alloc t=>match X1 t zerL with
  |some cs=>newC σ cs
  |none=>none
 |_,.box _ x=>match ev env x with
  |some v=>match aa7 v with
   |some cs=>newC σ cs
   |none=>none
  |none=>none
 |none,.store t x y=>match ev env x with
  |some (.c (.ptr id 0 o))=>match ev env y with
   |some v=>match c9.at σ id with
    |some (some (.cells k [e]))=>match stoC σ t id o k e v with
     |some σ'=>some (.undef,σ')
     |none=>none
    |_=>none
   |none=>none
  |_=>none
 |_,_=>none
def dwo(ops:List Oper)(σ:c9)(env:Env)(o:Oper):Option (T×c9):=match gdo ops env o with
 |some true=>match dvE σ env o.op with
  |some v=>some (v,σ)
  |none=>deo σ env o.dst o.op
 |some false=>some (.undef,σ)
 |none=>none
def drv(ops:List Oper)(sz:Nat):Nat->List Oper->Env->c9->Option (List Oper×Env×c9)
 |0,l,env,σ=>some (l,env,σ)
 |_+1,[],_,_=>none
 |n+1,o::l,env,σ=>match j6 sz o.dst with
  |true=>match dwo ops σ env o with
   |some (v,σ')=>match o.dst with
    |some d=>drv ops sz n l ((d,v)::env) σ'
    |none=>drv ops sz n l env σ'
   |none=>none
  |false=>none
section
variable {σ0 σ:c9}{sz:Nat}{Q:Post}{env env':Env}{rest:List Oper}{dst:Option Nat}{ty:Ti}{pos:String}{after:Array Edge}
def evs1{x:Od}{t:T}(h:evs env [x]=some [t]):ev env x=some t:=by simp only[evs] at h;split at h;rename_i h1 h2;cases h;exact h1;cases h
def evs2{x y:Od}{t u:T}(h:evs env [x,y]=some [t,u]):ev env x=some t/\ev env y=some u:=by simp only[evs] at h;cases h1:ev env x<;>cases h2:ev env y<;>simp[h1,h2] at h;exact⟨by rw[h.1],by rw[h.2]⟩
def evs3{x y z:Od}{t u v:T}(h:evs env [x,y,z]=some [t,u,v]):ev env x=some t/\ev env y=some u/\ev env z=some v:=by simp only[evs] at h;cases h1:ev env x<;>cases h2:ev env y<;>cases c:ev env z<;>simp[h1,h2,c] at h;exact⟨by rw[h.1],by rw[h.2.1],by rw[h.2.2]⟩
def cT_some{o:Option C}{v:T}(h:cT o=some v):∃c,o=some c/\v=.c c:=by
 cases o with
 |none=>cases h
 |some c=>cases h;exact⟨c,rfl,rfl⟩
def zipP_ok:∀{p:List (Nat×Od)} {ts:List T} {ps:List (Nat×T)},evs env (p.map (·.2))=some ts->zipP p ts=some ps->evP env p=some ps
 |[],ts,ps,h,hp=>by cases h;exact hp
 |(i,x)::r,ts,ps,h,hp=>by simp only[df,evs] at h;split at h;rename_i h1 h2;cases h;simp only[zipP] at hp;split at hp;rename_i c;cases hp;simp only[evP,h1,zipP_ok h2 c];cases hp;cases h
def dv_ok{ops:Array Oper}{op:Op}{v:T}(h:dvE σ env op=some v)(hd:j6 sz dst=true)(k:AOps prog σ0 sz ops Q rest (St.mk (putE env dst v) σ)):AOps prog σ0 sz ops Q (⟨dst,op,ty,pos,after,none⟩::rest) (St.mk env σ):=by
 unfold dvE at h;cases c:evs env (dOps op) with
 |none=>rw[c] at h;cases h
 |some ts=>
  rw[c] at h
  simp only at h
  unfold dv at h
  split at h
  ·cases h;exact .v (evs1 c) hd k
  ·cases h;exact .F (evs1 c) hd k
  ·split at h
   ·rename_i B
    obtain⟨⟨d,e,q⟩,_⟩:=oneL_ok (memN_mem B)
    obtain⟨c',h1,rfl⟩:=cT_some h
    unfold ldC at h1
    split at h1
    ·cases h1;exact AOps.loadI (ht:=⟨e⟩) q (evs1 c) rfl hd k
    ·split at h1
     ·rename_i j
      split at h1
      ·rename_i E;exact AOps.aa (ht:=⟨e⟩) q (evs1 c) j E h1 hd k
      ·cases h1
     ·cases h1
    ·cases h1
   ·split at h
    ·rename_i J
     obtain⟨⟨d,e,q⟩,b,z,hz⟩:=aggL_ok J
     unfold ldA at h
     split at h
     ·split at h
      ·split at h
       ·cases h;exact W.loadIAgg (ht:=⟨e⟩) (hs:=hz) q (evs1 c) (by assumption) (by assumption) hd k
       ·cases h
      ·cases h
     ·split at h
      ·split at h
       ·split at h
        ·split at h
         ·cases h;exact W.loadAgg (ht:=⟨e⟩) (hs:=hz) q (evs1 c) (by assumption) (by assumption) (by assumption) (by assumption) hd k
         ·cases h
        ·cases h
       ·cases h
      ·cases h
     ·cases h
    ·cases h
  ·split at h
   ·rename_i h1 h2
    split at h
    ·split at h
     ·rename_i B
      split at h
      ·rename_i hp
       split at h
       ·cases h
        obtain rfl:=cu B
        exact W.build (hf:=tyFla_get flaL_all h2) (hz:=tyZer_get zerL_all h1) (by assumption) (zipP_ok c hp) (by assumption) hd k
       ·cases h
      ·cases h
     ·cases h
    ·cases h
   ·cases h
  ·unfold nilC at h
   split at h
   ·split at h
    ·cases h;exact .nilCheck (evs1 c) (by assumption) hd k
    ·cases h
   ·cases h;exact .nilCheckI (evs1 c) hd k
   ·cases h;exact .nilCheckF (evs1 c) hd k
   ·cases h
  ·split at h
   ·rename_i h1 h2
    cases h
    exact AOps.convInt (h1:=⟨intL_ok h1⟩) (h2:=⟨intL_ok h2⟩) (evs1 c) hd k
   ·cases h
  ·split at h
   ·rename_i ho
    obtain⟨fs,fd,e,hf,N,⟨i,g1,O,u⟩⟩:=fldL_ok ho
    obtain⟨c',h1,rfl⟩:=cT_some h
    obtain⟨zv,u⟩:=u
    subst N
    have hz:(i.size==0)=false:=by simpa using O
    unfold fAd at h1
    split at h1
    ·split at h1
     ·rename_i j
      cases h1
      exact AOps.fieldAddr (ht:=⟨e⟩) hf (hs:=⟨i,g1,rfl,rfl,u⟩) hz (evs1 c) j hd (by rw[cE];exact k)
     ·cases h1
    ·split at h1
     ·rename_i hdr
      cases h1
      obtain⟨U,_⟩:=an0 hdr
      subst U
      exact AOps.fieldAddrI (ht:=⟨e⟩) hf (hs:=⟨i,g1,rfl,rfl,u⟩) hz (evs1 c) hd k
     ·cases h1
    ·cases h1
   ·cases h
  ·split at h
   ·rename_i hk
    obtain rfl:=kN_inj hk
    obtain⟨c',h1,rfl⟩:=cT_some h
    obtain⟨hx,hy⟩:=evs2 c
    unfold binD at h1
    split at h1<;>cases h1
    ·exact .lss hx hy hd k
    ·exact .leq hx hy hd k
    ·exact .gtr hx hy hd k
    ·exact .geq hx hy hd k
    ·exact .eql hx hy hd k
    ·exact .neq hx hy hd k
    ·rw[wrK_eq] at k;exact .addW hx hy hd k
    ·rw[wrK_eq] at k;exact .subW hx hy hd k
    ·rw[wrK_eq] at k;exact .mulW hx hy hd k
   ·cases h
  ·cases h;exact .not (evs1 c) hd k
  ·exact .extract (evs1 c) h hd k
  ·obtain⟨h1,h2,h3⟩:=evs3 c
   split at h
   ·cases h;exact .ab h1 rfl h2 hd k
   ·cases h;exact .pickF h1 rfl h3 hd k
  ·cases h
def gdo_ok{ops:List Oper}{b:Bool}{dst:Option Nat}{op:Op}{ty:Ti}{pos:String}{after:Array Edge}{guard:Option (Nat×Bool)}(h:gdo ops env ⟨dst,op,ty,pos,after,guard⟩=some b)(hd:j6 sz dst=true)
  (h1:b=true->AOps prog σ0 sz ops.toArray Q (⟨dst,op,ty,pos,after,none⟩::rest) (St.mk env σ)) (h2:b=false->AOps prog σ0 sz ops.toArray Q rest (St.mk (putE env dst .undef) σ)):AOps prog σ0 sz ops.toArray Q (⟨dst,op,ty,pos,after,guard⟩::rest) (St.mk env σ):=by
 unfold gdo at h
 simp only at h
 split at h
 ·cases h;exact h1 rfl
 ·rename_i j b
  split at h
  ·rename_i t ht
   have c:((ops.toArray)[j]?).bind (·.dst)=some t:=by simpa[z8] using ht
   split at h
   ·rename_i hl;cases h;exact .guardSkip c hl hd (h2 rfl)
   ·rename_i e hl
    split at h<;>cases h
    ·exact .u c hl hd rfl (h1 rfl)
    ·exact .u c hl hd rfl (h1 rfl)
    ·exact .B c hl hd rfl (h2 rfl)
    ·exact .B c hl hd rfl (h2 rfl)
   ·cases h
  ·cases h
def dgo_ok{ops:List Oper}{o:Oper}{v:T}(h:dgo ops σ env o=some v)(hd:j6 sz o.dst=true)(k:AOps prog σ0 sz ops.toArray Q rest (St.mk (putE env o.dst v) σ)):AOps prog σ0 sz ops.toArray Q (o::rest) (St.mk env σ):=by unfold dgo at h;split at h;rename_i hg;exact gdo_ok hg hd (fun _=>dv_ok h hd k) nofun;rename_i hg;cases h;exact gdo_ok hg hd nofun (fun _=>k);cases h
def newC_ok{cs:List C}{v:T}{σ':c9}(h:newC σ cs=some (v,σ')):∃k id,idF cs=some k/\newF σ=some id/\w8 σ (.one (.cells k [cs]))=some σ'/\v=.c (.ptr id 0 0):=by unfold newC at h;split at h;split at h;split at h;cases h;exact⟨_,_,by assumption,by assumption,by assumption,rfl⟩;cases h;cases h;cases h
def deo_ok{ops:Array Oper}{op:Op}{v:T}{σ':c9}(h:deo σ env dst op=some (v,σ'))(hd:j6 sz dst=true)(k:AOps prog σ0 sz ops Q rest (St.mk (putE env dst v) σ')):AOps prog σ0 sz ops Q (⟨dst,op,ty,pos,after,none⟩::rest) (St.mk env σ):=by unfold deo at h;split at h;split at h;rename_i hz;obtain⟨n,id,h1,h2,e,rfl⟩:=newC_ok h;exact W.alloc (hz:=tyZer_get zerL_all hz) h1 h2 e hd k;cases h;split at h;split at h;obtain⟨n,id,h1,h2,e,rfl⟩:=newC_ok h;exact W.box (by assumption) (by assumption) h1 h2 e hd k;cases h;cases h;split at h;rename_i hx;split at h;rename_i hy;split at h;rename_i c;split at h;rename_i hs;cases h;unfold stoC at hs;split at hs;split at hs;rename_i j;obtain⟨_,b,z,hz⟩:=oneL_ok (memN_mem j);split at hs;rename_i q;exact W.store (hs:=hz) hx hy c q hs k;cases hs;cases hs;split at hs;rename_i u;obtain⟨_,b,z,hz⟩:=aggL_ok u;split at hs;rename_i hi;split at hs;rename_i j B;obtain rfl:=cu j;split at hs;rename_i q;exact W.storeAgg (hs:=hz) hx hy c hi B q hs k;cases hs;cases hs;cases hs;cases hs;cases hs;cases h;cases h;cases h;cases h;cases h
def dwo_ok{ops:List Oper}{o:Oper}{v:T}{σ':c9}(h:dwo ops σ env o=some (v,σ'))(hd:j6 sz o.dst=true)(k:AOps prog σ0 sz ops.toArray Q rest (St.mk (putE env o.dst v) σ')):AOps prog σ0 sz ops.toArray Q (o::rest) (St.mk env σ):=by unfold dwo at h;split at h;rename_i hg;split at h;rename_i hv;cases h;exact gdo_ok hg hd (fun _=>dv_ok hv hd k) nofun;exact gdo_ok hg hd (fun _=>deo_ok h hd k) nofun;rename_i hg;cases h;exact gdo_ok hg hd nofun (fun _=>k);cases h
def AOps.G{ops l l':List Oper}{σ':c9}(n:Nat)(h:drv ops sz n l env σ=some (l',env',σ'))(k:AOps prog σ0 sz ops.toArray Q l' (St.mk env' σ')):AOps prog σ0 sz ops.toArray Q l (St.mk env σ):=by
 induction n generalizing l env σ with
 |zero=>cases h;exact k
 |succ n ih=>
  cases l with
  |nil=>cases h
  |cons o l=>
   simp only[drv] at h
   split at h
   ·rename_i hd
    split at h
    ·rename_i v σ2 hv
     refine dwo_ok hv hd ?_
     split at h
     ·rename_i d e;rw[e];exact ih h
     ·rename_i e;rw[e];exact ih h
    ·cases h
   ·cases h
def AWP.G{l l':List Oper}{σ':c9}{id:Nat}(n:Nat)(h:drv l sz n l env σ=some (l',env',σ'))(k:AOps prog σ0 sz l.toArray Q l' (St.mk env' σ')):AWP prog σ0 sz (.region id l.toArray false) Q (St.mk env σ):=AWP.J (AOps.G n h k)
def AWP.gs{l l':List Oper}{σ':c9}{id:Nat}{d:Code}(n:Nat)(h:drv l sz n l env σ=some (l',env',σ'))(k:AOps prog σ0 sz l.toArray (thn (fun s=>AWP prog σ0 sz d Q s) Q) l' (St.mk env' σ')):AWP prog σ0 sz (.seq (.region id l.toArray false) d) Q (St.mk env σ):=AWP.j (AWP.J (AOps.G n h k))
def AOps.gn{ops l:List Oper}{σ':c9}(n:Nat)(h:drv ops sz n l env σ=some ([],env',σ'))(k:Q .normal (St.mk env' σ')):AOps prog σ0 sz ops.toArray Q l (St.mk env σ):=AOps.G n h (AOps.nil k)
def AOps.ge{ops l:List Oper}{σ':c9}{d:Code}(n:Nat)(h:drv ops sz n l env σ=some ([],env',σ'))(k:AWP prog σ0 sz d Q (St.mk env' σ')):AOps prog σ0 sz ops.toArray (thn (fun s=>AWP prog σ0 sz d Q s) Q) l (St.mk env σ):=AOps.G n h (AOps.nil k)
def AOps.ne{P:Program}{ops:Array Oper}{d:Code}(k:AWP P σ0 sz d Q (St.mk env σ)):AOps P σ0 sz ops (thn (fun s=>AWP P σ0 sz d Q s) Q) [] (St.mk env σ):=AOps.nil k
def AWP.gk{l:List Oper}{σ':c9}{id:Nat}{d:Code}(n:Nat)(h:drv l sz n l env σ=some ([],env',σ'))(k:AWP prog σ0 sz d Q (St.mk env' σ')):AWP prog σ0 sz (.seq (.region id l.toArray false) d) Q (St.mk env σ):=AWP.j (AWP.J (AOps.G n h (AOps.nil k)))
def AOps.K{P:Program}{ops:Array Oper}{op:Op}{j t:Nat}{b q b0:Bool}(z:(ops[j]?).bind (·.dst)=some t)(ht:lookup t env=some (.c (bool q)))(u:q=b0)
  (k:AOps P σ0 sz ops Q (⟨dst,op,ty,pos,after,some (j,b)⟩::rest) (St.mk ((t,.c (bool b0))::env) σ)):AOps P σ0 sz ops Q (⟨dst,op,ty,pos,after,some (j,b)⟩::rest) (St.mk env σ):=by
 subst u
 have hs:Sub σ0 (St.mk env σ) (St.mk ((t,.c (bool q))::env) σ):=fun _ _ φ _ _ _ h=>⟨φ,{toRs:=h.toRs,defers:=h.defers,asize:=h.asize,env:=fun x v hx=>h.env x v (by simp only[lookup] at hx;split at hx;rename_i e;cases hx;rw[<- cu e];exact ht;exact hx)}⟩
 exact AOps.sub hs k
end
def lkL(env:Env):Env->List (Option T)
 |[]=>[]
 |(t,_)::r=>lookup t env::lkL env r
def vsL:Env->List (Option T)
 |[]=>[]
 |(_,v)::r=>some v::vsL r
def lkL_sub{env:Env}:∀{env':Env},lkL env env'=vsL env'->aa9 env env'
 |[],_=>trivial
 |(t,v)::r,h=>by simp only[lkL,vsL,List.cons.injEq] at h;exact⟨h.1,lkL_sub h.2⟩
def Sub.en{σ0 σ:c9}{env env':Env}(h:lkL env env'=vsL env'):Sub σ0 ⟨env,σ⟩ ⟨env',σ⟩:=Sub.env (lkL_sub h)
def Done.e{σ0:c9}{rs:List RV}{Q:T->c9->Prop}{env:Env}{σ:c9}{r:T}(h:retT (St.mk env σ) rs=some r)(c:Q r σ):∃J,Sub σ0 (St.mk env σ) J/\Done rs Q .ret J:=⟨_,Sub.refl _ _,Done.ret h c⟩
/-! ## Regions that draw -/
def ax9{E:Env}{t:Nat}{v:T}{e:Env}(h:lookup t e=some v):lookup t (e++E)=some v:=by rw[F5,h]
def ev_app{E e:Env}{x:Od}{v:T}(h:ev e x=some v):ev (e++E) x=some v:=by
 cases x with
 |tmp t=>exact ax9 h
 |_=>exact h
def evs_app{E e:Env}:∀{l:List Od} {ts:List T},evs e l=some ts->evs (e++E) l=some ts
 |[],ts,h=>h
 |x::r,ts,h=>by simp only[evs] at h ⊢;split at h;rename_i h1 h2;rw[ev_app h1,evs_app h2];exact h;cases h
def dvE_app{σ:c9}{E e:Env}{op:Op}{v:T}(h:dvE σ e op=some v):dvE σ (e++E) op=some v:=by unfold dvE at h ⊢;split at h;rename_i h1;rw[evs_app h1];exact h;cases h
def gdo_app{ops:List Oper}{E e:Env}{o:Oper}{b:Bool}(h:gdo ops e o=some b):gdo ops (e++E) o=some b:=by unfold gdo at h ⊢;split at h;exact h;split at h;rename_i t ht;split at h;rename_i hl;rw[ax9 hl];exact h;rename_i hl;rw[ax9 hl];exact h;cases h;cases h
def dgo_app{ops:List Oper}{σ:c9}{E e:Env}{o:Oper}{v:T}(h:dgo ops σ e o=some v):dgo ops σ (e++E) o=some v:=by unfold dgo at h ⊢;split at h;rename_i c;rw[gdo_app c];exact dvE_app h;rename_i c;rw[gdo_app c];exact h;cases h
def drvD(ops:List Oper)(sz:Nat)(σ:c9)(base:Env):Nat->List Oper->List T->Option (List Oper×List T)
 |0,l,c=>some (l,c)
 |_+1,[],_=>none
 |n+1,o::l,c=>match j6 sz o.dst with
  |true=>match envF ops c base o with
   |some e=>match dgo ops σ e o with
    |some v=>match w8 c v with
     |some h=>drvD ops sz σ base n l h
     |none=>none
    |none=>none
   |none=>none
  |false=>none
section
variable {σ0 σ:c9}{sz:Nat}{Q:Post}{env:Env}{ops:List Oper}
def dgo_only{o:Oper}{e:Env}{v:T}(hd:j6 sz o.dst=true)(c:dgo ops σ e o=some v)(E:Env):AOps prog σ0 sz ops.toArray (Only (St.mk (putE (e++E) o.dst v) σ)) [o] (St.mk (e++E) σ):=dgo_ok (dgo_app c) hd (AOps.nil ⟨rfl,rfl⟩)
def drvD_step{n:Nat}{o:Oper}{l l':List Oper}{j a':List T}(h:drvD ops sz σ env (n+1) (o::l) j=some (l',a')):∃e v c,j6 sz o.dst=true/\envF ops j env o=some e/\dgo ops σ e o=some v/\w8 j v=some c/\drvD ops sz σ env n l c=some (l',a'):=by simp only[drvD] at h;split at h;split at h;split at h;split at h;exact⟨_,_,_,by assumption,by assumption,by assumption,by assumption,h⟩;cases h;cases h;cases h;cases h
def g9.D{l l':List Oper}{acc acc':List T}(n:Nat)(h:drvD ops sz σ env n l acc=some (l',acc'))(k:g9 prog σ0 sz ops env σ Q l' acc'):g9 prog σ0 sz ops env σ Q l acc:=by
 induction n generalizing l acc with
 |zero=>cases h;exact k
 |succ n ih=>
  cases l with
  |nil=>cases h
  |cons o l=>
   obtain⟨e,v,a2,h1,h2,h3,h4,h5⟩:=drvD_step h
   exact .consF h2 (dgo_only h1 h3) h4 (ih h5)
def noE(effs:List Nat):Nat->Nat->Bool
 |0,_=>true
 |n+1,i=>match memN i effs with
  |true=>false
  |false=>noE effs n (i+1)
def e9.D{effs:List Nat}{l l':List Oper}{i:Nat}{acc acc':List T}{σs:List c9}(n:Nat)(hn:noE effs n i=true)(h:drvD ops sz σ env n l acc=some (l',acc'))(k:e9 prog σ0 sz ops effs env Q l' (i+n) acc' σs σ):e9 prog σ0 sz ops effs env Q l i acc σs σ:=by
 induction n generalizing l acc i with
 |zero=>cases h;exact k
 |succ n ih=>
  cases l with
  |nil=>cases h
  |cons o l=>
   obtain⟨e,v,a2,h1,h2,h3,h4,h5⟩:=drvD_step h
   simp only[noE] at hn
   split at hn
   ·cases hn
   ·rename_i hm
    exact .consN hm h2 (dgo_only h1 h3) h4 (ih hn h5 (by rw[show i+1+n=i+(n+1) by omega];exact k))
def setF_same{α:Type}{l l':List α}{i:Nat}{x:α}(h:l[i]? =some x)(hs:setF l i x=some l'):l'=l:=by obtain⟨e,_⟩:=H7 hs;rw[e];apply dp;intro j;rw[eh];by_cases c:i=j;subst c;have hl:=(lG.1 h).1;simp only[hl,if_true,h];simp[c]
def g9.K{P:Program}{dst:Option Nat}{op:Op}{ty:Ti}{pos:String}{after:Array Edge}{r:List Oper}{j:Nat}{b q b0:Bool}{h e:List T}(u:h[j]? =some (.c (bool q)))(v:q=b0)(hs:setF h j (.c (bool b0))=some e)
  (k:g9 P σ0 sz ops env σ Q (⟨dst,op,ty,pos,after,some (j,b)⟩::r) e):g9 P σ0 sz ops env σ Q (⟨dst,op,ty,pos,after,some (j,b)⟩::r) h:=by
 subst v
 rw[setF_same u hs] at k
 exact k
def e9.K{P:Program}{effs:List Nat}{i:Nat}{σs:List c9}{dst:Option Nat}{op:Op}{ty:Ti}{pos:String}{after:Array Edge}{r:List Oper}{j:Nat}{b q b0:Bool}{h e:List T}(u:h[j]? =some (.c (bool q)))(v:q=b0)(hs:setF h j (.c (bool b0))=some e)
  (k:e9 P σ0 sz ops effs env Q (⟨dst,op,ty,pos,after,some (j,b)⟩::r) i e σs σ):e9 P σ0 sz ops effs env Q (⟨dst,op,ty,pos,after,some (j,b)⟩::r) i h σs σ:=by
 subst v
 rw[setF_same u hs] at k
 exact k
def drvK(ops:List Oper)(sz:Nat)(base:Env)(V:List T)(σs:List c9)(effs:List Nat)(i:Nat)(o:Oper):List Nat->Option (List T)
 |[]=>some []
 |k::c=>match drvK ops sz base V σs effs i o c with
  |some r=>match feas ops effs i k with
   |false=>some r
   |true=>match σs[k]? with
    |some σ=>match envF ops V base o with
     |some e=>match dgo ops σ e o with
      |some v=>some (v::r)
      |none=>none
     |none=>none
    |none=>none
  |none=>none
def repL(v:T):List T->List T
 |[]=>[]
 |_::r=>v::repL v r
def drvI(ops:List Oper)(sz:Nat)(base:Env)(V:List T)(σs:List c9)(effs:List Nat)(c:List Nat):Nat->List Oper->Nat->Option (List Oper×List T×List T)
 |0,l,_=>some (l,[],[])
 |_+1,[],_=>none
 |n+1,o::l,i=>match memN i effs with
  |true=>drvI ops sz base V σs effs c n l (i+1)
  |false=>match j6 sz o.dst with
   |true=>match V[i]? with
    |some v=>match drvK ops sz base V σs effs i o c with
     |some r=>match drvI ops sz base V σs effs c n l (i+1) with
      |some (l',x,y)=>some (l',r++x,repL v r++y)
      |none=>none
     |none=>none
    |none=>none
   |false=>none
def drvK_ok{V:List T}{σs:List c9}{effs:List Nat}{i:Nat}{o:Oper}{v:T}(hd:j6 sz o.dst=true):∀{c:List Nat} {r:List T},drvK ops sz env V σs effs i o c=some r->r=repL v r->l0 prog σ0 sz ops env V σs effs i o v c
 |[],r,_,_=>.nil
 |k::c,r,h,hr=>by simp only[drvK] at h;split at h;rename_i u h1;split at h;rename_i hf;cases h;exact .skip hf (drvK_ok hd h1 hr);split at h;rename_i σ hs;split at h;rename_i e j;split at h;rename_i z q;cases h;simp only[repL,List.cons.injEq] at hr;obtain⟨rfl,hr⟩:=hr;exact .go hs j (dgo_only hd q) (drvK_ok hd h1 hr);cases h;cases h;cases h;cases h
def repL_len(v:T):∀r:List T,(repL v r).length=ez r
 |[]=>rfl
 |_::r=>congrArg (· +1) (repL_len v r)
def i7.D{effs ks:List Nat}{V:List T}{σs:List c9}{l l':List Oper}{i:Nat}{x y:List T}(n:Nat)(h:drvI ops sz env V σs effs ks n l i=some (l',x,y))(hxy:x=y)(k:i7 prog σ0 sz ops env V σs effs ks l' (i+n)):i7 prog σ0 sz ops env V σs effs ks l i:=by
 induction n generalizing l i x y with
 |zero=>cases h;exact k
 |succ n ih=>
  have e:i+1+n=i+(n+1):=by omega
  cases l with
  |nil=>cases h
  |cons o l=>
   simp only[drvI] at h
   split at h
   ·rename_i hm;exact .skip hm (ih h hxy (by rw[e];exact k))
   ·rename_i hm
    split at h
    ·rename_i hd
     split at h
     ·rename_i v hv
      split at h
      ·rename_i r hr
       split at h
       ·rename_i h2
        cases h
        obtain⟨h3,h4⟩:=List.append_inj hxy (repL_len v r).symm
        exact .cons hm hv (drvK_ok hd hr h3) (ih h2 h4 (by rw[e];exact k))
       ·cases h
      ·cases h
     ·cases h
    ·cases h
end
/-! ## Loops over numbers, their head reckoned by a run -/
section
variable {σ0 σ:c9}{sz:Nat}{Q:Post}{env:Env}{l:List Oper}{id ex:Nat}{x:Od}{rc:Code}{lo n:Int}
def drv_all{env':Env}{d:Code}(h:drv l sz (ez l) l env σ=some ([],env',σ))(k:AWP prog σ0 sz d Q (St.mk env' σ)):AWP prog σ0 sz (.seq (.region id l.toArray false) d) Q (St.mk env σ):=AWP.gk (ez l) h k
def headF(l:List Oper)(sz:Nat)(x:Od)(s:St):Option (Env×c9×T×List (Option T)):=match drv l sz (ez l) l s.env s.σ with
 |some ([],E,σ)=>match ev E x with
  |some v=>some (E,σ,v,lkL E s.env)
  |none=>none
 |_=>none
def headF_some{s:St}{E:Env}{σ:c9}{v:T}{r:List (Option T)}(h:headF l sz x s=some (E,σ,v,r)):drv l sz (ez l) l s.env s.σ=some ([],E,σ)/\ev E x=some v/\lkL E s.env=r:=by unfold headF at h;split at h;rename_i h1;split at h;rename_i h2;cases h;exact⟨h1,h2,rfl⟩;cases h;cases h
def AWP.rngH{S O:Type}{body:Int->S->Option (S⊕O)}{s0:S}{o:S⊕O}{E:Int->S->Env}(h:rngX lo n body s0=some o)(F:Int->S->St)(z:O->Post)
  (hd:∀i s,headF l sz x (F i s)=some (E i s,(F i s).σ,.c (bool (decide (i<n))),vsL (F i s).env))
  (hs:Sub σ0 (St.mk env σ) (F lo s0))
  (q:∀i s o',lo<=i->i<n->body i s=some o'->AWP prog σ0 sz rc (thn (fun st=>∃s',o'=.inl s'/\Sub σ0 st (F (i+1) s')) (fun e st=>∃o,o'=.inr o/\z o e st)) (St.mk (E i s) (F i s).σ))
  (u:∀i s,o=.inl s->Q (.exit ex) (F i s)) (v:∀x e st,o=.inr x->z x e st->∃J,Sub σ0 st J/\Q e J):AWP prog σ0 sz (.loop (.seq (.region id l.toArray false) (.seq (.cond x .skip (.exit ex)) rc))) Q (St.mk env σ):=by
 refine AWP.rngS h F (fun o e st=>match o with| .inl s=>e=.exit ex/\∃i,Sub σ0 st (F i s)| .inr x=>z x e st) hs (fun i s h1 h2 B=> ?_) (fun i s o' h1 h2 B=> ?_) (fun e s U=> ?_)
 ·obtain⟨g1,N,g3⟩:=headF_some (hd i s)
  refine drv_all g1 (AWP.j (AWP.cond N (fun h=>absurd (of_decide_eq_true h) h2) fun _=>AWP.exit ⟨rfl,i,Sub.en g3⟩))
 ·obtain⟨g1,N,g3⟩:=headF_some (hd i s)
  refine drv_all g1 (AWP.j (AWP.cond N (fun _=>AWP.skip (q i s o' h1 h2 B)) fun h=>absurd B (fun _=>absurd h2 (of_decide_eq_false h))))
 ·cases o with
  |inl s'=>obtain⟨rfl,i,h⟩:=U;exact⟨_,h,u i s' rfl⟩
  |inr x=>exact v x e s rfl U
def AWP.forH{S:Type}{body:Int->S->Option S}{s0 o:S}{E:Int->S->Env}(h:forR lo n body s0=some o)(F:Int->S->St)
  (hd:∀i s,headF l sz x (F i s)=some (E i s,(F i s).σ,.c (bool (decide (i<n))),vsL (F i s).env))
  (hs:Sub σ0 (St.mk env σ) (F lo s0))
  (j:∀i s o',lo<=i->i<n->body i s=some o'->AWP prog σ0 sz rc (thn (fun st=>Sub σ0 st (F (i+1) o')) (fun _ _=>False)) (St.mk (E i s) (F i s).σ))
  (q:∀i,Q (.exit ex) (F i o)):AWP prog σ0 sz (.loop (.seq (.region id l.toArray false) (.seq (.cond x .skip (.exit ex)) rc))) Q (St.mk env σ):=by
 refine AWP.rngH (O:=Empty) (forN_rng h) F (fun e=>e.elim) hd hs (fun i s o' h1 h2 u=> ?_) (fun i s h=>by cases h;exact q i) (fun x=>x.elim)
 cases v:body i s with
 |none=>rw[v] at u;cases u
 |some x=>
  rw[v] at u
  cases u
  refine(j i s x h1 h2 v).mono fun e st z=> ?_
  cases e with
  |normal=>exact⟨x,rfl,z⟩
  |_=>exact z.elim
def AWP.rngL{P:Program}{S O:Type}{body:Int->S->Option (S⊕O)}{s0:S}{o:S⊕O}{E:Int->S->Env}{B:Prop}(h:rngX lo n body s0=some o)(F:Int->S->St)(z:O->Post)
  (hd:∀i s Q,(B->Q .normal (St.mk (E i s) (F i s).σ))->AOps P σ0 sz l.toArray Q l (F i s)) (hc:∀i s,(ev (E i s) x,lkL (E i s) (F i s).env)=(some (.c (bool (decide (i<n)))),vsL (F i s).env))
  (hs:Sub σ0 (St.mk env σ) (F lo s0))
  (q:∀i s o',lo<=i->i<n->body i s=some o'->B->AWP P σ0 sz rc (thn (fun st=>∃s',o'=.inl s'/\Sub σ0 st (F (i+1) s')) (fun e st=>∃o,o'=.inr o/\z o e st)) (St.mk (E i s) (F i s).σ))
  (u:∀i s,o=.inl s->Q (.exit ex) (F i s)) (v:∀x e st,o=.inr x->z x e st->∃J,Sub σ0 st J/\Q e J):AWP P σ0 sz (.loop (.seq (.seq (.region id l.toArray false) (.cond x .skip (.exit ex))) rc)) Q (St.mk env σ):=by
 have g (i s):=dZ.inj (hc i s)
 refine AWP.rngS h F (fun o e st=>match o with| .inl s=>e=.exit ex/\∃i,Sub σ0 st (F i s)| .inr x=>z x e st) hs (fun i s h1 h2 N=> ?_) (fun i s o' h1 h2 N=> ?_) (fun e s U=> ?_)
 ·exact AWP.j (AWP.j (AWP.J (hd i s _ fun _=>AWP.cond (g i s).1 (fun h=>absurd (of_decide_eq_true h) h2) fun _=>AWP.exit ⟨rfl,i,Sub.en (g i s).2⟩)))
 ·exact AWP.j (AWP.j (AWP.J (hd i s _ fun b=>AWP.cond (g i s).1 (fun _=>AWP.skip (q i s o' h1 h2 N b)) fun h=>absurd h2 (of_decide_eq_false h))))
 ·cases o with
  |inl s'=>obtain⟨rfl,i,h⟩:=U;exact⟨_,h,u i s' rfl⟩
  |inr x=>exact v x e s rfl U
end
end Ab
end
section
namespace Ab
open Go
abbrev ob(p:Obj->Prop):Blk:=.obj (fun o _=>p o) []
def Rs.allocB{E:Cx}{σ:c9}{φ:Phi}{w:World}(h:Rs E σ φ w){p0:Obj->List Vl->Prop}{cs0:List C}{us0:List Vl}{obj:Obj}(aa:p0 obj us0)(ab:∀(i:Nat) (x:C),cs0[i]? =some x->∃u,us0[i]? =some u/\RelC w φ σ (Al E.N φ σ) x u):
  Kept w (w.alloc obj) φ (w9 (ez σ) φ w.heap.size) σ (σ++[.one (.obj p0 cs0)]) (Al E.N φ σ) (Al E.N (w9 (ez σ) φ w.heap.size) (σ++[.one (.obj p0 cs0)]))/\
  Rs E (σ++[.one (.obj p0 cs0)]) (w9 (ez σ) φ w.heap.size) (w.alloc obj):=by
 have old:∀b,b<w.heap.size->(w.alloc obj).heap[b]? =w.heap[b]? :=fun b J=>by first|exact heap_alloc_old w _ J|exact heap_alloc_old w _ _ J
 have new:(w.alloc obj).heap[w.heap.size]? =some obj:=heap_alloc_new w _
 have v:∀i:Id,i.1<ez σ->w9 (ez σ) φ w.heap.size i=φ i:=fun i hi=>by
  have:i ≠ (ez σ,[]):=fun e=>by rw[e] at hi;exact Nat.lt_irrefl _ hi
  simp[w9,this]
 have z:w9 (ez σ) φ w.heap.size (ez σ,[])=some (w.heap.size,0):=by simp[w9]
 have c:∀(i:Id) blk,(σ++[.one (.obj p0 cs0)])[i]? =some (some blk)->(i.1<ez σ/\σ[i]? =some (some blk))\/(i=(ez σ,[])/\blk=.obj p0 cs0):=fun i blk hi=>c9.get_new hi
 have A1:∀b,Al E.N φ σ b->b<w.heap.size->Al E.N (w9 (ez σ) φ w.heap.size) (σ++[.one (.obj p0 cs0)]) b:=fun b J hl=>⟨J.1,fun i blk base hi hp=>by rcases c i blk hi with⟨h1,h2⟩|⟨rfl,rfl⟩;rw[v i h1] at hp;exact J.2 i blk base h2 hp;rw[z] at hp;cases hp;omega⟩
 have U:Kept w (w.alloc obj) φ (w9 (ez σ) φ w.heap.size) σ (σ++[.one (.obj p0 cs0)]) (Al E.N φ σ) (Al E.N (w9 (ez σ) φ w.heap.size) (σ++[.one (.obj p0 cs0)])):=
  {imm:=fun b _ hl=>old b hl,all:=A1,len:=by simp,
   cells:=fun i kk es' hi F=>by rw[c9.get_left hi] at F;exact⟨es',F,rfl,v i hi,fun b base arr ety hp J=>⟨arr,(old b (Al.own_lt h.st F hp)).trans J,rfl⟩⟩,
   obj:=fun i p' ac hi F=>by rw[c9.get_left hi] at F;exact⟨v i hi,p',ac,F⟩}
 refine⟨U,?_⟩
 exact {
  good:=h.good
  st:=⟨fun i b hi=>by rcases c i b hi with⟨h1,h2⟩|⟨rfl,rfl⟩;rw[v i h1];exact(h.st.blk i b h2).mono U fun g base hp=>old g (Al.own_lt h.st h2 hp);rw[z];exact⟨w.heap.size,obj,us0,rfl,new,aa,fun i x hx=>let ⟨u,g1,g2⟩:=ab i x hx; ⟨u,g1,g2.mono U⟩⟩,
   fun i j bi bj p q hi hj hp O F=>by obtain⟨pb,po⟩:=p;obtain⟨qb,qo⟩:=q;dsimp only at F;subst F;rcases c i bi hi with⟨h1,h2⟩|⟨rfl,rfl⟩<;>rcases c j bj hj with⟨g1,g2⟩|⟨rfl,rfl⟩;rw[v i h1] at hp;rw[v j g1] at O;exact h.st.inj i j bi bj _ _ h2 g2 hp O rfl;rw[v i h1] at hp;rw[z] at O;cases O;have:=Al.own_lt h.st h2 hp;omega;rw[v j g1] at O;rw[z] at hp;cases hp;have:=Al.own_lt h.st g2 O;omega;rfl⟩
  keep:=fun i blk b base hi hp B=>by rcases c i blk hi with⟨h1,h2⟩|⟨rfl,rfl⟩;rw[v i h1] at hp;exact h.keep i blk b base h2 hp B;rw[z] at hp;cases hp;have:=B.1;have:=h.size;omega
  os:=h.os
  tape:=h.tape
  drawn:=h.drawn
  output:=h.output
  size:=cZ h.size (by simp)
  block:=fun b B=>(old b (dF B.1 h.size)).trans (h.block b B)
  kept:=Kept.trans h.size h.kept U}
def Rs.allocO{c:Cx}{σ:c9}{φ:Phi}{w:World}(h:Rs c σ φ w){p0:Obj->Prop}{obj:Obj}(e:p0 obj):
  Kept w (w.alloc obj) φ (w9 (ez σ) φ w.heap.size) σ (σ++[.one (ob p0)]) (Al c.N φ σ) (Al c.N (w9 (ez σ) φ w.heap.size) (σ++[.one (ob p0)]))/\
  Rs c (σ++[.one (ob p0)]) (w9 (ez σ) φ w.heap.size) (w.alloc obj):=
 h.allocB (us0:=[]) e fun i x hx=>by simp at hx
theorem Rs.writeB{Γ:Cx}{σ:c9}{φ:Phi}{w:World}(h:Rs Γ σ φ w){id:Id}{b:Nat}{q0 q1:Obj->List Vl->Prop}{cs0 cs1:List C}{us1:List Vl}{o0 o1:Obj}(hid:σ[id]? =some (some (.obj q0 cs0)))(hp:φ id=some (b,0))(hb:w.heap[b]? =some o0)(hq:q1 o1 us1)(hcs:∀(i:Nat) (x:C),cs1[i]? =some x->∃u,us1[i]? =some u/\RelC w φ σ (Al Γ.N φ σ) x u):
  Kept w ({w with heap:=w.heap.setIfInBounds b o1}:World) φ φ σ (σ.put id (some (.obj q1 cs1))) (Al Γ.N φ σ) (Al Γ.N φ (σ.put id (some (.obj q1 cs1))))/\Rs Γ (σ.put id (some (.obj q1 cs1))) φ ({w with heap:=w.heap.setIfInBounds b o1}:World):=by
 have new:({w with heap:=w.heap.setIfInBounds b o1}:World).heap[b]? =some o1:=(Go.MapKept.heap_set hb).1
 have old:∀g,g ≠ b->({w with heap:=w.heap.setIfInBounds b o1}:World).heap[g]? =w.heap[g]? :=fun g hg=>(Go.MapKept.heap_set hb).2 g hg
 have hsize:({w with heap:=w.heap.setIfInBounds b o1}:World).heap.size=w.heap.size:=by simp
 have at_:∀(i:Id) x,(σ.put id (some (.obj q1 cs1)))[i]? =some (some x)->(i=id/\x=.obj q1 cs1)\/(i ≠ id/\σ[i]? =some (some x)):=fun i x hi=>by
  rcases c9.get_put hid hi with⟨h1,h2⟩|h
  ·cases h2;exact .inl ⟨h1,rfl⟩
  ·exact .inr h
 have other:∀(i:Id) blk g bs,i ≠ id->σ[i]? =some (some blk)->φ i=some (g,bs)->g ≠ b:=fun i blk g bs hne hi hpi e=>by
  subst e
  exact hne (h.st.inj i id _ _ _ _ hi hid hpi hp rfl)
 have A1:∀g,Al Γ.N φ σ g->Al Γ.N φ (σ.put id (some (.obj q1 cs1))) g:=fun g hg=>⟨hg.1,fun i blk bs hi hpi=>by
  rcases at_ i blk hi with⟨rfl,_⟩|⟨_,hi⟩
  ·exact hg.2 i _ bs hid hpi
  ·exact hg.2 i blk bs hi hpi⟩
 have hK:Kept w ({w with heap:=w.heap.setIfInBounds b o1}:World) φ φ σ (σ.put id (some (.obj q1 cs1))) (Al Γ.N φ σ) (Al Γ.N φ (σ.put id (some (.obj q1 cs1)))):=
  {imm:=fun g hg _=>old g (fun e=>by subst e;exact hg.2 id _ 0 hid hp),all:=fun g hg _=>A1 g hg,len:=by simp,
   cells:=fun i kk es2 hi he=>by
    rcases at_ i _ he with⟨rfl,e⟩|⟨hne,he⟩
    ·cases e
    ·refine⟨es2,he,rfl,rfl,fun b2 base2 arr2 ety2 hp2 hb2=>⟨arr2,?_,rfl⟩⟩
     exact(old b2 (other i _ b2 base2 hne he hp2)).trans hb2,
   obj:=fun i p' cs' hi he=>by
    rcases at_ i _ he with⟨rfl,e⟩|⟨_,he⟩
    ·exact⟨rfl,_,_,hid⟩
    ·exact⟨rfl,p',cs',he⟩}
 refine⟨hK,?_⟩
 exact {
  good:=h.good
  st:=⟨fun i bk hi=>by
    rcases at_ i _ hi with⟨rfl,e⟩|⟨hne,hi⟩
    ·cases e
     rw[hp]
     exact⟨b,o1,us1,rfl,new,hq,fun i x hx=>let ⟨u,g1,g2⟩:=hcs i x hx; ⟨u,g1,g2.mono hK⟩⟩
    ·exact(h.st.blk i bk hi).mono hK fun g bs hpi=>old g (other i bk g bs hne hi hpi),
   fun i j bi bj p q hi hj hpi hqj he=>by
    have alive:∀(i:Id) bi,(σ.put id (some (.obj q1 cs1)))[i]? =some (some bi)->∃b0,σ[i]? =some (some b0):=fun i bi hi=>by
     rcases at_ i _ hi with⟨rfl,_⟩|⟨_,hi⟩
     ·exact⟨_,hid⟩
     ·exact⟨_,hi⟩
    obtain⟨b1,h1⟩:=alive i bi hi
    obtain⟨b2,h2⟩:=alive j bj hj
    exact h.st.inj i j b1 b2 p q h1 h2 hpi hqj he⟩
  keep:=fun i blk g bs hi hpi hKb=>by
   rcases at_ i _ hi with⟨rfl,_⟩|⟨_,hi⟩
   ·exact h.keep i _ g bs hid hpi hKb
   ·exact h.keep i blk g bs hi hpi hKb
  os:=h.os
  tape:=h.tape
  drawn:=h.drawn
  output:=h.output
  size:=by rw[hsize];exact h.size
  block:=fun g hKb=>(old g (fun e=>by subst e;exact h.keep id _ g 0 hid hp hKb)).trans (h.block g hKb)
  kept:=Kept.trans h.size h.kept hK}
/-! ### What the slots hold that rounds read -/
def Rs.writeO{c:Cx}{σ:c9}{φ:Phi}{w:World}(h:Rs c σ φ w){id:Id}{b:Nat}{e q1:Obj->Prop}{j o1:Obj}(hid:σ[id]? =some (some (ob e)))(hp:φ id=some (b,0))(q:w.heap[b]? =some j)(u:q1 o1):
  Kept w ({w with heap:=w.heap.setIfInBounds b o1}:World) φ φ σ (σ.put id (some (ob q1))) (Al c.N φ σ) (Al c.N φ (σ.put id (some (ob q1))))/\Rs c (σ.put id (some (ob q1))) φ ({w with heap:=w.heap.setIfInBounds b o1}:World):=
 h.writeB (us1:=[]) hid hp q u fun i x hx=>by simp at hx
def mget{K V:Type}[DecidableEq K]:List (K×V)->K->Option V
 |[],_=>none
 |p::r,k=>if k=p.1 then some p.2 else mget r k
def mset{K V:Type}[DecidableEq K]:List (K×V)->K->V->List (K×V)
 |[],k,v=>[(k,v)]
 |p::r,k,v=>if k=p.1 then(k,v)::r else p::mset r k v
def mapP{K V:Type}(fk:K->Vl)(fv:V->Vl)(m:List (K×V)):Obj->Prop:=fun o=>∃es c,o=.map es c/\es.toList.map (fun e=>(e.key,e.val))=m.map fun p=>(fk p.1,fv p.2)
abbrev mapB{K V:Type}(fk:K->Vl)(fv:V->Vl)(m:List (K×V)):Blk:=ob (mapP fk fv m)
structure KeyT(d:TypeDesc){K:Type}(fk:K->Vl):Prop where
 key:∀k,Go.MapKept.IsKey d (fk k)
 inj:∀{a b},fk a=fk b->a=b
def an4:KeyT .string Value.string:=⟨fun _=>trivial,fun h=>by cases h;rfl⟩
def C4{k:IntKind}:KeyT (.int k) (Value.int k):=⟨fun _=>rfl,fun h=>by cases h;rfl⟩
section
variable {K V:Type}[DecidableEq K]{fk:K->Vl}{fv:V->Vl}{d:TypeDesc}
def S9(hk:KeyT d fk)(k:K):∀(m:List (K×V)) (l:List MapEntry) (i:Nat),l.map (fun e=>(e.key,e.val))=m.map (fun p=>(fk p.1,fv p.2))->
  (mget m k=none/\Instr.findNow d (fk k) l i=some none/\∀v born,(l++[({key:=fk k,val:=fv v,born:=born}:MapEntry)]).map (fun e=>(e.key,e.val))=(mset m k v).map fun p=>(fk p.1,fv p.2))\/
  ∃v j e,mget m k=some v/\Instr.findNow d (fk k) l i=some (some (i+j,fv v))/\l[j]? =some e/\e.key=fk k/\∀u,(l.modify j fun e=>{e with key:=fk k,val:=fv u}).map (fun e=>(e.key,e.val))=(mset m k u).map fun p=>(fk p.1,fv p.2)
 |[],[],i,_=>.inl ⟨rfl,rfl,fun v born=>rfl⟩
 |[],_::_,i,h=>by simp at h
 |_::_,[],i,h=>by simp at h
 |p::m,e::l,i,h=>by
  simp only[df,List.cons.injEq,dZ.injEq] at h;obtain⟨⟨h1,h2⟩,E⟩:=h;have hs:∃r,Instr.sameNow d (fk k) e.key=some r/\(r=true↔fk k=e.key):=Go.MapKept.sameNow_of_keys (hk.key k) (by rw[h1];exact hk.key p.1);obtain⟨r,hr,q⟩:=hs;by_cases c:k=p.1;have:r=true:=q.2 (by rw[h1,c]);subst this;right;refine⟨p.2,0,e,by simp[mget,c],by simp[Instr.findNow,hr,h2],rfl,by rw[h1,c],fun u=> ?_⟩;simp only[List.modify_zero_cons,df,mset,if_pos c];rw[E];have:r=false:=by
   cases r with
   |false=>rfl
   |true=>exact absurd (hk.inj ((q.1 rfl).trans h1)) c
  subst this;rcases S9 hk k m l (i+1) E with⟨g1,z,B⟩|⟨v,j,e',g1,z,B,F,J⟩;left;refine⟨by simp[mget,c,g1],by simp[Instr.findNow,hr,z],fun v born=> ?_⟩;simp only[List.cons_append,df,mset,if_neg c];rw[B v born,h1,h2];right;refine⟨v,j+1,e',by simp[mget,c,g1],by simp[Instr.findNow,hr,z];omega,by simpa using B,F,fun u=> ?_⟩;simp only[List.modify_succ_cons,df,mset,if_neg c];rw[J u,h1,h2]
end
section
variable {P:Program}{σ0:c9}{sz:Nat}{Q:Post}{env env':Env}{σv σ':c9}{ops:Array Oper}{rest:List Oper}{dst:Option Nat}{ty:Ti}{pos:String}{after:Array Edge}
variable {K V:Type}[DecidableEq K]{fk:K->Vl}{fv:V->Vl}{d:TypeDesc}
def X5{w:World}{φ:Phi}{σ:c9}{A:Nat->Prop}{id:Id}{p:Obj->Prop}{u:Vl}(h:RelT w φ σ A (.c (.map id)) u)(e:σ[id]? =some (some (ob p))):∃b base,φ id=some (b,base)/\u=.map (some b):=by
 cases h with|c h=>cases h with|map hid h1 h=>exact h _ _ e
def D2{w:World}{φ:Phi}{σ:c9}{A:Nat->Prop}{v u:Vl}(h:RelT w φ σ A (.c (.imm (.val v))) u):u=v/\v.oneCell'=true:=by
 cases h with|c h=>cases h with|imm h=>cases h with|val h=>exact⟨rfl,h⟩
def W.makeMap{t:Ti}{id:Id}(fk:K->Vl)(fv:V->Vl)(hid:newF σv=some id)(e:w8 σv (.one (mapB fk fv []))=some σ')(hd:j6 sz dst=true)
  (h:AOps P σ0 sz ops Q rest (St.mk (putE env dst (.c (.map id))) σ')):AOps P σ0 sz ops Q (⟨dst,.makeMap t none,ty,pos,after,none⟩::rest) (St.mk env σv):=by
 have h2:=B2 hid;have u:=v7 e
 subst h2 u
 refine .valueW rfl hd _ _ (fun v φ a w j=> ?_) h
 have q:=Rs.allocO (p0:=mapP fk fv []) (obj:=.map #[] 0) j.toRs ⟨#[],0,rfl,rfl⟩
 refine⟨.map (some w.heap.size),w.alloc (.map #[] 0),_,by simp[execOp,Instr.makeMap],.c (.map (by simp) rfl fun p cs hp=>⟨w.heap.size,0,by simp[w9],rfl⟩),j.of q.1 q.2⟩
def W.lookup{x y:Od}{t N F:Ti}{id:Id}{m:List (K×V)}{k:K}{z:V}{size bytes:Nat}{O:Vl}[ht:TyD P t (.map N F)][q:TyD P N d][hs:TyS P F size bytes O](hk:KeyT d fk)(hz:O=fv z)(h1:∀v,(fv v).oneCell'=true)
  (hx:ev env x=some (.c (.map id))) (hy:ev env y=some (.c (.imm (.val (fk k))))) (u:σv[id]? =some (some (mapB fk fv m))) (hd:j6 sz dst=true)
  (h:AOps P σ0 sz ops Q rest (St.mk (putE env dst (.c (.imm (.val (fv ((mget m k).getD z)))))) σv)):AOps P σ0 sz ops Q (⟨dst,.lookup t x y false,ty,pos,after,none⟩::rest) (St.mk env σv):=by
 refine .valueW rfl hd _ _ (fun Γ φ a w E=> ?_) h
 obtain⟨b,base,hp,U⟩:=X5 (k7 E hx) u
 obtain⟨B,_⟩:=D2 (k7 E hy)
 obtain⟨b',o,_,g1,g2,⟨es,c,rfl,g3⟩,_⟩:=E.st.blk _ _ u
 rw[hp] at g1;cases g1
 refine⟨fv ((mget m k).getD z),w,φ,?_,.c (.imm (.val (h1 _))),E⟩
 rcases S9 hk k m es.toList 0 g3 with⟨q1,J,_⟩|⟨v,j,e,q1,J,_⟩
 ·simp[execOp,U,B,Instr.lookup,run_underlying ht.h,Go.MapKept.run_getObj_map g2,Go.MapKept.run_checkKey q.h (hk.key k),Go.MapKept.run_findKey q.h J,H4 (t:=F),q1,hz,Result.andThen]
 ·simp[execOp,U,B,Instr.lookup,run_underlying ht.h,Go.MapKept.run_getObj_map g2,Go.MapKept.run_checkKey q.h (hk.key k),Go.MapKept.run_findKey q.h J,q1,Result.andThen]
def W.lookupOk{x y:Od}{t O J:Ti}{id:Id}{m:List (K×V)}{k:K}{z:V}{size bytes:Nat}{U:Vl}[ht:TyD P t (.map O J)][q:TyD P O d][hs:TyS P J size bytes U](hk:KeyT d fk)(hz:U=fv z)(h1:∀v,(fv v).oneCell'=true)
  (hx:ev env x=some (.c (.map id))) (hy:ev env y=some (.c (.imm (.val (fk k))))) (B:σv[id]? =some (some (mapB fk fv m))) (hd:j6 sz dst=true)
  (h:AOps P σ0 sz ops Q rest (St.mk (putE env dst (.tup [.c (.imm (.val (fv ((mget m k).getD z)))),.c (bool (mget m k).isSome)])) σv)):AOps P σ0 sz ops Q (⟨dst,.lookup t x y true,ty,pos,after,none⟩::rest) (St.mk env σv):=by
 refine .valueW rfl hd _ _ (fun Γ φ a w F=> ?_) h
 obtain⟨b,base,hp,hv⟩:=X5 (k7 F hx) B
 obtain⟨E,_⟩:=D2 (k7 F hy)
 obtain⟨b',o,_,g1,g2,⟨es,c,rfl,g3⟩,_⟩:=F.st.blk _ _ B
 rw[hp] at g1;cases g1
 refine⟨.tuple #[fv ((mget m k).getD z),.bool (mget m k).isSome],w,φ,?_,RelT.tup' (vs:=[fv ((mget m k).getD z),.bool (mget m k).isSome]) rfl (fun i t u hi hu=> ?_),F⟩
 ·rcases S9 hk k m es.toList 0 g3 with⟨q1,N,_⟩|⟨v,j,e,q1,N,_⟩
  ·simp[execOp,hv,E,Instr.lookup,run_underlying ht.h,Go.MapKept.run_getObj_map g2,Go.MapKept.run_checkKey q.h (hk.key k),Go.MapKept.run_findKey q.h N,H4 (t:=J),q1,hz,Result.andThen]
  ·simp[execOp,hv,E,Instr.lookup,run_underlying ht.h,Go.MapKept.run_getObj_map g2,Go.MapKept.run_checkKey q.h (hk.key k),Go.MapKept.run_findKey q.h N,q1,Result.andThen]
 ·match i with
  |0=>cases hi;cases hu;exact .c (.imm (.val (h1 _)))
  |1=>cases hi;cases hu;exact .bool _
  |i+2=>simp at hi
def W.mapUpdate{x y v:Od}{t O vt:Ti}{id:Id}{m:List (K×V)}{k:K}{a:V}[ht:TyD P t (.map O vt)][q:TyD P O d](hk:KeyT d fk)
  (hx:ev env x=some (.c (.map id))) (hy:ev env y=some (.c (.imm (.val (fk k))))) (hv:ev env v=some (.c (.imm (.val (fv a))))) (u:σv[id]? =some (some (mapB fk fv m))) (E:σv.put id (some (mapB fk fv (mset m k a)))=σ')
  (h:AOps P σ0 sz ops Q rest (St.mk env σ')):AOps P σ0 sz ops Q (⟨none,.mapUpdate t x y v,ty,pos,after,none⟩::rest) (St.mk env σv):=by
 subst E
 refine .skipW rfl rfl _ (fun Γ φ ac w z=> ?_) h
 obtain⟨b,base,hp,U⟩:=X5 (k7 z hx) u
 obtain⟨e2,_⟩:=D2 (k7 z hy)
 obtain⟨e3,_⟩:=D2 (k7 z hv)
 obtain⟨b',o,_,g1,B,⟨es,c,rfl,g3⟩,_⟩:=z.st.blk _ _ u
 rw[hp] at g1;cases g1
 rcases S9 hk k m es.toList 0 g3 with⟨q1,J,N⟩|⟨v0,j,e,q1,J,N,q4,q5⟩
 ·have F:=Rs.writeO (q1:=mapP fk fv (mset m k a)) (o1:=.map (es.push {key:=fk k,val:=fv a,born:=c}) (c+1)) z.toRs u hp B ⟨_,_,rfl,by rw[et];exact N a c⟩
  refine⟨_,φ,?_,z.of F.1 F.2⟩
  simp[execOp,U,e2,e3,Instr.mapUpdate,run_underlying ht.h,Go.MapKept.run_getObj_map B,Go.MapKept.run_checkKey q.h (hk.key k),Go.MapKept.run_findKey q.h J,Go.MapKept.run_setObj_map _ B,Result.andThen]
 ·have hj:es[j]? =some e:=by simpa using N
  have F:=Rs.writeO (q1:=mapP fk fv (mset m k a)) (o1:=.map (es.modify j fun e=>{e with key:=fk k,val:=fv a}) c) z.toRs u hp B ⟨_,_,rfl,by rw[dT];exact q5 a⟩
  refine⟨_,φ,?_,z.of F.1 F.2⟩
  simp[execOp,U,e2,e3,Instr.mapUpdate,run_underlying ht.h,Go.MapKept.run_getObj_map B,Go.MapKept.run_checkKey q.h (hk.key k),Go.MapKept.run_findKey q.h J,hj,q4,Go.MapKept.run_keyThatStays (hk.key k),Go.MapKept.run_setObj_map _ B,Result.andThen]
def W.insert{x y v:Od}{t O vt:Ti}{id:Id}{m:List (K×V)}{k:K}{a:V}[ht:TyD P t (.map O vt)][q:TyD P O d](hk:KeyT d fk)
  (hx:ev env x=some (.c (.map id))) (hy:ev env y=some (.c (.imm (.val (fk k))))) (hv:ev env v=some (.c (.imm (.val (fv a))))) (u:σv[id]? =some (some (mapB fk fv m))) (E:σv.put id (some (mapB fk fv (mset m k a)))=σ')
  (h:AOps P σ0 sz ops Q rest (St.mk env σ')):AOps P σ0 sz ops Q (⟨none,.insert t x y v,ty,pos,after,none⟩::rest) (St.mk env σv):=by
 subst E
 refine .skipW rfl rfl _ (fun Γ φ ac w z=> ?_) h
 obtain⟨b,base,hp,U⟩:=X5 (k7 z hx) u
 obtain⟨e2,_⟩:=D2 (k7 z hy)
 obtain⟨e3,_⟩:=D2 (k7 z hv)
 obtain⟨b',o,_,g1,B,⟨es,c,rfl,g3⟩,_⟩:=z.st.blk _ _ u
 rw[hp] at g1;cases g1
 rcases S9 hk k m es.toList 0 g3 with⟨q1,J,N⟩|⟨v0,j,e,q1,J,N,q4,q5⟩
 ·have F:=Rs.writeO (q1:=mapP fk fv (mset m k a)) (o1:=.map (es.push {key:=fk k,val:=fv a,born:=c}) (c+1)) z.toRs u hp B ⟨_,_,rfl,by rw[et];exact N a c⟩
  refine⟨_,φ,?_,z.of F.1 F.2⟩
  simp[execOp,U,e2,e3,Instr.mapUpdate,run_underlying ht.h,Go.MapKept.run_getObj_map B,Go.MapKept.run_checkKey q.h (hk.key k),Go.MapKept.run_findKey q.h J,Go.MapKept.run_setObj_map _ B,Result.andThen]
 ·have hj:es[j]? =some e:=by simpa using N
  have F:=Rs.writeO (q1:=mapP fk fv (mset m k a)) (o1:=.map (es.modify j fun e=>{e with key:=fk k,val:=fv a}) c) z.toRs u hp B ⟨_,_,rfl,by rw[dT];exact q5 a⟩
  refine⟨_,φ,?_,z.of F.1 F.2⟩
  simp[execOp,U,e2,e3,Instr.mapUpdate,run_underlying ht.h,Go.MapKept.run_getObj_map B,Go.MapKept.run_checkKey q.h (hk.key k),Go.MapKept.run_findKey q.h J,hj,q4,Go.MapKept.run_keyThatStays (hk.key k),Go.MapKept.run_setObj_map _ B,Result.andThen]
end
/-! ### Functions that call themselves -/
end Ab
end
section
namespace Ab
open Go
def strL(s:ByteArray):Li:=s.data.toList.map fun b=>(b.toNat:Int)
def strB(l:Li):ByteArray:=⟨(l.map fun n=>UInt8.ofNat n.toNat).toArray⟩
def subS(s:ByteArray)(lo hi:Int):Option ByteArray:=if 0<=lo/\lo<=hi/\hi<=s.size then some (s.extract lo.toNat hi.toNat) else none
def strL_len(s:ByteArray):(strL s).length=s.size:=by
 simp[strL]
def strCells_eq(s:ByteArray):Lib.strCells s=(strL s).map fun n=>Value.int .u8 n:=by
 simp[Lib.strCells,strL]
structure ShowsS(w:World)(φ:Phi)(σ:c9)(A:Nat->Prop)(k:Nat)(es:List (List C))(us:List Vl):Prop where
 len:ez us=ez es * k
 one:∀u ∈ us,u.oneCell'=true
 hk:∀(j:Nat) (e:List C),es[j]? =some e->ez e=k
 rel:∀(j:Nat) (e:List C) (o:Nat) (x:C),es[j]? =some e->e[o]? =some x->∃u,us[j * k+o]? =some u/\RelC w φ σ A x u
def strE(s:ByteArray):List (List C):=(strL s).map fun n=>[C.imm (.val (.int .u8 n))]
def str_shows(w:World)(φ:Phi)(σ:c9)(A:Nat->Prop)(s:ByteArray):ShowsS w φ σ A 1 (strE s) (Lib.strCells s):=by
 refine⟨by simp[strE,strL,Lib.strCells],Lib.strCells_oneCell s,fun j e c=> ?_,fun j e o x c hx=> ?_⟩;simp only[strE,lM,oM] at c;obtain⟨n,_,rfl⟩:=c;rfl;simp only[strE,lM,oM] at c;obtain⟨n,h1,rfl⟩:=c;cases o with
 |succ o=>simp at hx
 |zero=>
  simp only[cw,Option.some.injEq] at hx
  subst hx
  refine⟨.int .u8 n,?_,.imm (.val rfl)⟩
  rw[strCells_eq,lM,dE,cW,h1]
  rfl
def app_relS{w:World}{φ:Phi}{σ:c9}{A:Nat->Prop}{k:Nat}{es new:List (List C)}{b:Option Addr}{us vs:List Vl}(h:Shows w φ σ A k es b us)(g:ShowsS w φ σ A k new vs):
  (∀(j:Nat) (e:List C),(es++new)[j]? =some e->ez e=k)/\∀(j:Nat) (e:List C) (o:Nat) (x:C),(es++new)[j]? =some e->e[o]? =some x->∃u,(us++vs)[j * k+o]? =some u/\RelC w φ σ A x u:=by
 refine⟨fun j e c=> ?_,fun j e o x c hx=> ?_⟩
 ·rw[dR] at c
  split at c
  ·exact h.hk _ _ c
  ·exact g.hk _ _ c
 ·rw[dR] at c
  split at c
  ·rename_i v
   obtain⟨u,q,hr⟩:=h.rel j e o x c hx
   exact⟨u,by rw[cG (lG.1 q).1];exact q,hr⟩
  ·rename_i v
   obtain⟨u,q,hr⟩:=g.rel _ e o x c hx
   refine⟨u,?_,hr⟩
   have:ez us<=j * k+o:=by rw[h.len];have:=cN k (Nat.not_lt.1 v);omega
   rw[cJ this,h.len]
   rw[Nat.sub_mul] at q
   have:=cN k (Nat.not_lt.1 v)
   rw[show j * k+o - (ez es) * k=j * k - (ez es) * k+o by omega]
   exact q
section
variable {P:Program}(w:World)
def aC9{t u ty e:Ti}{k bytes:Nat}{z:Vl}[ht:TyD P t (.slice e)][J:TyD P u .string][hs:TyS P e k bytes z]{g off sLen sCap:Nat}{c:Array Vl}{ety:Ti}(N:w.heap[g]? =some (.cells c ety (0,0)))
  (s:ByteArray) (v:k=1)
  (j:sLen+s.size<=sCap) (F:off+sCap * k<=c.size):
  (Builtin.append_ #[t,u] ty #[.slice (some ⟨g,off,none⟩) sLen sCap,.string s]).run P w=
   .ok (.slice (some ⟨g,off,none⟩) (sLen+s.size) sCap) (w.setRow g (c.toList.take (off+sLen * k)++(Lib.strCells s)++c.toList.drop (off+sLen * k+(Lib.strCells s).length)).toArray):=by
 have hl:(Lib.strCells s).length=s.size * k:=by rw[Lib.strCells_length,v,dE]
 have h1:=Lib.strCells_oneCell s
 have hf:=Lib.run_firstCells_string (P:=P) w k s
 have B:(sLen+s.size) * k<=sCap * k:=cN _ j
 rw[cS] at B
 have q:=run_storeCells_at P g (off+sLen * k) ety (Lib.strCells s) 0 c w N (by omega) h1
 simp only[cW] at q
 have E:=s9 (P:=P) (t:=e) w
 simp[Builtin.append_,run_underlying ht.h,run_underlying J.h,E,Builtin.lenOf,j,hf,G3,q]
def aC8{t u ty e:Ti}{k bytes:Nat}{z:Vl}[ht:TyD P t (.slice e)][v:TyD P u .string][hs:TyS P e k bytes z]{b0:Option Addr}{sLen sCap:Nat}{c:List Vl}(B:ez c=sLen * k)(E:b0=none->c=[])(F:∀q,b0=some q->∀(j:Nat) (u:Vl),c[j]? =some u->w.cell? (q.add j)=some u)
  (s:ByteArray) (av:k=1)
  (hg:sCap<sLen+s.size) (hb:(sLen+s.size) * bytes<=140737488355328) (al:sLen+s.size<=9223372036854775807):
  (Builtin.append_ #[t,u] ty #[.slice b0 sLen sCap,.string s]).run P w=
   .ok (.slice (some ⟨w.heap.size,0,none⟩) (sLen+s.size) (grownCap w (sLen+s.size) sCap e)) (w.drew.alloc (.cells (c.toArray++(Lib.strCells s).toArray++Builtin.zeroCells z.cells (grownCap w (sLen+s.size) sCap e - (sLen+s.size))) e)):=by
 obtain⟨i,J,N,O,U⟩:=hs.h
 subst N O
 have an:=growslice_fits hg hb
 have aa:¬ (281474976710656<Builtin.nextslicecap (sLen+s.size) sCap * i.bytes):=by omega
 have ab:¬ (9223372036854775807<((sLen:Int)+(s.size:Int))):=by omega
 have ac:¬ (sLen+s.size<=sCap):=by omega
 have hf:=Lib.run_firstCells_string (P:=P) w.drew i.size s
 have ai:=ad9 (P:=P) w.drew (size:=i.size) (cap:=sCap) B E (fun q h j u v=>by simpa using F q h j u v)
 simp[Builtin.append_,run_underlying ht.h,run_underlying v.h,Go.sizeOf,typeInfo,zeroValue,J,U,Builtin.lenOf,ac,ab,aa,Question.forced,hf,ai,newRow,grownCap]
 rw[<- Array.append_assoc,List.append_toArray c (Lib.strCells s)]
end
section
variable {P:Program}{σ0:c9}{sz:Nat}{Q:Post}{env:Env}{σv:c9}{ops:Array Oper}{rest:List Oper}{dst:Option Nat}{ty:Ti}{pos:String}{after:Array Edge}
def append_newS{v:Cx}{φ:Phi}{a:Act}{w:World}(hR:R v sz (St.mk env σv) φ a w){k:Nat}{t u ty' e:Ti}{bytes:Nat}{z:Vl}[ht:TyD P t (.slice e)][hu:TyD P u .string][hs:TyS P e k bytes z](ad:(z.cells.size==k)=true)
  {b0:Option Addr} {n cap0:Nat} {old:List (List C)} {us0:List Vl} (ho:Shows w φ σv (Al v.N φ σv) k old b0 us0) (B:ez old=n)
  {new:List (List C)} (s:ByteArray) (ai:k=1) (U:ez new=s.size) (hn:ShowsS w φ σv (Al v.N φ σv) k new (Lib.strCells s)) (hg:cap0<n+ez new) (hb:(n+ez new) * bytes<=140737488355328) (E:n+ez new<=maxLen) (σ1:c9)
  (O:∀(φ:Phi) (w:World),Rs v σv φ w->Kept w w φ φ σv σ1 (Al v.N φ σv) (Al v.N φ σ1)/\Rs v σ1 φ w) (aa:ez σ1=ez σv):
  ∃v' w' φ',(Builtin.append_ #[t,u] ty' #[.slice b0 n cap0,.string s]).run P w=.ok v' w'/\
   RelT w' φ' (σ1++[.one (.cells k (old++new))]) (Al v.N φ' (σ1++[.one (.cells k (old++new))])) (.c (.own (ez σv,[]) 0 (n+ez new))) v'/\R v sz ⟨env,σ1++[.one (.cells k (old++new))]⟩ φ' a w':=by
 have al:n+ez new<=9223372036854775807:=by simpa[maxLen] using E
 have F:=aC8 (P:=P) (t:=t) (u:=u) (ty:=ty') (sLen:=n) (sCap:=cap0) w (by rw[ho.len,B]) (fun h=>by rw[ho.none h] at ho;exact cz (by simpa using ho.len)) ho.cell s ai (by omega) (by rw[<- U];exact hb) (by omega)
 rw[<- U] at F
 have ab:=grownCap_ge w (n+ez new) cap0 e
 have an:grownCap w (n+ez new) cap0 e<=maxLen:=grownCap_le_maxLen w (n+ez new) cap0 e E
 obtain⟨av,ay⟩:=O φ w.drew hR.toRs.drew
 have a2:=Kept.drew w φ σv (Al v.N φ σv)
 have J:=Kept.trans (show w.heap.size<=w.drew.heap.size from cU _) a2 av
 have ac:=app_relS ho hn
 have hz:z.cells.size=k:=by simpa using ad
 generalize a3:grownCap w (n+ez new) cap0 e=cap at *
 have q:(us0.toArray++(Lib.strCells s).toArray++Builtin.zeroCells z.cells (cap - (n+ez new))).size=cap * k:=by simp only[Array.size_append,dq,size_zeroCells,hz,ho.len,hn.len,B,<- cS];congr 1;omega
 have hA:=Rs.alloc (k:=k) (es:=old++new) (arr:=us0.toArray++(Lib.strCells s).toArray++Builtin.zeroCells z.cells (cap - (n+ez new))) (ety:=e) ay ac.1 (by
   rw[q,dh,B];exact cN _ ab) (fun j e' o x he hx=>by
   obtain⟨u,hu,hr⟩:=ac.2 j e' o x he hx;refine⟨u,?_,hr.mono J⟩;rw[Array.getElem?_append_left (by have:=(lG.1 hu).1;simpa using this)];simpa using hu)
 rw[aa] at hA
 refine⟨_,_,w9 (ez σv) φ w.heap.size,F,P3 (k:=k) (es:=old++new) (by rw[<- aa];exact c9.get_last _ _) rfl (.inr ⟨w.heap.size,0,cap,_,e,_,by simp[w9],rfl,fun _=>by simp,ab,an,by simp[B],heap_alloc_new w.drew _,by rw[q];simp⟩),?_⟩
 exact hR.of (Kept.trans (show w.heap.size<=w.drew.heap.size from cU _) J hA.1) hA.2
theorem AOps.appendStr{x y:Od}{t u e:Ti}{k bytes:Nat}{z:Vl}{id:Id}{j n:Nat}{es:List (List C)}{s:ByteArray}(hk1:k=1)[ht:TyD P t (.slice e)][hu:TyD P u .string][hs:TyS P e k bytes z](hzk:(z.cells.size==k)=true)(hbp:cQ 0 bytes=true)
  (hx:ev env x=some (.c (.own id j n))) (hσ:σv[id]? =some (some (.cells k es))) (hy:ev env y=some (.c (.imm (.val (.string s))))) (hb:(n+s.size) * bytes<=140737488355328) (hd:j6 sz dst=true)
  (h:AOps P σ0 sz ops Q rest ((St.mk env (σv.put id none++[.one (.cells k ((es.drop j).take n++strE s))])).put dst (.c (.own (ez σv,[]) 0 (n+s.size))))):
  AOps P σ0 sz ops Q (⟨dst,.call ⟨.builtin .append,#[x,y],#[t,u]⟩,ty,pos,after,none⟩::rest) (St.mk env σv):=
 .valueW rfl hd _ _ (fun Γ φ a w hR=>by
  have hy1:a.eval y=.string s:=(D2 (k7 hR hy)).1
  have hy2:ShowsS w φ σv (Al Γ.N φ σv) k (strE s) (Lib.strCells s):=by subst hk1;exact str_shows _ _ _ _ s
  have hns:(strE s).length=s.size:=by simp[strE,strL_len]
  rw[<- hns] at hb ⊢
  generalize hnw:strE s=new at hb hy2 hns ⊢
  generalize hus':Lib.strCells s=us' at hy2
  have hv:=F8 (k7 hR hx) hσ
  obtain⟨b0,cap0,us0,hx1,hx2,hx3⟩:=aq4 hR hσ hv
  have ex:(execOp a.eval ⟨dst,.call ⟨.builtin .append,#[x,y],#[t,u]⟩,ty,pos,after,none⟩).run P w=((Builtin.append_ #[t,u] ty #[.slice b0 n cap0,.string s]).run P w).andThen fun v w=>.ok (.value v) w:=by
   simp[execOp,resolve,invoke,builtin,hx1,hy1]
  rw[ex]
  by_cases hroom:n+ez new<=cap0
  ·rcases hv with⟨h1,h2,h3,h4⟩|⟨b,base,cap,arr,ety,ad,hp,hv,had,hcap,hmax,hjn,hbk,hsz⟩
   · -- nil, and nothing is appended
    rw[hx1] at h2
    cases h2
    have hnew:new=[]:=cz (by omega)
    subst hnew
    subst h3
    obtain⟨hK1,hR1⟩:=hR.toRs.kill id
    obtain⟨hK2,hR2⟩:=hR1.virt k
    have hrun:(Builtin.append_ #[t,u] ty #[.slice none 0 0,.string s]).run P w=.ok (.slice none 0 0) w:=by
     have hs0:s.size=0:=by rw[<- hns];rfl
     have hc0:us'=[]:=cz (by simpa using hy2.len)
     have hf:=Lib.run_firstCells_string (P:=P) w k s
     rw[hs0,hus',hc0] at hf
     simp[Builtin.append_,run_underlying ht.h,run_underlying hu.h,s9 (t:=e),Builtin.lenOf,hs0,hf]
    refine⟨.slice none 0 0,w,(fun i=>if i=(ez σv,[]) then none else φ i),by rw[hrun];rfl,?_,?_⟩
    ·simp only[dD,di]
     exact P3 (k:=k) (es:=[]) (by rw[<- c9.length_put σv id none];exact c9.get_last _ _) rfl (.inl ⟨by simp,rfl,rfl,rfl⟩)
    ·simp only[dD,di]
     rw[c9.length_put] at hK2 hR2
     exact hR.of (Kept.trans (cU _) hK1 hK2) hR2
   ·rw[hx1] at hv
    cases hv
    have hpos:0<n+ez new\/n+ez new=0:=by omega
    by_cases hc0:0<cap0
    ·have:=had hc0
     subst this
     have hfit:base+j * k+cap0 * k<=arr.size:=by rw[cS] at hsz;omega
     have hrun:=aC9 (P:=P) (t:=t) (u:=u) (ty:=ty) w (sLen:=n) (sCap:=cap0) hbk s hk1 (by omega) hfit
     rw[<- hns,hus'] at hrun
     have hap:=app_relS hx3 hy2
     have hmk:(n+ez new) * k<=cap0 * k:=cN _ hroom
     rw[cS] at hmk
     have hus:ez us'=ez new * k:=hy2.len
     have hus0:ez us0=n * k:=by rw[hx3.len,hx2]
     have hA:=Rs.reown (k:=k) (base':=base+j * k) (es':=(es.drop j).take n++new) (arr':=(arr.toList.take (base+j * k+n * k)++us'++arr.toList.drop (base+j * k+n * k+ez us')).toArray) hR.toRs hσ hp hbk hap.1 (by simp only[dh,hx2,dq,dK,ew,dU,cS];omega) (fun i e' o x' he hx'=>by
      obtain⟨u,hu,hr⟩:=hap.2 i e' o x' he hx'
      refine⟨u,?_,hr⟩
      have hsp:=D7 arr.toList us' (base+j * k+n * k) (base+j * k+(i * k+o)) (by simp;omega)
      simp only[dN]
      rw[hsp]
      by_cases hio:i * k+o<n * k
      ·rw[if_neg (by omega)]
       rw[cG (by omega)] at hu
       -- what stood there
       obtain⟨arr2,ety2,hb2,_,hkk,hcs⟩:=G6 hR hσ hp
       rw[hbk] at hb2;cases hb2
       have hi:i<n:=by
        rcases cM i n with h|h
        ·exact h
        ·have:=cN k h;omega
       have hcell:=hx3.cell _ rfl _ u hu
       rw[G3,U2 hbk] at hcell
       simpa using hcell
      ·rw[cJ (by omega)] at hu
       have hlt:=(lG.1 hu).1
       rw[if_pos (by omega),show base+j * k+(i * k+o) - (base+j * k+n * k)=i * k+o - (ez us0) by omega]
       exact hu)
     refine⟨_,_,_,by rw[hrun];rfl,?_,hR.of hA.1 hA.2⟩
     refine P3 (k:=k) (es:=(es.drop j).take n++new) (by rw[<- c9.length_put σv id none];exact c9.get_last _ _) rfl (.inr ⟨b,base+j * k,cap0,_,ety,_,by simp,rfl,fun _=>by simp,hroom,hmax,by simp[hx2],setRow_heap w b arr _ ety (0,0) hbk,?_⟩)
     simp only[dq,dh,dK,ew,dU,cE]
     omega
    · -- no room at all, and nothing is appended
     have h0:cap0=0:=by omega
     subst h0
     have hn0:n=0:=by omega
     have hnew:new=[]:=cz (by omega)
     subst hnew
     subst hn0
     have hrun:(Builtin.append_ #[t,u] ty #[.slice (some ad) 0 0,.string s]).run P w=.ok (.slice (some ad) 0 0) w:=by
      have hs0:s.size=0:=by rw[<- hns];rfl
      have hc0:us'=[]:=cz (by simpa using hy2.len)
      have hf:=Lib.run_firstCells_string (P:=P) w k s
      rw[hs0,hus',hc0] at hf
      simp[Builtin.append_,run_underlying ht.h,run_underlying hu.h,s9 (t:=e),Builtin.lenOf,hs0,hf,storeCells]
     have hA:=Rs.reown (k:=k) (base':=base+j * k) (es':=[]) (arr':=arr) hR.toRs hσ hp hbk (fun i e' he=>by simp at he) (by simp;rw[cS] at hsz;omega) (fun i e' o x' he=>by simp at he)
     rw[setRow_self w b arr ety (0,0) hbk] at hA
     refine⟨.slice (some ad) 0 0,w,(fun i=>if i=(ez σv,[]) then some (b,base+j * k) else φ i),by rw[hrun];rfl,?_,?_⟩
     ·simp only[dD,di]
      exact P3 (k:=k) (es:=[]) (by rw[<- c9.length_put σv id none];exact c9.get_last _ _) rfl (.inr ⟨b,base+j * k,0,arr,ety,ad,by simp,rfl,fun h=>by omega,by simp,by simp[maxLen],by simp,hbk,by simp;rw[cS] at hsz;omega⟩)
     ·simp only[dD,di]
      exact hR.of hA.1 hA.2
  ·have hmax:n+ez new<=maxLen:=by
    have hb0:0<bytes:=by simpa using hbp
    have:n+ez new<=(n+ez new) * bytes:=Nat.le_mul_of_pos_right _ hb0
    simp only[maxLen];omega
   obtain⟨v',w',φ',g1,g2,g3⟩:=append_newS (P:=P) (t:=t) (u:=u) (e:=e) (ty':=ty) hR hzk (cap0:=cap0) hx3 hx2 s hk1 hns (by rw[hus'];exact hy2) (Nat.not_le.1 hroom) hb hmax (σv.put id none) (fun φ w h=>h.kill id) (by simp)
   exact⟨v',w',φ',by rw[g1];rfl,g2,g3⟩) h
end
abbrev eU8(n:Int):List I:=[.val (.int .u8 n)]
abbrev eU32(n:Int):List I:=[.val (.int .u32 n)]
def strE_eq(s:ByteArray):strE s=((strL s).map eU8).map (·.map C.imm):=by simp[strE]
section
variable {P:Program}{σ0:c9}{sz:Nat}{Q:Post}{env env':Env}{σv σ':c9}{ops:Array Oper}{rest:List Oper}{dst:Option Nat}{ty:Ti}{pos:String}{after:Array Edge}
def S.appendStr{l l':Li}{s:ByteArray}{x y:Od}{t u e:Ti}{bytes m:Nat}{n:Id}{z:Vl}{id:Id}{σ1:c9}[ht:TyD P t (.slice e)][hu:TyD P u .string][hs:TyS P e 1 bytes z]
  (E:app bytes l (strL s)=some l') (q:(z.cells.size==1)=true) (v:cQ 0 bytes=true)
  (hx:ev env x=some (.c (.own id 0 m))) (F:m=ez l) (B:σv[id]? =some (some (vec 1 eU8 l))) (hy:ev env y=some (.c (.imm (.val (.string s))))) (J:newF σv=some n) (h1:putF σv id none=some σ1) (j:w8 σ1 (.one (vec 1 eU8 l'))=some σ') (hd:j6 sz dst=true)
  (h:AOps P σ0 sz ops Q rest (St.mk (putE env dst (.c (.own n 0 (ez l')))) σ')):
  AOps P σ0 sz ops Q (⟨dst,.call ⟨.builtin .append,#[x,y],#[t,u]⟩,ty,pos,after,none⟩::rest) (St.mk env σv):=by
 obtain⟨N,rfl⟩:=aq8 E
 have h2:=A4 h1
 have O:=B2 J;have U:=v7 j
 subst F h2 O U
 refine AOps.appendStr (s:=s) (k:=1) rfl q v hx B hy (by rw[<- strL_len];exact N) hd ?_
 have e1:(((((l.map eU8).map (·.map C.imm)).drop 0).take (ez l))++strE s)=((l++strL s).map eU8).map (·.map C.imm):=by rw[dt,cL (by simp),strE_eq];simp
 have e2:ez l+s.size=(l++strL s).length:=by simp[strL_len]
 rw[e1,e2]
 exact h
def S.subStr{s s':ByteArray}{x l r:Od}{t:Ti}{kk j:IntKind}{lo hi:Int}[ht:TyD P t .string]
  (e:subS s lo hi=some s') (hx:ev env x=some (.c (.imm (.val (.string s))))) (hl:ev env l=some (.c (.imm (.val (.int kk lo))))) (hr:ev env r=some (.c (.imm (.val (.int j hi))))) (hd:j6 sz dst=true)
  (h:AOps P σ0 sz ops Q rest (St.mk (putE env dst (.c (.imm (.val (.string s'))))) σv)):AOps P σ0 sz ops Q (⟨dst,.slice t x (some l) (some r) none,ty,pos,after,none⟩::rest) (St.mk env σv):=by
 unfold subS at e
 split at e
 ·rename_i F
  cases e
  refine .value rfl hd _ (fun N φ a w q=> ?_) h
  refine⟨.string (s.extract lo.toNat hi.toNat),?_,.c (.imm (.val rfl))⟩
  have u:=D8 q hx
  have v:=D8 q hl
  have z:=D8 q hr
  obtain⟨a1,J,O⟩:=F
  obtain⟨B,rfl⟩:=dL a1
  obtain⟨E,rfl⟩:=dL (Int.le_trans a1 J)
  have:=run_slice_string (P:=P) w t s kk j (B:Int) (E:Int) ht.h (by omega) (by omega) (by omega)
  simp only[Int.toNat_natCast] at this
  simp[execOp,u,v,z,Instr.sliceAt,run_underlying ht.h,this,Result.andThen]
 ·cases e
def S.bytesStr{x:Od}{src d e:Ti}{id:Id}{m:Nat}{l:Li}[h1:TyD P src (.slice e)][h2:TyD P e (.int .u8)][h3:TyD P d .string]
  (hx:ev env x=some (.c (.own id 0 m))) (hm:m=ez l) (B:σv[id]? =some (some (vec 1 eU8 l))) (hd:j6 sz dst=true)
  (h:AOps P σ0 sz ops Q rest (St.mk (putE env dst (.c (.imm (.val (.string (strB l)))))) σv)):AOps P σ0 sz ops Q (⟨dst,.convert src d x,ty,pos,after,none⟩::rest) (St.mk env σv):=by
 refine .value rfl hd _ (fun Γ φ a w hR=> ?_) h
 refine⟨.string (strB l),?_,.c (.imm (.val rfl))⟩
 subst hm
 have hv:=F8 (k7 hR hx) B
 obtain⟨b0,cap0,us0,E,ab,q⟩:=aq4 hR B hv
 have N:(List.take (ez l) (List.drop 0 ((l.map eU8).map (·.map C.imm))))=(l.map eU8).map (·.map C.imm):=by rw[dt,cL (by simp)]
 rw[N] at q
 have O:us0=l.map (Value.int .u8):=by
  apply dp;intro j;rcases cM j (ez l) with z|z;obtain⟨u,hu,hr⟩:=q.rel j [C.imm (.val (.int .u8 l[j]))] 0 _ (by simp[z]) rfl;rw[dE,cW] at hu;have U:u=.int .u8 l[j]:=by cases hr with|imm h=>cases h with|val h=>rfl
  rw[hu,U];simp[z];have:=q.len;rw[cX (by rw[this];simpa using z),cX (by simpa using z)]
 cases b0 with
 |none=>
  have hl:l=[]:=by have:=q.none rfl;simpa using this
  subst hl
  simp[execOp,E,convert,run_underlying h1.h,run_underlying h2.h,run_underlying h3.h,Conv.bytesToString,strB,Result.andThen]
  rfl
 |some F=>
  have hl:=run_loadCells_list (P:=P) w F (l.map (Value.int .u8)) (fun j v z=>q.cell F rfl j v (by rw[O];exact z))
  simp only[cV] at hl
  have J:(convert src d (.slice (some F) (ez l) cap0)).run P w=.ok (.string (strB l)) w:=by rw[run_convert_bytes_string w src d e (some F) (ez l) cap0 h1.h h2.h h3.h,run_bytesToString w F (ez l) cap0 _ hl,foldl_push_bytes];have aa:ByteArray.empty.data=#[]:=rfl;rw[aa];simp[strB]
  simp[execOp,E,J,Result.andThen]
end
/-! ### Arrays of numbers compared -/
section
variable {P:Program}
variable {σ0:c9}{sz:Nat}{Q:Post}{env env':Env}{σv σ':c9}{ops:Array Oper}{rest:List Oper}{dst:Option Nat}{ty:Ti}{pos:String}{after:Array Edge}
end
end Ab
end
section
namespace Ab
open Go Go.Sort
def Rs.refl{c:Cx}(h:Good c):Rs c c.σ0 c.φ0 c.w0 where
 good:=h
 st:=h.st
 keep i blk b base hi hp e:=e.2 i blk base hi hp
 os:=rfl
 tape:=rfl
 drawn:=cU _
 output:=rfl
 size:=cU _
 block _ _:=rfl
 kept:=Kept.refl _ _ _ _
def Kept.ahead(w:World)(n:Nat)(φ:Phi)(σ:c9)(A:Nat->Prop):Kept w (Go.Sort.ahead w n) φ φ σ σ A A:=
 ⟨fun _ _ _=>rfl,fun _ h _=>h,cU _,fun _ _ es _ h=>⟨es,h,rfl,rfl,fun _ _ arr _ _ h2=>⟨arr,h2,rfl⟩⟩,fun _ p cs _ h=>⟨rfl,p,cs,h⟩⟩
def Rs.ahead{c:Cx}{σ:c9}{φ:Phi}{w:World}(h:Rs c σ φ w)(n:Nat):Rs c σ φ (Go.Sort.ahead w n):=
 {good:=h.good,st:=⟨fun i b hi=>(h.st.blk i b hi).mono (Kept.ahead w n φ σ _) (fun _ _ _=>rfl),h.st.inj⟩,
  keep:=h.keep,os:=h.os,tape:=h.tape,drawn:=cZ h.drawn (Nat.le_add_right _ _),output:=h.output,size:=h.size,block:=h.block,
  kept:=Kept.trans h.size h.kept (Kept.ahead w n φ σ _)}
def Kept.grow(w:World)(os:Array Obj)(φ:Phi)(σ:c9)(A:Nat->Prop):Kept w (Go.Sort.grow w os) φ φ σ σ A A:=
 ⟨fun _ _ hl=>heap_grow_old w os hl,fun _ h _=>h,cU _,fun _ _ es _ h=>⟨es,h,rfl,rfl,fun _ _ arr _ _ h2=>⟨arr,(heap_grow_old w os (dy.1 h2).1).trans h2,rfl⟩⟩,fun _ p cs _ h=>⟨rfl,p,cs,h⟩⟩
def Rs.blk_lt{c:Cx}{σ:c9}{φ:Phi}{w:World}(h:Rs c σ φ w){i:Id}{blk:Blk}{b base:Nat}(hi:σ[i]? =some (some blk))(hp:φ i=some (b,base)):b<w.heap.size:=Al.own_lt h.st hi hp
def Rs.grow{Γ:Cx}{σ:c9}{φ:Phi}{w:World}(h:Rs Γ σ φ w)(os:Array Obj):Rs Γ σ φ (Go.Sort.grow w os):=
 {good:=h.good,st:=⟨fun i b hi=>(h.st.blk i b hi).mono (Kept.grow w os φ σ _) (fun g base hp=>heap_grow_old w os (h.blk_lt hi hp)),h.st.inj⟩,
  keep:=h.keep,os:=h.os,tape:=h.tape,drawn:=h.drawn,output:=h.output,size:=cZ h.size (by simp),block:=fun b hK=>(heap_grow_old w os (dF hK.1 h.size)).trans (h.block b hK),
  kept:=Kept.trans h.size h.kept (Kept.grow w os φ σ _)}
def ap1{w:World}{b off:Nat}{arr:Array Vl}{ety:Ti}{fr:Nat×Nat}{d:Array Int}(hb:w.heap[b]? =some (.cells arr ety fr)):
  putRow (Value.int .i64) w b off d=w.setRow b (putCells (Value.int .i64) off d arr):=by
 unfold putRow mapBlock World.setRow
 congr 1
 apply dX
 intro k
 simp only[dO]
 by_cases hk:b=k
 ·subst hk;simp only[if_true,hb,cK,onCells]
 ·simp[hk]
def setRow_self{w:World}{b:Nat}{arr:Array Vl}{ety:Ti}{c:Nat×Nat}(e:w.heap[b]? =some (.cells arr ety c)):w.setRow b arr=w:=by
 have key:∀h:Array Obj,h=w.heap->({w with heap:=h}:World)=w:=by rintro _ rfl;rfl
 refine key _ ?_;apply dX;intro k;simp only[dO];by_cases hk:b=k;subst hk;simp only[if_true,e,cK];simp[hk]
def ah1{off:Nat}{d:Array Int}{arr:Array Vl}:(putCells (Value.int .i64) off d arr).size=arr.size:=by simp[putCells]
def as7{off:Nat}{d:Li}{arr:Array Vl}(h:off+ez d<=arr.size){j:Nat}{x:Int}(hj:d[j]? =some x):(putCells (Value.int .i64) off d.toArray arr)[off+j]? =some (.int .i64 x):=by have hjl:=(lG.1 hj).1;have hx:=(lG.1 hj).2;simp only[putCells,Array.getElem?_mapIdx];rw[dI (by omega)];simp only[cK,dq];rw[if_pos (by omega)];simp[hjl,hx]
def int_cells{w:World}{φ:Phi}{σ:c9}{A:Nat->Prop}{l:Li}{base:Nat}{arr:Array Vl}
  (c:∀(j:Nat) (e:List C) (o:Nat) (x:C),((l.map intI).map (·.map C.imm))[j]? =some e->e[o]? =some x->∃u,arr[base+(j * 1+o)]? =some u/\RelC w φ σ A x u) {j:Nat} {x:Int} (h:l[j]? =some x):arr[base+j]? =some (.int .i64 x):=by
 obtain⟨u,q,hr⟩:=c j _ 0 (.imm (.val (.int .i64 x))) (by simp[h];rfl) rfl
 cases hr with|imm hr=>cases hr;simpa using q
def holds_of{w:World}{l:Li}{b base:Nat}{arr:Array Vl}{ety:Ti}(hb:w.heap[b]? =some (.cells arr ety (0,0)))(hc:∀(j:Nat) (x:Int),l[j]? =some x->arr[base+j]? =some (.int .i64 x)):Holds (Value.int .i64) w b base l.toArray:=by
 intro j hj;have hjl:j<ez l:=by simpa using hj
 refine⟨?_,by simp[World.frozen?,hb]⟩;rw[World.cell?];simp only[hb];rw[hc j l[j] (cC hjl)];simp[hjl]
def P4{l:Li}:((l.map intI).map (·.map C.imm)).length=ez l:=by simp
def vec_hk{l:Li}{j:Nat}{e:List C}(h:((l.map intI).map (·.map C.imm))[j]? =some e):ez e=1:=by simp only[List.map_map,lM,oM] at h;obtain⟨a,_,rfl⟩:=h;rfl
def vec_hc{w:World}{φ:Phi}{σ:c9}{A:Nat->Prop}{l:Li}{base:Nat}{arr:Array Vl}(h:∀(j:Nat) (x:Int),l[j]? =some x->arr[base+j]? =some (.int .i64 x))(j:Nat)(e:List C)(o:Nat)(x:C)(c:((l.map intI).map (·.map C.imm))[j]? =some e)(hx:e[o]? =some x):
  ∃u,arr[base+(j * 1+o)]? =some u/\RelC w φ σ A x u:=by
 simp only[List.map_map,lM,oM] at c
 obtain⟨a,q,rfl⟩:=c
 match o with
 |0=>
  cases hx
  exact⟨_,by simpa using h j a q,.imm (.val rfl)⟩
 |o+1=>simp at hx
abbrev srt(l:Li):Li:=l.mergeSort fun x y=>decide (x<=y)
def R7(P : Program)(f : FuncId) : Prop := ∃ fn, P.funcs[f]? = some fn /\ (fn.name == "runtime.NumGoroutine")=false/\fn.body.isNone=false
def sort_fn{P:Program}{f:FuncId}(hf:R7 P f)
  (hC:∀(blk off cap:Nat) (zs:Li) (w:World),Holds (Value.int .i64) w blk off zs.toArray->blk<w.heap.size->ez zs<4611686018427387904->Calls P f #[.slice (some ⟨blk,off,none⟩) (ez zs) cap] w fun e w'=>e=.returned (.tuple #[])/\∃n os,w'=Go.Sort.grow (putRow (Value.int .i64) (Go.Sort.ahead w n) blk off (srt zs).toArray) os)
  (hC0:∀(p:Option Addr) (cap:Nat) (w:World),Calls P f #[.slice p 0 cap] w fun e w'=>e=.returned (.tuple #[])/\w'=w)
  {σ:c9} {id:Id} {l:Li} (hσ:σ[id]? =some (some (vec 1 intI l))) (hl:ez l<4611686018427387904):
  FnOk P f [.c (.own id 0 (ez l))] σ fun r σ'=>r=.tup []/\(ez σ')=ez σ/\∀i:Id,σ'[i]? =(σ.put id (some (vec 1 intI (srt l))))[i]? :=by
 refine⟨hf,fun Γ vs hΓ hG hlen hrel=> ?_⟩
 subst hΓ
 match vs,hlen with
 |[u],_=>
 have hu:=F8 (hrel 0 _ u rfl rfl) hσ
 have tupR:∀{w φ σ A},RelT w φ σ A (.tup []) (.tuple #[]):=fun {w φ σ A}=>RelT.tup (ts:=[]) (fun _=>undef) fun i t h=>by simp at h
 rw[P4] at hu
 have empty:∀(p:Option Addr) (cap:Nat),l=[]->Calls P f #[.slice p 0 cap] Γ.w0 fun e w'=>∃v r σ' φ',e=.returned v/\(r=.tup []/\(ez σ')=Γ.σ0.length/\∀i:Id,σ'[i]? =(Γ.σ0.put id (some (vec 1 intI (srt l))))[i]?)/\RelT w' φ' σ' (Al Γ.N φ' σ') r v/\Rs Γ σ' φ' w':=fun p cap he=>by
  refine(hC0 p cap Γ.w0).mono ?_;rintro e w' ⟨rfl,rfl⟩;refine⟨_,.tup [],Γ.σ0,Γ.φ0,rfl,⟨rfl,rfl,fun i=> ?_⟩,tupR,Rs.refl hG⟩;have:srt l=l:=by rw[he];simp[srt]
  rw[this];by_cases hi:i=id;rw[hi,c9.get_put_eq hσ,hσ];rw[c9.get_put_ne hi]
 rcases hu with⟨_,hv,_,h0⟩|⟨b,base,cap,arr,ety,a,hp,hv,ha,hcap,hmax,hjn,hbk,hsz⟩
 ·have he:l=[]:=cz (by omega)
  rw[hv]
  exact empty none 0 he
 ·rw[hv]
  by_cases hc0:0<cap
  ·have:=ha hc0
   subst this
   simp only[dA,cW]
   have hR:=Rs.refl hG
   rcases hR.st.blk _ _ hσ with⟨h1,_⟩|⟨b',base',arr2,ety2,h1,h2,h3,h4,h5⟩
   ·rw[hp] at h1;cases h1
   ·rw[hp] at h1;cases h1
    rw[hbk] at h2;cases h2
    rw[P4] at h3
    have hcell:∀(j:Nat) (x:Int),l[j]? =some x->arr[base+j]? =some (.int .i64 x):=fun j x hj=>int_cells h5 hj
    have hls:(srt l).length=ez l:=by simp[srt]
    refine(hC b base cap l Γ.w0 (holds_of hbk hcell) (dy.1 hbk).1 hl).mono ?_
    rintro e w' ⟨rfl,n,os,rfl⟩
    have hW:=Rs.write (k:=1) (es':=((srt l).map intI).map (·.map C.imm)) (arr':=putCells (Value.int .i64) base (srt l).toArray arr) hR hσ hp hbk (by rw[P4,P4,hls]) ah1 (fun j e he=>vec_hk he) (by rw[P4];omega)
     (vec_hc fun j x hj=>as7 (by omega) hj)
    rw[putRow_ahead,ap1 hbk]
    refine⟨_,.tup [],_,Γ.φ0,rfl,⟨rfl,?_,fun i=>rfl⟩,tupR,(hW.2.ahead n).grow os⟩
    rw[c9.length_put]
  ·have he:l=[]:=cz (by omega)
   have hl0:ez l=0:=by rw[he];rfl
   rw[hl0]
   exact empty (some a) cap he
def compact_len_le(l:Li):(Go.Lib.compact l).length<=ez l:=by unfold Go.Lib.compact Go.Lib.compactUpTo;rw[cV];exact cZ (List.length_filter_le _ _) (by simp)
def compact_fn{P:Program}{f:FuncId}(hf:R7 P f)
  (hC:∀(blk off cap:Nat) (zs:Li) (w:World),Holds (Value.int .i64) w blk off zs.toArray->ez zs<=9223372036854775807->ez zs<=cap->Calls P f #[.slice (some ⟨blk,off,none⟩) (ez zs) cap] w fun e w'=>e=.returned (.slice (some ⟨blk,off,none⟩) (Go.Lib.compact zs).length cap)/\∃q,w'=putRow (Value.int .i64) (Go.Sort.ahead w q) blk off (Go.Lib.compact zs++du (ez zs - (Go.Lib.compact zs).length) 0).toArray)
  (hC0:∀(a:Option Addr) (cap:Nat) (w:World),Calls P f #[.slice a 0 cap] w fun e w'=>e=.returned (.slice a 0 cap)/\w'=w)
  {σ:c9} {id:Id} {l:Li} (hσ:σ[id]? =some (some (vec 1 intI l))):
  FnOk P f [.c (.own id 0 (ez l))] σ fun r σ'=>r=.c (.own (ez σ,[]) 0 (Go.Lib.compact l).length)/\σ'=σ.put id none++[.one (vec 1 intI (Go.Lib.compact l))]:=by
 refine⟨hf,fun Γ vs hΓ hG hlen hrel=> ?_⟩
 subst hΓ
 match vs,hlen with
 |[u],_=>
 have hu:=F8 (hrel 0 _ u rfl rfl) hσ
 rw[P4] at hu
 have hR:=Rs.refl hG
 have hidl:=c9.lt_of hσ
 have cnil:Go.Lib.compact ([]:Li)=[]:=rfl
 have at_new:∀{m:Li},(Γ.σ0.put id none++[.one (vec 1 intI m)])[((Γ.σ0.length,[]):Id)]? =some (some (vec 1 intI m)):=fun {m}=>by rw[c9.get_right (by simp)];simp;rfl
 rcases hu with⟨hp,hv,_,h0⟩|⟨b,base,cap,arr,ety,a,hp,hv,ha,hcap,hmax,hjn,hbk,hsz⟩
 ·have he:l=[]:=cz (by omega)
  subst he
  rw[hv]
  refine(hC0 none 0 Γ.w0).mono ?_
  rintro e w' ⟨rfl,rfl⟩
  have hK:=hR.kill id
  have hV:=hK.2.virt 1
  refine⟨_,_,_,fun i=>if i=(Γ.σ0.length,[]) then none else Γ.φ0 i,rfl,⟨rfl,rfl⟩,?_,?_⟩
  rotate_left
  ·have:=hV.2
   rw[c9.length_put] at this
   exact this
  ·refine .c (.own (by simp) rfl fun k es hes=>.inl ⟨?_,rfl,rfl,rfl⟩)
   simp
 ·rw[hv]
  rcases hR.st.blk _ _ hσ with⟨h1,_⟩|⟨b',base',arr2,ety2,h1,h2,h3,h4,h5⟩
  ·rw[hp] at h1;cases h1
  ·rw[hp] at h1;cases h1
   rw[hbk] at h2;cases h2
   rw[P4] at h3
   have hcell:∀(j:Nat) (x:Int),l[j]? =some x->arr[base+j]? =some (.int .i64 x):=fun j x hj=>int_cells h5 hj
   have hle:=compact_len_le l
   by_cases hc0:0<cap
   ·have:=ha hc0
    subst this
    simp only[dA,cW]
    have hmx:ez l<=9223372036854775807:=by simp only[maxLen] at hmax;omega
    refine(hC b base cap l Γ.w0 (holds_of hbk hcell) hmx hcap).mono ?_
    rintro e w' ⟨rfl,q,rfl⟩
    have hO:=Rs.reown (k:=1) (base':=base) (es':=((Go.Lib.compact l).map intI).map (·.map C.imm)) (arr':=putCells (Value.int .i64) base (Go.Lib.compact l++du (ez l - (Go.Lib.compact l).length) 0).toArray arr) hR hσ hp hbk (fun j e he=>vec_hk he) (by rw[P4,ah1];omega)
     (vec_hc fun j x hj=>as7 (by simp;omega) (by rw[cG (lG.1 hj).1];exact hj))
    rw[putRow_ahead,ap1 hbk]
    refine⟨_,_,_,_,rfl,⟨rfl,rfl⟩,?_,hO.2.ahead q⟩
    refine .c (.own (by simp) rfl fun k es hes=> ?_)
    rw[at_new] at hes
    cases hes
    refine .inr ⟨b,base,cap,_,ety,⟨b,base,none⟩,by simp,rfl,fun _=>by simp,by omega,hmax,by rw[P4];omega,setRow_heap _ _ _ _ _ _ hbk,by rw[ah1];omega⟩
   ·have he:l=[]:=cz (by omega)
    subst he
    refine(hC0 (some a) cap Γ.w0).mono ?_
    rintro e w' ⟨rfl,rfl⟩
    have hO:=Rs.reown (k:=1) (base':=base) (es':=[]) (arr':=arr) hR hσ hp hbk (fun j e he=>by simp at he) (by simp;omega) (fun j e o x he=>by simp at he)
    rw[setRow_self hbk] at hO
    refine⟨_,_,_,_,rfl,⟨rfl,rfl⟩,?_,hO.2⟩
    refine .c (.own (by simp) rfl fun k es hes=> ?_)
    rw[at_new] at hes
    cases hes
    exact .inr ⟨b,base,cap,arr,ety,a,by simp,rfl,fun h=>absurd h hc0,by omega,hmax,by simp[cnil],hbk,by omega⟩
end Ab
end
section
namespace Ab
open Go
def insB{α:Type}(lt:α->α->Bool)(x:α):List α->List α
 |[]=>[x]
 |y::r=>match lt y x with
  |true=>y::insB lt x r
  |false=>x::y::r
def srtB{α:Type}(lt:α->α->Bool):List α->List α
 |[]=>[]
 |x::r=>insB lt x (srtB lt r)
def insB_perm{α:Type}{lt:α->α->Bool}{x:α}:∀{l:List α},(insB lt x l).Perm (x::l)
 |[]=>.refl _
 |y::r=>by simp only[insB];split;exact(insB_perm.cons y).trans (.swap x y r);exact .refl _
def srtB_perm{α:Type}{lt:α->α->Bool}:∀{l:List α},(srtB lt l).Perm l
 |[]=>.refl _
 |_::_=>insB_perm.trans (srtB_perm.cons _)
def insB_sorted{α:Type}{lt:α->α->Bool}(j:∀a b c,lt b a=false->lt c b=false->lt c a=false)(q:∀a b,lt a b=true->lt b a=false){x:α}:∀{l:List α},l.Pairwise (fun a b=>lt b a=false)->(insB lt x l).Pairwise fun a b=>lt b a=false
 |[],_=>by simp[insB]
 |y::r,h=>by obtain⟨h1,h2⟩:=dG.1 h;simp only[insB];split;rename_i e;refine dG.2 ⟨fun z hz=> ?_,insB_sorted j q h2⟩;rcases dx.1 (insB_perm.mem_iff.1 hz) with rfl|hz;exact q _ _ e;exact h1 z hz;rename_i e;refine dG.2 ⟨fun z hz=> ?_,h⟩;rcases dx.1 hz with rfl|hz;exact e;exact j _ _ _ e (h1 z hz)
def srtB_sorted{α:Type}{lt:α->α->Bool}(e:∀a b c,lt b a=false->lt c b=false->lt c a=false)(h:∀a b,lt a b=true->lt b a=false):∀{l:List α},(srtB lt l).Pairwise fun a b=>lt b a=false
 |[]=>.nil
 |_::_=>insB_sorted e h (srtB_sorted e h)
def srtB_eq{α:Type}{lt:α->α->Bool}(e:∀a b c,lt b a=false->lt c b=false->lt c a=false)(j:∀a b,lt a b=true->lt b a=false)(q:∀a b,lt a b=false->lt b a=false->a=b){l m:List α}(u:m.Perm l)(hs:m.Pairwise fun a b=>lt b a=false):srtB lt l=m:=
 List.Perm.eq_of_pairwise (le:=fun a b=>lt b a=false) (fun a b _ _ h g=>q a b g h) (srtB_sorted e j) hs (srtB_perm.trans u.symm)
def srtI(l:Li):Li:=srtB (fun a b=>decide (a<b)) l
def srtI_eq(l:Li):srtI l=srt l:=by refine srtB_eq (fun a b c h1 h2=> ?_) (fun a b h=> ?_) (fun a b h1 h2=> ?_) (List.mergeSort_perm ..) ?_;simp only[decide_eq_false_iff_not] at h1 h2 ⊢;omega;simp only[decide_eq_true_eq,decide_eq_false_iff_not] at h ⊢;omega;simp only[decide_eq_false_iff_not] at h1 h2;omega;have:=List.pairwise_mergeSort (le:=fun x y:Int=>decide (x<=y)) (fun a b c h1 h2=>by simp at h1 h2 ⊢;omega) (fun a b=>by simp;omega) l;refine this.imp fun h=> ?_;simp only[decide_eq_true_eq,decide_eq_false_iff_not] at h ⊢;omega
def sortL(l:Li):Option Li:=if (ez l)<4611686018427387904 then some (srtI l) else none
def sortL_srt(l:Li):sortL l=if (ez l)<4611686018427387904 then some (srt l) else none:=by rw[sortL,srtI_eq]
def ah3(l:Li):Li:=Go.Lib.compact l
def sortL_len{l l':Li}(h:sortL l=some l'):ez l=ez l':=by rw[sortL_srt] at h;split at h;cases h;simp[srt];cases h
def SortOk(P:Program)(f:FuncId):Prop:=∀{σ:c9} {id:Id} {l:Li},σ[id]? =some (some (vec 1 intI l))->ez l<4611686018427387904->
  FnOk P f [.c (.own id 0 (ez l))] σ fun r σ'=>r=.tup []/\(ez σ')=ez σ/\∀i:Id,σ'[i]? =(σ.put id (some (vec 1 intI (srt l))))[i]?
def CompactOk(P:Program)(f:FuncId):Prop:=∀{σ:c9} {id:Id} {l:Li},σ[id]? =some (some (vec 1 intI l))->
  FnOk P f [.c (.own id 0 (ez l))] σ fun r σ'=>r=.c (.own (ez σ,[]) 0 (Go.Lib.compact l).length)/\σ'=σ.put id none++[.one (vec 1 intI (Go.Lib.compact l))]
section
variable {P:Program}{σ0:c9}{sz:Nat}{Q:Post}{env:Env}{σv σ':c9}{ops:Array Oper}{rest:List Oper}{dst:Option Nat}{ty:Ti}{pos:String}{after:Array Edge}
def S.sort{x:Od}{q:List Od}{ats:Array Ti}{f:FuncId}{id:Id}{n:Nat}{l l':Li}(hs:sortL l=some l')(hf:SortOk P f)(hx:ev env x=some (.c (.fn f [])))(u:evs env q=some [.c (.own id 0 n)])(v:n=ez l)(j:σv[id]? =some (some (vec 1 intI l)))
  (hd:j6 sz dst=true) (e:putF σv id (some (vec 1 intI l'))=some σ') (h:AOps P σ0 sz ops Q rest (St.mk (putE env dst (.tup [])) σ')):
  AOps P σ0 sz ops Q (⟨dst,.call ⟨.value x,q.toArray,ats⟩,ty,pos,after,none⟩::rest) (St.mk env σv):=by
 have h2:=A4 e
 subst h2 v
 rw[sortL_srt] at hs
 split at hs
 ·cases hs
  refine AOps.callS hx u hd (hf j ‹_›) ?_
  rintro r σ2 ⟨rfl,hl,z⟩
  refine AOps.sub (s':=⟨putE env dst (.tup []),σv.put id (some (vec 1 intI (srt l)))⟩) ?_ h
  have:=Sub.same (σ0:=σ0) (env:=putE env dst (.tup [])) (σ1:=σ2) (σ2:=σv.put id (some (vec 1 intI (srt l)))) (by rw[c9.length_put,hl]) z
  cases dst<;>exact this
 ·cases hs
def S.compact{x:Od}{q:List Od}{ats:Array Ti}{f:FuncId}{id u:Id}{n:Nat}{l:Li}{σ1:c9}(hf:CompactOk P f)(hx:ev env x=some (.c (.fn f [])))(v:evs env q=some [.c (.own id 0 n)])(z:n=ez l)(j:σv[id]? =some (some (vec 1 intI l)))
  (hd:j6 sz dst=true) (hid:newF σv=some u) (h1:putF σv id none=some σ1) (e:w8 σ1 (.one (vec 1 intI (ah3 l)))=some σ') (h:AOps P σ0 sz ops Q rest (St.mk (putE env dst (.c (.own u 0 (ah3 l).length))) σ')):
  AOps P σ0 sz ops Q (⟨dst,.call ⟨.value x,q.toArray,ats⟩,ty,pos,after,none⟩::rest) (St.mk env σv):=by
 have h2:=A4 h1
 have B:=B2 hid;have E:=v7 e
 subst z h2 B E
 refine AOps.callS hx v hd (hf j) ?_
 rintro r σ2 ⟨rfl,rfl⟩
 cases dst<;>exact h
end
end Ab
end
