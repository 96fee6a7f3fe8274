/-
  Texts that the proof stands on.
-/
import Derived.WalkKit
import Derived.Sort.LoopGhostIn
import Derived.CallsIn
import Derived.TacticsIn
import Derived.RangeFuncNested
import Derived.RangeFuncLeaves
import Derived.RegionTactic
import Derived.OrdersIn
set_option linter.all false
open List renaming getElem?_eq_getElem->ae,all_eq_true->af,eq_nil_of_length_eq_zero->ah,range->aj,mem_of_getElem?->ak,getElem?_of_mem->ar,getElem?_take->au,getElem?_drop->aw,length_cons->ax,mem_zipIdx_iff_getElem?->aD,getElem?_append_right->aE,filter_cons->aF,getElem?_append_left->aH,getElem?_modify->aI,length_append->aM,range'_succ->aS,mem_cons->aV,length_nil->aW,size_toArray->aX,append_nil->bc,filter_nil->bg,pairwise_cons->bh,set_eq_take_append_cons_drop->bm,length_map->bn,getElem?_append->bo,range_eq_range'->bp,map_congr_left->bq,filterMap_cons->br,take_zero->bt,replicate->bw,map_cons->bz,ext_getElem?->bE,append_assoc->bF,mem_of_find?_eq_some->bG,cons_append->bH,any_eq_true->bI,getElem?_cons_zero->bJ,getElem?_replicate->bL,getElem?_cons_succ->bM,nil_append->bO,range'->bP,filter_eq_nil_iff->bQ,getElem?_toArray->bS,mem_cons_of_mem->bU,mem_iff_getElem->bW,filter_append->ch,getElem?_set->ci,mapM_toArray->ck,length_take->cp,length_drop->cq,zipIdx_cons->cr,length->ct
open Nat renaming lt_of_lt_of_le->ag,mul_le_mul_right->am,eq_of_beq_eq_true->ao,add_mul->aq,lt_or_ge->az,le_of_ble_eq_true->aA,blt_eq->aC,beq->aG,le_refl->aL,blt->aN,lt_irrefl->aP,le_trans->aQ,zero_add->aR,add_assoc->aU,add_zero->aY,mul_comm->aZ,ble->ba,one_mul->bl,le_mul_of_pos_right->bK,zero_le->bR,not_lt->bV,div_lt_of_lt_mul->bX,pos_of_ne_zero->ca
open Bool renaming and_eq_true->ap,or_eq_true->bf,false_eq_true->bx,not_eq_true'->cj
open Array renaming getElem?_replicate->aB,getElem?_eq_some_iff->aO,getElem?_setIfInBounds_ne->aT,getElem?_setIfInBounds->bu,replicate->bN,length_toList->bY,toList_zipIdx->bZ,foldl_toList->ce
open Option renaming map_some->aJ,map_eq_map->bA,map->bT
open Int renaming toNat_natCast->cm
section
namespace Ab
abbrev Od:=Go.Operand
abbrev Ti:=Go.TypeId
abbrev Vl:=Go.Value
def lS{α:Type}{l:List α}{i:Nat}{a:α}:(l.set i a).length=ct l:=List.length_set
def lG{α:Type}{l:List α}{i:Nat}{a:α}:l[i]?=some a↔∃h:i<ct l,l[i]=a:=List.getElem?_eq_some_iff
def lM{α β:Type}{f:α->β}{l:List α}{i:Nat}:(l.map f)[i]?=bT f l[i]?:=List.getElem?_map
def oM{α β:Type}{f:α->β}{x:Option α}{b:β}:x.map f=some b↔∃a,x=some a/\f a=b:=Option.map_eq_some_iff
abbrev LL:=List (List Int)
abbrev Li:=List Int
def Z.{u}{α:Sort u}{a:α}:a=a:=rfl
def Y:True:=trivial
def oB{α β:Type}(a:α)(f:α->Option β):(some a).bind f=f a:=rfl
def bft(b:Bool):b=true\/b=false:=Bool.eq_false_or_eq_true b
def oi{α:Type}{a b:α}(h:some a=some b):a=b:=Option.some.inj h
def o2{α β:Type}{a c:α}{b d:β}(h:some (a,b)=some (c,d)):a=c/\b=d:=by cases h;exact⟨rfl,rfl⟩
def o4{α β j q:Type}{a c:α}{b d:β}{e f:j}{g h:q}(k:some (a,b,e,g)=some (c,d,f,h)):a=c/\b=d/\e=f/\g=h:=by cases k;exact⟨rfl,rfl,rfl,rfl⟩
def o5{α β q u ε:Type}{a c:α}{b d:β}{e f:q}{g h:u}{i j:ε}(k:some (a,b,e,g,i)=some (c,d,f,h,j)):a=c/\b=d/\e=f/\g=h/\i=j:=by cases k;exact⟨rfl,rfl,rfl,rfl,rfl⟩
def o6{α β q u ε ζ:Type}{a c:α}{b d:β}{e f:q}{g h:u}{i j:ε}{l m:ζ}(k:some (a,b,e,g,i,l)=some (c,d,f,h,j,m)):a=c/\b=d/\e=f/\g=h/\i=j/\l=m:=by cases k;exact⟨rfl,rfl,rfl,rfl,rfl,rfl⟩
def o3{α β j:Type}{a c:α}{b d:β}{e f:j}(h:some (a,b,e)=some (c,d,f)):a=c/\b=d/\e=f:=by cases h;exact⟨rfl,rfl,rfl⟩
open Go
inductive I where
 |val (v:Vl)
 |sl (k:Nat) (es:List (List I))
 |ipt (cs:List I)
 |fn (f:FuncId) (caps:List I)
abbrev Id:=Nat×List Nat
instance (n:Nat):OfNat Id n:=⟨(n,[])⟩
inductive C where
 |imm (x:I)
 |own (id:Id) (j n:Nat)
 |ptr (id:Id) (j o:Nat)
 |fn (f:FuncId) (caps:List C)
 |ifc (t:Ti) (cs:List C) (agg:Bool)
 |map (id:Id)
 |fnb (f:FuncId) (caps:List C)
 |yld (id:Id)
inductive T where
 |c (x:C)
 |agg (cs:List C)
 |tup (ts:List T)
 |undef
inductive Blk where
 |cells (k:Nat) (es:List (List C))
 |obj (p:Obj->List Vl->Prop) (cs:List C)
inductive Ent where
 |dead
 |one (b:Blk)
 |node (main:Option Blk) (subs:List Ent)
abbrev c9:=List Ent
abbrev Env:=List (Nat×T)
abbrev Phi:=Id->Option (Nat×Nat)
def Ent.sub:Ent->List Nat->Option Blk
 | .dead,_=>none
 | .one b,[]=>some b
 | .one _,_::_=>none
 | .node m _,[]=>m
 | .node _ s,i::p=>match s[i]? with
  |some e=>e.sub p
  |none=>none
def Ent.opt:Option Blk->Ent
 |none=>.dead
 |some b=>.one b
def Ent.put:Ent->List Nat->Option Blk->Ent
 | .dead,[],b=>.opt b
 | .one _,[],b=>.opt b
 | .node _ s,[],b=>.node b s
 | .node m s,i::p,b=>.node m (s.modify i fun e=>e.put p b)
 | .dead,_::_,_=>.dead
 | .one c,_::_,_=>.one c
def c9.at(σ:c9)(i:Id):Option (Option Blk):=match σ[i.1]? with
 |some e=>some (e.sub i.2)
 |none=>none
instance:GetElem? (List Ent) Id (Option Blk) (fun σ i=>i.1<ct σ) where
 getElem σ i h:=(σ[i.1]'h).sub i.2
 getElem? σ i:=c9.at σ i
def c9.put(σ:c9)(i:Id)(b:Option Blk):c9:=σ.modify i.1 fun e=>e.put i.2 b
def c9.at_eq(σ:c9)(i:Id):σ[i]? =c9.at σ i:=rfl
@[simp] theorem c9.get_nil (i:Id):([]:c9)[i]? =none:=rfl
def c9.lt_of{σ:c9}{i:Id}{x:Option Blk}(h:σ[i]? =some x):i.1<ct σ:=by rw[c9.at_eq,c9.at] at h;split at h;rename_i e;exact(lG.1 e).1;cases h
def c9.get_left{σ c:c9}{i:Id}(h:i.1<ct σ):(σ++c)[i]? =σ[i]? :=by
 rw[c9.at_eq,c9.at_eq,c9.at,c9.at,aH h]
def c9.get_right{σ c:c9}{i:Id}(h:ct σ<=i.1):(σ++c)[i]? =c[((i.1 - (ct σ),i.2):Id)]? :=by
 rw[c9.at_eq,c9.at_eq,c9.at,c9.at,aE h]
def c9.get_new{σ:c9}{b:Blk}{i:Id}{x:Blk}(h:(σ++[.one b])[i]? =some (some x)):(i.1<ct σ/\σ[i]? =some (some x))\/(i=(ct σ,[])/\x=b):=by
 rcases az i.1 (ct σ) with hl|hl;exact .inl ⟨hl,by rwa [c9.get_left hl] at h⟩;rw[c9.get_right hl] at h;have h1:=c9.lt_of h;simp only[ax,aW] at h1;obtain⟨r,p⟩:=i;have c:r - (ct σ)=0:=by simp only at h1;omega
 have hr:r=ct σ:=by simp only at hl;omega
 simp only[c] at h;cases p with
 |nil=>
  rw[c9.at_eq] at h
  simp only[c9.at,bJ,Ent.sub,Option.some.injEq] at h
  exact .inr ⟨by rw[hr],h.symm⟩
 |cons a p=>
  rw[c9.at_eq] at h
  simp[c9.at,Ent.sub] at h
def c9.get_last(σ:c9)(b:Blk):(σ++[.one b])[((ct σ,[]):Id)]? =some (some b):=by rw[c9.get_right (aL _)];simp[c9.at_eq,c9.at,Ent.sub]
@[simp] theorem c9.length_put (σ:c9) (i:Id) (b:Option Blk):(σ.put i b).length=ct σ:=by simp[c9.put]
def Ent.sub_opt(b:Option Blk)(p:List Nat):(Ent.opt b).sub p=match p with|[]=>b|_::_=>none:=by
 cases b<;>cases p<;>rfl
def Ent.sub_put_ne:∀(p q:List Nat) (e:Ent) (b:Option Blk),q ≠ p->(e.put p b).sub q=e.sub q
 |[],q,e,b,h=>by
  cases q with
  |nil=>exact absurd rfl h
  |cons a q=>cases e<;>simp[Ent.put,Ent.sub,Ent.sub_opt]
 |i::p,q,e,b,h=>by
  cases e with
  |dead=>rfl
  |one c=>rfl
  |node m s=>
   cases q with
   |nil=>rfl
   |cons a q=>
    simp only[Ent.put,Ent.sub,aI]
    by_cases j:i=a
    ·subst j
     simp only[if_true]
     cases hs:s[i]? with
     |none=>rfl
     |some e'=>exact Ent.sub_put_ne p q e' b (fun u=>h (by rw[u]))
    ·simp[j]
def Ent.sub_put_eq:∀(p:List Nat) (e:Ent) (b:Option Blk) {b0:Blk},e.sub p=some b0->(e.put p b).sub p=b
 |[],e,b,_,h=>by cases e<;>simp[Ent.put,Ent.sub,Ent.sub_opt]
 |i::p,e,b,b0,h=>by
  cases e with
  |dead=>cases h
  |one c=>cases h
  |node m s=>
   simp only[Ent.put,Ent.sub,aI] at h ⊢
   cases hs:s[i]? with
   |none=>rw[hs] at h;cases h
   |some e'=>
    rw[hs] at h
    simpa using Ent.sub_put_eq p e' b h
def c9.get_put_ne{σ:c9}{i j:Id}{b:Option Blk}(h:j ≠ i):(σ.put i b)[j]? =σ[j]? :=by
 rw[c9.at_eq,c9.at_eq,c9.at,c9.at,c9.put,aI];by_cases hr:i.1=j.1;simp only[if_pos hr];cases hs:σ[j.1]? with
 |none=>rfl
 |some e=>
  simp only[bA,aJ]
  rw[Ent.sub_put_ne _ _ _ _ (fun hp=>h (Prod.ext hr.symm hp))]
 simp[if_neg hr]
def c9.get_put_eq{σ:c9}{i:Id}{b:Option Blk}{b0:Blk}(h:σ[i]? =some (some b0)):(σ.put i b)[i]? =some b:=by
 rw[c9.at_eq,c9.at] at h ⊢;rw[c9.put,aI];cases hs:σ[i.1]? with
 |none=>rw[hs] at h;cases h
 |some e=>
  rw[hs] at h
  simp only[Option.some.injEq] at h
  simp only[if_true,bA,aJ,Option.some.injEq]
  exact Ent.sub_put_eq _ _ _ h
def c9.get_put{σ:c9}{i j:Id}{b:Option Blk}{b0 x:Blk}(h:σ[i]? =some (some b0))(c:(σ.put i b)[j]? =some (some x)):(j=i/\b=some x)\/(j ≠ i/\σ[j]? =some (some x)):=by by_cases e:j=i;subst e;rw[c9.get_put_eq h] at c;exact .inl ⟨rfl,Option.some.inj c⟩;rw[c9.get_put_ne e] at c;exact .inr ⟨e,c⟩
def Ent.dead_put:∀(p:List Nat) (e:Ent) {x:Blk},e.sub p=none->(e.put p none).sub p=some x->False
 |[],e,x,h,hx=>by cases e<;>simp[Ent.put,Ent.sub,Ent.sub_opt] at hx
 |i::p,e,x,h,hx=>by
  cases e with
  |dead=>cases hx
  |one c=>cases hx
  |node m s=>
   simp only[Ent.put,Ent.sub,aI] at h hx
   cases hs:s[i]? with
   |none=>rw[hs] at hx;cases hx
   |some e'=>
    rw[hs] at h hx
    exact Ent.dead_put p e' h (by simpa using hx)
def c9.get_kill{σ:c9}{i j:Id}{x:Blk}(c:(σ.put i none)[j]? =some (some x)):j ≠ i/\σ[j]? =some (some x):=by
 by_cases e:j=i;subst e;cases h:σ[j]? with
 |none=>
  have:=c9.lt_of c
  rw[c9.length_put] at this
  rw[c9.at_eq,c9.at,ae this] at h
  cases h
 |some o=>
  cases o with
  |none=>
   exfalso
   rw[c9.at_eq,c9.at,c9.put,aI] at c
   rw[c9.at_eq,c9.at] at h
   cases hs:σ[j.1]? with
   |none=>rw[hs] at h;cases h
   |some e=>
    rw[hs] at h c
    simp only[if_true,bA,aJ,Option.some.injEq] at h c
    exact Ent.dead_put _ _ h c
  |some b0=>rw[c9.get_put_eq h] at c;cases c
 exact⟨e,by rwa [c9.get_put_ne e] at c⟩
def lookup(t:Nat):Env->Option T
 |[]=>none
 |(k,v)::r=>match aG k t with
  |true=>some v
  |false=>lookup t r
structure St where
 env:Env
 σ:c9
def ad0(a:Addr)(n:Nat):(a.add n).block=a.block:=by unfold Addr.add;split<;>rfl
def c9.put_last(b c:Blk):∀σ:c9,c9.put (σ++[.one b]) (ct σ,[]) (some c)=σ++[.one c]
 |[]=>rfl
 |e::σ=>by have:=c9.put_last b c σ;simp only[c9.put] at this ⊢;simpa using this
mutual
def Ent.map(f:Blk->Blk):Ent->Ent
 | .dead=>.dead
 | .one b=>.one (f b)
 | .node m s=>.node (m.map f) (Ent.mapL f s)
def Ent.mapL(f:Blk->Blk):List Ent->List Ent
 |[]=>[]
 |e::r=>Ent.map f e::Ent.mapL f r
end
def c9.mapB(f:Blk->Blk)(σ:c9):c9:=Ent.mapL f σ
def mapL_eq(f:Blk->Blk):∀l:List Ent,Ent.mapL f l=List.map (Ent.map f) l
 |[]=>rfl
 |e::r=>by rw[Ent.mapL,mapL_eq f r];rfl
def Ent.sub_map(f:Blk->Blk):∀(p:List Nat) (e:Ent),(e.map f).sub p=(e.sub p).map f
 |[],e=>by cases e<;>simp[Ent.map,Ent.sub]
 |i::p,e=>by
  cases e with
  |dead=>rfl
  |one c=>rfl
  |node m s=>
   simp only[Ent.map,Ent.sub,mapL_eq,lM]
   cases hs:s[i]? with
   |none=>rfl
   |some e'=>simpa using Ent.sub_map f p e'
def c9.get_map(f:Blk->Blk)(σ:c9)(i:Id):(σ.mapB f)[i]? =(σ[i]?).map (bT f):=by
 rw[c9.at_eq,c9.at_eq,c9.at,c9.at,c9.mapB,mapL_eq,lM];cases σ[i.1]? with
 |none=>rfl
 |some e=>simp[Ent.sub_map]
@[simp] theorem c9.length_map (f:Blk->Blk) (σ:c9):(σ.mapB f).length=ct σ:=by simp[c9.mapB,mapL_eq]
def c9.get_map_some{f:Blk->Blk}{σ:c9}{i:Id}{b:Blk}(h:(σ.mapB f)[i]? =some (some b)):∃b0,σ[i]? =some (some b0)/\b=f b0:=by
 rw[c9.get_map] at h;cases hx:σ[i]? with
 |none=>rw[hx] at h;cases h
 |some o=>
  rw[hx] at h
  cases o with
  |none=>cases h
  |some b0=>cases h;exact⟨b0,rfl,rfl⟩
def sh(n:Nat):Id->Id:=fun i=>(i.1+n,i.2)
def unsh(n:Nat):Id->Id:=fun i=>(i.1 - n,i.2)
def unsh_sh(n:Nat)(i:Id):unsh n (sh n i)=i:=by simp[sh,unsh]
def sh_unsh{n:Nat}{i:Id}(h:n<=i.1):sh n (unsh n i)=i:=by obtain⟨r,p⟩:=i;simp only[sh,unsh] at h ⊢;rw[show r - n+n=r by omega]
inductive RelI(w:World)(A:Nat->Prop):I->Vl->Prop
 |val {v} (h:v.oneCell'=true):RelI w A (.val v) v
 |sl {k es a cap} (us:Nat->Nat->Vl) (hcap:ct es<=cap) (hmax:cap<=maxLen)
   (hk:∀(j:Nat) (e:List I),es[j]? =some e->ct e=k)
   (hc:∀(j:Nat) (e:List I) (o:Nat) (x:I),es[j]? =some e->e[o]? =some x->A a.block/\w.cell? (a.add (j * k+o))=some (us j o))
   (hr:∀(j:Nat) (e:List I) (o:Nat) (x:I),es[j]? =some e->e[o]? =some x->RelI w A x (us j o)):RelI w A (.sl k es) (.slice (some a) (ct es) cap)
 |slNil {k}:RelI w A (.sl k []) (.slice none 0 0)
 |ipt {cs a} (us:Nat->Vl)
   (hc:∀(o:Nat) (x:I),cs[o]? =some x->A a.block/\w.cell? (a.add o)=some (us o))
   (hr:∀(o:Nat) (x:I),cs[o]? =some x->RelI w A x (us o)):RelI w A (.ipt cs) (.pointer (some a))
 |fn {f caps} (us:Nat->Vl) (hr:∀(i:Nat) (c:I),caps[i]? =some c->RelI w A c (us i)):
   RelI w A (.fn f caps) (.func (.func f) #[] ((aj (ct caps)).map us).toArray)
def RelI.one{w:World}{A:Nat->Prop}{x:I}{v:Vl}(h:RelI w A x v):v.oneCell'=true:=by cases h<;>first|assumption|rfl
def RelI.mono{w w':World}{A A':Nat->Prop}{x:I}{v:Vl}(J:∀b,A b->b<w.heap.size->w'.heap[b]? =w.heap[b]?)(N:∀b,A b->b<w.heap.size->A' b)(h:RelI w A x v):RelI w' A' x v:=by
 induction h with
 |val h=>exact .val h
 |sl us u z hk F _ B=>
  refine .sl us u z hk (fun j e o x h1 h2=> ?_) B
  obtain⟨E,c⟩:=F j e o x h1 h2
  have q:=World.block_lt_of_cell? _ _ c
  rw[ad0] at q
  exact⟨N _ E q,(World.cell?_of_block (by rw[ad0];exact J _ E q)).trans c⟩
 |slNil=>exact .slNil
 |ipt us F _ B=>
  refine .ipt us (fun o x h2=> ?_) B
  obtain⟨E,c⟩:=F o x h2
  have q:=World.block_lt_of_cell? _ _ c
  rw[ad0] at q
  exact⟨N _ E q,(World.cell?_of_block (by rw[ad0];exact J _ E q)).trans c⟩
 |fn us _ B=>exact .fn us B
def U3(w:World)(p:Option (Nat×Nat))(k len:Nat)(j n:Nat)(v:Vl):Prop:=
 (p=none/\v=.slice none 0 0/\j=0/\n=0)\/
 ∃b base cap arr ety a,p=some (b,base)/\v=.slice (some a) n cap/\(0<cap->a=⟨b,base+j * k,none⟩)/\n<=cap/\cap<=maxLen/\j+n<=len/\
  w.heap[b]? =some (.cells arr ety (0,0))/\base+(j+cap) * k<=arr.size
inductive RelC(w:World)(φ:Phi)(σ:c9)(A:Nat->Prop):C->Vl->Prop
 |imm {x v} (h:RelI w A x v):RelC w φ σ A (.imm x) v
 |own {id j n v} (hid:id.1<ct σ) (h1:v.oneCell'=true)
   (h:∀(k:Nat) (es:List (List C)),σ[id]? =some (some (.cells k es))->U3 w (φ id) k (ct es) j n v):RelC w φ σ A (.own id j n) v
 |ptr {id j o v} (hid:id.1<ct σ) (h1:v.oneCell'=true)
   (h:∀(k:Nat) (es:List (List C)),σ[id]? =some (some (.cells k es))->∃b base,φ id=some (b,base)/\v=.pointer (some ⟨b,base+(j * k+o),none⟩)):RelC w φ σ A (.ptr id j o) v
 |fn {f caps} (us:Nat->Vl) (hr:∀(i:Nat) (c:C),caps[i]? =some c->RelC w φ σ A c (us i)):
   RelC w φ σ A (.fn f caps) (.func (.func f) #[] ((aj (ct caps)).map us).toArray)
 |ifcA {t cs} (us:Nat->Vl) (hr:∀(i:Nat) (c:C),cs[i]? =some c->RelC w φ σ A c (us i)):
   RelC w φ σ A (.ifc t cs true) (.iface t (.agg ((aj (ct cs)).map us).toArray))
 |ifc1 {t c u} (hr:RelC w φ σ A c u):RelC w φ σ A (.ifc t [c] false) (.iface t u)
 |map {id v} (hid:id.1<ct σ) (h1:v.oneCell'=true)
   (h:∀p cs,σ[id]? =some (some (.obj p cs))->∃b base,φ id=some (b,base)/\v=.map (some b)):RelC w φ σ A (.map id) v
 |fnb {f caps} (us:Nat->Vl) (hr:∀(i:Nat) (c:C),caps[i]? =some c->RelC w φ σ A c (us i)):
   RelC w φ σ A (.fnb f caps) (.func (.func f) ((aj (ct caps)).map us).toArray #[])
 |yld {id v} (hid:id.1<ct σ) (h1:v.oneCell'=true)
   (h:∀p cs,σ[id]? =some (some (.obj p cs))->∃b base,φ id=some (b,base)/\v=.func (.yield b) #[] #[]):RelC w φ σ A (.yld id) v
def RelC.one{w:World}{φ:Phi}{σ:c9}{A:Nat->Prop}{c:C}{v:Vl}(h:RelC w φ σ A c v):v.oneCell'=true:=by
 cases h<;>first|assumption|rfl|(exact RelI.one ‹_›)
inductive RelT(w:World)(φ:Phi)(σ:c9)(A:Nat->Prop):T->Vl->Prop
 |c {x v} (h:RelC w φ σ A x v):RelT w φ σ A (.c x) v
 |agg {cs} (us:Nat->Vl) (hr:∀(i:Nat) (c:C),cs[i]? =some c->RelC w φ σ A c (us i)):RelT w φ σ A (.agg cs) (.agg ((aj (ct cs)).map us).toArray)
 |tup {ts} (us:Nat->Vl) (hr:∀(i:Nat) (t:T),ts[i]? =some t->RelT w φ σ A t (us i)):RelT w φ σ A (.tup ts) (.tuple ((aj (ct ts)).map us).toArray)
 |undef:RelT w φ σ A .undef undef
def Al(N:Nat->Prop)(φ:Phi)(σ:c9)(b:Nat):Prop:=¬ N b/\∀(i:Id) (blk:Blk) (base:Nat),σ[i]? =some (some blk)->φ i ≠ some (b,base)
def BlkR(w:World)(φ:Phi)(σ:c9)(A:Nat->Prop)(p:Option (Nat×Nat)):Blk->Prop
 | .cells k es=>(p=none/\es=[])\/∃(b base:Nat) (arr:Array Vl) (ety:Ti),p=some (b,base)/\w.heap[b]? =some (.cells arr ety (0,0))/\base+ct es * k<=arr.size/\
   (∀(j:Nat) (e:List C),es[j]? =some e->ct e=k)/\(∀(j:Nat) (e:List C) (o:Nat) (x:C),es[j]? =some e->e[o]? =some x->∃u,arr[base+(j * k+o)]? =some u/\RelC w φ σ A x u)
 | .obj q cs=>∃b o us,p=some (b,0)/\w.heap[b]? =some o/\q o us/\∀(i:Nat) (x:C),cs[i]? =some x->∃u,us[i]? =some u/\RelC w φ σ A x u
structure StR(w:World)(φ:Phi)(σ:c9)(A:Nat->Prop):Prop where
 blk:∀(i:Id) b,σ[i]? =some (some b)->BlkR w φ σ A (φ i) b
 inj:∀(i j:Id) bi bj p q,σ[i]? =some (some bi)->σ[j]? =some (some bj)->φ i=some p->φ j=some q->p.1=q.1->i=j
structure Kept(w w':World)(φ φ':Phi)(σ σ':c9)(A A':Nat->Prop):Prop where
 imm:∀b,A b->b<w.heap.size->w'.heap[b]? =w.heap[b]?
 all:∀b,A b->b<w.heap.size->A' b
 len:ct σ<=ct σ'
 cells:∀(i:Id) k es',i.1<ct σ->σ'[i]? =some (some (.cells k es'))->∃es,σ[i]? =some (some (.cells k es))/\(ct es)=ct es'/\φ' i=φ i/\
  ∀b base arr ety,φ i=some (b,base)->w.heap[b]? =some (.cells arr ety (0,0))->∃arr',w'.heap[b]? =some (.cells arr' ety (0,0))/\arr'.size=arr.size
 obj:∀(i:Id) p' cs',i.1<ct σ->σ'[i]? =some (some (.obj p' cs'))->φ' i=φ i/\∃p cs,σ[i]? =some (some (.obj p cs))
def RelC.mono{w w':World}{φ φ':Phi}{σ σ':c9}{A A':Nat->Prop}{c:C}{v:Vl}(H:Kept w w' φ φ' σ σ' A A')(h:RelC w φ σ A c v):RelC w' φ' σ' A' c v:=by
 induction h with
 |imm h=>exact .imm (h.mono H.imm H.all)
 |own hid h1 h=>
  refine .own (ag hid H.len) h1 fun k es' j=> ?_
  obtain⟨es,e,hl,hp,E⟩:=H.cells _ k es' hid j
  rw[hp]
  rcases h k es e with h|⟨b,base,cap,arr,ety,F,h2,J,z,N,O,h6,U,h8⟩
  ·exact .inl h
  ·obtain⟨arr',ha,hs⟩:=E b base arr ety h2 U
   exact .inr ⟨b,base,cap,arr',ety,F,h2,J,z,N,O,by omega,ha,by omega⟩
 |ptr hid h1 h=>
  refine .ptr (ag hid H.len) h1 fun k es' j=> ?_
  obtain⟨es,e,hl,hp,E⟩:=H.cells _ k es' hid j
  rw[hp]
  exact h k es e
 |fn us _ q=>exact .fn us q
 |ifcA us _ q=>exact .ifcA us q
 |ifc1 _ q=>exact .ifc1 q
 |map hid h1 h=>
  refine .map (ag hid H.len) h1 fun B u j=> ?_
  obtain⟨hp,p,cs,e⟩:=H.obj _ B u hid j
  rw[hp]
  exact h p cs e
 |fnb us _ q=>exact .fnb us q
 |yld hid h1 h=>
  refine .yld (ag hid H.len) h1 fun B u j=> ?_
  obtain⟨hp,p,cs,e⟩:=H.obj _ B u hid j
  rw[hp]
  exact h p cs e
def RelT.mono{w w':World}{φ φ':Phi}{σ σ':c9}{A A':Nat->Prop}{t:T}{v:Vl}(H:Kept w w' φ φ' σ σ' A A')(h:RelT w φ σ A t v):RelT w' φ' σ' A' t v:=by
 induction h with
 |c h=>exact .c (h.mono H)
 |agg us hr=>exact .agg us fun i c hi=>(hr i c hi).mono H
 |tup us _ e=>exact .tup us e
 |undef=>exact .undef
def Kept.refl(w:World)(φ:Phi)(σ:c9)(A:Nat->Prop):Kept w w φ φ σ σ A A:=
 ⟨fun _ _ _=>rfl,fun _ h _=>h,aL _,fun _ _ es _ h=>⟨es,h,rfl,rfl,fun _ _ arr _ _ h2=>⟨arr,h2,rfl⟩⟩,fun _ p cs _ h=>⟨rfl,p,cs,h⟩⟩
def Kept.trans{w w' q:World}{φ φ' c:Phi}{σ σ' σ'':c9}{A A' u:Nat->Prop}(hs:w.heap.size<=w'.heap.size)(h:Kept w w' φ φ' σ σ' A A')(k:Kept w' q φ' c σ' σ'' A' u):Kept w q φ c σ σ'' A u where
 imm b j hl:=(k.imm b (h.all b j hl) (ag hl hs)).trans (h.imm b j hl)
 all b j hl:=k.all b (h.all b j hl) (ag hl hs)
 len:=aQ h.len k.len
 cells i kk v hi B:=by obtain⟨es',h1,h2,O,U⟩:=k.cells i kk v (ag hi h.len) B;obtain⟨es,g1,J,N,g4⟩:=h.cells i kk es' hi h1;refine⟨es,g1,by omega,O.trans N,fun b base arr ety hp j=> ?_⟩;obtain⟨arr',e1,e2⟩:=g4 b base arr ety hp j;obtain⟨e,e3,e4⟩:=U b base arr' ety (N.trans hp) e1;exact⟨e,e3,e4.trans e2⟩
 obj i E z hi B:=by obtain⟨h1,p',F,h2⟩:=k.obj i E z (ag hi h.len) B;obtain⟨g1,p,cs,J⟩:=h.obj i p' F hi h2;exact⟨h1.trans g1,p,cs,J⟩
def BlkR.mono{w w':World}{φ φ':Phi}{σ σ':c9}{A A':Nat->Prop}(H:Kept w w' φ φ' σ σ' A A'){p:Option (Nat×Nat)}{b:Blk}(B:∀g base,p=some (g,base)->w'.heap[g]? =w.heap[g]?)
  (h:BlkR w φ σ A p b):BlkR w' φ' σ' A' p b:=by
 cases b with
 |cells k es=>
  rcases h with h|⟨b,base,arr,ety,h1,h2,c,v,E⟩
  ·exact .inl h
  ·refine .inr ⟨b,base,arr,ety,h1,(B b base h1).trans h2,c,v,fun j e o x F hx=> ?_⟩
   obtain⟨u,z,hr⟩:=E j e o x F hx
   exact⟨u,z,hr.mono H⟩
 |obj q cs=>
  obtain⟨b,o,us,h1,h2,c,v⟩:=h
  exact⟨b,o,us,h1,(B b 0 h1).trans h2,c,fun i x hx=>let ⟨u,z,hr⟩:=v i x hx; ⟨u,z,hr.mono H⟩⟩
structure Cx where
 w0:World
 N:Nat->Prop
 φ0:Phi
 σ0:c9
def Cx.K(c:Cx)(b:Nat):Prop:=b<c.w0.heap.size/\∀(i:Id) (blk:Blk) (base:Nat),c.σ0[i]? =some (some blk)->c.φ0 i ≠ some (b,base)
structure Good(Γ:Cx):Prop where
 st:StR Γ.w0 Γ.φ0 Γ.σ0 (Al Γ.N Γ.φ0 Γ.σ0)
 lt:∀b,Γ.N b->b<Γ.w0.heap.size
 own:∀(i:Id) (blk:Blk) (b base:Nat),Γ.σ0[i]? =some (some blk)->Γ.φ0 i=some (b,base)->¬ Γ.N b
structure Rs(Γ:Cx)(σ:c9)(φ:Phi)(w:World):Prop where
 good:Good Γ
 st:StR w φ σ (Al Γ.N φ σ)
 keep:∀(i:Id) (blk:Blk) (b base:Nat),σ[i]? =some (some blk)->φ i=some (b,base)->¬ Γ.K b
 os:w.os=Γ.w0.os
 tape:w.tape=Γ.w0.tape
 drawn:Γ.w0.drawn<=w.drawn
 output:w.output=Γ.w0.output
 size:Γ.w0.heap.size<=w.heap.size
 block:∀b,Γ.K b->w.heap[b]? =Γ.w0.heap[b]?
 kept:Kept Γ.w0 w Γ.φ0 φ Γ.σ0 σ (Al Γ.N Γ.φ0 Γ.σ0) (Al Γ.N φ σ)
def Marks(c:Cx)(φ:Phi)(σ:c9)(w:World)(e:List Deferred):Prop:=
 e.Nodup/\∀d ∈ e,∃D,d={target:=.collected D,args:=#[]}/\w.heap[D]? =some (.deferred (some []))/\c.w0.heap.size<=D/\Al c.N φ σ D
def Marks.nil{Γ:Cx}{φ:Phi}{σ:c9}{w:World}:Marks Γ φ σ w []:=⟨.nil,nofun⟩
def Marks.kept{c:Cx}{φ φ':Phi}{σ σ':c9}{w w':World}{e:List Deferred}(h:Marks c φ σ w e)(hk:Kept w w' φ φ' σ σ' (Al c.N φ σ) (Al c.N φ' σ')):Marks c φ' σ' w' e:=
 ⟨h.1,fun d hd=>by obtain⟨D,h1,h2,q,j⟩:=h.2 d hd;have hl:=(aO.1 h2).1;exact⟨D,h1,(hk.imm D j hl).trans h2,q,hk.all D j hl⟩⟩
def Marks.al{c:Cx}{φ φ':Phi}{σ σ':c9}{w:World}{e:List Deferred}(h:Marks c φ σ w e)(j:∀b,Al c.N φ σ b->Al c.N φ' σ' b):Marks c φ' σ' w e:=
 ⟨h.1,fun d hd=>let ⟨D,h1,h2,q,u⟩:=h.2 d hd; ⟨D,h1,h2,q,j D u⟩⟩
structure R(Γ:Cx)(sz:Nat)(s:St)(φ:Phi)(a:Act)(w:World):Prop extends Rs Γ s.σ φ w where
 defers:Marks Γ φ s.σ w a.defers
 asize:a.tmps.size=sz
 env:∀t v,lookup t s.env=some v->∃u,a.tmps[t]? =some u/\RelT w φ s.σ (Al Γ.N φ s.σ) v u
end Ab
end
section
namespace Ab
open Go
abbrev Post:=Exit->St->Prop
def lift(c:Cx)(sz:Nat)(Q:Post):Exit->Act->World->Prop:=fun e a w=>∃s φ,Q e s/\R c sz s φ a w
abbrev fw(ro:Option Nat):Fence:={fn:=fun _=>True,depth:=none,alive:=false,round:=ro}
def Q0:Code->Bool
 | .seq a b| .cond _ a b=>Q0 a||Q0 b
 | .block _ c| .loop c| .scope c=>Q0 c
 | .rangeFunc ..=>true
 |_=>false
def AWP(P:Program)(σ0:c9)(sz:Nat)(c:Code)(Q:Post)(s:St):Prop:=
 ∀e φ a w,e.σ0=σ0->R e sz s φ a w->∀ro,(Q0 c=true->ro=none)->c.wpIn (fw ro) 0 P (lift e sz Q) a w
def AOps(P:Program)(σ0:c9)(sz:Nat)(ops:Array Oper)(Q:Post)(rest:List Oper)(s:St):Prop:=
 ∀c φ a w,c.σ0=σ0->R c sz s φ a w->∀ro,wpListIn (fw ro) 0 P ops (lift c sz Q) rest a w
def thn(K:St->Prop)(Q:Post):Post
 | .normal,s=>K s
 |e,s=>Q e s
def inB(id:Nat)(Q:Post):Post
 | .exit i,s=>if i=id then Q .normal s else Q (.exit i) s
 |e,s=>Q e s
def Sub(σ0:c9)(s s':St):Prop:=∀c sz φ a w,c.σ0=σ0->R c sz s φ a w->∃φ',R c sz s' φ' a w
def Sub.refl(σ0:c9)(s:St):Sub σ0 s s:=fun _ _ φ _ _ _ h=>⟨φ,h⟩
def Sub.trans{σ0:c9}{s s' c:St}(h:Sub σ0 s s')(k:Sub σ0 s' c):Sub σ0 s c:=fun j sz φ a w e q=>
 let ⟨φ',u⟩:=h j sz φ a w e q
 k j sz φ' a w e u
section
variable {P:Program}{σ0:c9}{sz:Nat}{Q:Post}{s:St}
def AWP.sub{c:Code}{s':St}(hs:Sub σ0 s s')(h:AWP P σ0 sz c Q s'):AWP P σ0 sz c Q s:=fun j φ a w e q=>
 let ⟨φ',u⟩:=hs j sz φ a w e q
 h j φ' a w e u
def AOps.sub{ops:Array Oper}{rest:List Oper}{s':St}(hs:Sub σ0 s s')(h:AOps P σ0 sz ops Q rest s'):AOps P σ0 sz ops Q rest s:=fun e φ a w c j=>
 let ⟨φ',q⟩:=hs e sz φ a w c j
 h e φ' a w c q
def AWP.mono{c:Code}{v:Post}(z:∀e s,Q e s->v e s)(h:AWP P σ0 sz c Q s):AWP P σ0 sz c v s:=fun B φ a w j q ro u=>
 wpIn_mono (h B φ a w j q ro u) fun _ _ _ ⟨s,φ,E,q⟩=>⟨s,φ,z _ _ E,q⟩
def AWP.j{c d:Code}(h:AWP P σ0 sz c (thn (fun s'=>AWP P σ0 sz d Q s') Q) s):AWP P σ0 sz (.seq c d) Q s:=fun z φ a w q E ro u=>
 wpIn_seq (wpIn_mono (h z φ a w q E ro (fun e=>u (by simp[Q0,e]))) fun e a' w' ⟨s',φ',B,v⟩=>by
  cases e with
  |normal=>exact B z φ' a' w' q v ro (fun e=>u (by simp[Q0,e]))
  |_=>exact⟨s',φ',B,v⟩)
def AWP.skip(h:Q .normal s):AWP P σ0 sz .skip Q s:=fun _ φ _ _ _ c _ _=>wpIn_skip ⟨s,φ,h,c⟩
def AWP.label{l:Nat}(h:Q .normal s):AWP P σ0 sz (.label l) Q s:=fun _ φ _ _ _ c _ _=>wpIn_label ⟨s,φ,h,c⟩
def AWP.exit{id:Nat}(h:Q (.exit id) s):AWP P σ0 sz (.exit id) Q s:=fun _ φ _ _ _ c _ _=>wpIn_exit ⟨s,φ,h,c⟩
def AWP.ret(h:Q .ret s):AWP P σ0 sz .ret Q s:=fun _ φ _ _ _ c _ _=>wpIn_ret ⟨s,φ,h,c⟩
def AWP.z{id:Nat}{c:Code}(h:AWP P σ0 sz c (inB id Q) s):AWP P σ0 sz (.block id c) Q s:=fun E φ a w u F ro v=>
 wpIn_block (wpIn_mono (h E φ a w u F ro v) fun e a' w' ⟨s',φ',q,j⟩=>by
  cases e with
  |exit i=>
   simp only[Exit.inBlock]
   simp only[inB] at q
   split at q
   ·rename_i B;rw[if_pos B];exact⟨s',φ',q,j⟩
   ·rename_i B;rw[if_neg B];exact⟨s',φ',q,j⟩
  |_=>exact⟨s',φ',q,j⟩)
def AWP.loop{X:Type}{c:Code}(S:X->St)(Iv:X->Prop)(μ:X->Nat)(z:X)(h0:Sub σ0 s (S z))(i0:Iv z)
  (round:∀x,Iv x->AWP P σ0 sz c (thn (fun s'=>∃j,Sub σ0 s' (S j)/\Iv j/\μ j<μ x) Q) (S x)):AWP P σ0 sz (.loop c) Q s:=fun B φ a w h E ro F=>by
 obtain⟨φ0,J⟩:=h0 B sz φ a w h E
 refine wpIn_loop_ghost (fun n a w=>∃x φ,μ x=n/\Iv x/\R B sz (S x) φ a w) (μ z) ⟨z,φ0,rfl,i0,J⟩ ?_
 rintro n a w ⟨x,φ,rfl,hi,E⟩
 refine wpIn_mono (round x hi B φ a w h E ro F) ?_
 rintro e a' w' ⟨s',φ',U,q⟩
 cases e with
 |normal=>
  obtain⟨j,hs,N,O⟩:=U
  obtain⟨u,v⟩:=hs B sz φ' a' w' h q
  exact⟨μ j,O,j,u,rfl,N,v⟩
 |_=>exact⟨s',φ',U,q⟩
end
/-! ## Operands -/
abbrev int(n:Int):C:=.imm (.val (.int .i64 n))
abbrev bool(b:Bool):C:=.imm (.val (.bool b))
def ac7:Vl->Option T
 | .agg cs=>if cs.toList.all (·.oneCell') then some (.agg (cs.toList.map fun v=>.imm (.val v))) else none
 | .tuple _=>none
 |v=>some (.c (.imm (.val v)))
def ev(env:Env):Od->Option T
 | .tmp t=>lookup t env
 | .const v=>ac7 v
 | .global g=>some (.c (.imm (.val (.pointer (some ⟨g,0,none⟩)))))
 | .func f=>some (.c (.fn f []))
section
variable {w:World}{φ:Phi}{σ:c9}{A:Nat->Prop}
def RelC.val{v:Vl}(h:v.oneCell'=true):RelC w φ σ A (.imm (.val v)) v:=.imm (.val h)
def RelT.int(n:Int):RelT w φ σ A (.c (int n)) (.int .i64 n):=.c (.imm (.val rfl))
def RelT.bool(b:Bool):RelT w φ σ A (.c (bool b)) (.bool b):=.c (.imm (.val rfl))
def RelT.agg'{cs:List C}{vs:List Vl}(hl:ct cs=ct vs)(h:∀(i:Nat) (c:C) (v:Vl),cs[i]? =some c->vs[i]? =some v->RelC w φ σ A c v):RelT w φ σ A (.agg cs) (.agg vs.toArray):=by
 have e:vs=(aj (ct cs)).map fun i=>vs.getD i Go.undef:=by apply bE;intro i;by_cases hi:i<ct vs;simp[hi,hl];simp[hl,hi]
 rw[e];refine .agg _ fun i c j=> ?_;have hi:i<ct vs:=by rw[<- hl];exact(lG.1 j).1
 exact h i c _ j (by simp[hi])
def RelT.agg_inv{cs:List C}{v:Vl}(h:RelT w φ σ A (.agg cs) v):∃vs:List Vl,v=.agg vs.toArray/\(ct vs)=ct cs/\∀(i:Nat) (c:C),cs[i]? =some c->∃u,vs[i]? =some u/\RelC w φ σ A c u:=by
 cases h with
 |agg us hr=>exact⟨_,rfl,by simp,fun i c e=>⟨us i,by simp[(lG.1 e).1],hr i c e⟩⟩
def RelT.tup'{ts:List T}{vs:List Vl}(hl:ct ts=ct vs)(h:∀(i:Nat) (c:T) (v:Vl),ts[i]? =some c->vs[i]? =some v->RelT w φ σ A c v):RelT w φ σ A (.tup ts) (.tuple vs.toArray):=by
 have e:vs=(aj (ct ts)).map fun i=>vs.getD i Go.undef:=by apply bE;intro i;by_cases hi:i<ct vs;simp[hi,hl];simp[hl,hi]
 rw[e];refine .tup _ fun i c j=> ?_;have hi:i<ct vs:=by rw[<- hl];exact(lG.1 j).1
 exact h i c _ j (by simp[hi])
def RelT.tup_inv{ts:List T}{v:Vl}(h:RelT w φ σ A (.tup ts) v):∃vs:List Vl,v=.tuple vs.toArray/\(ct vs)=ct ts/\∀(i:Nat) (c:T),ts[i]? =some c->∃u,vs[i]? =some u/\RelT w φ σ A c u:=by
 cases h with
 |tup us hr=>exact⟨_,rfl,by simp,fun i c e=>⟨us i,by simp[(lG.1 e).1],hr i c e⟩⟩
def Y9{v:Vl}{t:T}(h:ac7 v=some t):RelT w φ σ A t v:=by
 cases v with
 |agg cs=>
  simp only[ac7] at h
  split at h
  ·rename_i e
   cases h
   obtain⟨l⟩:=cs
   refine RelT.agg' (by simp) fun i c v j q=> ?_
   simp only[lM,q,aJ,Option.some.injEq] at j
   subst j
   exact .val (by have:=af.1 e v (ak q);exact this)
  ·cases h
 |tuple _=>cases h
 |_=>cases h;exact .c (.imm (.val rfl))
def k7{j:Cx}{sz:Nat}{s:St}{φ:Phi}{a:Act}{w:World}(q:R j sz s φ a w){x:Od}{t:T}(h:ev s.env x=some t):RelT w φ s.σ (Al j.N φ s.σ) t (a.eval x):=by
 cases x with
 |tmp k=>
  obtain⟨u,z,hr⟩:=q.env k t h
  have e:a.eval (.tmp k)=u:=by simp[Act.eval,z]
  rw[e];exact hr
 |const v=>exact Y9 h
 |global g=>cases h;exact .c (.imm (.val rfl))
 |func f=>cases h;exact .c (.fn (fun _=>Go.undef) fun i c hi=>by simp at hi)
end
def putE(env:Env)(dst:Option Nat)(v:T):Env:=
 match dst with
 |some d=>(d,v)::env
 |none=>env
def St.put(s:St)(dst:Option Nat)(v:T):St:=⟨putE s.env dst v,s.σ⟩
def j6(sz:Nat):Option Nat->Bool
 |some d=>aN d sz
 |none=>true
def R.put{j:Cx}{sz:Nat}{s:St}{φ:Phi}{a:Act}{w:World}(c:R j sz s φ a w){d:Option Nat}{v:T}{u:Vl}(hd:j6 sz d=true)(h:RelT w φ s.σ (Al j.N φ s.σ) v u):R j sz (s.put d v) φ (a.put d u) w:=by
 cases d with
 |none=>exact c
 |some d=>
  have q:d<a.tmps.size:=by rw[c.asize];simpa[j6] using hd
  refine {toRs:=c.toRs,defers:=c.defers,asize:=by simp[Act.put,c.asize],env:=fun t x hx=> ?_}
  simp only[St.put,putE,lookup] at hx
  split at hx
  ·rename_i z
   cases hx
   have:d=t:=ao z
   subst this
   exact⟨u,by simp[Act.put,q],h⟩
  ·rename_i z
   obtain⟨y,hy,hr⟩:=c.env t x hx
   have B:d ≠ t:=fun e=>by subst e;simp at z
   exact⟨y,by simp[Act.put,B,hy],hr⟩
end Ab
end
section
namespace Ab
open Go
mutual
def C.ren(π:Id->Id):C->C
 | .imm x=>.imm x
 | .own id j n=>.own (π id) j n
 | .ptr id j o=>.ptr (π id) j o
 | .fn f caps=>.fn f (C.renL π caps)
 | .ifc t cs b=>.ifc t (C.renL π cs) b
 | .map id=>.map (π id)
 | .fnb f caps=>.fnb f (C.renL π caps)
 | .yld id=>.yld (π id)
def C.renL(π:Id->Id):List C->List C
 |[]=>[]
 |c::r=>C.ren π c::C.renL π r
end
mutual
def C.ok(m:Nat):C->Bool
 | .imm _=>true
 | .own id _ _=>aN id.1 m
 | .ptr id _ _=>aN id.1 m
 | .fn _ caps=>C.okL m caps
 | .ifc _ cs _=>C.okL m cs
 | .map id=>aN id.1 m
 | .fnb _ caps=>C.okL m caps
 | .yld id=>aN id.1 m
def C.okL(m:Nat):List C->Bool
 |[]=>true
 |c::r=>C.ok m c && C.okL m r
end
mutual
def T.ren(π:Id->Id):T->T
 | .c x=>.c (x.ren π)
 | .agg cs=>.agg (C.renL π cs)
 | .tup ts=>.tup (T.renL π ts)
 | .undef=>.undef
def T.renL(π:Id->Id):List T->List T
 |[]=>[]
 |t::r=>T.ren π t::T.renL π r
end
mutual
def T.ok(m:Nat):T->Bool
 | .c x=>x.ok m
 | .agg cs=>C.okL m cs
 | .tup ts=>T.okL m ts
 | .undef=>true
def T.okL(m:Nat):List T->Bool
 |[]=>true
 |t::r=>T.ok m t && T.okL m r
end
def Blk.ren(π:Id->Id):Blk->Blk
 | .cells k es=>.cells k (es.map (C.renL π))
 | .obj p cs=>.obj p (C.renL π cs)
def Blk.ok(m:Nat):Blk->Bool
 | .cells _ es=>es.all (C.okL m)
 | .obj _ cs=>C.okL m cs
def y7(π:Id->Id):∀l:List C,C.renL π l=l.map (C.ren π)
 |[]=>rfl
 |c::r=>by rw[C.renL,y7 π r];rfl
def K6(m:Nat):∀l:List C,C.okL m l=l.all (C.ok m)
 |[]=>rfl
 |c::r=>by rw[C.okL,K6 m r];rfl
def ah7(π:Id->Id):∀l:List T,T.renL π l=l.map (T.ren π)
 |[]=>rfl
 |c::r=>by rw[T.renL,ah7 π r];rfl
def aq9(m:Nat):∀l:List T,T.okL m l=l.all (T.ok m)
 |[]=>rfl
 |c::r=>by rw[T.okL,aq9 m r];rfl
mutual
theorem C.ren_id:∀c:C,c.ren (fun i=>i)=c
 | .imm _=>rfl
 | .own _ _ _=>rfl
 | .ptr _ _ _=>rfl
 | .fn f caps=>by rw[C.ren,C.renL_id caps]
 | .ifc t cs b=>by rw[C.ren,C.renL_id cs]
 | .map _=>rfl
 | .fnb f caps=>by rw[C.ren,C.renL_id caps]
 | .yld _=>rfl
theorem C.renL_id:∀l:List C,C.renL (fun i=>i) l=l
 |[]=>rfl
 |c::r=>by rw[C.renL,C.ren_id c,C.renL_id r]
end
mutual
theorem T.ren_id:∀c:T,c.ren (fun i=>i)=c
 | .c x=>by rw[T.ren,C.ren_id]
 | .agg cs=>by rw[T.ren,C.renL_id]
 | .tup ts=>by rw[T.ren,T.renL_id ts]
 | .undef=>rfl
theorem T.renL_id:∀l:List T,T.renL (fun i=>i) l=l
 |[]=>rfl
 |x::r=>by rw[T.renL,T.ren_id x,T.renL_id r]
end
def Blk.ren_id(b:Blk):b.ren (fun i=>i)=b:=by
 cases b with
 |cells k es=>
  simp only[Blk.ren]
  congr 1
  conv=>rhs;rw[<- List.map_id es]
  exact bq fun l _=>C.renL_id l
 |obj p cs=>simp only[Blk.ren,C.renL_id]
section
variable {w w':World}{φ φ':Phi}{σ σ':c9}{A A':Nat->Prop}{π:Id->Id}
structure Back(w:World)(φ φ':Phi)(σ σ':c9)(A A':Nat->Prop)(π:Id->Id):Prop where
 all:∀b,A b->b<w.heap.size->A' b
 blk:∀(i:Id) b,i.1<ct σ'->σ'[i]? =some (some b)->σ[π i]? =some (some (b.ren π))/\φ' i=φ (π i)
def RelC.back(H:Back w φ φ' σ σ' A A' π){c:C}{v:Vl}(hok:c.ok (ct σ')=true)(h:RelC w φ σ A (c.ren π) v):RelC w φ' σ' A' c v:=by
 generalize hc:c.ren π=c' at h;induction h generalizing c with
 |imm h=>
  cases c<;>simp only[C.ren] at hc<;>cases hc
  exact .imm (h.mono (fun _ _ _=>rfl) H.all)
 |own hid h1 h=>
  cases c<;>simp only[C.ren] at hc<;>cases hc
  simp only[C.ok,aC] at hok
  refine .own hok h1 fun k es he=> ?_
  obtain⟨hb,hp⟩:=H.blk _ _ hok he
  have:=h k _ hb
  rw[hp]
  simpa using this
 |ptr hid h1 h=>
  cases c<;>simp only[C.ren] at hc<;>cases hc
  simp only[C.ok,aC] at hok
  refine .ptr hok h1 fun k es he=> ?_
  obtain⟨hb,hp⟩:=H.blk _ _ hok he
  have:=h k _ hb
  rw[hp]
  exact this
 |fn us hr ih=>
  cases c<;>simp only[C.ren] at hc<;>cases hc
  rename_i caps
  simp only[C.ok,K6,af] at hok
  have e:(C.renL π caps).length=ct caps:=by rw[y7];simp
  rw[e]
  refine .fn us fun i c hi=> ?_
  refine ih i (c.ren π) (by rw[y7];simp[hi]) (hok c (ak hi)) rfl
 |ifcA us hr ih=>
  cases c<;>simp only[C.ren] at hc<;>cases hc
  rename_i caps
  simp only[C.ok,K6,af] at hok
  have e:(C.renL π caps).length=ct caps:=by rw[y7];simp
  rw[e]
  refine .ifcA us fun i c hi=> ?_
  refine ih i (c.ren π) (by rw[y7];simp[hi]) (hok c (ak hi)) rfl
 |@ifc1 t c' u hr ih=>
  cases c with
  |ifc t2 cs b=>
   simp only[C.ren,C.ifc.injEq] at hc
   obtain⟨rfl,h2,rfl⟩:=hc
   rw[y7] at h2
   cases cs with
   |nil=>simp at h2
   |cons x r=>
    cases r with
    |cons y r=>simp at h2
    |nil=>
     simp only[bz,List.map_nil,List.cons.injEq,and_true] at h2
     simp only[C.ok,C.okL,Bool.and_true] at hok
     exact .ifc1 (ih hok h2)
  |_=>simp[C.ren] at hc
 |map hid h1 h=>
  cases c<;>simp only[C.ren] at hc<;>cases hc
  simp only[C.ok,aC] at hok
  refine .map hok h1 fun p cs he=> ?_
  obtain⟨hb,hp⟩:=H.blk _ _ hok he
  rw[hp]
  exact h p _ hb
 |fnb us hr ih=>
  cases c<;>simp only[C.ren] at hc<;>cases hc
  rename_i caps
  simp only[C.ok,K6,af] at hok
  have e:(C.renL π caps).length=ct caps:=by rw[y7];simp
  rw[e]
  refine .fnb us fun i c hi=> ?_
  refine ih i (c.ren π) (by rw[y7];simp[hi]) (hok c (ak hi)) rfl
 |yld hid h1 h=>
  cases c<;>simp only[C.ren] at hc<;>cases hc
  simp only[C.ok,aC] at hok
  refine .yld hok h1 fun p cs he=> ?_
  obtain⟨hb,hp⟩:=H.blk _ _ hok he
  rw[hp]
  exact h p _ hb
def RelT.back(H:Back w φ φ' σ σ' A A' π){c:T}{v:Vl}(hok:c.ok (ct σ')=true)(h:RelT w φ σ A (c.ren π) v):RelT w φ' σ' A' c v:=by
 generalize hc:c.ren π=c' at h;induction h generalizing c with
 |c h=>
  cases c<;>simp only[T.ren] at hc<;>cases hc
  exact .c (h.back H hok)
 |agg us hr=>
  cases c<;>simp only[T.ren] at hc<;>cases hc
  rename_i cs
  simp only[T.ok,K6,af] at hok
  have e:(C.renL π cs).length=ct cs:=by rw[y7];simp
  rw[e]
  exact .agg us fun i c hi=>(hr i (c.ren π) (by rw[y7];simp[hi])).back H (hok c (ak hi))
 |tup us hr ih=>
  cases c<;>simp only[T.ren] at hc<;>cases hc
  rename_i ts
  simp only[T.ok,aq9,af] at hok
  have e:(T.renL π ts).length=ct ts:=by rw[ah7];simp
  rw[e]
  exact .tup us fun i c hi=>ih i (c.ren π) (by rw[ah7];simp[hi]) (hok c (ak hi)) rfl
 |undef=>
  cases c<;>simp only[T.ren] at hc<;>cases hc
  exact .undef
structure Fwd(w:World)(φ φ':Phi)(σ σ':c9)(A A':Nat->Prop)(π:Id->Id):Prop where
 all:∀b,A b->b<w.heap.size->A' b
 blk:∀(i:Id),i.1<ct σ->(π i).1<ct σ'/\φ' (π i)=φ i/\∀b',σ'[π i]? =some (some b')->∃b,σ[i]? =some (some b)/\b'=b.ren π
def RelC.fwd(H:Fwd w φ φ' σ σ' A A' π){c:C}{v:Vl}(h:RelC w φ σ A c v):RelC w φ' σ' A' (c.ren π) v:=by
 induction h with
 |imm h=>exact .imm (h.mono (fun _ _ _=>rfl) H.all)
 |own hid h1 h=>
  obtain⟨g1,j,u⟩:=H.blk _ hid
  refine .own g1 h1 fun k es' z=> ?_
  obtain⟨b,B,e⟩:=u _ z
  cases b with
  |obj p cs=>simp[Blk.ren] at e
  |cells J es=>
   simp only[Blk.ren,Blk.cells.injEq] at e
   obtain⟨rfl,rfl⟩:=e
   rw[j]
   simpa using h k es B
 |ptr hid h1 h=>
  obtain⟨g1,j,u⟩:=H.blk _ hid
  refine .ptr g1 h1 fun k es' z=> ?_
  obtain⟨b,B,e⟩:=u _ z
  cases b with
  |obj p cs=>simp[Blk.ren] at e
  |cells J es=>
   simp only[Blk.ren,Blk.cells.injEq] at e
   obtain⟨rfl,rfl⟩:=e
   rw[j]
   exact h k es B
 |@fn f caps us hr E=>
  have e:(C.renL π caps).length=ct caps:=by rw[y7];simp
  simp only[C.ren]
  rw[<- e]
  refine .fn us fun i c hi=> ?_
  rw[y7,lM,oM] at hi
  obtain⟨x,hx,rfl⟩:=hi
  exact E i x hx
 |@ifcA f caps us hr E=>
  have e:(C.renL π caps).length=ct caps:=by rw[y7];simp
  simp only[C.ren]
  rw[<- e]
  refine .ifcA us fun i c hi=> ?_
  rw[y7,lM,oM] at hi
  obtain⟨x,hx,rfl⟩:=hi
  exact E i x hx
 |ifc1 hr E=>exact .ifc1 E
 |map hid h1 h=>
  obtain⟨g1,j,u⟩:=H.blk _ hid
  refine .map g1 h1 fun p cs z=> ?_
  obtain⟨b,B,e⟩:=u _ z
  cases b with
  |cells J es=>simp[Blk.ren] at e
  |obj q F=>
   rw[j]
   exact h q F B
 |@fnb f caps us hr E=>
  have e:(C.renL π caps).length=ct caps:=by rw[y7];simp
  simp only[C.ren]
  rw[<- e]
  refine .fnb us fun i c hi=> ?_
  rw[y7,lM,oM] at hi
  obtain⟨x,hx,rfl⟩:=hi
  exact E i x hx
 |yld hid h1 h=>
  obtain⟨g1,j,u⟩:=H.blk _ hid
  refine .yld g1 h1 fun p cs z=> ?_
  obtain⟨b,B,e⟩:=u _ z
  cases b with
  |cells J es=>simp[Blk.ren] at e
  |obj q F=>
   rw[j]
   exact h q F B
def RelT.fwd(H:Fwd w φ φ' σ σ' A A' π){c:T}{v:Vl}(h:RelT w φ σ A c v):RelT w φ' σ' A' (c.ren π) v:=by
 induction h with
 |c h=>exact .c (h.fwd H)
 |@agg cs us hr=>
  have e:(C.renL π cs).length=ct cs:=by rw[y7];simp
  simp only[T.ren]
  rw[<- e]
  refine .agg us fun i c hi=> ?_
  rw[y7,lM,oM] at hi
  obtain⟨x,hx,rfl⟩:=hi
  exact(hr i x hx).fwd H
 |@tup ts us hr j=>
  have e:(T.renL π ts).length=ct ts:=by rw[ah7];simp
  simp only[T.ren]
  rw[<- e]
  refine .tup us fun i c hi=> ?_
  rw[ah7,lM,oM] at hi
  obtain⟨x,hx,rfl⟩:=hi
  exact j i x hx
 |undef=>exact .undef
end
/-! ## Weakening -/
def Al.own_lt{w:World}{φ:Phi}{σ:c9}{A:Nat->Prop}(h:StR w φ σ A){i:Id}{blk:Blk}{b base:Nat}(hi:σ[i]? =some (some blk))(hp:φ i=some (b,base)):b<w.heap.size:=by
 have c:=h.blk i blk hi;have lt:∀{o:Obj},w.heap[b]? =some o->b<w.heap.size:=fun h=>(aO.1 h).1;cases blk with
 |cells k es=>
  rcases c with⟨h1,_⟩|⟨e,base',arr,ety,h1,h2,_⟩
  ·rw[hp] at h1;cases h1
  ·rw[hp] at h1;cases h1;exact lt h2
 |obj p cs=>
  obtain⟨e,o,us,h1,h2,_⟩:=c
  rw[hp] at h1;cases h1;exact lt h2
def Sub.mk{σ0:c9}{s s':St}(π:Id->Id)(h0:∀i,i.1<ct σ0->π i=i)(F:ct σ0<=s'.σ.length)
  (J:∀(i j:Id) b b',s'.σ[i]? =some (some b)->s'.σ[j]? =some (some b')->π i=π j->i=j)
  (c:∀(i:Id) b,s'.σ[i]? =some (some b)->b.ok s'.σ.length=true/\s.σ[π i]? =some (some (b.ren π)))
  (O:∀t v,lookup t s'.env=some v->v.ok s'.σ.length=true/\lookup t s.env=some (v.ren π)):Sub σ0 s s':=by
 intro Γ sz φ a w aa z
 subst aa
 have hA:∀b,Al Γ.N φ s.σ b->Al Γ.N (fun i=>φ (π i)) s'.σ b:=fun b ⟨h1,h2⟩=>⟨h1,fun i blk base hi=>h2 (π i) _ base (c i blk hi).2⟩
 have H:Back w φ (fun i=>φ (π i)) s.σ s'.σ (Al Γ.N φ s.σ) (Al Γ.N (fun i=>φ (π i)) s'.σ) π:=⟨fun b h _=>hA b h,fun i b _ hi=>⟨(c i b hi).2,rfl⟩⟩
 have ab:∀{m k:Nat} {es:List (List C)} {j o:Nat} {e:List C} {x:C},(Blk.cells k es).ok m=true->es[j]? =some e->e[o]? =some x->x.ok m=true:=by intro m k es j o e x h1 h2 U;simp only[Blk.ok,af] at h1;have:=h1 e (ak h2);rw[K6,af] at this;exact this x (ak U)
 refine⟨fun i=>φ (π i),{good:=z.good,st:=⟨fun i b hi=> ?_,fun i j bi bj p q hi hj hp hq B=> ?_⟩,keep:=fun i blk b base hi hp=>z.keep (π i) _ b base (c i blk hi).2 hp,os:=z.os,tape:=z.tape,drawn:=z.drawn,output:=z.output,size:=z.size,block:=z.block,kept:= ?_,defers:=z.defers.al hA,asize:=z.asize,env:=fun t v ht=> ?_}⟩
 ·obtain⟨ho,hs⟩:=c i b hi
  have E:=z.st.blk _ _ hs
  cases b with
  |cells k es=>
   simp only[Blk.ren] at E hs
   rcases E with⟨h1,h2⟩|⟨b,base,arr,ety,h1,h2,U,h4,h5⟩
   ·exact .inl ⟨h1,by simpa using h2⟩
   ·refine .inr ⟨b,base,arr,ety,h1,h2,by simpa using U,fun j e B=> ?_,fun j e o x B hx=> ?_⟩
    ·have:=h4 j (C.renL π e) (by simp[B])
     rw[y7] at this;simpa using this
    ·obtain⟨u,hu,hr⟩:=h5 j (C.renL π e) o (x.ren π) (by simp[B]) (by rw[y7];simp[hx])
     exact⟨u,hu,hr.back H (ab (k:=k) ho B hx)⟩
  |obj p cs=>
   simp only[Blk.ren] at E hs
   obtain⟨b,o,us,h1,h2,U,h4⟩:=E
   refine⟨b,o,us,h1,h2,U,fun i x hx=> ?_⟩
   obtain⟨u,hu,hr⟩:=h4 i (x.ren π) (by rw[y7];simp[hx])
   have ac:x.ok s'.σ.length=true:=by simp only[Blk.ok,K6,af] at ho;exact ho x (ak hx)
   exact⟨u,hu,hr.back H ac⟩
 ·exact J i j bi bj hi hj (z.st.inj _ _ _ _ p q (c i bi hi).2 (c j bj hj).2 hp hq B)
 ·have hk:=z.kept
  refine⟨hk.imm,fun b E hl=>hA b (hk.all b E hl),F,fun i k es' hi B=> ?_,fun i p' ad hi B=> ?_⟩
  ·have h1:=(c i _ B).2
   rw[h0 i hi] at h1
   obtain⟨es,g1,g2,g3,g4⟩:=hk.cells i k _ hi h1
   exact⟨es,g1,by simpa using g2,by simpa[h0 i hi] using g3,g4⟩
  ·have h1:=(c i _ B).2
   rw[h0 i hi] at h1
   obtain⟨g1,g2⟩:=hk.obj i _ _ hi h1
   exact⟨by simpa[h0 i hi] using g1,g2⟩
 ·obtain⟨ho,hl⟩:=O t v ht
  obtain⟨u,hu,hr⟩:=z.env t _ hl
  exact⟨u,hu,hr.back H ho⟩
def aa9(env:Env):Env->Prop
 |[]=>True
 |(t,v)::r=>lookup t env=some v/\aa9 env r
def aa9.get{env:Env}:∀{env':Env},aa9 env env'->∀t v,lookup t env'=some v->lookup t env=some v
 |[],_,t,v,h=>by simp[lookup] at h
 |(k,x)::r,⟨h1,h2⟩,t,v,h=>by simp only[lookup] at h;split at h;rename_i c;cases h;rw[<- ao c];exact h1;exact aa9.get h2 t v h
def Sub.env{σ0:c9}{env env':Env}{σ:c9}(h:aa9 env env'):Sub σ0 ⟨env,σ⟩ ⟨env',σ⟩:=fun _ _ φ _ _ _ c=>
 ⟨φ,{toRs:=c.toRs,defers:=c.defers,asize:=c.asize,env:=fun t v ht=>c.env t v (h.get t v ht)}⟩
def ag9(n:Nat):Env->Bool
 |[]=>true
 |(_,v)::r=>v.ok n && ag9 n r
def an8{n:Nat}:∀{env:Env},ag9 n env=true->∀t v,lookup t env=some v->v.ok n=true
 |[],_,t,v,h=>by simp[lookup] at h
 |(k,x)::r,h,t,v,c=>by simp only[ag9,ap] at h;simp only[lookup] at c;split at c;cases c;exact h.1;exact an8 h.2 t v c
end Ab
end
section
namespace Ab
open Go
structure FnOk(P:Program)(f:FuncId)(args:List T)(σ:c9)(Q:T->c9->Prop):Prop where
 fn : ∃ fn, P.funcs[f]? = some fn /\ (fn.name == "runtime.NumGoroutine")=false/\fn.body.isNone=false
 run:∀(Γ:Cx) (vs:List Vl),Γ.σ0=σ->Good Γ->ct args=ct vs->
  (∀(i:Nat) (t:T) (u:Vl),args[i]? =some t->vs[i]? =some u->RelT Γ.w0 Γ.φ0 σ (Al Γ.N Γ.φ0 σ) t u)->
  Calls P f vs.toArray Γ.w0 fun e w'=>∃v r σ' φ',e=.returned v/\Q r σ'/\RelT w' φ' σ' (Al Γ.N φ' σ') r v/\Rs Γ σ' φ' w'
def FnOk.mono{P:Program}{f:FuncId}{args:List T}{σ:c9}{Q e:T->c9->Prop}(h:FnOk P f args σ Q)(j:∀r σ',Q r σ'->e r σ'):FnOk P f args σ e:=
 ⟨h.fn,fun q vs h1 h2 u z=>(h.run q vs h1 h2 u z).mono fun _ _ ⟨v,r,σ',φ',a,b,c⟩=>⟨v,r,σ',φ',a,j _ _ b,c⟩⟩
def argEnv(i:Nat):List T->Env
 |[]=>[]
 |t::ts=>(i,t)::argEnv (i+1) ts
def az5:∀(ts:List T) (i t:Nat) (v:T),lookup t (argEnv i ts)=some v->i<=t/\ts[t - i]? =some v
 |[],_,_,_,h=>by simp[argEnv,lookup] at h
 |x::ts,i,t,v,h=>by simp only[argEnv,lookup] at h;split at h;rename_i c;have:=ao c;subst this;simpa using h;obtain⟨h1,h2⟩:=az5 ts (i+1) t v h;refine⟨by omega,?_⟩;rw[show t - i=(t - (i+1))+1 by omega];simpa using h2
inductive RV where
 |t (n:Nat)
 |cell (a:Nat) (ty:Ti) (size:Nat)
 |one (a:Nat) (ty:Ti)
def RV.var:RV->ResultVar
 | .t n=>.tmp n
 | .cell a ty _=>.cell a ty
 | .one a ty=>.cell a ty
def A7:TypeDesc->Bool
 | .struct _| .array _ _=>true
 |_=>false
def RV.ok(P:Program):RV->Prop
 | .t _=>True
 | .cell _ ty size=>∃d i,P.underlying ty=some d/\A7 d=true/\P.info? ty=some i/\i.size=size
 | .one _ ty=>∃d,P.underlying ty=some d/\A7 d=false
def RV.oks(P:Program):List RV->Prop
 |[]=>True
 |r::rs=>r.ok P/\RV.oks P rs
def ret1(s:St):RV->Option T
 | .t n=>lookup n s.env
 | .cell a _ size=>match lookup a s.env with
  |some (.c (.ptr id j o))=>match s.σ[id]? with
   |some (some (.cells _ es))=>match es[j]? with
    |some e=>if ba (o+size) (ct e) then some (.agg ((e.drop o).take size)) else none
    |none=>none
   |_=>none
  |_=>none
 | .one a _=>match lookup a s.env with
  |some (.c (.ptr id j o))=>match s.σ[id]? with
   |some (some (.cells _ es))=>match es[j]? with
    |some e=>match e[o]? with
     |some c=>some (.c c)
     |none=>none
    |none=>none
   |_=>none
  |_=>none
def retL(s:St):List RV->Option (List T)
 |[]=>some []
 |r::rs=>match ret1 s r,retL s rs with
  |some x,some c=>some (x::c)
  |_,_=>none
def retT(s:St)(rs:List RV):Option T:=match retL s rs with
 |some [x]=>some x
 |some c=>some (.tup c)
 |none=>none
def resF(tmps:Array Vl):ResultVar->Sem Vl
 | .tmp t=>pure (tmps.getD t Go.undef)
 | .cell a t=>do loadVar t (<- asAddr (tmps.getD a Go.undef))
def results_eq(fn : Func)(tmps : Array Vl) : results fn tmps = (do
 let vs <- fn.results.mapM (resF tmps)
 pure (if h:vs.size=1 then vs[0] else .tuple vs)):=rfl
def Y7{P:Program}{t:Ti}{d:TypeDesc}(h:P.underlying t=some d)(w:World):(isAgg t).run P w=.ok (A7 d) w:=by
 cases d<;>simp[isAgg,run_underlying h,A7]
def U2{w:World}{b o:Nat}{arr:Array Vl}{ety:Ti}{c:Nat×Nat}(h:w.heap[b]? =some (.cells arr ety c)):w.cell? ⟨b,o,none⟩=arr[o]? :=by simp[World.cell?,h]
def G3(b o n:Nat):(⟨b,o,none⟩:Addr).add n=⟨b,o+n,none⟩:=by unfold Addr.add;split;subst_vars;rfl;rfl
def R2{n i j:Nat}(h:(aj n)[i]? =some j):i<n/\i=j:=by obtain⟨h1,h2⟩:=lG.1 h;rw[List.getElem_range] at h2;exact⟨by simpa using h1,h2⟩
def ret1_run{Γ:Cx}{sz:Nat}{s:St}{φ:Phi}{a:Act}{w:World}(hR:R Γ sz s φ a w){P:Program}{rv:RV}(hok:rv.ok P){r:T}(h:ret1 s rv=some r):
  ∃v,(resF a.tmps rv.var).run P w=.ok v w/\RelT w φ s.σ (Al Γ.N φ s.σ) r v:=by
 cases rv with
 |t n=>
  obtain⟨u,hu,hr⟩:=hR.env n r h
  exact⟨u,by simp[RV.var,resF,hu],hr⟩
 |cell ad ty size=>
  obtain⟨d,i,hd1,hd2,hi1,hi2⟩:=hok
  simp only[ret1] at h
  split at h<;>try cases h
  rename_i id j o hl
  split at h<;>try cases h
  rename_i k es hσ
  split at h<;>try cases h
  rename_i e he
  split at h<;>cases h
  rename_i hfit
  have hfit':o+size<=ct e:=aA hfit
  obtain⟨u,hu,hr⟩:=hR.env ad _ hl
  cases hr with|c hr=>cases hr with|ptr hid _ hp=>
   obtain⟨b,base,hφ,rfl⟩:=hp k es hσ
   rcases hR.st.blk _ _ hσ with⟨h1,h2⟩|⟨b',base',arr,ety,h1,h2,h3,h4,h5⟩
   ·rw[hφ] at h1;cases h1
   rw[hφ] at h1;cases h1
   have hcell:∀q,q<size->∃u,arr[base+(j * k+(o+q))]? =some u/\RelC w φ s.σ (Al Γ.N φ s.σ) (e[o+q]?.getD (.imm (.val (.bool true)))) u:=fun q hq=>by
    have hlt:o+q<ct e:=by omega
    obtain⟨u,hu,hr⟩:=h5 j e (o+q) _ he (ae hlt);exact⟨u,hu,by simpa[hlt] using hr⟩
   have hlc:=run_loadCells_list (P:=P) w ⟨b,base+(j * k+o),none⟩ ((aj size).map fun q=>(arr[base+(j * k+(o+q))]?).getD Go.undef) (fun q v hv=>by rw[lM,oM] at hv;obtain⟨q',hq,rfl⟩:=hv;obtain⟨hlt,rfl⟩:=R2 hq;obtain⟨u,hu,_⟩:=hcell q hlt;rw[G3,U2 h2,show base+(j * k+o)+q=base+(j * k+(o+q)) by omega,hu];rfl)
   simp only[bn,List.length_range] at hlc
   refine⟨.agg ((aj size).map fun q=>(arr[base+(j * k+(o+q))]?).getD Go.undef).toArray,?_,RelT.agg' (by simp;omega) fun q c v hc hv=> ?_⟩
   ·simp[RV.var,resF,hu,asAddr,loadVar,Y7 hd1,hd2,Go.sizeOf,typeInfo,hi1,hi2,hlc]
   ·rw[lM,oM] at hv
    obtain⟨q',hq,rfl⟩:=hv
    obtain⟨hlt,rfl⟩:=R2 hq
    rw[au,if_pos hlt,aw] at hc
    obtain⟨u,hu,hr⟩:=hcell q hlt
    rw[hu]
    rw[hc] at hr
    exact hr
 |one ad ty=>
  obtain⟨d,hd1,hd2⟩:=hok
  simp only[ret1] at h
  split at h<;>try cases h
  rename_i id j o hl
  split at h<;>try cases h
  rename_i k es hσ
  split at h<;>try cases h
  rename_i e he
  split at h<;>cases h
  rename_i c hc
  obtain⟨u,hu,hr⟩:=hR.env ad _ hl
  cases hr with|c hr=>cases hr with|ptr hid _ hp=>
   obtain⟨b,base,hφ,rfl⟩:=hp k es hσ
   rcases hR.st.blk _ _ hσ with⟨h1,h2⟩|⟨b',base',arr,ety,h1,h2,h3,h4,h5⟩
   ·rw[hφ] at h1;cases h1
   rw[hφ] at h1;cases h1
   obtain⟨u',hu',hr'⟩:=h5 j e o c he hc
   refine⟨u',?_,.c hr'⟩
   have hcell:w.cell? ⟨b,base+(j * k+o),none⟩=some u':=by rw[U2 h2];exact hu'
   simp[RV.var,resF,hu,asAddr,loadVar,Y7 hd1,hd2,hcell]
def retL_run{j:Cx}{sz:Nat}{s:St}{φ:Phi}{a:Act}{w:World}(q:R j sz s φ a w){P:Program}:∀{rs:List RV} {ts:List T},RV.oks P rs->retL s rs=some ts->
  ∃vs:List Vl,ct vs=ct rs/\(ct ts)=ct rs/\(∀(i:Nat) (rv:RV) (v:Vl),rs[i]? =some rv->vs[i]? =some v->(resF a.tmps rv.var).run P w=.ok v w)/\∀(i:Nat) (t:T) (v:Vl),ts[i]? =some t->vs[i]? =some v->RelT w φ s.σ (Al j.N φ s.σ) t v
 |[],ts,_,h=>by cases h;exact⟨[],rfl,rfl,fun i rv v hi=>by simp at hi,fun i t v hi=>by simp at hi⟩
 |r::rs,ts,c,h=>by
  simp only[retL] at h;split at h<;>cases h;rename_i x J h1 h2;obtain⟨v,g1,z⟩:=ret1_run q c.1 h1;obtain⟨vs,k1,B,E,F⟩:=retL_run q c.2 h2;refine⟨v::vs,by simp[k1],by simp[B],fun i rv u hi e=> ?_,fun i t u hi e=> ?_⟩;match i with
  |0=>cases hi;cases e;exact g1
  |i+1=>exact E i rv u (by simpa using hi) (by simpa using e)
  match i with
  |0=>cases hi;cases e;exact z
  |i+1=>exact F i t u (by simpa using hi) (by simpa using e)
def retT_run{Γ:Cx}{sz:Nat}{s:St}{φ:Phi}{a:Act}{w:World}(hR:R Γ sz s φ a w){fn:Func}{rs:List RV}(hrs:fn.results=(rs.map RV.var).toArray)(hlen:ba (ct rs) 5=true){P:Program}(hok:RV.oks P rs){r:T}(h:retT s rs=some r):
  ∃v,(results fn a.tmps).run P w=.ok v w/\RelT w φ s.σ (Al Γ.N φ s.σ) r v:=by
 unfold retT at h
 cases hl:retL s rs with
 |none=>rw[hl] at h;cases h
 |some ts=>
  rw[hl] at h
  obtain⟨vs,k1,k2,k3,k4⟩:=retL_run hR hok hl
  have hle:ct rs<=5:=aA hlen
  have hrun:(results fn a.tmps).run P w=.ok (if h:ct vs=1 then vs[0]'(by rw[h];exact Nat.one_pos) else .tuple vs.toArray) w:=by
   rw[results_eq,hrs];match rs,vs,k1,k3,hle with
   |[],[],_,_,_=>simp
   |[r0],[v0],_,k3,_=>simp[k3 0 r0 v0 rfl rfl]
   |[r0,r1],[v0,v1],_,k3,_=>simp[k3 0 r0 v0 rfl rfl,k3 1 r1 v1 rfl rfl]
   |[r0,r1,r2],[v0,v1,v2],_,k3,_=>simp[k3 0 r0 v0 rfl rfl,k3 1 r1 v1 rfl rfl,k3 2 r2 v2 rfl rfl]
   |[r0,r1,r2,r3],[v0,v1,v2,v3],_,k3,_=>simp[k3 0 r0 v0 rfl rfl,k3 1 r1 v1 rfl rfl,k3 2 r2 v2 rfl rfl,k3 3 r3 v3 rfl rfl]
   |[r0,r1,r2,r3,r4],[v0,v1,v2,v3,v4],_,k3,_=>simp[k3 0 r0 v0 rfl rfl,k3 1 r1 v1 rfl rfl,k3 2 r2 v2 rfl rfl,k3 3 r3 v3 rfl rfl,k3 4 r4 v4 rfl rfl]
  have k5:ct ts=ct vs:=by omega
  refine⟨_,hrun,?_⟩
  by_cases h1:ct vs=1
  ·rw[dif_pos h1]
   match ts,vs,h1,k5,h,k4 with
   |[t],[v],_,_,h,k4=>cases h;exact k4 0 _ _ rfl rfl
   |[],[v],_,h5,_,_=>simp at h5
   |_::_::_,[v],_,h5,_,_=>simp at h5
  ·rw[dif_neg h1]
   match ts,h,k5,k4 with
   |[],h,hl,k4=>cases h;exact RelT.tup' hl fun i c z hc hz=>k4 i c z hc hz
   |[t],h,hl,k4=>exact absurd hl.symm h1
   |t::t'::r',h,hl,k4=>cases h;exact RelT.tup' hl fun i c z hc hz=>k4 i c z hc hz
def Done(rs:List RV)(Q:T->c9->Prop):Post:=fun e s=>(e=.normal\/e=.ret)/\∃r,retT s rs=some r/\Q r s.σ
def Done.ret{rs:List RV}{Q:T->c9->Prop}{s:St}{r:T}(h:retT s rs=some r)(c:Q r s.σ):Done rs Q .ret s:=⟨.inr rfl,r,h,c⟩
def Done.normal{rs:List RV}{Q:T->c9->Prop}{s:St}{r:T}(h:retT s rs=some r)(c:Q r s.σ):Done rs Q .normal s:=⟨.inl rfl,r,h,c⟩
def Good.rs{c:Cx}(h:Good c):Rs c c.σ0 c.φ0 c.w0:=
 {good:=h,st:=h.st,keep:=fun i blk _ base hi hp e=>e.2 i blk base hi hp,os:=rfl,tape:=rfl,drawn:=aL _,output:=rfl,size:=aL _,block:=fun _ _=>rfl,kept:=Kept.refl _ _ _ _}
section
variable {w:World}{φ:Phi}{σ:c9}{A:Nat->Prop}{D:Nat}{o':Obj}
def Y4{b:Nat}(h:b ≠ D):(w.putObj D o').heap[b]? =w.heap[b]? :=World.putObj_heap_other h
def cell_putD(j:w.heap[D]? =some (.deferred (some []))){a:Addr}{v:Vl}(h:w.cell? a=some v):(w.putObj D o').cell? a=some v:=by
 have c:a.block ≠ D:=fun e=>by obtain⟨o,h1,h2⟩:=cells_of_cell h;rw[e,j] at h1;cases h1;cases h2
 exact(World.cell?_of_block (Y4 c)).trans h
def RelI.putD(B:w.heap[D]? =some (.deferred (some []))){x:I}{v:Vl}(h:RelI w A x v):RelI (w.putObj D o') A x v:=by
 induction h with
 |val h=>exact .val h
 |sl us c q hk u _ z=>exact .sl us c q hk (fun j e o x h1 h2=>⟨(u j e o x h1 h2).1,cell_putD B (u j e o x h1 h2).2⟩) z
 |slNil=>exact .slNil
 |ipt us u _ z=>exact .ipt us (fun o x h2=>⟨(u o x h2).1,cell_putD B (u o x h2).2⟩) z
 |fn us _ z=>exact .fn us z
def cells_ne(c:w.heap[D]? =some (.deferred (some []))){b:Nat}{arr:Array Vl}{ety:Ti}{j:Nat×Nat}(h:w.heap[b]? =some (.cells arr ety j)):b ≠ D:=fun e=>by rw[e,c] at h;cases h
def RelC.putD(q:w.heap[D]? =some (.deferred (some []))){c:C}{v:Vl}(h:RelC w φ σ A c v):RelC (w.putObj D o') φ σ A c v:=by
 induction h with
 |imm h=>exact .imm (h.putD q)
 |own hid h1 h=>
  refine .own hid h1 fun k es z=> ?_
  rcases h k es z with h|⟨b,base,cap,arr,ety,B,h2,E,j,F,J,N,u,O⟩
  ·exact .inl h
  ·exact .inr ⟨b,base,cap,arr,ety,B,h2,E,j,F,J,N,(Y4 (cells_ne q u)).trans u,O⟩
 |ptr hid h1 h=>exact .ptr hid h1 h
 |fn us _ e=>exact .fn us e
 |ifcA us _ e=>exact .ifcA us e
 |ifc1 _ e=>exact .ifc1 e
 |map hid h1 h=>exact .map hid h1 h
 |fnb us _ e=>exact .fnb us e
 |yld hid h1 h=>exact .yld hid h1 h
def RelT.putD(e:w.heap[D]? =some (.deferred (some []))){t:T}{v:Vl}(h:RelT w φ σ A t v):RelT (w.putObj D o') φ σ A t v:=by
 induction h with
 |c h=>exact .c (h.putD e)
 |agg us hr=>exact .agg us fun i c hi=>(hr i c hi).putD e
 |tup us _ j=>exact .tup us j
 |undef=>exact .undef
def Rs.putD{F:Cx}(h:Rs F σ φ w)(J:w.heap[D]? =some (.deferred (some [])))(hl:F.w0.heap.size<=D)(hA:Al F.N φ σ D):Rs F σ φ (w.putObj D o'):=
 {good:=h.good
  st:=⟨fun i b hi=>by
   have c:=h.st.blk i b hi;cases b with
   |cells k es=>
    rcases c with g|⟨b,base,arr,ety,g1,v,z,B,g5⟩
    ·exact .inl g
    ·exact .inr ⟨b,base,arr,ety,g1,(Y4 (cells_ne J v)).trans v,z,B,fun j e o x O hx=>let ⟨u,U,hr⟩:=g5 j e o x O hx; ⟨u,U,hr.putD J⟩⟩
   |obj q cs=>
    obtain⟨b,o,us,g1,v,z,B⟩:=c
    exact⟨b,o,us,g1,(Y4 (fun e=>hA.2 i _ 0 hi (by rw[g1,e]))).trans v,z,fun i x hx=>let ⟨u,U,hr⟩:=B i x hx; ⟨u,U,hr.putD J⟩⟩,h.st.inj⟩
  keep:=h.keep,os:=h.os,tape:=h.tape,drawn:=h.drawn,output:=h.output
  size:=by rw[World.putObj_size];exact h.size
  block:=fun b hK=>(Y4 (Nat.ne_of_lt (ag hK.1 hl))).trans (h.block b hK)
  kept:=⟨fun b c E=>(Y4 (Nat.ne_of_lt (ag E hl))).trans (h.kept.imm b c E),h.kept.all,h.kept.len,fun i k es' hi O=>by obtain⟨es,g1,v,z,B⟩:=h.kept.cells i k es' hi O;exact⟨es,g1,v,z,fun b base arr ety hp c=>let ⟨arr',e1,e2⟩:=B b base arr ety hp c; ⟨arr',(Y4 (cells_ne J e1)).trans e1,e2⟩⟩,h.kept.obj⟩}
end
def aB0{P:Program}{z:Cx}{sz:Nat}{s:St}{φ:Phi}{fn:Func}{tmps:Array Vl}{B:Ending->World->Prop}(c:∀w,R z sz s φ ⟨tmps,[]⟩ w->LeavesIn Fence.wide 0 P fn tmps B [] .returning w):
  ∀(q:List Deferred) (w:World),R z sz s φ ⟨tmps,q⟩ w->LeavesInM Fence.wide 0 P fn tmps B q .returning w
 |[],w,h=>c w h
 |d::q,w,h=>by obtain⟨E,F⟩:=h.defers;obtain⟨D,rfl,h2,J,N⟩:=F d (by simp);refine⟨by simp,.inl ⟨D,_,rfl,run_takeDeferred h2,aB0 c q _ ?_⟩⟩;refine {toRs:=h.toRs.putD h2 J N,defers:=⟨(List.nodup_cons.1 E).2,fun O j=> ?_⟩,asize:=h.asize,env:=fun t v ht=>let ⟨u,U,hr⟩:=h.env t v ht; ⟨u,U,hr.putD h2⟩};obtain⟨D',rfl,g2,g3,g4⟩:=F O (bU _ j);refine⟨D',rfl,(Y4 fun e=> ?_).trans g2,g3,g4⟩;subst e;exact(List.nodup_cons.1 E).1 j
def FnOk.enter{P:Program}{f:FuncId}{fn:Func}{c:Code}{sz:Nat}{rs:List RV}{args:List T}{σ:c9}{Q:T->c9->Prop}
  (hf : P.funcs[f]? = some fn) (hb : fn.body = some c) (F : fn.ntmps = sz) (J : fn.results = (rs.map RV.var).toArray) (u : ba (ct rs) 5 = true) (O : RV.oks P rs) (q : (fn.name == "runtime.NumGoroutine")=false) (hn:ba (ct args) sz=true)
  (h:AWP P σ sz c (Done rs Q) ⟨argEnv 0 args,σ⟩):FnOk P f args σ Q:=by
 refine⟨⟨fn,hf,q,by rw[hb];rfl⟩,fun j vs U hg hl hr=> ?_⟩
 subst U
 have ac:ct args<=sz:=aA hn
 refine(callsIn_wide (n:=0)).1 (callsIn_of_wp_marks hf hb Y ?_)
 rw[F]
 have hR:R j sz ⟨argEnv 0 args,j.σ0⟩ j.φ0 {tmps:=vs.toArray++bN (sz - vs.toArray.size) Go.undef,defers:=[]} j.w0:=
  {toRs:=hg.rs,defers:=.nil,asize:=by simp;omega,env:=fun t v ht=>by
    obtain⟨_,h2⟩:=az5 args 0 t v ht;simp only[Nat.sub_zero] at h2;have z:t<ct vs:=by rw[<- hl];exact(lG.1 h2).1
    refine⟨vs[t],by simp[Array.getElem?_append,z],hr t v _ h2 (by simp[z])⟩}
 refine wpIn_mono (h j _ _ _ rfl hR none (fun _=>rfl)) ?_
 rintro e a w ⟨s,φ,⟨he,r,B,hq⟩,aa⟩
 have ab:∀w',R j sz s φ ⟨a.tmps,[]⟩ w'->LeavesIn Fence.wide 0 P fn a.tmps (fun e w'=>∃v r σ' φ',e=.returned v/\Q r σ'/\RelT w' φ' σ' (Al j.N φ' σ') r v/\Rs j σ' φ' w') [] .returning w':=fun w' h'=>by obtain⟨v,hv,E⟩:=retT_run h' J u O B;exact⟨v,hv,v,r,s.σ,φ,rfl,hq,E,h'.toRs⟩
 have:=aB0 ab a.defers w aa
 rcases he with rfl|rfl<;>exact this
/-! ## Calls -/
def Rs.down{q:Cx}{σ:c9}{φ:Phi}{w:World}(h:Rs q σ φ w):Good ⟨w,q.N,φ,σ⟩:=
 {st:=h.st,lt:=fun b v=>ag (h.good.lt b v) h.size,
  own:=fun i blk b base hi hp u=>h.keep i blk b base hi hp ⟨h.good.lt b u,fun z c base' e j=>h.good.own z c b base' e j u⟩}
def Rs.up{u:Cx}{σ σ':c9}{φ φ':Phi}{w w':World}(h:Rs u σ φ w)(k:Rs ⟨w,u.N,φ,σ⟩ σ' φ' w'):Rs u σ' φ' w' where
 good:=h.good
 st:=k.st
 keep i blk b base hi hp q:=k.keep i blk b base hi hp ⟨ag q.1 h.size,fun v c base' e j=>h.keep v c b base' e j q⟩
 os:=k.os.trans h.os
 tape:=k.tape.trans h.tape
 drawn:=aQ h.drawn k.drawn
 output:=k.output.trans h.output
 size:=aQ h.size k.size
 block b q:=(k.block b ⟨ag q.1 h.size,fun v c base' e j=>h.keep v c b base' e j q⟩).trans (h.block b q)
 kept:=Kept.trans h.size h.kept k.kept
def Cx.bare(c:Cx)(φ:Phi)(σ:c9)(w:World):Cx:=⟨w,fun b=>b<w.heap.size/\¬ Al c.N φ σ b,fun _=>none,[]⟩
def good_bare(c:Cx)(φ:Phi)(σ:c9)(w:World):Good (c.bare φ σ w):=
 {st:=⟨fun i b hi=>by simp[Cx.bare] at hi,fun i j e u p q hi=>by simp[Cx.bare] at hi⟩,lt:=fun _ h=>h.1,own:=fun i blk b base hi=>by simp[Cx.bare] at hi}
def bare_al{c:Cx}{φ:Phi}{σ:c9}{w:World}{b:Nat}(h:Al c.N φ σ b):Al (c.bare φ σ w).N (fun _=>none) [] b:=
 ⟨fun e=>e.2 h,fun i blk base hi=>by simp at hi⟩
def T1(n:Nat)(φ φ':Phi):Phi:=fun i=>if i.1<n then φ i else φ' (unsh n i)
theorem Rs.upBare{Γ:Cx}{σ σ':c9}{φ φ':Phi}{w w':World}(h:Rs Γ σ φ w)(k:Rs (Γ.bare φ σ w) σ' φ' w'):
  Kept w w' φ (T1 (ct σ) φ φ') σ (σ++σ'.mapB (Blk.ren (sh (ct σ)))) (Al Γ.N φ σ) (Al Γ.N (T1 (ct σ) φ φ') (σ++σ'.mapB (Blk.ren (sh (ct σ)))))/\
  Fwd w' φ' (T1 (ct σ) φ φ') σ' (σ++σ'.mapB (Blk.ren (sh (ct σ)))) (Al (Γ.bare φ σ w).N φ' σ') (Al Γ.N (T1 (ct σ) φ φ') (σ++σ'.mapB (Blk.ren (sh (ct σ))))) (sh (ct σ))/\
  Rs Γ (σ++σ'.mapB (Blk.ren (sh (ct σ)))) (T1 (ct σ) φ φ') w':=by
 generalize hn:ct σ=n
 generalize hσ:σ++σ'.mapB (Blk.ren (sh n))=σ2
 have lo:∀i:Id,i.1<n->σ2[i]? =σ[i]? :=fun i hi=>by rw[<- hσ];exact c9.get_left (by rw[hn];exact hi)
 have hi':∀i:Id,n<=i.1->σ2[i]? =(σ'[unsh n i]?).map (bT (Blk.ren (sh n))):=fun i hi=>by rw[<- hσ,c9.get_right (by rw[hn];exact hi),c9.get_map,hn];rfl
 have plo:∀i:Id,i.1<n->T1 n φ φ' i=φ i:=fun i hi=>by simp[T1,hi]
 have phi:∀i:Id,n<=i.1->T1 n φ φ' i=φ' (unsh n i):=fun i hi=>by simp[T1,bV.2 hi]
 have hlen:n<=ct σ2:=by rw[<- hσ];simp[hn]
 have old:∀b,b<w.heap.size->(Γ.bare φ σ w).K b:=fun b hb=>⟨hb,fun i blk base hi=>by simp[Cx.bare] at hi⟩
 have ownlt:∀(i:Id) blk b base,σ[i]? =some (some blk)->φ i=some (b,base)->b<w.heap.size:=fun i blk b base hi hp=>Al.own_lt h.st hi hp
 have newge:∀(i:Id) blk b base,σ'[i]? =some (some blk)->φ' i=some (b,base)->w.heap.size<=b:=fun i blk b base hi hp=>by
  rcases az b w.heap.size with hb|hb
  ·exact absurd (old b hb) (k.keep i blk b base hi hp)
  ·exact hb
 have hnew:∀(i:Id) blk,n<=i.1->σ2[i]? =some (some blk)->∃b0,σ'[unsh n i]? =some (some b0)/\blk=b0.ren (sh n):=fun i blk hge h2=>by
  rw[hi' i hge] at h2
  cases hx:σ'[unsh n i]? with
  |none=>rw[hx] at h2;cases h2
  |some o=>
   rw[hx] at h2
   cases o with
   |none=>cases h2
   |some b0=>cases h2;exact⟨b0,rfl,rfl⟩
 have A1:∀b,Al Γ.N φ σ b->b<w.heap.size->Al Γ.N (T1 n φ φ') σ2 b:=fun b hb hlt=>⟨hb.1,fun i blk base hib hp=>by
  rcases az i.1 n with hin|hin
  ·exact hb.2 i blk base (by rw[<- lo i hin];exact hib) (by rw[<- plo i hin];exact hp)
  ·obtain⟨b0,h1,_⟩:=hnew i blk hin hib
   rw[phi i hin] at hp
   have:=newge _ _ _ _ h1 hp
   omega⟩
 have A2:∀b,Al (Γ.bare φ σ w).N φ' σ' b->b<w'.heap.size->Al Γ.N (T1 n φ φ') σ2 b:=fun b hb _=>by
  have key:b<w.heap.size->Al Γ.N φ σ b:=fun hlt=>Classical.byContradiction fun hx=>hb.1 ⟨hlt,hx⟩
  refine⟨fun hN=> ?_,fun i blk base hib hp=> ?_⟩
  ·have hlt:b<w.heap.size:=ag (h.good.lt b hN) h.size
   exact(key hlt).1 hN
  ·rcases az i.1 n with hin|hin
   ·rw[lo i hin] at hib;rw[plo i hin] at hp
    have hlt:=ownlt i blk b base hib hp
    exact(key hlt).2 i blk base hib hp
   ·obtain⟨b0,h1,_⟩:=hnew i blk hin hib
    rw[phi i hin] at hp
    exact hb.2 _ b0 base h1 hp
 have hK:Kept w w' φ (T1 n φ φ') σ σ2 (Al Γ.N φ σ) (Al Γ.N (T1 n φ φ') σ2):=
  {imm:=fun b _ hl=>k.block b (old b hl),all:=A1,len:=by omega,
   cells:=fun i kk es' hi he=>by
    rw[hn] at hi
    rw[lo i hi] at he
    refine⟨es',he,rfl,plo i hi,fun b base arr ety hp hb=>⟨arr,?_,rfl⟩⟩
    exact(k.block b (old b (ownlt i _ b base he hp))).trans hb,
   obj:=fun i p' cs' hi he=>by
    rw[hn] at hi
    rw[lo i hi] at he
    exact⟨plo i hi,p',cs',he⟩}
 have hF:Fwd w' φ' (T1 n φ φ') σ' σ2 (Al (Γ.bare φ σ w).N φ' σ') (Al Γ.N (T1 n φ φ') σ2) (sh n):=
  {all:=A2,blk:=fun i hi=>by
    have hge:n<=(sh n i).1:=by simp[sh]
    refine⟨by rw[<- hσ];simp[hn,sh];omega,by rw[phi _ hge,unsh_sh],fun b' hb'=> ?_⟩
    obtain⟨b0,h1,h2⟩:=hnew (sh n i) b' hge hb'
    exact⟨b0,by rwa [unsh_sh] at h1,h2⟩}
 refine⟨hK,hF,?_⟩
 exact {
  good:=h.good
  st:=⟨fun i b hib=>by
    rcases az i.1 n with hin|hin
    ·rw[lo i hin] at hib
     rw[plo i hin]
     exact(h.st.blk i b hib).mono hK fun g base hp=>k.block g (old g (ownlt i b g base hib hp))
    ·obtain⟨b0,h1,rfl⟩:=hnew i b hin hib
     rw[phi i hin]
     have hb:=k.st.blk _ _ h1
     cases b0 with
     |cells kk es=>
      rcases hb with⟨g1,g2⟩|⟨b,base,arr,ety,g1,g2,g3,g4,g5⟩
      ·exact .inl ⟨g1,by subst g2;rfl⟩
      ·refine .inr ⟨b,base,arr,ety,g1,g2,by simpa using g3,fun j e he=> ?_,fun j e o x he hx=> ?_⟩
       ·simp only[lM,oM] at he
        obtain⟨e0,he0,rfl⟩:=he
        rw[y7];simpa using g4 j e0 he0
       ·simp only[lM,oM] at he
        obtain⟨e0,he0,rfl⟩:=he
        rw[y7] at hx
        simp only[lM,oM] at hx
        obtain⟨x0,hx0,rfl⟩:=hx
        obtain⟨u,hu,hr⟩:=g5 j e0 o x0 he0 hx0
        exact⟨u,hu,hr.fwd hF⟩
     |obj p cs=>
      obtain⟨b,o,us,g1,g2,g3,g4⟩:=hb
      refine⟨b,o,us,g1,g2,g3,fun i x hx=> ?_⟩
      rw[y7] at hx
      simp only[lM,oM] at hx
      obtain⟨x0,hx0,rfl⟩:=hx
      obtain⟨u,hu,hr⟩:=g4 i x0 hx0
      exact⟨u,hu,hr.fwd hF⟩,
   fun i j bi bj p q hib hjb hp hq he=>by
    obtain⟨pb,po⟩:=p
    obtain⟨qb,qo⟩:=q
    dsimp only at he
    subst he
    rcases az i.1 n with hin|hin<;>rcases az j.1 n with hjn|hjn
    ·rw[lo i hin] at hib;rw[lo j hjn] at hjb;rw[plo i hin] at hp;rw[plo j hjn] at hq
     exact h.st.inj i j bi bj _ _ hib hjb hp hq rfl
    ·rw[lo i hin] at hib;rw[plo i hin] at hp
     obtain⟨b0,h1,_⟩:=hnew j bj hjn hjb
     rw[phi j hjn] at hq
     have:=newge _ _ _ _ h1 hq
     have:=ownlt i bi _ _ hib hp
     omega
    ·rw[lo j hjn] at hjb;rw[plo j hjn] at hq
     obtain⟨b0,h1,_⟩:=hnew i bi hin hib
     rw[phi i hin] at hp
     have:=newge _ _ _ _ h1 hp
     have:=ownlt j bj _ _ hjb hq
     omega
    ·obtain⟨b0,h1,_⟩:=hnew i bi hin hib
     obtain⟨b1,h2,_⟩:=hnew j bj hjn hjb
     rw[phi i hin] at hp
     rw[phi j hjn] at hq
     have:=k.st.inj _ _ _ _ _ _ h1 h2 hp hq rfl
     rw[<- sh_unsh hin,this,sh_unsh hjn]⟩
  keep:=fun i blk b base hib hp hKb=>by
   rcases az i.1 n with hin|hin
   ·rw[lo i hin] at hib;rw[plo i hin] at hp
    exact h.keep i blk b base hib hp hKb
   ·obtain⟨b0,h1,_⟩:=hnew i blk hin hib
    rw[phi i hin] at hp
    have:=newge _ _ _ _ h1 hp
    have:=hKb.1
    have:=h.size
    omega
  os:=k.os.trans h.os
  tape:=k.tape.trans h.tape
  drawn:=aQ h.drawn k.drawn
  output:=k.output.trans h.output
  size:=aQ h.size k.size
  block:=fun b hKb=>(k.block b (old b (ag hKb.1 h.size))).trans (h.block b hKb)
  kept:=Kept.trans h.size h.kept hK}
end Ab
end
section
namespace Ab
open Go
class TyD (P:Program) (t:Ti) (d:outParam TypeDesc):Prop where
 h:P.underlying t=some d
class TyS (P:Program) (t:Ti) (size bytes:outParam Nat) (zero:outParam Vl):Prop where
 h:∃i,P.info? t=some i/\i.size=size/\i.bytes=bytes/\i.zero=some zero
def evs(env:Env):List Od->Option (List T)
 |[]=>some []
 |x::r=>match ev env x,evs env r with
  |some t,some ts=>some (t::ts)
  |_,_=>none
section
variable {P:Program}{Q:Exit->Act->World->Prop}{ops:Array Oper}{rest:List Oper}{a:Act}{w w':World}{o:Oper}{ro:Option Nat}
def sem_ro{x:Next}(h:(execOp a.eval o).run P w=.ok x w')(hx:∀d,x ≠ .defer d):(o.semAt ro a.eval).run P w=.ok x w':=by
 by_cases hd:∃c,o.op=.defer c;obtain⟨c,hc⟩:=hd;exfalso;unfold execOp at h;simp only[hc,Sem.run_bind] at h;cases hr:(resolve a.eval c o.type).run P w with
 |ok d w1=>rw[hr] at h;simp only[Result.andThen,Sem.run_pure] at h;cases h;exact hx _ rfl
 |halt x w1=>rw[hr] at h;simp[Result.andThen] at h
 rw[Oper.semAt_eq ro _ o fun c hc=>hd ⟨c,hc⟩];exact h
def Y2(c:o.guard=none)(h:o.wpIn (fw ro) 0 P a w (wpListIn (fw ro) 0 P ops Q rest) Q):wpListIn (fw ro) 0 P ops Q (o::rest) a w:=by unfold wpListIn;rw[if_pos (by simp[Region.wanted,c])];exact h
def val_in{u:Vl}{K:Act->World->Prop}(hu:(execOp a.eval o).run P w=.ok (.value u) w')(h:K (a.put o.dst u) w'):o.wpIn (fw ro) 0 P a w K Q:=
 ⟨fun _ _=>trivial,by rw[sem_ro hu (fun d=>nofun),Oper.uponIn_value];exact h⟩
def skip_in{K:Act->World->Prop}(hu:(execOp a.eval o).run P w=.ok .skip w')(h:K (a.put o.dst undef) w'):o.wpIn (fw ro) 0 P a w K Q:=
 ⟨fun _ _=>trivial,by rw[sem_ro hu (fun d=>nofun),Oper.uponIn_skip];exact h⟩
def at4{f : FuncId}{vs : Array Vl}{K : Act -> World -> Prop}(hu : (execOp a.eval o).run P w = .ok (.enter f vs) w')(h : Calls P f vs w' fun
   | .returned v,w''=>K (a.put o.dst v) w''
   | .panicked chain,w''=>Q (.panic chain) a w''
   | .outgrown,_=>LetsOut Q):o.wpIn (fw ro) 0 P a w K Q:=
 ⟨fun _ _=>trivial,by rw[sem_ro hu (fun d=>nofun),Oper.uponIn_enter];exact⟨fun h=>by simp at h,(callsIn_wide (n:=0 - 1)).2 h⟩⟩
end
section
variable {P:Program}{σ0:c9}{sz:Nat}{Q:Post}{env:Env}{σv:c9}{ops:Array Oper}{rest:List Oper}
def AWP.J{id:Nat}{l:List Oper}(h:AOps P σ0 sz l.toArray Q l (St.mk env σv)):AWP P σ0 sz (.region id l.toArray false) Q (St.mk env σv):=fun e φ a w c j ro _=>wpIn_region_lit (h e φ a w c j ro)
def AOps.nil(h:Q .normal (St.mk env σv)):AOps P σ0 sz ops Q [] (St.mk env σv):=fun _ φ _ _ _ c _=>⟨(St.mk env σv),φ,h,c⟩
def AWP.cond{x:Od}{c d:Code}{b:Bool}(hx:ev env x=some (.c (bool b)))(ht:b=true->AWP P σ0 sz c Q (St.mk env σv))(hf:b=false->AWP P σ0 sz d Q (St.mk env σv)):AWP P σ0 sz (.cond x c d) Q (St.mk env σv):=fun B φ a w j u ro q=>by
 have h:=k7 u hx;have e:a.eval x=.bool b:=by generalize a.eval x=v at h;cases h with|c h=>cases h with|imm h=>cases h;rfl
 exact wpIn_cond_split e (fun z=>ht z B φ a w j u ro (fun e=>q (by simp[Q0,e]))) (fun z=>hf z B φ a w j u ro (fun e=>q (by simp[Q0,e])))
def AOps.value{o:Oper}(q:o.guard=none)(hd:j6 sz o.dst=true)(v:T)
  (h:∀c φ a w,R c sz (St.mk env σv) φ a w->∃u,(execOp a.eval o).run P w=.ok (.value u) w/\RelT w φ σv (Al c.N φ σv) v u)
  (z:AOps P σ0 sz ops Q rest (St.mk (putE env o.dst v) σv)):AOps P σ0 sz ops Q (o::rest) (St.mk env σv):=fun c φ a w e j ro=>by
 obtain⟨u,B,hr⟩:=h c φ a w j
 exact Y2 q (val_in B (z c φ _ w e (j.put hd hr) ro))
def AOps.valueW{o:Oper}(q:o.guard=none)(hd:j6 sz o.dst=true)(v:T)(σ':c9)
  (h:∀c φ a w,R c sz (St.mk env σv) φ a w->∃u w' φ',(execOp a.eval o).run P w=.ok (.value u) w'/\RelT w' φ' σ' (Al c.N φ' σ') v u/\R c sz ⟨env,σ'⟩ φ' a w')
  (z:AOps P σ0 sz ops Q rest ((St.mk env σ').put o.dst v)):AOps P σ0 sz ops Q (o::rest) (St.mk env σv):=fun c φ a w e B ro=>by
 obtain⟨u,w',φ',E,hr,j⟩:=h c φ a w B
 exact Y2 q (val_in E (z c φ' _ w' e (j.put hd hr) ro))
def AOps.skipW{o:Oper}(q:o.guard=none)(hd:o.dst=none)(σ':c9)
  (h:∀c φ a w,R c sz (St.mk env σv) φ a w->∃w' φ',(execOp a.eval o).run P w=.ok .skip w'/\R c sz ⟨env,σ'⟩ φ' a w')
  (u:AOps P σ0 sz ops Q rest ⟨env,σ'⟩):AOps P σ0 sz ops Q (o::rest) (St.mk env σv):=fun c φ a w e v ro=>by
 obtain⟨w',φ',z,j⟩:=h c φ a w v
 refine Y2 q (skip_in z ?_)
 rw[hd]
 exact u c φ' _ w' e j ro
def AOps.guard{dst:Option Nat}{op:Op}{ty:Ti}{pos:String}{after:Array Edge}{j t:Nat}{b bv:Bool}(hj:(ops[j]?).bind (·.dst)=some t)(ht:lookup t env=some (.c (bool bv)))(hd:j6 sz dst=true)
  (h1:bv=b->AOps P σ0 sz ops Q (⟨dst,op,ty,pos,after,none⟩::rest) (St.mk env σv)) (h2:bv= !b->AOps P σ0 sz ops Q rest (St.mk (putE env dst .undef) σv)):AOps P σ0 sz ops Q (⟨dst,op,ty,pos,after,some (j,b)⟩::rest) (St.mk env σv):=fun Γ φ a w hΓ hR ro=>by
 obtain⟨u,hu,hr⟩:=hR.env t _ ht
 have e:u=.bool bv:=by cases hr with|c h=>cases h with|imm h=>cases h;rfl
 subst e
 have hy:yielded ops a.tmps j=some bv:=by simp[yielded,hj,hu]
 unfold wpListIn
 by_cases hb:bv=b
 ·rw[if_pos (by simp[Region.wanted,hy,hb])]
  have:=h1 hb Γ φ a w hΓ hR ro
  unfold wpListIn at this
  rw[if_pos (by simp[Region.wanted])] at this
  exact this
 ·rw[if_neg (by simp[Region.wanted,hy,hb])]
  exact⟨fun _ _=>Y,h2 (by cases bv<;>cases b<;>simp_all) Γ φ _ w hΓ (hR.put hd .undef) ro⟩
def AOps.guardSkip{dst:Option Nat}{op:Op}{ty:Ti}{pos:String}{after:Array Edge}{j t:Nat}{b:Bool}(q:(ops[j]?).bind (·.dst)=some t)(ht:lookup t env=some .undef)(hd:j6 sz dst=true)
  (h2:AOps P σ0 sz ops Q rest (St.mk (putE env dst .undef) σv)):AOps P σ0 sz ops Q (⟨dst,op,ty,pos,after,some (j,b)⟩::rest) (St.mk env σv):=fun v φ a w c h ro=>by
 obtain⟨u,z,hr⟩:=h.env t _ ht
 have e:u=Go.undef:=by cases hr;rfl
 subst e
 have hy:yielded ops a.tmps j=none:=by simp[yielded,q,z,Go.undef]
 unfold wpListIn
 rw[if_neg (by simp[Region.wanted,hy])]
 exact⟨fun _ _=>Y,h2 v φ _ w c (h.put hd .undef) ro⟩
section
variable {dst:Option Nat}{ty:Ti}{pos:String}{after:Array Edge}
def AOps.v{x:Od}{v:T}(hx:ev env x=some v)(hd:j6 sz dst=true)(h:AOps P σ0 sz ops Q rest (St.mk (putE env dst v) σv)):AOps P σ0 sz ops Q (⟨dst,.move x,ty,pos,after,none⟩::rest) (St.mk env σv):=
 .value rfl hd v (fun _ _ a _ c=>⟨a.eval x,rfl,k7 c hx⟩) h
def AOps.F{x:Od}{v:T}(hx:ev env x=some v)(hd:j6 sz dst=true)(h:AOps P σ0 sz ops Q rest (St.mk (putE env dst v) σv)):AOps P σ0 sz ops Q (⟨dst,.assign x,ty,pos,after,none⟩::rest) (St.mk env σv):=
 .value rfl hd v (fun _ _ a _ c=>⟨a.eval x,rfl,k7 c hx⟩) h
def val_inv{w:World}{φ:Phi}{σ:c9}{A:Nat->Prop}{v u:Vl}(h:RelT w φ σ A (.c (.imm (.val v))) u):u=v:=by cases h with|c h=>cases h with|imm h=>cases h;rfl
def D8{e:Cx}{φ:Phi}{a:Act}{w:World}(j:R e sz (St.mk env σv) φ a w){x:Od}{v:Vl}(h:ev env x=some (.c (.imm (.val v)))):a.eval x=v:=val_inv (k7 j h)
def AOps.pick{c x y:Od}{b:Bool}{v:T}(q:ev env c=some (.c (bool b)))(u:(b=true/\ev env x=some v)\/(b=false/\ev env y=some v))(hd:j6 sz dst=true)
  (h:AOps P σ0 sz ops Q rest (St.mk (putE env dst v) σv)):AOps P σ0 sz ops Q (⟨dst,.pick c x y,ty,pos,after,none⟩::rest) (St.mk env σv):=
 .value rfl hd v (fun _ _ a _ j=>by have e:=D8 j q;rcases u with⟨rfl,hx⟩|⟨rfl,hx⟩;exact⟨a.eval x,by simp[execOp,e,asBool],k7 j hx⟩;exact⟨a.eval y,by simp[execOp,e,asBool],k7 j hx⟩) h
def AOps.ab{c x y:Od}{b:Bool}{v:T}(e:ev env c=some (.c (bool b)))(j:b=true)(hx:ev env x=some v)(hd:j6 sz dst=true)
  (h:AOps P σ0 sz ops Q rest (St.mk (putE env dst v) σv)):AOps P σ0 sz ops Q (⟨dst,.pick c x y,ty,pos,after,none⟩::rest) (St.mk env σv):=.pick e (.inl ⟨j,hx⟩) hd h
def AOps.pickF{c x y:Od}{b:Bool}{v:T}(e:ev env c=some (.c (bool b)))(j:b=false)(hx:ev env y=some v)(hd:j6 sz dst=true)
  (h:AOps P σ0 sz ops Q rest (St.mk (putE env dst v) σv)):AOps P σ0 sz ops Q (⟨dst,.pick c x y,ty,pos,after,none⟩::rest) (St.mk env σv):=.pick e (.inr ⟨j,hx⟩) hd h
def AOps.bin{op:BinOp}{t t':Ti}{x y:Od}{u v r:Vl}(hx:ev env x=some (.c (.imm (.val u))))(hy:ev env y=some (.c (.imm (.val v))))(hd:j6 sz dst=true)(h1:r.oneCell'=true)
  (j:∀w,(eqGuard op t x y u v).run P w=.ok () w) (hr:∀w,(binOp op t u v).run P w=.ok r w)
  (h:AOps P σ0 sz ops Q rest (St.mk (putE env dst (.c (.imm (.val r)))) σv)):AOps P σ0 sz ops Q (⟨dst,.binOp op t x y t',ty,pos,after,none⟩::rest) (St.mk env σv):=
 .value rfl hd _ (fun _ _ a w e=>⟨r,by simp[execOp,D8 e hx,D8 e hy,j,hr],.c (.imm (.val h1))⟩) h
section ints
variable {t t':Ti}{x y:Od}{k:IntKind}{a b:Int}(hx:ev env x=some (.c (.imm (.val (.int k a)))))(hy:ev env y=some (.c (.imm (.val (.int k b)))))(hd:j6 sz dst=true)
include hx hy hd
def AOps.lss(h:AOps P σ0 sz ops Q rest (St.mk (putE env dst (.c (bool (decide (a<b))))) σv)):AOps P σ0 sz ops Q (⟨dst,.binOp .lss t x y t',ty,pos,after,none⟩::rest) (St.mk env σv):=.bin hx hy hd rfl (fun w=>by simp[go_sem]) (fun w=>by simp[go_sem]) h
def AOps.leq(h:AOps P σ0 sz ops Q rest (St.mk (putE env dst (.c (bool (decide (a<=b))))) σv)):AOps P σ0 sz ops Q (⟨dst,.binOp .leq t x y t',ty,pos,after,none⟩::rest) (St.mk env σv):=.bin hx hy hd rfl (fun w=>by simp[go_sem]) (fun w=>by simp[go_sem]) h
def AOps.gtr(h:AOps P σ0 sz ops Q rest (St.mk (putE env dst (.c (bool (decide (b<a))))) σv)):AOps P σ0 sz ops Q (⟨dst,.binOp .gtr t x y t',ty,pos,after,none⟩::rest) (St.mk env σv):=.bin hx hy hd rfl (fun w=>by simp[go_sem]) (fun w=>by simp[go_sem]) h
def AOps.geq(h:AOps P σ0 sz ops Q rest (St.mk (putE env dst (.c (bool (decide (b<=a))))) σv)):AOps P σ0 sz ops Q (⟨dst,.binOp .geq t x y t',ty,pos,after,none⟩::rest) (St.mk env σv):=.bin hx hy hd rfl (fun w=>by simp[go_sem]) (fun w=>by simp[go_sem]) h
def AOps.eql(h:AOps P σ0 sz ops Q rest (St.mk (putE env dst (.c (bool (decide (a=b))))) σv)):AOps P σ0 sz ops Q (⟨dst,.binOp .eql t x y t',ty,pos,after,none⟩::rest) (St.mk env σv):=.bin hx hy hd rfl (fun w=>by simp[go_sem]) (fun w=>by simp[go_sem];rfl) h
def AOps.neq(h:AOps P σ0 sz ops Q rest (St.mk (putE env dst (.c (bool (!decide (a=b))))) σv)):AOps P σ0 sz ops Q (⟨dst,.binOp .neq t x y t',ty,pos,after,none⟩::rest) (St.mk env σv):=.bin hx hy hd rfl (fun w=>by simp[go_sem]) (fun w=>by simp[go_sem];rfl) h
def AOps.addW(h:AOps P σ0 sz ops Q rest (St.mk (putE env dst (.c (.imm (.val (.int k (k.wrap (a+b))))))) σv)):AOps P σ0 sz ops Q (⟨dst,.binOp .add t x y t',ty,pos,after,none⟩::rest) (St.mk env σv):=.bin hx hy hd rfl (fun w=>by simp[go_sem]) (fun w=>by simp[binOp_add,Op.intArith]) h
def AOps.subW(h:AOps P σ0 sz ops Q rest (St.mk (putE env dst (.c (.imm (.val (.int k (k.wrap (a - b))))))) σv)):AOps P σ0 sz ops Q (⟨dst,.binOp .sub t x y t',ty,pos,after,none⟩::rest) (St.mk env σv):=.bin hx hy hd rfl (fun w=>by simp[go_sem]) (fun w=>by simp[binOp_sub,Op.intArith]) h
def AOps.mulW(h:AOps P σ0 sz ops Q rest (St.mk (putE env dst (.c (.imm (.val (.int k (k.wrap (a * b))))))) σv)):AOps P σ0 sz ops Q (⟨dst,.binOp .mul t x y t',ty,pos,after,none⟩::rest) (St.mk env σv):=.bin hx hy hd rfl (fun w=>by simp[go_sem]) (fun w=>by simp[binOp_mul,Op.intArith]) h
def AOps.quoW(hb:b ≠ 0)(h:AOps P σ0 sz ops Q rest (St.mk (putE env dst (.c (.imm (.val (.int k (k.wrap (a.tdiv b))))))) σv)):AOps P σ0 sz ops Q (⟨dst,.binOp .quo t x y t',ty,pos,after,none⟩::rest) (St.mk env σv):=.bin hx hy hd rfl (fun w=>by simp[go_sem]) (fun w=>by simp[binOp_quo,Op.intDiv,hb]) h
def AOps.bits{op:BinOp}(ho:op=.and\/op=.or\/op=.xor\/op=.andNot)(h:AOps P σ0 sz ops Q rest (St.mk (putE env dst (.c (.imm (.val (.int k (Go.bits op k a b)))))) σv)):AOps P σ0 sz ops Q (⟨dst,.binOp op t x y t',ty,pos,after,none⟩::rest) (St.mk env σv):=by
 rcases ho with rfl|rfl|rfl|rfl<;>exact .bin hx hy hd rfl (fun w=>by simp[go_sem]) (fun w=>by simp[go_sem]) h
end ints
def wrap_i64{n:Int}(h: -9223372036854775808<=n/\n<=9223372036854775807):IntKind.i64.wrap n=n:=by rw[IntKind.wrap_i64];omega
section ints64
variable {t t':Ti}{x y:Od}{a b:Int}(hx:ev env x=some (.c (int a)))(hy:ev env y=some (.c (int b)))(hd:j6 sz dst=true)
include hx hy hd
def AOps.add(e: -9223372036854775808<=a+b/\a+b<=9223372036854775807)(h:AOps P σ0 sz ops Q rest (St.mk (putE env dst (.c (int (a+b)))) σv)):AOps P σ0 sz ops Q (⟨dst,.binOp .add t x y t',ty,pos,after,none⟩::rest) (St.mk env σv):=.addW hx hy hd (by rw[wrap_i64 e];exact h)
def AOps.sub'(e: -9223372036854775808<=a - b/\a - b<=9223372036854775807)(h:AOps P σ0 sz ops Q rest (St.mk (putE env dst (.c (int (a - b)))) σv)):AOps P σ0 sz ops Q (⟨dst,.binOp .sub t x y t',ty,pos,after,none⟩::rest) (St.mk env σv):=.subW hx hy hd (by rw[wrap_i64 e];exact h)
def AOps.mul(e: -9223372036854775808<=a * b/\a * b<=9223372036854775807)(h:AOps P σ0 sz ops Q rest (St.mk (putE env dst (.c (int (a * b)))) σv)):AOps P σ0 sz ops Q (⟨dst,.binOp .mul t x y t',ty,pos,after,none⟩::rest) (St.mk env σv):=.mulW hx hy hd (by rw[wrap_i64 e];exact h)
end ints64
def AOps.not{x:Od}{b:Bool}{t:Ti}(hx:ev env x=some (.c (bool b)))(hd:j6 sz dst=true)(h:AOps P σ0 sz ops Q rest (St.mk (putE env dst (.c (bool (!b)))) σv)):AOps P σ0 sz ops Q (⟨dst,.unOp .not t x,ty,pos,after,none⟩::rest) (St.mk env σv):=
 .value rfl hd _ (fun _ _ a w e=>⟨.bool (!b),by simp[execOp,D8 e hx,Op.unary],.c (.imm (.val rfl))⟩) h
def sl_inv{w:World}{φ:Phi}{σ:c9}{A:Nat->Prop}{k:Nat}{es:List (List I)}{u:Vl}(h:RelT w φ σ A (.c (.imm (.sl k es))) u):∃b cap,u=.slice b (ct es) cap:=by
 cases h with|c h=>cases h with|imm h=>cases h<;>exact⟨_,_,rfl⟩
def F8{w:World}{φ:Phi}{σ:c9}{A:Nat->Prop}{id:Id}{j n k:Nat}{es:List (List C)}{u:Vl}(h:RelT w φ σ A (.c (.own id j n)) u)(e:σ[id]? =some (some (.cells k es))):U3 w (φ id) k (ct es) j n u:=by
 cases h with|c h=>cases h with|own _ _ h=>exact h k es e
def U3.len{w:World}{p:Option (Nat×Nat)}{k l j n:Nat}{u:Vl}(h:U3 w p k l j n u):∃b cap,u=.slice b n cap:=by rcases h with⟨_,h2,_,c⟩|⟨b,base,cap,arr,ety,e,_,h2,_⟩;exact⟨none,0,by rw[h2,c]⟩;exact⟨_,cap,h2⟩
/-! ### Length -/
def AOps.len{x:Od}{t e:Ti}{k:Nat}{es:List (List I)}[ht:TyD P t (.slice e)](hx:ev env x=some (.c (.imm (.sl k es))))(hd:j6 sz dst=true)
  (h:AOps P σ0 sz ops Q rest (St.mk (putE env dst (.c (int (ct es)))) σv)):AOps P σ0 sz ops Q (⟨dst,.call ⟨.builtin .len,#[x],#[t]⟩,ty,pos,after,none⟩::rest) (St.mk env σv):=
 .value rfl hd _ (fun _ _ a w j=>⟨.int .i64 (ct es),by obtain⟨b,cap,e⟩:=sl_inv (k7 j hx);simp[execOp,resolve,invoke,builtin,e,Builtin.len_,run_underlying ht.h,goInt],.int _⟩) h
def AOps.lenOwn{x:Od}{t e:Ti}{id:Id}{j n k:Nat}{es:List (List C)}[ht:TyD P t (.slice e)](hx:ev env x=some (.c (.own id j n)))(q:σv[id]? =some (some (.cells k es)))(hd:j6 sz dst=true)
  (h:AOps P σ0 sz ops Q rest (St.mk (putE env dst (.c (int n))) σv)):AOps P σ0 sz ops Q (⟨dst,.call ⟨.builtin .len,#[x],#[t]⟩,ty,pos,after,none⟩::rest) (St.mk env σv):=
 .value rfl hd _ (fun _ _ a w u=>⟨.int .i64 n,by obtain⟨b,cap,e⟩:=(F8 (k7 u hx) q).len;simp[execOp,resolve,invoke,builtin,e,Builtin.len_,run_underlying ht.h,goInt],.int _⟩) h
def AOps.lenNil{x:Od}{t e:Ti}{b:Option Addr}{n c:Nat}[ht:TyD P t (.slice e)](hx:ev env x=some (.c (.imm (.val (.slice b n c)))))(hd:j6 sz dst=true)
  (h:AOps P σ0 sz ops Q rest (St.mk (putE env dst (.c (int n))) σv)):AOps P σ0 sz ops Q (⟨dst,.call ⟨.builtin .len,#[x],#[t]⟩,ty,pos,after,none⟩::rest) (St.mk env σv):=
 .value rfl hd _ (fun _ _ a w j=>⟨.int .i64 n,by simp[execOp,D8 j hx,resolve,invoke,builtin,Builtin.len_,run_underlying ht.h,goInt],.int _⟩) h
/-! ### min, max -/
def AOps.min2{x y:Od}{ts:Array Ti}{k:IntKind}{m n:Int}(hx:ev env x=some (.c (.imm (.val (.int k m)))))(hy:ev env y=some (.c (.imm (.val (.int k n)))))(hd:j6 sz dst=true)
  (h:AOps P σ0 sz ops Q rest (St.mk (putE env dst (.c (.imm (.val (.int k (min m n)))))) σv)):AOps P σ0 sz ops Q (⟨dst,.call ⟨.builtin .min,#[x,y],ts⟩,ty,pos,after,none⟩::rest) (St.mk env σv):=
 .value rfl hd _ (fun _ _ a w hR=>⟨.int k (min m n),by simp[execOp,D8 hR hx,D8 hR hy,resolve,invoke,builtin,Builtin.min_,Builtin.min2];split<;>omega,.c (.imm (.val rfl))⟩) h
def AOps.extract{x:Od}{ts:List T}{i:Nat}{v:T}(hx:ev env x=some (.tup ts))(hi:ts[i]? =some v)(hd:j6 sz dst=true)
  (h:AOps P σ0 sz ops Q rest (St.mk (putE env dst v) σv)):AOps P σ0 sz ops Q (⟨dst,.extract x i,ty,pos,after,none⟩::rest) (St.mk env σv):=
 .value rfl hd _ (fun _ _ a w c=>by obtain⟨vs,h1,h2,e⟩:=RelT.tup_inv (k7 c hx);obtain⟨u,j,hr⟩:=e i v hi;exact⟨u,by simp[execOp,h1,Instr.extract,j],hr⟩) h
end
end
end Ab
end
section
namespace Ab
open Go
def Kept.drew(w:World)(φ:Phi)(σ:c9)(A:Nat->Prop):Kept w w.drew φ φ σ σ A A:=
 ⟨fun _ _ _=>rfl,fun _ h _=>h,aL _,fun _ _ es _ h=>⟨es,h,rfl,rfl,fun _ _ arr _ _ h2=>⟨arr,h2,rfl⟩⟩,fun _ p cs _ h=>⟨rfl,p,cs,h⟩⟩
def Rs.drew{c:Cx}{σ:c9}{φ:Phi}{w:World}(h:Rs c σ φ w):Rs c σ φ w.drew:=
 {good:=h.good,st:=⟨fun i b hi=>(h.st.blk i b hi).mono (Kept.drew w φ σ _) (fun _ _ _=>rfl),h.st.inj⟩,
  keep:=h.keep,os:=h.os,tape:=h.tape,drawn:=aQ h.drawn (Nat.le_succ _),output:=h.output,size:=h.size,block:=h.block,
  kept:=Kept.trans h.size h.kept (Kept.drew w φ σ _)}
def R.of{c:Cx}{sz:Nat}{s:St}{φ φ':Phi}{a:Act}{w w':World}{σ':c9}(h:R c sz s φ a w)(hk:Kept w w' φ φ' s.σ σ' (Al c.N φ s.σ) (Al c.N φ' σ'))(hs:Rs c σ' φ' w'):R c sz ⟨s.env,σ'⟩ φ' a w':=
 {toRs:=hs,defers:=h.defers.kept hk,asize:=h.asize,env:=fun t v ht=>let ⟨u,e,hr⟩:=h.env t v ht; ⟨u,e,hr.mono hk⟩}
def w9(n:Nat)(φ:Phi)(b:Nat):Phi:=fun i=>if i=(n,[]) then some (b,0) else φ i
def Rs.alloc{F:Cx}{σ:c9}{φ:Phi}{w:World}(h:Rs F σ φ w){k:Nat}{es:List (List C)}{arr:Array Vl}{ety:Ti}(hk:∀(j:Nat) (e:List C),es[j]? =some e->ct e=k)(ab:ct es * k<=arr.size)
  (hc:∀(j:Nat) (e:List C) (o:Nat) (x:C),es[j]? =some e->e[o]? =some x->∃u,arr[j * k+o]? =some u/\RelC w φ σ (Al F.N φ σ) x u):
  Kept w (w.alloc (.cells arr ety)) φ (w9 (ct σ) φ w.heap.size) σ (σ++[.one (.cells k es)]) (Al F.N φ σ) (Al F.N (w9 (ct σ) φ w.heap.size) (σ++[.one (.cells k es)]))/\
  Rs F (σ++[.one (.cells k es)]) (w9 (ct σ) φ w.heap.size) (w.alloc (.cells arr ety)):=by
 have old:∀b,b<w.heap.size->(w.alloc (.cells arr ety)).heap[b]? =w.heap[b]? :=fun b J=>by first|exact heap_alloc_old w _ J|exact heap_alloc_old w _ _ J
 have new:(w.alloc (.cells arr ety)).heap[w.heap.size]? =some (.cells arr ety (0,0)):=heap_alloc_new w _
 have v:∀i:Id,i.1<ct σ->w9 (ct σ) φ w.heap.size i=φ i:=fun i hi=>by
  have:i ≠ (ct σ,[]):=fun e=>by rw[e] at hi;exact aP _ hi
  simp[w9,this]
 have z:w9 (ct σ) φ w.heap.size (ct σ,[])=some (w.heap.size,0):=by simp[w9]
 have c:∀(i:Id) blk,(σ++[.one (.cells k es)])[i]? =some (some blk)->(i.1<ct σ/\σ[i]? =some (some blk))\/(i=(ct σ,[])/\blk=.cells k es):=fun i blk hi=>c9.get_new hi
 have A1:∀b,Al F.N φ σ b->b<w.heap.size->Al F.N (w9 (ct σ) φ w.heap.size) (σ++[.one (.cells k es)]) b:=fun b J hl=>⟨J.1,fun i blk base hi hp=>by rcases c i blk hi with⟨h1,h2⟩|⟨rfl,rfl⟩;rw[v i h1] at hp;exact J.2 i blk base h2 hp;rw[z] at hp;cases hp;omega⟩
 have U:Kept w (w.alloc (.cells arr ety)) φ (w9 (ct σ) φ w.heap.size) σ (σ++[.one (.cells k es)]) (Al F.N φ σ) (Al F.N (w9 (ct σ) φ w.heap.size) (σ++[.one (.cells k es)])):=
  {imm:=fun b _ hl=>old b hl,all:=A1,len:=by simp,
   cells:=fun i kk es' hi B=>by rw[c9.get_left hi] at B;exact⟨es',B,rfl,v i hi,fun b base arr ety hp J=>⟨arr,(old b (Al.own_lt h.st B hp)).trans J,rfl⟩⟩,
   obj:=fun i p' aa hi B=>by rw[c9.get_left hi] at B;exact⟨v i hi,p',aa,B⟩}
 refine⟨U,?_⟩
 exact {
  good:=h.good
  st:=⟨fun i b hi=>by rcases c i b hi with⟨h1,h2⟩|⟨rfl,rfl⟩;rw[v i h1];exact(h.st.blk i b h2).mono U fun g base hp=>old g (Al.own_lt h.st h2 hp);rw[z];refine .inr ⟨w.heap.size,0,arr,ety,rfl,new,by omega,hk,fun j e o x B hx=> ?_⟩;obtain⟨u,hu,hr⟩:=hc j e o x B hx;exact⟨u,by simpa using hu,hr.mono U⟩,
   fun i j bi bj p q hi hj hp O B=>by obtain⟨pb,po⟩:=p;obtain⟨qb,qo⟩:=q;dsimp only at B;subst B;rcases c i bi hi with⟨h1,h2⟩|⟨rfl,rfl⟩<;>rcases c j bj hj with⟨g1,g2⟩|⟨rfl,rfl⟩;rw[v i h1] at hp;rw[v j g1] at O;exact h.st.inj i j bi bj _ _ h2 g2 hp O rfl;rw[v i h1] at hp;rw[z] at O;cases O;have:=Al.own_lt h.st h2 hp;omega;rw[v j g1] at O;rw[z] at hp;cases hp;have:=Al.own_lt h.st g2 O;omega;rfl⟩
  keep:=fun i blk b base hi hp E=>by rcases c i blk hi with⟨h1,h2⟩|⟨rfl,rfl⟩;rw[v i h1] at hp;exact h.keep i blk b base h2 hp E;rw[z] at hp;cases hp;have:=E.1;have:=h.size;omega
  os:=h.os
  tape:=h.tape
  drawn:=h.drawn
  output:=h.output
  size:=aQ h.size (by simp)
  block:=fun b E=>(old b (ag E.1 h.size)).trans (h.block b E)
  kept:=Kept.trans h.size h.kept U}
theorem Rs.write{Γ:Cx}{σ:c9}{φ:Phi}{w:World}(h:Rs Γ σ φ w){id:Id}{k b base:Nat}{es es':List (List C)}{arr arr':Array Vl}{ety:Ti}(hid:σ[id]? =some (some (.cells k es)))(hp:φ id=some (b,base))
  (hb:w.heap[b]? =some (.cells arr ety (0,0))) (hl:ct es'=ct es) (hsz:arr'.size=arr.size) (hk:∀(j:Nat) (e:List C),es'[j]? =some e->ct e=k) (hsz':base+ct es * k<=arr.size)
  (hc:∀(j:Nat) (e:List C) (o:Nat) (x:C),es'[j]? =some e->e[o]? =some x->∃u,arr'[base+(j * k+o)]? =some u/\RelC w φ σ (Al Γ.N φ σ) x u):
  Kept w (w.setRow b arr') φ φ σ (σ.put id (some (.cells k es'))) (Al Γ.N φ σ) (Al Γ.N φ (σ.put id (some (.cells k es'))))/\Rs Γ (σ.put id (some (.cells k es'))) φ (w.setRow b arr'):=by
 have new:(w.setRow b arr').heap[b]? =some (.cells arr' ety (0,0)):=setRow_heap w b arr arr' ety (0,0) hb
 have old:∀g,g ≠ b->(w.setRow b arr').heap[g]? =w.heap[g]? :=fun g hg=>setRow_other w b g arr' hg
 have hsize:(w.setRow b arr').heap.size=w.heap.size:=by simp[World.setRow]
 have at_:∀(i:Id) x,(σ.put id (some (.cells k es')))[i]? =some (some x)->(i=id/\x=.cells k es')\/(i ≠ id/\σ[i]? =some (some x)):=fun i x hi=>by
  rcases c9.get_put hid hi with⟨h1,h2⟩|h
  ·cases h2;exact .inl ⟨h1,rfl⟩
  ·exact .inr h
 have other:∀(i:Id) blk g bs,i ≠ id->σ[i]? =some (some blk)->φ i=some (g,bs)->g ≠ b:=fun i blk g bs hne hi hpi e=>by
  subst e
  exact hne (h.st.inj i id _ _ _ _ hi hid hpi hp rfl)
 have A1:∀g,Al Γ.N φ σ g->Al Γ.N φ (σ.put id (some (.cells k es'))) g:=fun g hg=>⟨hg.1,fun i blk bs hi hpi=>by
  rcases at_ i blk hi with⟨rfl,_⟩|⟨_,hi⟩
  ·exact hg.2 i _ bs hid hpi
  ·exact hg.2 i blk bs hi hpi⟩
 have hK:Kept w (w.setRow b arr') φ φ σ (σ.put id (some (.cells k es'))) (Al Γ.N φ σ) (Al Γ.N φ (σ.put id (some (.cells k es')))):=
  {imm:=fun g hg _=>old g (fun e=>by subst e;exact hg.2 id _ base hid hp),all:=fun g hg _=>A1 g hg,len:=by simp,
   cells:=fun i kk es2 hi he=>by
    rcases at_ i _ he with⟨rfl,e⟩|⟨hne,he⟩
    ·cases e
     refine⟨es,hid,hl.symm,rfl,fun b2 base2 arr2 ety2 hp2 hb2=> ?_⟩
     rw[hp] at hp2;cases hp2
     rw[hb] at hb2;cases hb2
     exact⟨arr',new,hsz⟩
    ·refine⟨es2,he,rfl,rfl,fun b2 base2 arr2 ety2 hp2 hb2=>⟨arr2,?_,rfl⟩⟩
     exact(old b2 (other i _ b2 base2 hne he hp2)).trans hb2,
   obj:=fun i p' cs' hi he=>by
    rcases at_ i _ he with⟨_,e⟩|⟨_,he⟩
    ·cases e
    ·exact⟨rfl,p',cs',he⟩}
 refine⟨hK,?_⟩
 exact {
  good:=h.good
  st:=⟨fun i bk hi=>by
    rcases at_ i _ hi with⟨rfl,e⟩|⟨hne,hi⟩
    ·cases e
     rw[hp]
     refine .inr ⟨b,base,arr',ety,rfl,new,by rw[hl,hsz];exact hsz',hk,fun j e o x he hx=> ?_⟩
     obtain⟨u,hu,hr⟩:=hc j e o x he hx
     exact⟨u,hu,hr.mono hK⟩
    ·exact(h.st.blk i bk hi).mono hK fun g bs hpi=>old g (other i bk g bs hne hi hpi),
   fun i j bi bj p q hi hj hpi hqj he=>by
    have alive:∀(i:Id) bi,(σ.put id (some (.cells k es')))[i]? =some (some bi)->∃b0,σ[i]? =some (some b0):=fun i bi hi=>by
     rcases at_ i _ hi with⟨rfl,_⟩|⟨_,hi⟩
     ·exact⟨_,hid⟩
     ·exact⟨_,hi⟩
    obtain⟨b1,h1⟩:=alive i bi hi
    obtain⟨b2,h2⟩:=alive j bj hj
    exact h.st.inj i j b1 b2 p q h1 h2 hpi hqj he⟩
  keep:=fun i blk g bs hi hpi hKb=>by
   rcases at_ i _ hi with⟨rfl,_⟩|⟨_,hi⟩
   ·exact h.keep i _ g bs hid hpi hKb
   ·exact h.keep i blk g bs hi hpi hKb
  os:=h.os
  tape:=h.tape
  drawn:=h.drawn
  output:=h.output
  size:=by rw[hsize];exact h.size
  block:=fun g hKb=>(old g (fun e=>by subst e;exact h.keep id _ g base hid hp hKb)).trans (h.block g hKb)
  kept:=Kept.trans h.size h.kept hK}
def Rs.kill{e:Cx}{σ:c9}{φ:Phi}{w:World}(h:Rs e σ φ w)(id:Id):
  Kept w w φ φ σ (σ.put id none) (Al e.N φ σ) (Al e.N φ (σ.put id none))/\Rs e (σ.put id none) φ w:=by
 have c:∀(i:Id) b,(σ.put id none)[i]? =some (some b)->σ[i]? =some (some b):=fun i b hi=>(c9.get_kill hi).2
 have u:Kept w w φ φ σ (σ.put id none) (Al e.N φ σ) (Al e.N φ (σ.put id none)):=
  {imm:=fun _ _ _=>rfl,all:=fun b z _=>⟨z.1,fun i blk base hi=>z.2 i blk base (c i blk hi)⟩,len:=by simp,
   cells:=fun i k es hi v=>⟨es,c _ _ v,rfl,rfl,fun _ _ arr _ _ h2=>⟨arr,h2,rfl⟩⟩,
   obj:=fun i p cs hi v=>⟨rfl,p,cs,c _ _ v⟩}
 refine⟨u,?_⟩
 exact
 {good:=h.good,st:=⟨fun i b hi=>(h.st.blk i b (c _ _ hi)).mono u (fun _ _ _=>rfl),fun i j B E p q hi F=>h.st.inj i j B E p q (c _ _ hi) (c _ _ F)⟩,
  keep:=fun i blk b base hi=>h.keep i blk b base (c _ _ hi),os:=h.os,tape:=h.tape,drawn:=h.drawn,output:=h.output,size:=h.size,block:=h.block,kept:=Kept.trans h.size h.kept u}
/-! ## Addresses -/
def add_add(a:Addr)(m n:Nat):(a.add m).add n=a.add (m+n):=by unfold Addr.add;by_cases c:m=0;subst c;simp;by_cases e:n=0;subst e;simp;simp[c,e];omega
def s9{P:Program}{t:Ti}{size bytes:Nat}{z:Vl}[h:TyS P t size bytes z](w:World):(Go.sizeOf t).run P w=.ok size w:=by obtain⟨i,h1,h2,_⟩:=h.h;simp[Go.sizeOf,typeInfo,h1,h2]
def H4{P:Program}{t:Ti}{size bytes:Nat}{z:Vl}[h:TyS P t size bytes z](w:World):(zeroValue t).run P w=.ok z w:=by obtain⟨i,h1,_,_,c⟩:=h.h;simp[zeroValue,typeInfo,h1,c]
def au8{P:Program}{t:Ti}{d:TypeDesc}{size bytes:Nat}{z:Vl}[hd:TyD P t d][hs:TyS P t size bytes z](c:A7 d=true){w:World}{a:Addr}{us:List Vl}(hl:ct us=size)
  (h:∀(j:Nat) (v:Vl),us[j]? =some v->w.cell? (a.add j)=some v):(loadVar t a).run P w=.ok (.agg us.toArray) w:=by
 have:=run_loadCells_list (P:=P) w a us h
 subst hl
 simp[loadVar,Y7 hd.h,c,s9,this]
def al1{P:Program}{t:Ti}{d:TypeDesc}[hd:TyD P t d](c:A7 d=false){w:World}{a:Addr}{u:Vl}(h:w.cell? a=some u):(loadVar t a).run P w=.ok u w:=by
 simp[loadVar,Y7 hd.h,c,h]
end Ab
end
section
namespace Ab
open Go
section
variable {P:Program}{σ0:c9}{sz:Nat}{Q:Post}{env:Env}{σv:c9}{ops:Array Oper}{rest:List Oper}{dst:Option Nat}{ty:Ti}{pos:String}{after:Array Edge}
def ipt_inv{w:World}{φ:Phi}{σ:c9}{A:Nat->Prop}{cs:List I}{u:Vl}(h:RelT w φ σ A (.c (.imm (.ipt cs))) u):
  ∃(a:Addr) (us:Nat->Vl),u=.pointer (some a)/\(∀(o:Nat) (x:I),cs[o]? =some x->A a.block/\w.cell? (a.add o)=some (us o)/\RelI w A x (us o)):=by
 cases h with|c h=>cases h with|imm h=>cases h with|ipt us e hr=>exact⟨_,us,rfl,fun o x hx=>⟨(e o x hx).1,(e o x hx).2,hr o x hx⟩⟩
def af0{w:World}{φ:Phi}{σ:c9}{A:Nat->Prop}{id:Id}{j o k:Nat}{es:List (List C)}{u:Vl}(h:RelT w φ σ A (.c (.ptr id j o)) u)(e:σ[id]? =some (some (.cells k es))):
  id.1<ct σ/\∃b base,φ id=some (b,base)/\u=.pointer (some ⟨b,base+(j * k+o),none⟩):=by
 cases h with|c h=>cases h with|ptr hid _ h=>exact⟨hid,h k es e⟩
def AOps.indexAddr{x y:Od}{t e:Ti}{k bytes:Nat}{z:Vl}{kk:IntKind}{i:Int}{es:List (List I)}{j:List I}[ht:TyD P t (.slice e)][hs:TyS P e k bytes z]
  (hx:ev env x=some (.c (.imm (.sl k es)))) (hy:ev env y=some (.c (.imm (.val (.int kk i))))) (hi:0<=i) (q:es[i.toNat]? =some j) (hd:j6 sz dst=true)
  (h:AOps P σ0 sz ops Q rest (St.mk (putE env dst (.c (.imm (.ipt j)))) σv)):AOps P σ0 sz ops Q (⟨dst,.indexAddr t x y,ty,pos,after,none⟩::rest) (St.mk env σv):=
 .value rfl hd _ (fun Γ φ a w B=>by
  have hr:=k7 B hx;have v:i.toNat<ct es:=(lG.1 q).1;generalize J:a.eval x=u at hr;cases hr with|c hr=>cases hr with|imm hr=>cases hr with
   |slNil=>simp at v
   |@sl _ _ N cap us E F hk O hr=>
    have U:0<=i/\i<ct es:=by omega
    refine⟨.pointer (some (N.add (i.toNat * k))),by simp[execOp,J,D8 B hy,Instr.indexAt,asIntOf,run_underlying ht.h,s9,U],.c (.imm (.ipt (fun o=>us i.toNat o) (fun o x ho=> ?_) (fun o x ho=>hr _ j o x q ho)))⟩
    have:=O _ j o x q ho
    rw[ad0,add_add]
    exact this) h
def AOps.indexAddrOwn{x y:Od}{t e:Ti}{k bytes:Nat}{z:Vl}{kk:IntKind}{i:Int}{id:Id}{j n:Nat}{es:List (List C)}[ht:TyD P t (.slice e)][hs:TyS P e k bytes z]
  (hx:ev env x=some (.c (.own id j n))) (q:σv[id]? =some (some (.cells k es))) (hy:ev env y=some (.c (.imm (.val (.int kk i))))) (hi:0<=i/\i<n) (hd:j6 sz dst=true)
  (h:AOps P σ0 sz ops Q rest (St.mk (putE env dst (.c (.ptr id (j+i.toNat) 0))) σv)):AOps P σ0 sz ops Q (⟨dst,.indexAddr t x y,ty,pos,after,none⟩::rest) (St.mk env σv):=
 .value rfl hd _ (fun J φ a w v=>by have hr:=k7 v hx;have hid:id.1<ct σv:=c9.lt_of q;rcases F8 hr q with⟨_,_,_,N⟩|⟨b,base,cap,arr,ety,O,hp,F,u,B,_,_,_,_⟩;omega;have:=u (by omega);subst this;refine⟨.pointer (some ⟨b,base+j * k+i.toNat * k,none⟩),by simp[execOp,F,D8 v hy,Instr.indexAt,asIntOf,run_underlying ht.h,s9,hi,G3],.c (.ptr hid rfl fun U es' E=> ?_)⟩;rw[q] at E;cases E;refine⟨b,base,hp,?_⟩;rw[aq,aU,aY]) h
def AOps.indexAddrArr{x y:Od}{t e:Ti}{len k kb bytes:Nat}{z:Vl}{kk:IntKind}{i:Int}{id:Id}{j o:Nat}{es:List (List C)}[ht:TyD P t (.array len e)][hs:TyS P e k bytes z]
  (hx:ev env x=some (.c (.ptr id j o))) (q:σv[id]? =some (some (.cells kb es))) (hy:ev env y=some (.c (.imm (.val (.int kk i))))) (hi:0<=i/\i<len) (hd:j6 sz dst=true)
  (h:AOps P σ0 sz ops Q rest (St.mk (putE env dst (.c (.ptr id j (o+i.toNat * k)))) σv)):AOps P σ0 sz ops Q (⟨dst,.indexAddr t x y,ty,pos,after,none⟩::rest) (St.mk env σv):=
 .value rfl hd _ (fun E φ a w u=>by obtain⟨hid,b,base,hp,B⟩:=af0 (k7 u hx) q;refine⟨.pointer (some ⟨b,base+(j * kb+o)+i.toNat * k,none⟩),by simp[execOp,B,D8 u hy,Instr.indexAt,Instr.sureAddr,asIntOf,run_underlying ht.h,s9,hi,G3],.c (.ptr hid rfl fun F es' v=> ?_)⟩;rw[q] at v;cases v;exact⟨b,base,hp,by rw[aU,aU]⟩) h
/-! ### Fields -/
def AOps.fieldAddr{x:Od}{t:Ti}{fs:Array Field}{f:Nat}{q:Field}{id:Id}{j o k size bytes:Nat}{z:Vl}{es:List (List C)}[ht:TyD P t (.struct fs)](hf:fs[f]? =some q)[hs:TyS P q.type size bytes z](hz:(size==0)=false)
  (hx:ev env x=some (.c (.ptr id j o))) (e:σv[id]? =some (some (.cells k es))) (hd:j6 sz dst=true)
  (h:AOps P σ0 sz ops Q rest (St.mk (putE env dst (.c (.ptr id j (o+q.offset)))) σv)):AOps P σ0 sz ops Q (⟨dst,.fieldAddr t x f,ty,pos,after,none⟩::rest) (St.mk env σv):=
 .value rfl hd _ (fun F φ a w B=>by
  obtain⟨hid,b,base,hp,E⟩:=af0 (k7 B hx) e;have u:size ≠ 0:=by simpa using hz
  refine⟨.pointer (some ⟨b,base+(j * k+o)+q.offset,none⟩),by simp[execOp,E,Instr.fieldAt,Instr.sureAddr,run_underlying ht.h,hf,fieldPlace,s9,u,G3],.c (.ptr hid rfl fun J es' v=> ?_)⟩;rw[e] at v;cases v;exact⟨b,base,hp,by rw[aU,aU]⟩) h
def AOps.fieldAddrI{x:Od}{t:Ti}{fs:Array Field}{f:Nat}{e:Field}{size bytes:Nat}{z:Vl}{cs:List I}[ht:TyD P t (.struct fs)](hf:fs[f]? =some e)[hs:TyS P e.type size bytes z](hz:(size==0)=false)
  (hx:ev env x=some (.c (.imm (.ipt cs)))) (hd:j6 sz dst=true)
  (h:AOps P σ0 sz ops Q rest (St.mk (putE env dst (.c (.imm (.ipt (cs.drop e.offset))))) σv)):AOps P σ0 sz ops Q (⟨dst,.fieldAddr t x f,ty,pos,after,none⟩::rest) (St.mk env σv):=
 .value rfl hd _ (fun E φ a w u=>by
  obtain⟨v,us,B,q⟩:=ipt_inv (k7 u hx);have j:size ≠ 0:=by simpa using hz
  refine⟨.pointer (some (v.add e.offset)),by simp[execOp,B,Instr.fieldAt,Instr.sureAddr,run_underlying ht.h,hf,fieldPlace,s9,j],.c (.imm (.ipt (fun o=>us (e.offset+o)) (fun o x ho=> ?_) (fun o x ho=> ?_)))⟩;rw[aw] at ho;have:=q _ x ho;rw[ad0,add_add];exact⟨this.1,this.2.1⟩;rw[aw] at ho;exact(q _ x ho).2.2) h
def AOps.field{x:Od}{t:Ti}{fs:Array Field}{f:Nat}{e:Field}{d:TypeDesc}{cs:List C}{c:C}[ht:TyD P t (.struct fs)](hf:fs[f]? =some e)[j:TyD P e.type d](q:A7 d=false)
  (hx:ev env x=some (.agg cs)) (v:cs[e.offset]? =some c) (hd:j6 sz dst=true)
  (h:AOps P σ0 sz ops Q rest (St.mk (putE env dst (.c c)) σv)):AOps P σ0 sz ops Q (⟨dst,.field t x f,ty,pos,after,none⟩::rest) (St.mk env σv):=
 .value rfl hd _ (fun F φ a w z=>by obtain⟨vs,h1,h2,B⟩:=RelT.agg_inv (k7 z hx);obtain⟨u,E,hr⟩:=B _ c v;exact⟨u,by simp[execOp,h1,Instr.field,run_underlying ht.h,hf,asAgg,part,Y7 j.h,q,E],.c hr⟩) h
/-! ### Loads -/
def AOps.loadI{x:Od}{t:Ti}{d:TypeDesc}{cs:List I}{c:I}[ht:TyD P t d](j:A7 d=false)(hx:ev env x=some (.c (.imm (.ipt cs))))(q:cs[0]? =some c)(hd:j6 sz dst=true)
  (h:AOps P σ0 sz ops Q rest (St.mk (putE env dst (.c (.imm c))) σv)):AOps P σ0 sz ops Q (⟨dst,.load t x,ty,pos,after,none⟩::rest) (St.mk env σv):=
 .value rfl hd _ (fun z φ a w u=>by obtain⟨B,us,v,e⟩:=ipt_inv (k7 u hx);have:=e 0 c q;rw[Addr.add_zero'] at this;exact⟨us 0,by simp[execOp,v,Instr.loadAt,Instr.sureAddr,al1 j this.2.1],.c (.imm this.2.2)⟩) h
def AOps.loadIAgg{x:Od}{t:Ti}{d:TypeDesc}{size bytes:Nat}{z:Vl}{cs:List I}[ht:TyD P t d][hs:TyS P t size bytes z](J:A7 d=true)(hx:ev env x=some (.c (.imm (.ipt cs))))(hl:size<=ct cs)(hd:j6 sz dst=true)
  (h:AOps P σ0 sz ops Q rest (St.mk (putE env dst (.agg ((cs.take size).map .imm))) σv)):AOps P σ0 sz ops Q (⟨dst,.load t x,ty,pos,after,none⟩::rest) (St.mk env σv):=
 .value rfl hd _ (fun U φ a w N=>by obtain⟨E,us,B,q⟩:=ipt_inv (k7 N hx);refine⟨.agg ((aj size).map us).toArray,?_,RelT.agg' (by simp;omega) fun i c v F B=> ?_⟩;rw[show(execOp a.eval ⟨dst,.load t x,ty,pos,after,none⟩).run P w=((loadVar t E).run P w).andThen fun v w=>.ok (.value v) w by simp[execOp,B,Instr.loadAt,Instr.sureAddr]];rw[au8 (P:=P) (t:=t) J (w:=w) (a:=E) (us:=(aj size).map us) (by simp) (fun j v e=>by simp only[lM,oM] at e;obtain⟨O,e,rfl⟩:=e;obtain⟨u,rfl⟩:=R2 e;exact(q j _ (ae (by omega))).2.1)];rfl;simp only[lM,oM] at F B;obtain⟨x,hx,rfl⟩:=F;obtain⟨O,e,rfl⟩:=B;obtain⟨u,rfl⟩:=R2 e;rw[au,if_pos u] at hx;exact .imm (q _ x hx).2.2) h
def G6{h:Cx}{φ:Phi}{a:Act}{w:World}(q:R h sz (St.mk env σv) φ a w){id:Id}{k b base:Nat}{es:List (List C)}(c:σv[id]? =some (some (.cells k es)))(hp:φ id=some (b,base)):
  ∃arr ety,w.heap[b]? =some (.cells arr ety (0,0))/\base+ct es * k<=arr.size/\(∀(j:Nat) (e:List C),es[j]? =some e->ct e=k)/\
   ∀(j:Nat) (e:List C) (o:Nat) (x:C),es[j]? =some e->e[o]? =some x->∃u,arr[base+(j * k+o)]? =some u/\RelC w φ σv (Al h.N φ σv) x u:=by
 rcases q.st.blk _ _ c with⟨h1,h2⟩|⟨E,base',arr,ety,h1,h2,v,z,B⟩
 ·rw[hp] at h1;cases h1
 ·rw[hp] at h1;cases h1;exact⟨arr,ety,h2,v,z,B⟩
def AOps.aa{x:Od}{t:Ti}{d:TypeDesc}{id:Id}{j o k:Nat}{es:List (List C)}{e:List C}{c:C}[ht:TyD P t d](B:A7 d=false)(hx:ev env x=some (.c (.ptr id j o)))(q:σv[id]? =some (some (.cells k es)))
  (E:es[j]? =some e) (F:e[o]? =some c) (hd:j6 sz dst=true)
  (h:AOps P σ0 sz ops Q rest (St.mk (putE env dst (.c c)) σv)):AOps P σ0 sz ops Q (⟨dst,.load t x,ty,pos,after,none⟩::rest) (St.mk env σv):=
 .value rfl hd _ (fun U φ a w z=>by obtain⟨hid,b,base,hp,J⟩:=af0 (k7 z hx) q;obtain⟨arr,ety,N,_,_,v⟩:=G6 z q hp;obtain⟨u,O,hr⟩:=v j e o c E F;exact⟨u,by simp[execOp,J,Instr.loadAt,Instr.sureAddr,al1 B ((U2 N).trans O)],.c hr⟩) h
def AOps.loadAgg{x:Od}{t:Ti}{d:TypeDesc}{size bytes:Nat}{z:Vl}{id:Id}{j o k:Nat}{es:List (List C)}{e:List C}[ht:TyD P t d][hs:TyS P t size bytes z](ha:A7 d=true)(hx:ev env x=some (.c (.ptr id j o)))(q:σv[id]? =some (some (.cells k es)))
  (O:es[j]? =some e) (hl:o+size<=ct e) (hd:j6 sz dst=true)
  (h:AOps P σ0 sz ops Q rest (St.mk (putE env dst (.agg ((e.drop o).take size))) σv)):AOps P σ0 sz ops Q (⟨dst,.load t x,ty,pos,after,none⟩::rest) (St.mk env σv):=
 .value rfl hd _ (fun Γ φ a w U=>by obtain⟨hid,b,base,hp,F⟩:=af0 (k7 U hx) q;obtain⟨arr,ety,hb,_,_,B⟩:=G6 U q hp;refine⟨.agg ((aj size).map fun i=>(arr[base+(j * k+(o+i))]?).getD Go.undef).toArray,?_,RelT.agg' (by simp;omega) fun i c v hc F=> ?_⟩;rw[show(execOp a.eval ⟨dst,.load t x,ty,pos,after,none⟩).run P w=((loadVar t ⟨b,base+(j * k+o),none⟩).run P w).andThen fun v w=>.ok (.value v) w by simp[execOp,F,Instr.loadAt,Instr.sureAddr]];rw[au8 (P:=P) (t:=t) ha (w:=w) (a:=⟨b,base+(j * k+o),none⟩) (us:=(aj size).map fun i=>(arr[base+(j * k+(o+i))]?).getD Go.undef) (by simp) (fun i v hi=>by simp only[lM,oM] at hi;obtain⟨j',J,rfl⟩:=hi;obtain⟨E,rfl⟩:=R2 J;obtain⟨u,N,_⟩:=B j e (o+i) _ O (ae (by omega));rw[G3,U2 hb,show base+(j * k+o)+i=base+(j * k+(o+i)) by omega,N];rfl)];rfl;simp only[lM,oM] at F;obtain⟨j',J,rfl⟩:=F;obtain⟨E,rfl⟩:=R2 J;rw[au,if_pos E,aw] at hc;obtain⟨u,N,hr⟩:=B j e (o+i) c O hc;rw[N];exact hr) h
/-! ### Stores -/
def D7{α:Type}(l m:List α)(p i:Nat)(hp:p+ct m<=ct l):(l.take p++m++l.drop (p+ct m))[i]? =if p<=i/\i<p+ct m then m[i - p]? else l[i]? :=by by_cases h1:i<p;rw[bF,aH (by simp;omega),au,if_pos h1,if_neg (by omega)];by_cases h2:i<p+ct m;rw[aH (by simp;omega),aE (by simp;omega),if_pos (by omega)];congr 1;simp;omega;rw[aE (by simp;omega),aw,if_neg (by omega)];congr 1;simp;omega
theorem own_store{Γ:Cx}{φ:Phi}{a:Act}{w:World}(hR:R Γ sz (St.mk env σv) φ a w){id:Id}{j o k b base:Nat}{es:List (List C)}{e:List C}(hσ:σv[id]? =some (some (.cells k es)))(hp:φ id=some (b,base))(he:es[j]? =some e)
    {cs:List C} {us:List Vl} (hl:ct us=ct cs) (hfit:o+ct cs<=ct e) (hr:∀(i:Nat) (c:C) (v:Vl),cs[i]? =some c->us[i]? =some v->RelC w φ σv (Al Γ.N φ σv) c v):
    ∃w',(storeCells ⟨b,base+(j * k+o),none⟩ us).run P w=.ok () w'/\R Γ sz ⟨env,σv.put id (some (.cells k (es.set j (e.take o++cs++e.drop (o+ct cs)))))⟩ φ a w':=by
  obtain⟨arr,ety,hb,hsz,hk,hcs⟩:=G6 hR hσ hp
  have hj:j<ct es:=(lG.1 he).1
  have hek:=hk j e he
  have hjk:(j+1) * k<=ct es * k:=am _ hj
  rw[aq,bl] at hjk
  have h1:∀v ∈ us,v.oneCell'=true:=fun v hv=>by
    obtain⟨i,hi,rfl⟩:=bW.1 hv
    exact(hr i _ _ (ae (by omega)) (ae hi)).one
  have hst:=run_storeCells_at P b (base+(j * k+o)) ety us 0 arr w hb (by omega) h1
  refine⟨_,hst,?_⟩
  have hw:=Rs.write (arr':=(arr.toList.take (base+(j * k+o)+0)++us++arr.toList.drop (base+(j * k+o)+0+ct us)).toArray) (es':=es.set j (e.take o++cs++e.drop (o+ct cs))) hR.toRs hσ hp hb (by simp) (by simp;omega) (fun i e' hi=> ?_) hsz (fun i e' q x hi hx=> ?_)
  · exact hR.of hw.1 hw.2
  · rw[ci] at hi
    split at hi
    · first
        | (split at hi
           · cases hi
             simp;omega
           · cases hi)
        | (cases hi
           simp;omega)
    · exact hk i e' hi
  · have hsp:=D7 arr.toList us (base+(j * k+o)) (base+(i * k+q)) (by simp;omega)
    simp only[aY,bS]
    rw[hsp]
    rw[ci] at hi
    by_cases hij:j=i
    · subst hij
      rw[if_pos rfl,if_pos hj] at hi
      cases hi
      have hsp2:=D7 e cs o q (by omega)
      rw[hsp2] at hx
      by_cases hq:o<=q/\q<o+ct cs
      · rw[if_pos hq] at hx
        rw[if_pos (by omega)]
        refine⟨us[q - o]'(by omega),?_,hr _ x _ hx (ae (by omega))⟩
        rw[show base+(j * k+q) - (base+(j * k+o))=q - o by omega]
        exact ae (by omega)
      · rw[if_neg hq] at hx
        rw[if_neg (by omega)]
        obtain⟨u,hu,hr'⟩:=hcs j e q x he hx
        exact⟨u,by simpa using hu,hr'⟩
    · rw[if_neg hij] at hi
      obtain⟨u,hu,hr'⟩:=hcs i e' q x hi hx
      have hqk:q<k:=by rw[<- hk i e' hi];exact(lG.1 hx).1
      have:¬ (base+(j * k+o)<=base+(i * k+q)/\base+(i * k+q)<base+(j * k+o)+ct us):=by
        rcases Nat.lt_or_gt_of_ne hij with hlt|hlt
        · have:(j+1) * k<=i * k:=am _ hlt
          rw[aq,bl] at this
          omega
        · have:(i+1) * k<=j * k:=am _ hlt
          rw[aq,bl] at this
          omega
      rw[if_neg this]
      exact⟨u,by simpa using hu,hr'⟩
def AOps.store{x y:Od}{t:Ti}{bytes:Nat}{z:Vl}{id:Id}{j o k:Nat}{es:List (List C)}{e:List C}{c:C}[hs:TyS P t 1 bytes z](hx:ev env x=some (.c (.ptr id j o)))(hy:ev env y=some (.c c))(q:σv[id]? =some (some (.cells k es)))
  (J:es[j]? =some e) (hl:o<ct e)
  (h:AOps P σ0 sz ops Q rest ⟨env,σv.put id (some (.cells k (es.set j (e.set o c))))⟩):AOps P σ0 sz ops Q (⟨none,.store t x y,ty,pos,after,none⟩::rest) (St.mk env σv):=
 .skipW rfl rfl _ (fun Γ φ a w B=>by
  obtain⟨hid,b,base,hp,E⟩:=af0 (k7 B hx) q;have hr:=k7 B hy;generalize N:a.eval y=u at hr;cases hr with|c hr=>
   obtain⟨w',h1,h2⟩:=own_store (P:=P) B q hp J (o:=o) (cs:=[c]) (us:=[u]) rfl (by simp;omega) (fun i c' v F E=>by
    match i with
    |0=>cases F;cases E;exact hr
    |i+1=>simp at F)
   refine⟨w',φ,?_,?_⟩
   ·have O:u.cells=#[u]:=by have:=hr.one;cases u<;>first|rfl|simp[Value.oneCell'] at this
    simp[execOp,E,N,Instr.storeAt,Instr.sureAddr,storeVar,s9,O,h1]
   ·have U:e.set o c=e.take o++[c]++e.drop (o+[c].length):=by rw[bm,if_pos hl,bF];rfl
    rw[U]
    exact h2) h
def AOps.storeAgg{x y:Od}{t:Ti}{size bytes:Nat}{z:Vl}{id:Id}{j o k:Nat}{es:List (List C)}{e cs:List C}[hs:TyS P t size bytes z](hx:ev env x=some (.c (.ptr id j o)))(hy:ev env y=some (.agg cs))(q:σv[id]? =some (some (.cells k es)))
  (N:es[j]? =some e) (hl:o+size<=ct e) (B:ct cs=size)
  (h:AOps P σ0 sz ops Q rest ⟨env,σv.put id (some (.cells k (es.set j (e.take o++cs++e.drop (o+ct cs)))))⟩):AOps P σ0 sz ops Q (⟨none,.store t x y,ty,pos,after,none⟩::rest) (St.mk env σv):=
 .skipW rfl rfl _ (fun Γ φ a w E=>by obtain⟨hid,b,base,hp,F⟩:=af0 (k7 E hx) q;obtain⟨vs,h1,h2,O⟩:=RelT.agg_inv (k7 E hy);obtain⟨w',g1,U⟩:=own_store (P:=P) E q hp N (o:=o) (cs:=cs) (us:=vs) h2 (by omega) (fun i c v hc F=>by obtain⟨u,J,hr⟩:=O i c hc;rw[F] at J;cases J;exact hr);refine⟨w',φ,?_,U⟩;simp[execOp,F,h1,Instr.storeAt,Instr.sureAddr,storeVar,s9,Value.cells,h2,B,g1]) h
/-! ### New blocks -/
def aa7:T->Option (List C)
 | .c x=>some [x]
 | .agg cs=>some cs
 |_=>none
def R4{w:World}{φ:Phi}{σ:c9}{A:Nat->Prop}{t:T}{u:Vl}(h:RelT w φ σ A t u){cs:List C}(e:aa7 t=some cs):u.cells.size=ct cs/\∀(i:Nat) (c:C),cs[i]? =some c->∃v,u.cells[i]? =some v/\RelC w φ σ A c v:=by
 cases h with
 |c h=>
  cases e
  have j:u.cells=#[u]:=by have:=h.one;cases u<;>first|rfl|simp[Value.oneCell'] at this
  rw[j]
  refine⟨rfl,fun i c hi=> ?_⟩
  match i with
  |0=>cases hi;exact⟨u,rfl,h⟩
  |i+1=>simp at hi
 |agg us hr=>
  cases e
  refine⟨by simp[Value.cells],fun i c hi=>⟨us i,?_,hr i c hi⟩⟩
  simp[Value.cells,(lG.1 hi).1]
 |tup us hr=>cases e
 |undef=>cases e
def new_one{q:Cx}{φ:Phi}{a:Act}{w:World}(u:R q sz (St.mk env σv) φ a w){arr:Array Vl}{cs:List C}{ety:Ti}(B:arr.size=ct cs)(E:∀(i:Nat) (c:C),cs[i]? =some c->∃v,arr[i]? =some v/\RelC w φ σv (Al q.N φ σv) c v):
  RelT (w.alloc (.cells arr ety)) (w9 (ct σv) φ w.heap.size) (σv++[.one (.cells (ct cs) [cs])]) (Al q.N (w9 (ct σv) φ w.heap.size) (σv++[.one (.cells (ct cs) [cs])])) (.c (.ptr (ct σv,[]) 0 0)) (.pointer (some ⟨w.heap.size,0,none⟩))/\
  R q sz ⟨env,σv++[.one (.cells (ct cs) [cs])]⟩ (w9 (ct σv) φ w.heap.size) a (w.alloc (.cells arr ety)):=by
 have z:=Rs.alloc (k:=ct cs) (es:=[cs]) (arr:=arr) (ety:=ety) u.toRs (fun j e h=>by
  match j with
  |0=>cases h;rfl
  |j+1=>simp at h) (by simp;omega) (fun j e o x h hx=>by
  match j with
  |0=>cases h;simpa using E o x hx
  |j+1=>simp at h)
 refine⟨.c (.ptr (by simp) rfl fun k es h=> ?_),u.of z.1 z.2⟩
 rw[c9.get_last] at h
 cases h
 exact⟨w.heap.size,0,by simp[w9],by simp⟩
def AOps.box{x:Od}{t:Ti}{v:T}{cs:List C}(hx:ev env x=some v)(j:aa7 v=some cs)(hd:j6 sz dst=true)
  (h:AOps P σ0 sz ops Q rest (St.mk (putE env dst (.c (.ptr (ct σv,[]) 0 0))) (σv++[.one (.cells (ct cs) [cs])]))):AOps P σ0 sz ops Q (⟨dst,.box t x,ty,pos,after,none⟩::rest) (St.mk env σv):=
 .valueW rfl hd _ _ (fun q φ a w e=>by obtain⟨h1,h2⟩:=R4 (k7 e hx) j;have:=new_one (ety:=t) e h1 h2;exact⟨_,_,_,by simp[execOp,Instr.box,newVar,newRow],this⟩) h
def AOps.alloc{t:Ti}{size bytes:Nat}{z:Vl}{v:T}{cs:List C}[hs:TyS P t size bytes z](hz:ac7 z=some v)(e:aa7 v=some cs)(hd:j6 sz dst=true)
  (h:AOps P σ0 sz ops Q rest (St.mk (putE env dst (.c (.ptr (ct σv,[]) 0 0))) (σv++[.one (.cells (ct cs) [cs])]))):AOps P σ0 sz ops Q (⟨dst,.alloc t,ty,pos,after,none⟩::rest) (St.mk env σv):=
 .valueW rfl hd _ _ (fun j φ a w q=>by obtain⟨h1,h2⟩:=R4 (w:=w) (φ:=φ) (σ:=σv) (A:=Al j.N φ σv) (Y9 hz) e;have:=new_one (ety:=t) q h1 h2;exact⟨_,_,_,by simp[execOp,Instr.alloc,H4 (t:=t),newVar,newRow],this⟩) h
end
end Ab
end
section
namespace Ab
open Go
def Rs.reown{U:Cx}{σ:c9}{φ:Phi}{w:World}(h:Rs U σ φ w){id:Id}{k k0 b base base':Nat}{al es':List (List C)}{arr arr':Array Vl}{ety:Ti}(hid:σ[id]? =some (some (.cells k0 al)))(hp:φ id=some (b,base))
  (hb:w.heap[b]? =some (.cells arr ety (0,0))) (hk:∀(j:Nat) (e:List C),es'[j]? =some e->ct e=k) (ac:base'+ct es' * k<=arr'.size)
  (hc:∀(j:Nat) (e:List C) (o:Nat) (x:C),es'[j]? =some e->e[o]? =some x->∃u,arr'[base'+(j * k+o)]? =some u/\RelC w φ σ (Al U.N φ σ) x u):
  Kept w (w.setRow b arr') φ (fun i=>if i=(ct σ,[]) then some (b,base') else φ i) σ (σ.put id none++[.one (.cells k es')]) (Al U.N φ σ) (Al U.N (fun i=>if i=(ct σ,[]) then some (b,base') else φ i) (σ.put id none++[.one (.cells k es')]))/\
  Rs U (σ.put id none++[.one (.cells k es')]) (fun i=>if i=(ct σ,[]) then some (b,base') else φ i) (w.setRow b arr'):=by
 generalize ad:(fun i=>if i=(ct σ,[]) then some (b,base') else φ i)=φ'
 have a4:id.1<ct σ:=c9.lt_of hid
 have new:(w.setRow b arr').heap[b]? =some (.cells arr' ety (0,0)):=setRow_heap w b arr arr' ety (0,0) hb
 have old:∀g,g ≠ b->(w.setRow b arr').heap[g]? =w.heap[g]? :=fun g hg=>setRow_other w b g arr' hg
 have aa:(w.setRow b arr').heap.size=w.heap.size:=by simp[World.setRow]
 have z:∀i:Id,i.1<ct σ->φ' i=φ i:=fun i hi=>by
  have:i ≠ (ct σ,[]):=fun e=>by rw[e] at hi;exact aP _ hi
  rw[<- ad];simp[this]
 have F:φ' (ct σ,[])=some (b,base'):=by rw[<- ad];simp
 have v:∀(i:Id) blk,(σ.put id none++[.one (.cells k es')])[i]? =some (some blk)->(i.1<ct σ/\i ≠ id/\σ[i]? =some (some blk))\/(i=(ct σ,[])/\blk=.cells k es'):=fun i blk hi=>by rcases c9.get_new hi with⟨h1,h2⟩|⟨h1,h2⟩;rw[c9.length_put] at h1;exact .inl ⟨h1,c9.get_kill h2⟩;rw[c9.length_put] at h1;exact .inr ⟨h1,h2⟩
 have B:∀(i:Id) blk g bs,i ≠ id->σ[i]? =some (some blk)->φ i=some (g,bs)->g ≠ b:=fun i blk g bs E hi c e=>by subst e;exact E (h.st.inj i id _ _ _ _ hi hid c hp rfl)
 have A1:∀g,Al U.N φ σ g->Al U.N φ' (σ.put id none++[.one (.cells k es')]) g:=fun g hg=>⟨hg.1,fun i blk bs hi c=>by rcases v i blk hi with⟨h1,_,h2⟩|⟨rfl,rfl⟩;rw[z i h1] at c;exact hg.2 i blk bs h2 c;rw[F] at c;cases c;exact hg.2 id _ base hid hp⟩
 have hK:Kept w (w.setRow b arr') φ φ' σ (σ.put id none++[.one (.cells k es')]) (Al U.N φ σ) (Al U.N φ' (σ.put id none++[.one (.cells k es')])):=
  {imm:=fun g hg _=>old g (fun e=>by subst e;exact hg.2 id _ base hid hp),all:=fun g hg _=>A1 g hg,len:=by simp,
   cells:=fun i kk an hi he=>by rcases v i _ he with⟨h1,E,h2⟩|⟨rfl,_⟩;exact⟨an,h2,rfl,z i h1,fun b2 ab ai a5 av ay=>⟨ai,(old b2 (B i _ b2 ab E h2 av)).trans ay,rfl⟩⟩;omega,
   obj:=fun i p' a2 hi he=>by rcases v i _ he with⟨h1,E,h2⟩|⟨rfl,_⟩;exact⟨z i h1,p',a2,h2⟩;omega}
 refine⟨hK,?_⟩
 exact {
  good:=h.good
  st:=⟨fun i bk hi=>by rcases v i bk hi with⟨h1,E,h2⟩|⟨rfl,rfl⟩;rw[z i h1];exact(h.st.blk i bk h2).mono hK fun g bs c=>old g (B i bk g bs E h2 c);rw[F];refine .inr ⟨b,base',arr',ety,rfl,new,ac,hk,fun j e o x he hx=> ?_⟩;obtain⟨u,hu,hr⟩:=hc j e o x he hx;exact⟨u,hu,hr.mono hK⟩,
   fun i j bi bj p q hi hj c J he=>by obtain⟨pb,po⟩:=p;obtain⟨qb,qo⟩:=q;dsimp only at he;subst he;rcases v i bi hi with⟨h1,E,h2⟩|⟨rfl,rfl⟩<;>rcases v j bj hj with⟨g1,a3,g2⟩|⟨rfl,rfl⟩;rw[z i h1] at c;rw[z j g1] at J;exact h.st.inj i j bi bj _ _ h2 g2 c J rfl;rw[z i h1] at c;rw[F] at J;cases J;exact absurd rfl (B i bi _ _ E h2 c);rw[z j g1] at J;rw[F] at c;cases c;exact absurd rfl (B j bj _ _ a3 g2 J);rfl⟩
  keep:=fun i blk g bs hi c O=>by rcases v i blk hi with⟨h1,E,h2⟩|⟨rfl,rfl⟩;rw[z i h1] at c;exact h.keep i blk g bs h2 c O;rw[F] at c;cases c;exact h.keep id _ b base hid hp O
  os:=h.os
  tape:=h.tape
  drawn:=h.drawn
  output:=h.output
  size:=by rw[aa];exact h.size
  block:=fun g O=>(old g (fun e=>by subst e;exact h.keep id _ g base hid hp O)).trans (h.block g O)
  kept:=Kept.trans h.size h.kept hK}
def Rs.virt{z:Cx}{σ:c9}{φ:Phi}{w:World}(h:Rs z σ φ w)(k:Nat):
  Kept w w φ (fun i=>if i=(ct σ,[]) then none else φ i) σ (σ++[.one (.cells k [])]) (Al z.N φ σ) (Al z.N (fun i=>if i=(ct σ,[]) then none else φ i) (σ++[.one (.cells k [])]))/\
  Rs z (σ++[.one (.cells k [])]) (fun i=>if i=(ct σ,[]) then none else φ i) w:=by
 generalize F:(fun i=>if i=(ct σ,[]) then none else φ i)=φ'
 have v:∀i:Id,i.1<ct σ->φ' i=φ i:=fun i hi=>by
  have:i ≠ (ct σ,[]):=fun e=>by rw[e] at hi;exact aP _ hi
  rw[<- F];simp[this]
 have u:φ' (ct σ,[])=none:=by rw[<- F];simp
 have c:∀(i:Id) blk,(σ++[.one (.cells k [])])[i]? =some (some blk)->(i.1<ct σ/\σ[i]? =some (some blk))\/(i=(ct σ,[])/\blk=.cells k []):=fun i blk hi=>c9.get_new hi
 have A1:∀b,Al z.N φ σ b->Al z.N φ' (σ++[.one (.cells k [])]) b:=fun b E=>⟨E.1,fun i blk base hi hp=>by rcases c i blk hi with⟨h1,h2⟩|⟨rfl,rfl⟩;rw[v i h1] at hp;exact E.2 i blk base h2 hp;rw[u] at hp;cases hp⟩
 have O:Kept w w φ φ' σ (σ++[.one (.cells k [])]) (Al z.N φ σ) (Al z.N φ' (σ++[.one (.cells k [])])):=
  {imm:=fun _ _ _=>rfl,all:=fun b E _=>A1 b E,len:=by simp,
   cells:=fun i kk es' hi B=>by rw[c9.get_left hi] at B;exact⟨es',B,rfl,v i hi,fun b base arr ety hp E=>⟨arr,E,rfl⟩⟩,
   obj:=fun i p' U hi B=>by rw[c9.get_left hi] at B;exact⟨v i hi,p',U,B⟩}
 refine⟨O,?_⟩
 exact {
  good:=h.good
  st:=⟨fun i b hi=>by rcases c i b hi with⟨h1,h2⟩|⟨rfl,rfl⟩;rw[v i h1];exact(h.st.blk i b h2).mono O fun _ _ _=>rfl;rw[u];exact .inl ⟨rfl,rfl⟩,
   fun i j bi bj p q hi hj hp J B=>by rcases c i bi hi with⟨h1,h2⟩|⟨rfl,rfl⟩<;>rcases c j bj hj with⟨g1,g2⟩|⟨rfl,rfl⟩;rw[v i h1] at hp;rw[v j g1] at J;exact h.st.inj i j bi bj _ _ h2 g2 hp J B;rw[u] at J;cases J;rw[u] at hp;cases hp;rfl⟩
  keep:=fun i blk b base hi hp aa=>by rcases c i blk hi with⟨h1,h2⟩|⟨rfl,rfl⟩;rw[v i h1] at hp;exact h.keep i blk b base h2 hp aa;rw[u] at hp;cases hp
  os:=h.os
  tape:=h.tape
  drawn:=h.drawn
  output:=h.output
  size:=h.size
  block:=h.block
  kept:=Kept.trans h.size h.kept O}
structure Shows(w:World)(φ:Phi)(σ:c9)(A:Nat->Prop)(k:Nat)(es:List (List C))(b:Option Addr)(us:List Vl):Prop where
 len:ct us=ct es * k
 none:b=.none->es=[]
 cell:∀ad,b=some ad->∀(j:Nat) (u:Vl),us[j]? =some u->w.cell? (ad.add j)=some u
 hk:∀(j:Nat) (e:List C),es[j]? =some e->ct e=k
 rel:∀(j:Nat) (e:List C) (o:Nat) (x:C),es[j]? =some e->e[o]? =some x->∃u,us[j * k+o]? =some u/\RelC w φ σ A x u
def Shows.one{w:World}{φ:Phi}{σ:c9}{A:Nat->Prop}{k:Nat}{es:List (List C)}{b:Option Addr}{us:List Vl}(h:Shows w φ σ A k es b us):∀u ∈ us,u.oneCell'=true:=by
 intro u q;obtain⟨i,hi,rfl⟩:=bW.1 q;rw[h.len] at hi;have hk:0<k:=ca fun z=>by subst z;simp at hi
 have j:i / k<ct es:=bX (by rw[aZ];exact hi);have B:=h.hk _ _ (ae j);have ho:i % k<(es[i / k]).length:=by rw[B];exact Nat.mod_lt _ hk
 obtain⟨v,c,hr⟩:=h.rel _ _ _ _ (ae j) (ae ho);rw[show i / k * k+i % k=i by rw[aZ];exact Nat.div_add_mod i k] at c;rw[ae (by rw[h.len];exact hi)] at c;have e:=Option.some.inj c;rw[e];exact hr.one
def app_rel{w:World}{φ:Phi}{σ:c9}{A:Nat->Prop}{k:Nat}{es new:List (List C)}{b z:Option Addr}{us vs:List Vl}(h:Shows w φ σ A k es b us)(g:Shows w φ σ A k new z vs):
  (∀(j:Nat) (e:List C),(es++new)[j]? =some e->ct e=k)/\∀(j:Nat) (e:List C) (o:Nat) (x:C),(es++new)[j]? =some e->e[o]? =some x->∃u,(us++vs)[j * k+o]? =some u/\RelC w φ σ A x u:=by
 refine⟨fun j e c=> ?_,fun j e o x c hx=> ?_⟩
 ·rw[bo] at c
  split at c
  ·exact h.hk _ _ c
  ·exact g.hk _ _ c
 ·rw[bo] at c
  split at c
  ·rename_i v
   obtain⟨u,q,hr⟩:=h.rel j e o x c hx
   exact⟨u,by rw[aH (lG.1 q).1];exact q,hr⟩
  ·rename_i v
   obtain⟨u,q,hr⟩:=g.rel _ e o x c hx
   refine⟨u,?_,hr⟩
   have:ct us<=j * k+o:=by rw[h.len];have:=am k (bV.1 v);omega
   rw[aE this,h.len]
   rw[Nat.sub_mul] at q
   have:=am k (bV.1 v)
   rw[show j * k+o - (ct es) * k=j * k - (ct es) * k+o by omega]
   exact q
section
variable {P:Program}{σ0:c9}{sz:Nat}{Q:Post}{s:St}{ops:Array Oper}{rest:List Oper}{dst:Option Nat}{ty:Ti}{pos:String}{after:Array Edge}
inductive Src(σ:c9)(k:Nat):T->List (List C)->Prop
 |own {id:Id} {j n:Nat} {es:List (List C)} (h:σ[id]? =some (some (.cells k es))):Src σ k (.c (.own id j n)) ((es.drop j).take n)
 |imm {es:List (List I)}:Src σ k (.c (.imm (.sl k es))) (es.map (·.map .imm))
 |nil:Src σ k (.c (.imm (.val (.slice none 0 0)))) []
def aq4{Γ:Cx}{φ:Phi}{a:Act}{w:World}(hR:R Γ sz s φ a w){id:Id}{j n k:Nat}{es:List (List C)}(J:s.σ[id]? =some (some (.cells k es))){v:Vl}(O:U3 w (φ id) k (ct es) j n v):
  ∃b cap us,v=.slice b n cap/\((es.drop j).take n).length=n/\Shows w φ s.σ (Al Γ.N φ s.σ) k ((es.drop j).take n) b us:=by
 rcases O with⟨h1,h2,h3,h4⟩|⟨b,base,cap,arr,ety,ad,hp,O,U,al,an,aa,hb,a2⟩
 ·subst h3 h4
  exact⟨none,0,[],h2,by simp,⟨by simp,fun _=>by simp,fun _ h=>by simp at h,fun j e h=>by simp at h,fun j e o x h=>by simp at h⟩⟩
 ·obtain⟨arr',av,B,ay,hk,ab⟩:=G6 hR J hp
  rw[hb] at B;cases B
  have q:((es.drop j).take n).length=n:=by simp;omega
  have E:∀(i:Nat) (e:List C),((es.drop j).take n)[i]? =some e->i<n/\es[j+i]? =some e:=fun i e c=>by rw[au] at c;split at c;rw[aw] at c;exact⟨‹_›,c⟩;cases c
  have ac:base+(j+n) * k<=arr.size:=by have:(j+n) * k<=ct es * k:=am _ aa;omega
  rw[aq] at ac
  refine⟨some ad,cap,(arr.toList.drop (base+j * k)).take (n * k),O,q,⟨?_,fun h=>(by cases h),fun a3 h i u z=> ?_,fun i e c=>hk _ _ (E i e c).2,fun i e o x c hx=> ?_⟩⟩
  ·rw[q];simp;omega
  ·cases h
   rw[au] at z
   split at z
   ·rename_i hi
    rw[aw] at z
    have hn:0<n:=by rcases Nat.eq_zero_or_pos n with h|h;subst h;simp at hi;exact h
    rw[U (by omega),G3,U2 hb]
    simpa using z
   ·cases z
  ·obtain⟨hi,F⟩:=E i e c
   obtain⟨u,z,hr⟩:=ab _ e o x F hx
   have ai:=hk _ _ F
   have a4:o<k:=by rw[<- ai];exact(lG.1 hx).1
   have:(i+1) * k<=n * k:=am _ hi
   rw[aq,bl] at this
   refine⟨u,?_,hr⟩
   rw[au,if_pos (by omega),aw]
   rw[aq] at z
   rw[show base+j * k+(i * k+o)=base+(j * k+i * k+o) by omega]
   simpa using z
def Src.shows{Γ:Cx}{φ:Phi}{a:Act}{w:World}(hR:R Γ sz s φ a w){x:Od}{k:Nat}{t:T}{es:List (List C)}(hx:ev s.env x=some t)(hs:Src s.σ k t es):
  ∃b cap us,a.eval x=.slice b (ct es) cap/\Shows w φ s.σ (Al Γ.N φ s.σ) k es b us:=by
 have hr:=k7 hR hx
 cases hs with
 |own E=>
  obtain⟨b,cap,us,h1,h2,h3⟩:=aq4 hR E (F8 hr E)
  exact⟨b,cap,us,by rw[h1,h2],h3⟩
 |@imm es=>
  generalize a.eval x=v at hr
  cases hr with|c hr=>cases hr with|imm hr=>cases hr with
   |slNil=>exact⟨none,0,[],rfl,⟨by simp,fun _=>rfl,fun _ h=>by simp at h,fun j e h=>by simp at h,fun j e o x h=>by simp at h⟩⟩
   |@sl _ _ ad cap us ac ai hk hc hr=>
    have F:∀(i:Nat) (e:List C),(es.map (·.map C.imm))[i]? =some e->∃q,es[i]? =some q/\e=q.map C.imm:=fun i e B=>by rw[lM,oM] at B;obtain⟨q,h1,h2⟩:=B;exact⟨q,h1,h2.symm⟩
    refine⟨some ad,cap,(aj (ct es * k)).map fun i=>us (i / k) (i % k),by simp,⟨by simp,fun h=>(by cases h),fun al h i u hu=> ?_,fun i e B=> ?_,fun i e o x B hx=> ?_⟩⟩
    ·cases h
     rw[lM,oM] at hu
     obtain⟨i',hi,rfl⟩:=hu
     obtain⟨J,rfl⟩:=R2 hi
     have aa:0<k:=ca fun h0=>by subst h0;simp at J
     have hj:i / k<ct es:=bX (by rw[aZ];exact J)
     have z:=hk _ _ (ae hj)
     have ho:i % k<(es[i / k]).length:=by rw[z];exact Nat.mod_lt _ aa
     have:=(hc _ _ _ _ (ae hj) (ae ho)).2
     rwa [show i / k * k+i % k=i by rw[aZ];exact Nat.div_add_mod i k] at this
    ·obtain⟨q,h1,rfl⟩:=F i e B
     simpa using hk _ _ h1
    ·obtain⟨q,h1,rfl⟩:=F i e B
     rw[lM,oM] at hx
     obtain⟨x0,O,rfl⟩:=hx
     have z:=hk _ _ h1
     have U:o<k:=by rw[<- z];exact(lG.1 O).1
     have ab:i<ct es:=(lG.1 h1).1
     have:(i+1) * k<=ct es * k:=am _ ab
     rw[aq,bl] at this
     refine⟨us i o,?_,.imm (hr i q o x0 h1 O)⟩
     rw[lM,List.getElem?_range (by omega)]
     have e1:(i * k+o) / k=i:=by rw[aZ,Nat.mul_add_div (by omega),Nat.div_eq_of_lt U,aY]
     have e2:(i * k+o) % k=o:=by rw[aZ,Nat.mul_add_mod,Nat.mod_eq_of_lt U]
     simp[e1,e2]
 |nil=>exact⟨none,0,[],val_inv hr,⟨by simp,fun _=>rfl,fun _ h=>by simp at h,fun j e h=>by simp at h,fun j e o x h=>by simp at h⟩⟩
end
end Ab
end
section
namespace Ab
open Go
section
variable {P:Program}(w:World)
def ad9{size n cap:Nat}{b:Option Addr}{us:List Vl}(hl:ct us=n * size)(e:b=none->us=[])(h:∀c,b=some c->∀(j:Nat) (u:Vl),us[j]? =some u->w.cell? (c.add j)=some u):
  (Builtin.firstCells size n (.slice b n cap)).run P w=.ok us.toArray w:=by
 cases b with
 |none=>rw[e rfl];simp[Builtin.firstCells]
 |some c=>exact run_firstCells_some w size n c n cap us hl (h c rfl)
def aD3{t ty e:Ti}{k bytes:Nat}{z:Vl}[ht:TyD P t (.slice e)][hs:TyS P e k bytes z]{g off sLen sCap:Nat}{q:Array Vl}{ety:Ti}(O:w.heap[g]? =some (.cells q ety (0,0)))
  {b:Option Addr} {m c:Nat} {us:List Vl} (hl:ct us=m * k) (U:b=none->us=[]) (hc:∀J,b=some J->∀(j:Nat) (u:Vl),us[j]? =some u->w.cell? (J.add j)=some u) (h1:∀u ∈ us,u.oneCell'=true)
  (v:sLen+m<=sCap) (N:off+sCap * k<=q.size):
  (Builtin.append_ #[t,t] ty #[.slice (some ⟨g,off,none⟩) sLen sCap,.slice b m c]).run P w=
   .ok (.slice (some ⟨g,off,none⟩) (sLen+m) sCap) (w.setRow g (q.toList.take (off+sLen * k)++us++q.toList.drop (off+sLen * k+ct us)).toArray):=by
 have hf:=ad9 (P:=P) w (size:=k) (cap:=c) hl U hc
 have E:(sLen+m) * k<=sCap * k:=am _ v
 rw[aq] at E
 have B:=run_storeCells_at P g (off+sLen * k) ety us 0 q w O (by omega) h1
 simp only[aY] at B
 have F:=s9 (P:=P) (t:=e) w
 simp[Builtin.append_,run_underlying ht.h,F,Builtin.lenOf,v,hf,G3,B]
def aD1{t ty e:Ti}{k bytes:Nat}{z:Vl}[ht:TyD P t (.slice e)][hs:TyS P e k bytes z]{b0:Option Addr}{sLen sCap:Nat}{q:List Vl}(B:ct q=sLen * k)(E:b0=none->q=[])(F:∀v,b0=some v->∀(j:Nat) (u:Vl),q[j]? =some u->w.cell? (v.add j)=some u)
  {b:Option Addr} {m c:Nat} {us:List Vl} (hl:ct us=m * k) (hn:b=none->us=[]) (hc:∀v,b=some v->∀(j:Nat) (u:Vl),us[j]? =some u->w.cell? (v.add j)=some u)
  (hg:sCap<sLen+m) (hb:(sLen+m) * bytes<=140737488355328) (al:sLen+m<=9223372036854775807):
  (Builtin.append_ #[t,t] ty #[.slice b0 sLen sCap,.slice b m c]).run P w=
   .ok (.slice (some ⟨w.heap.size,0,none⟩) (sLen+m) (grownCap w (sLen+m) sCap e)) (w.drew.alloc (.cells (q.toArray++us.toArray++Builtin.zeroCells z.cells (grownCap w (sLen+m) sCap e - (sLen+m))) e)):=by
 obtain⟨i,J,N,O,U⟩:=hs.h
 subst N O
 have an:=growslice_fits hg hb
 have aa:¬ (281474976710656<Builtin.nextslicecap (sLen+m) sCap * i.bytes):=by omega
 have ab:¬ (9223372036854775807<((sLen:Int)+(m:Int))):=by omega
 have ac:¬ (sLen+m<=sCap):=by omega
 have hf:=ad9 (P:=P) w.drew (size:=i.size) (cap:=c) hl hn (fun v h j u hu=>by simpa using hc v h j u hu)
 have ai:=ad9 (P:=P) w.drew (size:=i.size) (cap:=sCap) B E (fun v h j u hu=>by simpa using F v h j u hu)
 simp[Builtin.append_,run_underlying ht.h,Go.sizeOf,typeInfo,zeroValue,J,U,Builtin.lenOf,ac,ab,aa,Question.forced,hf,ai,newRow,grownCap]
 rw[<- Array.append_assoc,List.append_toArray q us]
end
section
variable {P:Program}{σ0:c9}{sz:Nat}{Q:Post}{env:Env}{σv:c9}{ops:Array Oper}{rest:List Oper}{dst:Option Nat}{ty:Ti}{pos:String}{after:Array Edge}
def P3{w:World}{φ:Phi}{σ:c9}{A:Nat->Prop}{id:Id}{k n:Nat}{es:List (List C)}{v:Vl}(hid:σ[id]? =some (some (.cells k es)))(h1:v.oneCell'=true)(h:U3 w (φ id) k (ct es) 0 n v):RelT w φ σ A (.c (.own id 0 n)) v:=
 .c (.own (c9.lt_of hid) h1 fun j es' e=>by rw[hid] at e;cases e;exact h)
def append_new{v:Cx}{φ:Phi}{a:Act}{w:World}(hR:R v sz (St.mk env σv) φ a w){k:Nat}{t ty' e:Ti}{bytes:Nat}{z:Vl}[ht:TyD P t (.slice e)][hs:TyS P e k bytes z](ai:(z.cells.size==k)=true)
  {b0:Option Addr} {n cap0:Nat} {old:List (List C)} {us0:List Vl} (ho:Shows w φ σv (Al v.N φ σv) k old b0 us0) (B:ct old=n)
  {b:Option Addr} {c:Nat} {new:List (List C)} {us:List Vl} (J:Shows w φ σv (Al v.N φ σv) k new b us) (hg:cap0<n+ct new) (hb:(n+ct new) * bytes<=140737488355328) (E:n+ct new<=maxLen) (σ1:c9)
  (O:∀(φ:Phi) (w:World),Rs v σv φ w->Kept w w φ φ σv σ1 (Al v.N φ σv) (Al v.N φ σ1)/\Rs v σ1 φ w) (aa:ct σ1=ct σv):
  ∃v' w' φ',(Builtin.append_ #[t,t] ty' #[.slice b0 n cap0,.slice b (ct new) c]).run P w=.ok v' w'/\
   RelT w' φ' (σ1++[.one (.cells k (old++new))]) (Al v.N φ' (σ1++[.one (.cells k (old++new))])) (.c (.own (ct σv,[]) 0 (n+ct new))) v'/\R v sz ⟨env,σ1++[.one (.cells k (old++new))]⟩ φ' a w':=by
 have U:n+ct new<=9223372036854775807:=by simpa[maxLen] using E
 have ab:=aD1 (P:=P) (t:=t) (ty:=ty') w (by rw[ho.len,B]) (fun h=>by rw[ho.none h] at ho;exact ah (by simpa using ho.len)) ho.cell (c:=c) J.len (fun h=>by rw[J.none h] at J;exact ah (by simpa using J.len)) J.cell hg hb U
 have ac:=grownCap_ge w (n+ct new) cap0 e
 have al:grownCap w (n+ct new) cap0 e<=maxLen:=grownCap_le_maxLen w (n+ct new) cap0 e E
 obtain⟨an,av⟩:=O φ w.drew hR.toRs.drew
 have ay:=Kept.drew w φ σv (Al v.N φ σv)
 have F:=Kept.trans (show w.heap.size<=w.drew.heap.size from aL _) ay an
 have ad:=app_rel ho J
 have hz:z.cells.size=k:=by simpa using ai
 generalize a2:grownCap w (n+ct new) cap0 e=cap at *
 have q:(us0.toArray++us.toArray++Builtin.zeroCells z.cells (cap - (n+ct new))).size=cap * k:=by simp only[Array.size_append,aX,size_zeroCells,hz,ho.len,J.len,B,<- aq];congr 1;omega
 have hA:=Rs.alloc (k:=k) (es:=old++new) (arr:=us0.toArray++us.toArray++Builtin.zeroCells z.cells (cap - (n+ct new))) (ety:=e) av ad.1 (by
   rw[q,aM,B];exact am _ ac) (fun j e' o x he hx=>by
   obtain⟨u,hu,hr⟩:=ad.2 j e' o x he hx;refine⟨u,?_,hr.mono F⟩;rw[Array.getElem?_append_left (by have:=(lG.1 hu).1;simpa using this)];simpa using hu)
 rw[aa] at hA
 refine⟨_,_,w9 (ct σv) φ w.heap.size,ab,P3 (k:=k) (es:=old++new) (by rw[<- aa];exact c9.get_last _ _) rfl (.inr ⟨w.heap.size,0,cap,_,e,_,by simp[w9],rfl,fun _=>by simp,ac,al,by simp[B],heap_alloc_new w.drew _,by rw[q];simp⟩),?_⟩
 exact hR.of (Kept.trans (show w.heap.size<=w.drew.heap.size from aL _) F hA.1) hA.2
def append_R{x y:Od}{t e:Ti}{k bytes:Nat}{z:Vl}{id:Id}{j n:Nat}{es new:List (List C)}{v:T}[ht:TyD P t (.slice e)][hs:TyS P e k bytes z](a7:(z.cells.size==k)=true)(a8:aN 0 bytes=true)
  (hx:ev env x=some (.c (.own id j n))) (ac:σv[id]? =some (some (.cells k es))) (hy:ev env y=some v) (ay:Src σv k v new) (hb:(n+ct new) * bytes<=140737488355328)
  {Γ:Cx} {φ:Phi} {a:Act} {w:World} (hR:R Γ sz (St.mk env σv) φ a w):
  ∃v' w' φ',(Builtin.append_ #[t,t] ty #[a.eval x,a.eval y]).run P w=.ok v' w'/\RelT w' φ' (σv.put id none++[.one (.cells k ((es.drop j).take n++new))]) (Al Γ.N φ' (σv.put id none++[.one (.cells k ((es.drop j).take n++new))])) (.c (.own (ct σv,[]) 0 (n+ct new))) v'/\
   R Γ sz ⟨env,σv.put id none++[.one (.cells k ((es.drop j).take n++new))]⟩ φ' a w':=by
  obtain⟨b',B,J,a9,q⟩:=ay.shows hR hy
  have hv:=F8 (k7 hR hx) ac
  obtain⟨b0,cap0,us0,an,ai,al⟩:=aq4 hR ac hv
  rw[an,a9]
  by_cases E:n+ct new<=cap0
  ·rcases hv with⟨h1,h2,h3,h4⟩|⟨b,base,cap,arr,ety,ad,hp,hv,bb,b5,U,b8,O,av⟩
   · -- nil, and nothing is appended
    rw[an] at h2
    cases h2
    have aa:new=[]:=ah (by omega)
    subst aa
    subst h3
    obtain⟨bd,be⟩:=hR.toRs.kill id
    obtain⟨a2,a3⟩:=be.virt k
    have F:(Builtin.append_ #[t,t] ty #[.slice none 0 0,.slice b' 0 B]).run P w=.ok (.slice none 0 0) w:=by have hf:=ad9 (P:=P) w (size:=k) (cap:=B) (b:=b') (n:=0) (us:=J) q.len (fun h=>ah (by simpa using q.len)) q.cell;simp[Builtin.append_,run_underlying ht.h,s9 (t:=e),Builtin.lenOf,hf]
    refine⟨.slice none 0 0,w,(fun i=>if i=(ct σv,[]) then none else φ i),by rw[show([]:List (List C)).length=0 from rfl,F],?_,?_⟩
    ·simp only[bt,bc]
     exact P3 (k:=k) (es:=[]) (by rw[<- c9.length_put σv id none];exact c9.get_last _ _) rfl (.inl ⟨by simp,rfl,rfl,rfl⟩)
    ·simp only[bt,bc]
     rw[c9.length_put] at a2 a3
     exact hR.of (Kept.trans (aL _) bd a2) a3
   ·rw[an] at hv
    cases hv
    have b6:0<n+ct new\/n+ct new=0:=by omega
    by_cases bi:0<cap0
    ·have:=bb bi
     subst this
     have a4:base+j * k+cap0 * k<=arr.size:=by rw[aq] at av;omega
     have F:=aD3 (P:=P) (t:=t) (ty:=ty) w (sLen:=n) (sCap:=cap0) O (c:=B) q.len (fun h=>by rw[q.none h] at q;exact ah (by simpa using q.len)) q.cell q.one E a4
     have a5:=app_rel al q
     have bj:(n+ct new) * k<=cap0 * k:=am _ E
     rw[aq] at bj
     have a6:ct J=ct new * k:=q.len
     have b7:ct us0=n * k:=by rw[al.len,ai]
     have hA:=Rs.reown (k:=k) (base':=base+j * k) (es':=(es.drop j).take n++new) (arr':=(arr.toList.take (base+j * k+n * k)++J++arr.toList.drop (base+j * k+n * k+ct J)).toArray) hR.toRs ac hp O a5.1 (by simp only[aM,ai,aX,cp,cq,bY,aq];omega) (fun i e' o x' he bk=>by
      obtain⟨u,hu,hr⟩:=a5.2 i e' o x' he bk;refine⟨u,?_,hr⟩;have bs:=D7 arr.toList J (base+j * k+n * k) (base+j * k+(i * k+o)) (by simp;omega);simp only[bS];rw[bs];by_cases cb:i * k+o<n * k;rw[if_neg (by omega)];rw[aH (by omega)] at hu; -- what stood there;obtain⟨arr2,ety2,hb2,_,hkk,hcs⟩:=G6 hR hσ hp;rw[hbk] at hb2;cases hb2;have hi:i<n:=by rcases az i n with h|h;exact h;have:=am k h;omega
      have ab:=al.cell _ rfl _ u hu;rw[G3,U2 O] at ab;simpa using ab;rw[aE (by omega)] at hu;have cc:=(lG.1 hu).1;rw[if_pos (by omega),show base+j * k+(i * k+o) - (base+j * k+n * k)=i * k+o - (ct us0) by omega];exact hu)
     refine⟨_,_,_,by rw[F],?_,hR.of hA.1 hA.2⟩
     refine P3 (k:=k) (es:=(es.drop j).take n++new) (by rw[<- c9.length_put σv id none];exact c9.get_last _ _) rfl (.inr ⟨b,base+j * k,cap0,_,ety,_,by simp,rfl,fun _=>by simp,E,U,by simp[ai],setRow_heap w b arr _ ety (0,0) O,?_⟩)
     simp only[aX,aM,cp,cq,bY,aR]
     omega
    · -- no room at all, and nothing is appended
     have h0:cap0=0:=by omega
     subst h0
     have bv:n=0:=by omega
     have aa:new=[]:=ah (by omega)
     subst aa
     subst bv
     have F:(Builtin.append_ #[t,t] ty #[.slice (some ad) 0 0,.slice b' 0 B]).run P w=.ok (.slice (some ad) 0 0) w:=by have hf:=ad9 (P:=P) w (size:=k) (cap:=B) (b:=b') (n:=0) (us:=J) q.len (fun h=>ah (by simpa using q.len)) q.cell;have a6:J=[]:=ah (by simpa using q.len);subst a6;simp[Builtin.append_,run_underlying ht.h,s9 (t:=e),Builtin.lenOf,hf,storeCells]
     have hA:=Rs.reown (k:=k) (base':=base+j * k) (es':=[]) (arr':=arr) hR.toRs ac hp O (fun i e' he=>by simp at he) (by simp;rw[aq] at av;omega) (fun i e' o x' he=>by simp at he)
     rw[setRow_self w b arr ety (0,0) O] at hA
     refine⟨.slice (some ad) 0 0,w,(fun i=>if i=(ct σv,[]) then some (b,base+j * k) else φ i),by rw[show([]:List (List C)).length=0 from rfl,F],?_,?_⟩
     ·simp only[bt,bc]
      exact P3 (k:=k) (es:=[]) (by rw[<- c9.length_put σv id none];exact c9.get_last _ _) rfl (.inr ⟨b,base+j * k,0,arr,ety,ad,by simp,rfl,fun h=>by omega,by simp,by simp[maxLen],by simp,O,by simp;rw[aq] at av;omega⟩)
     ·simp only[bt,bc]
      exact hR.of hA.1 hA.2
  ·have U:n+ct new<=maxLen:=by
    have b4:0<bytes:=by simpa using a8
    have:n+ct new<=(n+ct new) * bytes:=bK _ b4;simp only[maxLen];omega
   obtain⟨v',w',φ',g1,g2,g3⟩:=append_new (P:=P) (t:=t) (e:=e) (ty':=ty) hR a7 (cap0:=cap0) al ai (c:=B) q (Nat.not_le.1 E) hb U (σv.put id none) (fun φ w h=>h.kill id) (by simp)
   exact⟨v',w',φ',by rw[g1],g2,g3⟩
def AOps.append{x y:Od}{t e:Ti}{k bytes:Nat}{z:Vl}{id:Id}{j n:Nat}{es new:List (List C)}{v:T}[ht:TyD P t (.slice e)][hs:TyS P e k bytes z](u:(z.cells.size==k)=true)(B:aN 0 bytes=true)
  (hx:ev env x=some (.c (.own id j n))) (E:σv[id]? =some (some (.cells k es))) (hy:ev env y=some v) (q:Src σv k v new) (F:(n+ct new) * bytes<=140737488355328) (hd:j6 sz dst=true)
  (h:AOps P σ0 sz ops Q rest ((St.mk env (σv.put id none++[.one (.cells k ((es.drop j).take n++new))])).put dst (.c (.own (ct σv,[]) 0 (n+ct new))))):
  AOps P σ0 sz ops Q (⟨dst,.call ⟨.builtin .append,#[x,y],#[t,t]⟩,ty,pos,after,none⟩::rest) (St.mk env σv):=
 .valueW rfl hd _ _ (fun Γ φ a w J=>by obtain⟨N,w',φ',g1,O,U⟩:=append_R (P:=P) (t:=t) (e:=e) (ty:=ty) u B hx E hy q F J;refine⟨N,w',φ',?_,O,U⟩;simp[execOp,resolve,invoke,builtin,g1]) h
end
end Ab
end
section
namespace Ab
open Go
section
variable {P:Program}{σ0:c9}{sz:Nat}{Q:Post}{env:Env}{σv:c9}{ops:Array Oper}{rest:List Oper}{dst:Option Nat}{ty:Ti}{pos:String}{after:Array Edge}
def AOps.appendNil{x y:Od}{t e:Ti}{k bytes:Nat}{z:Vl}{new:List (List C)}{v:T}[ht:TyD P t (.slice e)][hs:TyS P e k bytes z](N:(z.cells.size==k)=true)(O:aN 0 bytes=true)
  (hx:ev env x=some (.c (.imm (.val (.slice none 0 0))))) (hy:ev env y=some v) (B:Src σv k v new) (hb:ct new * bytes<=140737488355328) (hd:j6 sz dst=true)
  (h:AOps P σ0 sz ops Q rest (St.mk (putE env dst (.c (.own (ct σv,[]) 0 (ct new)))) (σv++[.one (.cells k new)]))):
  AOps P σ0 sz ops Q (⟨dst,.call ⟨.builtin .append,#[x,y],#[t,t]⟩,ty,pos,after,none⟩::rest) (St.mk env σv):=
 .valueW rfl hd _ _ (fun Γ φ a w E=>by
  obtain⟨U,q,aa,ab,u⟩:=B.shows E hy;have ac:=D8 E hx;have ex:(execOp a.eval ⟨dst,.call ⟨.builtin .append,#[x,y],#[t,t]⟩,ty,pos,after,none⟩).run P w=((Builtin.append_ #[t,t] ty #[.slice none 0 0,.slice U (ct new) q]).run P w).andThen fun v w=>.ok (.value v) w:=by simp[execOp,resolve,invoke,builtin,ac,ab]
  rw[ex];by_cases hn:new=[];subst hn;obtain⟨ad,ai⟩:=E.toRs.virt k;have F:(Builtin.append_ #[t,t] ty #[.slice none 0 0,.slice U 0 q]).run P w=.ok (.slice none 0 0) w:=by have hf:=ad9 (P:=P) w (size:=k) (cap:=q) (b:=U) (n:=0) (us:=aa) u.len (fun h=>ah (by simpa using u.len)) u.cell;simp[Builtin.append_,run_underlying ht.h,s9 (t:=e),Builtin.lenOf,hf]
  exact⟨.slice none 0 0,w,(fun i=>if i=(ct σv,[]) then none else φ i),by rw[show([]:List (List C)).length=0 from rfl,F];rfl,P3 (k:=k) (es:=[]) (c9.get_last _ _) rfl (.inl ⟨by simp,rfl,rfl,rfl⟩),E.of ad ai⟩;have an:0<ct new:=List.length_pos_iff.2 hn;have J:0+ct new<=maxLen:=by
   have al:0<bytes:=by simpa using O
   have:ct new<=ct new * bytes:=bK _ al;simp only[maxLen];omega
  obtain⟨v',w',φ',g1,g2,g3⟩:=append_new (P:=P) (t:=t) (e:=e) (ty':=ty) E N (n:=0) (cap0:=0) (old:=[]) (us0:=[]) (b0:=none) ⟨by simp,fun _=>rfl,fun _ h=>by simp at h,fun j e h=>by simp at h,fun j e o x h=>by simp at h⟩ rfl (c:=q) u (by omega) (by simpa using hb) J σv (fun φ w h=>⟨Kept.refl _ _ _ _,h⟩) rfl;simp only[aR,bO] at g2 g3;exact⟨v',w',φ',by rw[g1];rfl,g2,g3⟩) h
def AOps.lit1 {x : Od} {t e : Ti} {k bytes : Nat} {z : Vl} {v : T} {cs : List C} [ht : TyD P t (.slice e)] [hs : TyS P e k bytes z] (hzk : (z.cells.size == k) = true) (hks : ba k 16777216 = true) (hkp : aN 0 k = true) (hx : ev env x = some v) (hc : aa7 v = some cs) (hl : (ct cs) = k) (hd : j6 sz dst = true)
    (h : AOps P σ0 sz ops Q rest (St.mk (putE env dst (.c (.own (ct σv, []) 0 1))) (σv ++ [.one (.cells k [cs])]))) :
    AOps P σ0 sz ops Q (⟨dst, .buildSlice t 1 #[(0, x)], ty, pos, after, none⟩ :: rest) (St.mk env σv) :=
  .valueW rfl hd _ _ (fun Γ φ a w hR => by
    obtain ⟨h1, h2⟩ := R4 (k7 hR hx) hc;have hz : z.cells.size = k := by simpa using hzk
    have hk0 : k ≠ 0 := by have : 0 < k := by simpa using hkp
                           omega
    have hk1 : ¬ (16777216 < k) := by have : k <= 16777216 := aA hks
                                      omega
    have hfold : ∀ (l : List Vl) (p : Nat) (base : Array Vl), p + (ct l) <= base.size -> ((l.zipIdx p).foldl (fun cs (c, j) => cs.setIfInBounds (0 + j) c) base).size = base.size /\
        ∀ i, ((l.zipIdx p).foldl (fun cs (c, j) => cs.setIfInBounds (0 + j) c) base)[i]? = if p <= i /\ i < p + (ct l) then l[i - p]? else base[i]? := by
      intro l
      induction l with
      | nil => intro p base _; exact ⟨rfl, fun i => by simp; omega⟩
      | cons c l ih =>
        intro p base hp
        simp only [ax] at hp
        simp only [cr, List.foldl_cons]
        obtain ⟨g1, g2⟩ := ih (p + 1) (base.setIfInBounds (0 + p) c) (by simp; omega)
        refine ⟨by rw [g1]; simp, fun i => ?_⟩
        rw [g2]
        by_cases hi : p + 1 <= i /\ i < p + 1 + (ct l)
        · rw [if_pos hi, if_pos (by simp; omega)]
          rw [show i - p = (i - (p + 1)) + 1 by omega]
          simp
        · rw [if_neg hi]
          by_cases hp' : i = p
          · subst hp'
            rw [if_pos (by simp)]
            have hb : i < base.size := by omega
            simp [hb]
          · rw [if_neg (by simp; omega)]
            simp [bu]; omega
    generalize hu : a.eval x = u at h1 h2;generalize hbase : (Array.range k).map (fun i => z.cells[i % z.cells.size]!) = base;have hbs : base.size = k := by rw [<- hbase]; simp
    have hsz : (ct u.cells.toList) = k := by simp [h1, hl]
    obtain ⟨f1, f2⟩ := hfold u.cells.toList 0 base (by omega);generalize hfin : (u.cells.toList.zipIdx 0).foldl (fun cs (c, j) => cs.setIfInBounds (0 + j) c) base = fin at f1 f2;have hfin' : u.cells.zipIdx.foldl (fun cs (c, j) => cs.setIfInBounds (0 + j) c) base = fin := by rw [<- hfin, <- ce, bZ]
    have hA := Rs.alloc (k := k) (es := [cs]) (arr := fin) (ety := e) hR.toRs (fun j e he => by
      match j with
      | 0 => cases he; exact hl
      | j + 1 => simp at he) (by simp; omega) (fun j e o x he hx => by
      match j with
      | 0 =>
        cases he
        obtain ⟨v, hv, hr⟩ := h2 o x hx
        have ho := (lG.1 hx).1
        refine ⟨v, ?_, hr⟩
        rw [f2, if_pos (by omega)]
        simpa using hv
      | j + 1 => simp at he)
    refine ⟨.slice (some ⟨w.heap.size, 0, none⟩) 1 1, _, _, ?_, P3 (k := k) (es := [cs]) (c9.get_last _ _) rfl (.inr ⟨w.heap.size, 0, 1, fin, e, _, by simp [w9], rfl, fun _ => by simp, by simp, by simp [maxLen], by simp, heap_alloc_new w _, by simp; omega⟩), hR.of hA.1 hA.2⟩;have hfill : Instr.fill (fun i => some (i * k, k)) base [(0, u)] = some fin := by simp only [Instr.fill];rw [if_neg (by simp [h1, hl, hbs])];simp only [Nat.zero_mul];rw [hfin']
    simp [execOp, Instr.buildSlice, run_underlying ht.h, s9 (t := e), H4 (t := e), hk0, hk1, hu, hbase, hfill, newRow]) h
def AOps.make{x y:Od}{t e:Ti}{k bytes:Nat}{z:Vl}{kk E:IntKind}{n:Int}{v:T}{cs:List C}[ht:TyD P t (.slice e)][hs:TyS P e k bytes z](hz:ac7 z=some v)(hc:aa7 v=some cs)(U:(ct cs==k)=true)
  (hx:ev env x=some (.c (.imm (.val (.int kk n))))) (hy:ev env y=some (.c (.imm (.val (.int E n))))) (hn:0<=n) (F:n<=9223372036854775807) (hb:(bytes:Int) * n<=281474976710656) (hd:j6 sz dst=true)
  (h:AOps P σ0 sz ops Q rest (St.mk (putE env dst (.c (.own (ct σv,[]) 0 n.toNat))) (σv++[.one (.cells k (bw n.toNat cs))]))):
  AOps P σ0 sz ops Q (⟨dst,.makeSlice t x y,ty,pos,after,none⟩::rest) (St.mk env σv):=
 .valueW rfl hd _ _ (fun Γ φ a w O=>by
  obtain⟨i,aa,ab,ac,ad⟩:=hs.h;have q:=run_make (P:=P) w t e i z ht.h aa ad kk E n n hn (Int.le_refl _) (by rw[ac];exact hb) F;obtain⟨h1,h2⟩:=R4 (w:=w) (φ:=φ) (σ:=σv) (A:=Al Γ.N φ σv) (Y9 hz) hc;have hk:ct cs=k:=by simpa using U
  rw[ab] at q;have hA:=Rs.alloc (k:=k) (es:=bw n.toNat cs) (arr:=madeCells z.cells (n.toNat * k)) (ety:=e) O.toRs (fun j e B=>by
   rw[bL] at B;split at B<;>cases B;exact hk) (by simp[size_madeCells]) (fun j e o x B hx=>by
   rw[bL] at B;split at B;rename_i hj;cases B;obtain⟨u,hu,hr⟩:=h2 o x hx;have ho:o<k:=by rw[<- hk];exact(lG.1 hx).1
   refine⟨u,?_,hr⟩;have:(j+1) * k<=n.toNat * k:=am _ hj;rw[aq,bl] at this;have ai:z.cells.size=k:=by rw[h1,hk]
   have em:(j * k+o) % k=o:=by rw[aZ,Nat.mul_add_mod,Nat.mod_eq_of_lt ho]
   simp only[madeCells,Array.getElem?_map,Array.getElem?_range,ai];rw[if_pos (by omega)];simp only[aJ,em];have J:o<z.cells.size:=by omega
   rw[Array.getElem?_eq_getElem J] at hu;simp[getElem!_pos,J,Option.some.inj hu];cases B)
  refine⟨.slice (some ⟨w.heap.size,0,none⟩) n.toNat n.toNat,w.alloc (.cells (madeCells z.cells (n.toNat * k)) e),w9 (ct σv) φ w.heap.size,by simp[execOp,D8 O hx,D8 O hy,q],?_,O.of hA.1 hA.2⟩;refine P3 (k:=k) (es:=bw n.toNat cs) (c9.get_last _ _) rfl (.inr ⟨w.heap.size,0,n.toNat,_,e,_,by simp[w9],rfl,fun _=>by simp,aL _,by simp only[maxLen];omega,by simp,heap_alloc_new w _,by simp[size_madeCells]⟩)) h
/-! ### A slice of a slice -/
def ai6(w:World){y:Nat}{c:BoundsCode}{kk:IntKind}{i:Int}(h:0<=i/\i<=y):(Instr.sliceBound (.int kk i) y c).run P w=.ok i.toNat w:=by simp[Instr.sliceBound,asIntOf,h]
def AOps.slice{x l r:Od}{t e:Ti}{k bytes:Nat}{z:Vl}{kk J:IntKind}{lo hi:Int}{es:List (List I)}[ht:TyD P t (.slice e)][hs:TyS P e k bytes z]
  (hx:ev env x=some (.c (.imm (.sl k es)))) (hl:ev env l=some (.c (.imm (.val (.int kk lo))))) (hr:ev env r=some (.c (.imm (.val (.int J hi))))) (hb:0<=lo/\lo<=hi/\hi<=ct es) (hd:j6 sz dst=true)
  (h:AOps P σ0 sz ops Q rest (St.mk (putE env dst (.c (.imm (.sl k ((es.take hi.toNat).drop lo.toNat))))) σv)):AOps P σ0 sz ops Q (⟨dst,.slice t x (some l) (some r) none,ty,pos,after,none⟩::rest) (St.mk env σv):=
 .value rfl hd _ (fun Γ φ a w hR=>by
  have q:=k7 hR hx;generalize hu:a.eval x=u at q;have key:∀(b:Option Addr) (n cap:Nat),u=.slice b n cap->hi<=cap->(execOp a.eval ⟨dst,.slice t x (some l) (some r) none,ty,pos,after,none⟩).run P w=.ok (.value (.slice (if cap=lo.toNat then b else b.map (·.add (lo.toNat * k))) (hi.toNat - lo.toNat) (cap - lo.toNat))) w:=fun b n cap e1 O=>by have ab:=ai6 (P:=P) w (y:=cap) (c:=.sliceAcap) (kk:=J) (i:=hi) (by omega);have ac:=ai6 (P:=P) w (y:=hi.toNat) (c:=.sliceB) (kk:=kk) (i:=lo) (by omega);simp[execOp,hu,e1,D8 hR hl,D8 hR hr,Instr.sliceAt,Instr.slice,Instr.sliceBounds,run_underlying ht.h,s9 (t:=e),ab,ac]
  have B:((es.take hi.toNat).drop lo.toNat).length=hi.toNat - lo.toNat:=by simp;omega
  cases q with|c q=>cases q with|imm q=>cases q with
   |slNil=>
    have h0:hi=0:=by simp at hb;omega
    have h1:lo=0:=by omega
    subst h0 h1
    refine⟨.slice none 0 0,by rw[key none 0 0 rfl (by omega)];simp,.c (.imm (by simpa using .slNil))⟩
   |@sl _ _ ad cap us O an hk hc hr=>
    have ai:hi<=cap:=by omega
    rw[key _ _ _ rfl ai]
    refine⟨_,rfl,.c (.imm ?_)⟩
    rw[<- B]
    have E:∀(j:Nat) (e:List I),((es.take hi.toNat).drop lo.toNat)[j]? =some e->es[lo.toNat+j]? =some e/\lo.toNat+j<hi.toNat:=fun j e v=>by rw[aw,au] at v;split at v;exact⟨v,‹_›⟩;cases v
    have U:∀F:Addr,(lo.toNat<cap->F=ad.add (lo.toNat * k))->RelI w (Al Γ.N φ σv) (.sl k ((es.take hi.toNat).drop lo.toNat)) (.slice (some F) ((es.take hi.toNat).drop lo.toNat).length (cap - lo.toNat)):=fun F al=>by refine .sl (fun j o=>us (lo.toNat+j) o) (by rw[B];omega) (by omega) (fun j e v=>hk _ _ (E j e v).1) (fun j e o x v hx=> ?_) (fun j e o x v hx=>hr _ _ _ _ (E j e v).1 hx);obtain⟨g1,g2⟩:=E j e v;have:=hc _ _ _ _ g1 hx;rw[al (by omega),ad0,add_add];rw[aq,aU] at this;exact this
    by_cases aa:cap=lo.toNat
    ·rw[if_pos aa];exact U ad (fun h=>by omega)
    ·rw[if_neg aa];exact U _ (fun _=>rfl)) h
def AOps.sliceOwn{x l r:Od}{t e:Ti}{k bytes:Nat}{z:Vl}{kk B:IntKind}{lo hi:Int}{id:Id}{j n:Nat}{es:List (List C)}[ht:TyD P t (.slice e)][hs:TyS P e k bytes z]
  (hx:ev env x=some (.c (.own id j n))) (v:σv[id]? =some (some (.cells k es))) (hl:ev env l=some (.c (.imm (.val (.int kk lo))))) (hr:ev env r=some (.c (.imm (.val (.int B hi))))) (hb:0<=lo/\lo<=hi/\hi<=n) (hd:j6 sz dst=true)
  (h:AOps P σ0 sz ops Q rest (St.mk (putE env dst (.c (.own id (j+lo.toNat) (hi.toNat - lo.toNat)))) σv)):AOps P σ0 sz ops Q (⟨dst,.slice t x (some l) (some r) none,ty,pos,after,none⟩::rest) (St.mk env σv):=
 .value rfl hd _ (fun Γ φ a w U=>by
  have E:=k7 U hx;have hid:id.1<ct σv:=c9.lt_of v;have O:=F8 E v;generalize hu:a.eval x=u at O;have key:∀(b:Option Addr) (n cap:Nat),u=.slice b n cap->hi<=cap->(execOp a.eval ⟨dst,.slice t x (some l) (some r) none,ty,pos,after,none⟩).run P w=.ok (.value (.slice (if cap=lo.toNat then b else b.map (·.add (lo.toNat * k))) (hi.toNat - lo.toNat) (cap - lo.toNat))) w:=fun b n cap e1 F=>by have aa:=ai6 (P:=P) w (y:=cap) (c:=.sliceAcap) (kk:=B) (i:=hi) (by omega);have ab:=ai6 (P:=P) w (y:=hi.toNat) (c:=.sliceB) (kk:=kk) (i:=lo) (by omega);simp[execOp,hu,e1,D8 U hl,D8 U hr,Instr.sliceAt,Instr.slice,Instr.sliceBounds,run_underlying ht.h,s9 (t:=e),aa,ab]
  rcases O with⟨h1,h2,h3,h4⟩|⟨b,base,cap,arr,ety,ad,hp,O,ac,F,av,ay,ai,al⟩;subst h3 h4;have h0:hi=0:=by omega
  have an:lo=0:=by omega
  subst h0 an;exact ⟨.slice none 0 0,by rw[key none 0 0 h2 (by omega)];simp,.c (.own hid rfl fun k' es' he=> (.inl ⟨h1,rfl,rfl,rfl⟩))⟩;rw[key _ _ _ O (by omega)];refine⟨_,rfl,.c (.own hid rfl fun k' es' he=> ?_)⟩;rw[v] at he;cases he;have J:∀q:Addr,(lo.toNat<cap->q=ad.add (lo.toNat * k))->U3 w (φ id) k (ct es) (j+lo.toNat) (hi.toNat - lo.toNat) (.slice (some q) (hi.toNat - lo.toNat) (cap - lo.toNat)):=fun q h'=>by refine .inr ⟨b,base,cap - lo.toNat,arr,ety,q,hp,rfl,fun hc=> ?_,by omega,by omega,by omega,ai,?_⟩;rw[h' (by omega),ac (by omega),G3,aq,aU];rw[show j+lo.toNat+(cap - lo.toNat)=j+cap by omega];exact al
  by_cases N:cap=lo.toNat;rw[if_pos N];exact J ad (fun h=>by omega);rw[if_neg N];exact J _ (fun _=>rfl)) h
/-! ### Function values -/
def evC(env:Env):List Od->Option (List C)
 |[]=>some []
 |x::r=>match ev env x,evC env r with
  |some (.c c),some cs=>some (c::cs)
  |_,_=>none
def evC_rel{e:Cx}{φ:Phi}{a:Act}{w:World}(j:R e sz (St.mk env σv) φ a w):∀{l:List Od} {cs:List C},evC env l=some cs->ct cs=ct l/\∀(i:Nat) (c:C),cs[i]? =some c->∃v,(l.map a.eval)[i]? =some v/\RelC w φ σv (Al e.N φ σv) c v
 |[],cs,h=>by cases h;exact⟨rfl,fun i c hi=>by simp at hi⟩
 |x::r,cs,h=>by
  simp only[evC] at h;split at h;rename_i B cs0 h1 h2;cases h;obtain⟨g1,q⟩:=evC_rel j h2;refine⟨by simp[g1],fun i c hi=> ?_⟩;match i with
  |0=>
   cases hi
   have hr:=k7 j h1
   generalize z:a.eval x=u at hr
   cases hr with|c hr=>exact⟨u,by simp[z],hr⟩
  |i+1=>simpa using q i c (by simpa using hi)
  cases h
def AOps.ad{f:FuncId}{l:List Od}{cs:List C}(hl:evC env l=some cs)(hd:j6 sz dst=true)
  (h:AOps P σ0 sz ops Q rest (St.mk (putE env dst (.c (.fn f cs))) σv)):AOps P σ0 sz ops Q (⟨dst,.makeFunc (.func f) #[] l.toArray,ty,pos,after,none⟩::rest) (St.mk env σv):=
 .value rfl hd _ (fun u φ a w e=>by
  obtain⟨g1,j⟩:=evC_rel e hl;refine⟨.func (.func f) #[] ((aj (ct cs)).map fun i=>((l.map a.eval)[i]?).getD Go.undef).toArray,?_,.c (.fn _ fun i c hi=> ?_)⟩;have:(aj (ct cs)).map (fun i=>((l.map a.eval)[i]?).getD Go.undef)=l.map a.eval:=by apply bE;intro i;by_cases hi:i<ct l;simp[g1,hi];simp[g1,hi]
  rw[this];simp[execOp,Instr.makeFunc];obtain⟨v,q,hr⟩:=j i c hi;rw[q];exact hr) h
/-! ### Conversions of integers -/
def AOps.convInt{x:Od}{src d:Ti}{k e:IntKind}{n:Int}{j:TypeDesc}[h1:TyD P src j][h2:TyD P d (.int e)](hx:ev env x=some (.c (.imm (.val (.int k n)))))(hd:j6 sz dst=true)
  (h:AOps P σ0 sz ops Q rest (St.mk (putE env dst (.c (.imm (.val (.int e (e.wrap n)))))) σv)):AOps P σ0 sz ops Q (⟨dst,.convert src d x,ty,pos,after,none⟩::rest) (St.mk env σv):=
 .value rfl hd _ (fun u φ a w q=>⟨.int e (e.wrap n),by simp[execOp,D8 q hx,convert,run_underlying h1.h,run_underlying h2.h,Conv.intToInt],.c (.imm (.val rfl))⟩) h
end
end Ab
end
section
namespace Ab
open Go
section
variable {P:Program}{σ0:c9}{sz:Nat}{Q:Post}{env:Env}{σv:c9}{ops:Array Oper}{rest:List Oper}{dst:Option Nat}{ty:Ti}{pos:String}{after:Array Edge}
def evs_rel{e:Cx}{φ:Phi}{a:Act}{w:World}(j:R e sz (St.mk env σv) φ a w):∀{l:List Od} {ts:List T},evs env l=some ts->ct ts=ct l/\∀(i:Nat) (t:T) (u:Vl),ts[i]? =some t->(l.map a.eval)[i]? =some u->RelT w φ σv (Al e.N φ σv) t u
 |[],ts,h=>by cases h;exact⟨rfl,fun i t u hi=>by simp at hi⟩
 |x::r,ts,h=>by
  simp only[evs] at h;split at h;rename_i t0 q h1 h2;cases h;obtain⟨g1,v⟩:=evs_rel j h2;refine⟨by simp[g1],fun i t u hi c=> ?_⟩;match i with
  |0=>
   cases hi
   simp at c
   subst c
   exact k7 j h1
  |i+1=>exact v i t u (by simpa using hi) (by simpa using c)
  cases h
def fn_inv{w:World}{φ:Phi}{σ:c9}{A:Nat->Prop}{f:FuncId}{caps:List C}{u:Vl}(h:RelT w φ σ A (.c (.fn f caps)) u):∃vs:List Vl,u=.func (.func f) #[] vs.toArray/\(ct vs)=ct caps/\∀(i:Nat) (c:C) (v:Vl),caps[i]? =some c->vs[i]? =some v->RelC w φ σ A c v:=by
 cases h with|c h=>cases h with|fn us hr=>
  refine⟨_,rfl,by simp,fun i c v hi e=> ?_⟩
  rw[lM,oM] at e
  obtain⟨j,q,rfl⟩:=e
  obtain⟨_,rfl⟩:=R2 q
  exact hr i c hi
def aq5{E:Cx}{φ:Phi}{a:Act}{w:World}(F:R E sz (St.mk env σv) φ a w){x:Od}{h:List Od}{ats:Array Ti}{f:FuncId}{caps:List C}{ts:List T}(hx:ev env x=some (.c (.fn f caps)))(O:evs env h=some ts)
  (v : ∃ fn, P.funcs[f]? = some fn /\ (fn.name == "runtime.NumGoroutine")=false/\fn.body.isNone=false):
  ∃vs:List Vl,(execOp a.eval ⟨dst,.call ⟨.value x,h.toArray,ats⟩,ty,pos,after,none⟩).run P w=.ok (.enter f vs.toArray) w/\(ts++caps.map T.c).length=ct vs/\
   ∀(i:Nat) (t:T) (u:Vl),(ts++caps.map T.c)[i]? =some t->vs[i]? =some u->RelT w φ σv (Al E.N φ σv) t u:=by
 obtain⟨fn,h1,h2,J⟩:=v
 obtain⟨U,g1,g2,g3⟩:=fn_inv (k7 F hx)
 obtain⟨k1,k2⟩:=evs_rel F O
 refine⟨h.map a.eval++U,?_,by simp[k1,g2],fun i t u hi j=> ?_⟩
 ·have z:¬ fn.name= "runtime.NumGoroutine" :=by simpa using h2
  have B:¬ fn.body=none:=fun e=>by rw[e] at J;cases J
  simp[execOp,resolve,g1,Deferred.ofValue,invoke,callFunc,h1,z,B]
 ·rw[bo] at hi j
  by_cases q:i<ct ts
  ·rw[if_pos q] at hi
   rw[if_pos (by simp;omega)] at j
   exact k2 i t u hi j
  ·rw[if_neg q] at hi
   rw[if_neg (by simp;omega)] at j
   rw[lM,oM] at hi
   obtain⟨c,hc,rfl⟩:=hi
   simp only[bn,<- k1] at j
   exact .c (g3 _ c u hc j)
def AOps.callS{x:Od}{j:List Od}{ats:Array Ti}{f:FuncId}{caps:List C}{ts:List T}{z:T->c9->Prop}(hx:ev env x=some (.c (.fn f caps)))(E:evs env j=some ts)(hd:j6 sz dst=true)
  (hf:FnOk P f (ts++caps.map T.c) σv z) (h:∀r σ',z r σ'->AOps P σ0 sz ops Q rest ((St.mk env σ').put dst r)):
  AOps P σ0 sz ops Q (⟨dst,.call ⟨.value x,j.toArray,ats⟩,ty,pos,after,none⟩::rest) (St.mk env σv):=fun B φ a w u q ro=>by
  obtain⟨vs,h1,h2,F⟩:=aq5 (P:=P) (dst:=dst) (ty:=ty) (pos:=pos) (after:=after) (ats:=ats) q hx E hf.fn
  refine Y2 rfl (at4 h1 ?_)
  refine(hf.run ⟨w,B.N,φ,σv⟩ vs rfl q.toRs.down h2 F).mono ?_
  rintro e w' ⟨v,r,σ',φ',rfl,J,hr,hs⟩
  exact h r σ' J B φ' _ w' u ((q.of hs.kept (q.toRs.up hs)).put hd hr) ro
mutual
theorem C.ok_mono{m n:Nat}(h:m<=n):∀c:C,c.ok m=true->c.ok n=true
 | .imm _,_=>rfl
 | .own id _ _,e=>by simp only[C.ok,aC] at e ⊢;omega
 | .ptr id _ _,e=>by simp only[C.ok,aC] at e ⊢;omega
 | .fn _ caps,e=>C.okL_mono h caps e
 | .ifc _ cs _,e=>C.okL_mono h cs e
 | .map id,e=>by simp only[C.ok,aC] at e ⊢;omega
 | .fnb _ caps,e=>C.okL_mono h caps e
 | .yld id,e=>by simp only[C.ok,aC] at e ⊢;omega
theorem C.okL_mono{m n:Nat}(h:m<=n):∀l:List C,C.okL m l=true->C.okL n l=true
 |[],_=>rfl
 |c::r,e=>by simp only[C.okL,ap] at e ⊢;exact⟨C.ok_mono h c e.1,C.okL_mono h r e.2⟩
end
mutual
theorem T.ok_mono{m n:Nat}(h:m<=n):∀t:T,t.ok m=true->t.ok n=true
 | .c x,e=>C.ok_mono h x e
 | .agg cs,e=>C.okL_mono h cs e
 | .tup ts,e=>T.okL_mono h ts e
 | .undef,_=>rfl
theorem T.okL_mono{m n:Nat}(h:m<=n):∀l:List T,T.okL m l=true->T.okL n l=true
 |[],_=>rfl
 |x::r,hc=>by simp only[T.okL,ap] at hc ⊢;exact⟨T.ok_mono h x hc.1,T.okL_mono h r hc.2⟩
end
mutual
theorem C.ren_ok{m:Nat}{π:Id->Id}(h:∀i:Id,i.1<m->π i=i):∀c:C,c.ok m=true->c.ren π=c
 | .imm _,_=>rfl
 | .own id _ _,e=>by simp only[C.ok,aC] at e;simp only[C.ren,h id e]
 | .ptr id _ _,e=>by simp only[C.ok,aC] at e;simp only[C.ren,h id e]
 | .fn _ caps,e=>by simp only[C.ren,C.renL_ok h caps e]
 | .ifc _ cs _,e=>by simp only[C.ren,C.renL_ok h cs e]
 | .map id,e=>by simp only[C.ok,aC] at e;simp only[C.ren,h id e]
 | .fnb _ caps,e=>by simp only[C.ren,C.renL_ok h caps e]
 | .yld id,e=>by simp only[C.ok,aC] at e;simp only[C.ren,h id e]
theorem C.renL_ok{m:Nat}{π:Id->Id}(h:∀i:Id,i.1<m->π i=i):∀l:List C,C.okL m l=true->C.renL π l=l
 |[],_=>rfl
 |c::r,e=>by simp only[C.okL,ap] at e;simp only[C.renL,C.ren_ok h c e.1,C.renL_ok h r e.2]
end
mutual
theorem T.ren_ok{m:Nat}{π:Id->Id}(h:∀i:Id,i.1<m->π i=i):∀t:T,t.ok m=true->t.ren π=t
 | .c x,e=>by simp only[T.ren,C.ren_ok h x e]
 | .agg cs,e=>by simp only[T.ren,C.renL_ok h cs e]
 | .tup ts,e=>by simp only[T.ren,T.renL_ok h ts e]
 | .undef,_=>rfl
theorem T.renL_ok{m:Nat}{π:Id->Id}(h:∀i:Id,i.1<m->π i=i):∀l:List T,T.okL m l=true->T.renL π l=l
 |[],_=>rfl
 |x::r,hc=>by simp only[T.okL,ap] at hc;simp only[T.renL,T.ren_ok h x hc.1,T.renL_ok h r hc.2]
end
def Blk.ok_mono{m n:Nat}(h:m<=n)(b:Blk)(c:b.ok m=true):b.ok n=true:=by
 cases b with
 |cells k es=>simp only[Blk.ok,af] at c ⊢;exact fun l hl=>C.okL_mono h l (c l hl)
 |obj p cs=>exact C.okL_mono h cs c
def Blk.ren_ok{m:Nat}{π:Id->Id}(h:∀i:Id,i.1<m->π i=i)(b:Blk)(c:b.ok m=true):b.ren π=b:=by
 cases b with
 |cells k es=>
  simp only[Blk.ok,af] at c
  simp only[Blk.ren]
  congr 1
  conv=>rhs;rw[<- List.map_id es]
  exact bq fun l hl=>C.renL_ok h l (c l hl)
 |obj p cs=>simp only[Blk.ren,C.renL_ok h cs c]
def RelC.ok{w:World}{φ:Phi}{σ:c9}{A:Nat->Prop}{c:C}{v:Vl}(h:RelC w φ σ A c v):c.ok (ct σ)=true:=by
 induction h with
 |imm h=>rfl
 |own hid _ _=>simpa[C.ok] using hid
 |ptr hid _ _=>simpa[C.ok] using hid
 |fn us hr e=>
  simp only[C.ok,K6,af]
  intro x hx
  obtain⟨i,hi⟩:=ar hx
  exact e i x hi
 |ifcA us hr e=>
  simp only[C.ok,K6,af]
  intro x hx
  obtain⟨i,hi⟩:=ar hx
  exact e i x hi
 |ifc1 hr e=>simp only[C.ok,C.okL,e,Bool.and_self]
 |map hid _ _=>simpa[C.ok] using hid
 |fnb us hr e=>
  simp only[C.ok,K6,af]
  intro x hx
  obtain⟨i,hi⟩:=ar hx
  exact e i x hi
 |yld hid _ _=>simpa[C.ok] using hid
def RelT.ok{w:World}{φ:Phi}{σ:c9}{A:Nat->Prop}{t:T}{v:Vl}(h:RelT w φ σ A t v):t.ok (ct σ)=true:=by
 induction h with
 |c h=>exact h.ok
 |agg us hr=>
  simp only[T.ok,K6,af]
  intro x hx
  obtain⟨i,hi⟩:=ar hx
  exact(hr i x hi).ok
 |tup us hr e=>
  simp only[T.ok,aq9,af]
  intro x hx
  obtain⟨i,hi⟩:=ar hx
  exact e i x hi
 |undef=>rfl
def StR.okB{w:World}{φ:Phi}{σ:c9}{A:Nat->Prop}(h:StR w φ σ A){i:Id}{b:Blk}(hi:σ[i]? =some (some b)):b.ok (ct σ)=true:=by
 have c:=h.blk i b hi;cases b with
 |obj p cs=>
  simp only[Blk.ok,af,K6]
  intro x hx
  obtain⟨b,o,us,g1,z,B,e⟩:=c
  obtain⟨i,hi⟩:=ar hx
  obtain⟨u,_,hr⟩:=e i x hi
  exact hr.ok
 |cells k es=>
  simp only[Blk.ok,af,K6]
  intro l hl x hx
  rcases c with⟨_,h2⟩|⟨b,base,arr,ety,h1,h2,E,F,q⟩
  ·subst h2;simp at hl
  ·obtain⟨j,v⟩:=ar hl
   obtain⟨o,ho⟩:=ar hx
   obtain⟨u,_,hr⟩:=q j l o x v ho
   exact hr.ok
def AOps.callK{x:Od}{U:List Od}{ats:Array Ti}{f:FuncId}{caps:List C}{ts:List T}{Qc:T->c9->Prop}(hx:ev env x=some (.c (.fn f caps)))(ha:evs env U=some ts)(aa:T.okL 0 (ts++caps.map T.c)=true)(hd:j6 sz dst=true)
  (hf:FnOk P f (ts++caps.map T.c) [] Qc) (r:T) (z:c9) (ai:∀(i:Id) (b:Blk),z[i]? =some (some b)->b.ok (ct σv+z.length)=true)
  (hq:∀r' σ',Qc r' σ'->∃(π:Id->Id),(∀i:Id,i.1<ct σv->π i=i)/\(∀(i j:Id) (b b':Blk),(σv++z)[i]? =some (some b)->(σv++z)[j]? =some (some b')->π i=π j->i=j)/\r.ok (ct σv+z.length)=true/\r.ren π=r'.ren (sh (ct σv))/\
   ∀(i:Id) (b:Blk),z[i]? =some (some b)->ct σv<=(π (sh (ct σv) i)).1/\(σ'[unsh (ct σv) (π (sh (ct σv) i))]?).map (bT (Blk.ren (sh (ct σv))))=some (some (b.ren π)))
  (h:AOps P σ0 sz ops Q rest (St.mk (putE env dst r) (σv++z))):
  AOps P σ0 sz ops Q (⟨dst,.call ⟨.value x,U.toArray,ats⟩,ty,pos,after,none⟩::rest) (St.mk env σv):=fun E φ a w al O ro=>by
  obtain⟨vs,h1,h2,h3⟩:=aq5 (P:=P) (dst:=dst) (ty:=ty) (pos:=pos) (after:=after) (ats:=ats) O hx ha hf.fn
  refine Y2 rfl (at4 h1 ?_)
  refine(hf.run (E.bare φ σv w) vs rfl (good_bare E φ σv w) h2 (fun i t u hi hu=> ?_)).mono ?_
  ·have B:Back w φ (fun _=>none) σv [] (Al E.N φ σv) (Al (E.bare φ σv w).N (fun _=>none) []) (fun i=>i):=⟨fun b B _=>bare_al B,fun i b hi=>by simp at hi⟩
   rw[aq9,af] at aa
   exact(show RelT w φ σv (Al E.N φ σv) (t.ren fun i=>i) u by rw[T.ren_id];exact h3 i t u hi hu).back B (aa t (ak hi))
  ·rintro e w' ⟨v,r',σ',φ',rfl,an,hr,hs⟩
   obtain⟨av,hF,ay⟩:=O.toRs.upBare hs
   obtain⟨π,p1,p2,p4,p5,p6⟩:=hq r' σ' an
   have a2:=(O.of av ay).put hd (hr.fwd hF)
   have ab:Sub E.σ0 (St.put ⟨env,σv++σ'.mapB (Blk.ren (sh (ct σv)))⟩ dst (r'.ren (sh (ct σv)))) ⟨putE env dst r,σv++z⟩:=by
    have ac:∀(t:Nat) (v:T),lookup t env=some v->v.ok (ct σv)=true:=fun t v ht=>by obtain⟨u,_,hr⟩:=O.env t v ht;exact hr.ok
    have F:=O.kept.len;refine Sub.mk π (fun i hi=>p1 i (ag hi F)) (by simp;exact aQ F (Nat.le_add_right _ _)) (fun i j b b' hi hj he=>p2 i j b b' hi hj he) (fun i b hi=> ?_) (fun t v ht=> ?_);dsimp only at hi ⊢;rcases az i.1 (ct σv) with q|q;rw[c9.get_left q] at hi;have B:=O.st.okB hi;refine⟨Blk.ok_mono (by simp) b B,?_⟩;rw[p1 i q,Blk.ren_ok p1 b B];simp only[St.put];rw[c9.get_left q];exact hi;rw[c9.get_right q] at hi;refine⟨by rw[aM];exact ai _ b hi,?_⟩;obtain⟨ad,hp⟩:=p6 _ b hi;have e:sh (ct σv) (i.1 - (ct σv),i.2)=i:=sh_unsh q;rw[e] at ad hp;simp only[St.put];rw[c9.get_right ad,c9.get_map];exact hp;simp only[St.put];have rest:∀v,lookup t env=some v->v.ok (σv++z).length=true/\lookup t env=some (v.ren π):=fun v hv=>by have B:=ac t v hv;exact⟨T.ok_mono (by simp) v B,by rw[T.ren_ok p1 v B];exact hv⟩
    cases J:dst with
    |none=>rw[J] at ht;exact rest v ht
    |some d=>
     rw[J] at ht
     simp only[putE,lookup] at ht ⊢
     split at ht
     ·cases ht
      exact⟨by simpa using p4,by rw[p5]⟩
     ·exact rest v ht
   obtain⟨a3,a4⟩:=ab E sz _ _ _ rfl a2
   exact h E a3 _ w' al a4 ro
def j9(P:Program)(f:FuncId)(args:List T)(r:T):Prop:=FnOk P f args [] fun c _=>c=r
def AOps.E{x:Od}{e:List Od}{ats:Array Ti}{f:FuncId}{caps:List C}{ts:List T}{r:T}(hx:ev env x=some (.c (.fn f caps)))(v:evs env e=some ts)(q:T.okL 0 (ts++caps.map T.c)=true)(hd:j6 sz dst=true)
  (hf:j9 P f (ts++caps.map T.c) r) (hr:r.ok 0=true) (h:AOps P σ0 sz ops Q rest (St.mk (putE env dst r) σv)):
  AOps P σ0 sz ops Q (⟨dst,.call ⟨.value x,e.toArray,ats⟩,ty,pos,after,none⟩::rest) (St.mk env σv):=
 .callK hx v q hd hf r [] (fun i b hi=>by simp at hi) (fun u σ' h1=>by subst h1;refine⟨fun i=>i,fun _ _=>rfl,fun i j _ _ _ _ h=>h,T.ok_mono (by simp) u hr,?_,fun i b hi=>by simp at hi⟩;rw[T.ren_id,T.ren_ok (m:=0) (fun i hi=>by omega) u hr]) (by rw[bc];exact h)
def Blk.im(k:Nat)(es:List (List I)):Blk:=.cells k (es.map (·.map .imm))
def renL_imm(π:Id->Id)(l:List I):C.renL π (l.map .imm)=l.map .imm:=by
 induction l with
 |nil=>rfl
 |cons x l c=>simp only[bz,C.renL,C.ren,c]
def Blk.im_ren(π:Id->Id)(k:Nat)(es:List (List I)):(Blk.im k es).ren π=Blk.im k es:=by simp only[Blk.im,Blk.ren,List.map_map];congr 1;exact bq fun l _=>renL_imm π l
def okL_imm(m:Nat)(l:List I):C.okL m (l.map .imm)=true:=by
 induction l with
 |nil=>rfl
 |cons x l c=>simp only[bz,C.okL,C.ok,c,Bool.and_self]
def Blk.im_ok(m k:Nat)(es:List (List I)):(Blk.im k es).ok m=true:=by simp only[Blk.im,Blk.ok,List.all_map,af];exact fun l _=>okL_imm m l
def v6(P:Program)(f:FuncId)(args:List T)(k:Nat)(es:List (List I)):Prop:=FnOk P f args [] fun e σ'=>∃id,e=.c (.own id 0 (ct es))/\σ'[id]? =some (some (Blk.im k es))
def AOps.fresh{x:Od}{u:List Od}{ats:Array Ti}{f:FuncId}{caps:List C}{ts:List T}{k:Nat}{es:List (List I)}(hx:ev env x=some (.c (.fn f caps)))(E:evs env u=some ts)(B:T.okL 0 (ts++caps.map T.c)=true)(hd:j6 sz dst=true)
  (hf:v6 P f (ts++caps.map T.c) k es) (h:AOps P σ0 sz ops Q rest (St.mk (putE env dst (.c (.own (ct σv,[]) 0 (ct es)))) (σv++[.one (Blk.im k es)]))):
  AOps P σ0 sz ops Q (⟨dst,.call ⟨.value x,u.toArray,ats⟩,ty,pos,after,none⟩::rest) (St.mk env σv):=
 .callK hx E B hd hf (.c (.own (ct σv,[]) 0 (ct es))) [.one (Blk.im k es)] (fun i b hi=>by rcases c9.get_new (σ:=[]) hi with⟨h1,_⟩|⟨_,rfl⟩;simp at h1;exact Blk.im_ok _ k es) (fun J σ' h1=>by
  obtain⟨id,rfl,hid⟩:=h1
  refine⟨fun i=>if i.1<ct σv then i else sh (ct σv) id,fun i hi=>if_pos hi,fun i j b N hi F q=> ?_,by simp[T.ok,C.ok],?_,fun i b hi=> ?_⟩
  ·dsimp only at q
   rcases c9.get_new hi with⟨v,_⟩|⟨rfl,_⟩<;>rcases c9.get_new F with⟨z,_⟩|⟨rfl,_⟩
   ·rwa [if_pos v,if_pos z] at q
   ·rw[if_pos v,if_neg (aP _)] at q
    rw[q] at v
    simp[sh] at v
    omega
   ·rw[if_pos z,if_neg (aP _)] at q
    rw[<- q] at z
    simp[sh] at z
    omega
   ·rfl
  ·simp only[T.ren,C.ren]
   rw[if_neg (aP _)]
  ·rcases c9.get_new (σ:=[]) hi with⟨h1,_⟩|⟨rfl,rfl⟩
   ·simp at h1
   ·have e:¬ (sh (ct σv) (([]:c9).length,[])).1<ct σv:=by simp[sh]
    simp only[if_neg e]
    refine⟨by simp[sh],?_⟩
    rw[unsh_sh,hid]
    simp only[aJ,Blk.im_ren]) h
/-! ### What is owned ceases to change -/
def lbeq:List Nat->List Nat->Bool
 |[],[]=>true
 |a::l,b::m=>aG a b && lbeq l m
 |_,_=>false
def idb(i j:Id):Bool:=aG i.1 j.1 && lbeq i.2 j.2
def lbeq_iff:∀{l m:List Nat},lbeq l m=true↔l=m
 |[],[]=>by simp[lbeq]
 |[],_::_=>by simp[lbeq]
 |_::_,[]=>by simp[lbeq]
 |a::l,b::m=>by simp[lbeq,lbeq_iff]
def G8{i j:Id}:idb i j=true↔i=j:=by obtain⟨a,l⟩:=i;obtain⟨b,m⟩:=j;simp[idb,lbeq_iff]
def E3{i j:Id}(h:i ≠ j):idb i j=false:=by
 cases c:idb i j with
 |false=>rfl
 |true=>exact absurd (G8.1 c) h
mutual
def C.frz(id:Id)(k:Nat)(es:List (List I)):C->C
 | .imm x=>.imm x
 | .own i j n=>if idb i id=true then .imm (.sl k ((es.drop j).take n)) else .own i j n
 | .ptr i j o=>if idb i id=true then(match es[j]? with|some e=>.imm (.ipt (e.drop o))|none=>.ptr i j o) else .ptr i j o
 | .fn f caps=>.fn f (C.frzL id k es caps)
 | .ifc t cs b=>.ifc t (C.frzL id k es cs) b
 | .map i=>.map i
 | .fnb f caps=>.fnb f (C.frzL id k es caps)
 | .yld i=>.yld i
def C.frzL(id:Id)(k:Nat)(es:List (List I)):List C->List C
 |[]=>[]
 |c::r=>C.frz id k es c::C.frzL id k es r
end
mutual
def T.frz(id:Id)(k:Nat)(es:List (List I)):T->T
 | .c x=>.c (x.frz id k es)
 | .agg cs=>.agg (C.frzL id k es cs)
 | .tup ts=>.tup (T.frzL id k es ts)
 | .undef=>.undef
def T.frzL(id:Id)(k:Nat)(es:List (List I)):List T->List T
 |[]=>[]
 |t::r=>T.frz id k es t::T.frzL id k es r
end
def U1(id:Id)(k:Nat)(es:List (List I)):∀l:List C,C.frzL id k es l=l.map (C.frz id k es)
 |[]=>rfl
 |c::r=>by rw[C.frzL,U1 id k es r];rfl
def TfrzL_eq(id:Id)(k:Nat)(es:List (List I)):∀l:List T,T.frzL id k es l=l.map (T.frz id k es)
 |[]=>rfl
 |c::r=>by rw[T.frzL,TfrzL_eq id k es r];rfl
def RelC.frz{Γ:Cx}{σ:c9}{φ:Phi}{w:World}(hs:Rs Γ σ φ w){id:Id}{k:Nat}{es:List (List I)}(E:σ[id]? =some (some (Blk.im k es))){A':Nat->Prop}(F:Kept w w φ φ σ (σ.put id none) (Al Γ.N φ σ) A')(hA:∀b base,φ id=some (b,base)->A' b)
  {c:C} {v:Vl} (h:RelC w φ σ (Al Γ.N φ σ) c v):RelC w φ (σ.put id none) A' (c.frz id k es) v:=by
 induction h with
 |imm h=>exact RelC.mono F (.imm h)
 |@own i j n v hid h1 h=>
  simp only[C.frz]
  split
  ·rename_i e
   have e':=G8.1 e
   subst e'
   have U:=h k _ E
   rcases U with⟨g1,g2,g3,g4⟩|⟨b,base,cap,arr,ety,ad,hp,U,al,ay,aa,an,ab,a2⟩
   ·subst g2 g3 g4
    simpa using RelC.imm (.slNil)
   ·subst U
    rw[bn] at an
    have hb:=hs.st.blk _ _ E
    rcases hb with⟨h2,_⟩|⟨b',base',arr',ac,h2,h3,h4,h5,h6⟩
    ·rw[hp] at h2;cases h2
    rw[hp] at h2;cases h2
    rw[ab] at h3;cases h3
    have ai:((es.drop j).take n).length=n:=by simp;omega
    have J:∀(i:Nat) (e:List I),((es.drop j).take n)[i]? =some e->i<n/\es[j+i]? =some e:=fun i e z=>by rw[au] at z;split at z;rw[aw] at z;exact⟨‹_›,z⟩;cases z
    have cell:∀(i:Nat) (e:List I) (o:Nat) (x:I),((es.drop j).take n)[i]? =some e->e[o]? =some x->∃u,arr[base+((j+i) * k+o)]? =some u/\RelI w A' x u:=fun i e o x z hx=>by obtain⟨hi,av⟩:=J i e z;obtain⟨u,B,hr⟩:=h6 (j+i) (e.map .imm) o (.imm x) (by simp[av]) (by simp[hx]);cases hr with|imm hr=>exact⟨u,B,hr.mono (fun _ _ _=>rfl) F.all⟩
    have:RelI w A' (.sl k ((es.drop j).take n)) (.slice (some ad) ((es.drop j).take n).length cap):=by
     refine .sl (fun i o=>(arr[base+((j+i) * k+o)]?).getD Go.undef) (by omega) aa (fun i e z=> ?_) (fun i e o x z hx=> ?_) (fun i e o x z hx=> ?_);have:=h5 (j+i) (e.map .imm) (by simp[(J i e z).2]);simpa using this;obtain⟨u,B,hr⟩:=cell i e o x z hx;have hn:0<cap:=by have:=(J i e z).1;omega
     rw[al hn,G3,U2 ab,B];refine⟨hA b base hp,?_⟩;rw[show base+j * k+(i * k+o)=base+((j+i) * k+o) by rw[aq];omega];exact B;obtain⟨u,B,hr⟩:=cell i e o x z hx;rw[B];exact hr
    rw[ai] at this
    exact .imm this
  ·rename_i e
   exact RelC.mono F (.own hid h1 h)
 |@ptr i j o v hid h1 h=>
  simp only[C.frz]
  split
  ·rename_i e
   have e':=G8.1 e
   subst e'
   split
   ·rename_i e z
    obtain⟨b,base,hp,U⟩:=h k _ E
    subst U
    have hb:=hs.st.blk _ _ E
    rcases hb with⟨h2,_⟩|⟨b',base',arr',ac,h2,h3,h4,h5,h6⟩
    ·rw[hp] at h2;cases h2
    rw[hp] at h2;cases h2
    have cell:∀(q:Nat) (x:I),(e.drop o)[q]? =some x->∃u,arr'[base+(j * k+(o+q))]? =some u/\RelI w A' x u:=fun q x hx=>by rw[aw] at hx;obtain⟨u,B,hr⟩:=h6 j (e.map .imm) (o+q) (.imm x) (by simp[z]) (by simp[hx]);cases hr with|imm hr=>exact⟨u,B,hr.mono (fun _ _ _=>rfl) F.all⟩
    refine .imm (.ipt (fun q=>(arr'[base+(j * k+(o+q))]?).getD Go.undef) (fun q x hx=> ?_) (fun q x hx=> ?_))
    ·obtain⟨u,B,hr⟩:=cell q x hx
     rw[G3,U2 h3,B]
     refine⟨hA b base hp,?_⟩
     rw[show base+(j * k+o)+q=base+(j * k+(o+q)) by omega]
     exact B
    ·obtain⟨u,B,hr⟩:=cell q x hx
     rw[B];exact hr
   ·exact RelC.mono F (.ptr hid h1 h)
  ·exact RelC.mono F (.ptr hid h1 h)
 |@fn f caps us hr O=>
  have e:(C.frzL id k es caps).length=ct caps:=by rw[U1];simp
  simp only[C.frz]
  rw[<- e]
  refine .fn us fun i c hi=> ?_
  rw[U1,lM,oM] at hi
  obtain⟨x,hx,rfl⟩:=hi
  exact O i x hx
 |@ifcA t cs us hr O=>
  have e:(C.frzL id k es cs).length=ct cs:=by rw[U1];simp
  simp only[C.frz]
  rw[<- e]
  refine .ifcA us fun i c hi=> ?_
  rw[U1,lM,oM] at hi
  obtain⟨x,hx,rfl⟩:=hi
  exact O i x hx
 |ifc1 hr O=>exact .ifc1 O
 |map hid h1 h=>exact RelC.mono F (.map hid h1 h)
 |@fnb f caps us hr O=>
  have e:(C.frzL id k es caps).length=ct caps:=by rw[U1];simp
  simp only[C.frz]
  rw[<- e]
  refine .fnb us fun i c hi=> ?_
  rw[U1,lM,oM] at hi
  obtain⟨x,hx,rfl⟩:=hi
  exact O i x hx
 |yld hid h1 h=>exact RelC.mono F (.yld hid h1 h)
def RelT.frz{q:Cx}{σ:c9}{φ:Phi}{w:World}(hs:Rs q σ φ w){id:Id}{k:Nat}{es:List (List I)}(j:σ[id]? =some (some (Blk.im k es))){A':Nat->Prop}(u:Kept w w φ φ σ (σ.put id none) (Al q.N φ σ) A')(z:∀b base,φ id=some (b,base)->A' b)
  {c:T} {v:Vl} (h:RelT w φ σ (Al q.N φ σ) c v):RelT w φ (σ.put id none) A' (c.frz id k es) v:=by
 induction h with
 |c h=>exact .c (h.frz hs j u z)
 |@agg cs us hr=>
  have e:(C.frzL id k es cs).length=ct cs:=by rw[U1];simp
  simp only[T.frz]
  rw[<- e]
  refine .agg us fun i c hi=> ?_
  rw[U1,lM,oM] at hi
  obtain⟨x,hx,rfl⟩:=hi
  exact(hr i x hx).frz hs j u z
 |@tup ts us hr B=>
  have e:(T.frzL id k es ts).length=ct ts:=by rw[TfrzL_eq];simp
  simp only[T.frz]
  rw[<- e]
  refine .tup us fun i c hi=> ?_
  rw[TfrzL_eq,lM,oM] at hi
  obtain⟨x,hx,rfl⟩:=hi
  exact B i x hx
 |undef=>exact .undef
def Blk.frz(id:Id)(k:Nat)(es:List (List I)):Blk->Blk
 | .cells c es'=>.cells c (es'.map (C.frzL id k es))
 | .obj p cs=>.obj p (C.frzL id k es cs)
def St.frz(s:St)(id:Id)(k:Nat)(es:List (List I)):St:=⟨s.env.map fun p=>(p.1,p.2.frz id k es),(s.σ.put id none).mapB (Blk.frz id k es)⟩
def ak5(f:T->T)(t:Nat):∀env:Env,lookup t (env.map fun p=>(p.1,f p.2))=(lookup t env).map f
 |[]=>rfl
 |(k,v)::r=>by simp only[bz,lookup];split;rfl;exact ak5 f t r
def Sub.frz{σ0:c9}{s:St}(id:Id)(k:Nat)(es:List (List I))(hid:ct σ0<=id.1)(O:s.σ[id]? =some (some (Blk.im k es))):Sub σ0 s (s.frz id k es):=by
 intro U sz φ a w av B;subst av;obtain⟨hK,ay⟩:=B.toRs.kill id;generalize E:s.σ.put id none=σ1 at hK ay;have J:(s.frz id k es).σ=σ1.mapB (Blk.frz id k es):=by rw[<- E];rfl
 generalize ab:σ1.mapB (Blk.frz id k es)=σ2 at J;have F:∀(i:Id) (b:Blk),σ2[i]? =some (some b)->∃b0:Blk,σ1[i]? =some (some b0)/\b=b0.frz id k es:=fun i b hi=>by rw[<- ab] at hi;exact c9.get_map_some hi
 have z:∀(i:Id) b,σ1[i]? =some (some b)->i ≠ id/\s.σ[i]? =some (some b):=fun i b h=>by rw[<- E] at h;exact c9.get_kill h
 have A2:∀b,Al U.N φ σ1 b->Al U.N φ σ2 b:=fun b hb=>⟨hb.1,fun i blk base hi=>by obtain⟨b0,h1,_⟩:=F i blk hi;exact hb.2 i b0 base h1⟩;have aa:Kept w w φ φ σ1 σ2 (Al U.N φ σ1) (Al U.N φ σ2):=
  {imm:=fun _ _ _=>rfl,all:=fun b hb _=>A2 b hb,len:=by rw[<- ab];simp,
   cells:=fun i kk es' hi he=>by
    obtain⟨b0,h1,h2⟩:=F i _ he;cases b0 with
    |obj p cs=>cases h2
    |cells k0 ad=>
     simp only[Blk.frz,Blk.cells.injEq] at h2
     obtain⟨rfl,rfl⟩:=h2
     exact⟨ad,h1,by simp,rfl,fun b base arr ety hp hb=>⟨arr,hb,rfl⟩⟩,
   obj:=fun i p' a2 hi he=>by
    obtain⟨b0,h1,h2⟩:=F i _ he;cases b0 with
    |cells k0 ad=>cases h2
    |obj p cs=>exact⟨rfl,p,cs,h1⟩}
 have hA:∀b base,φ id=some (b,base)->Al U.N φ σ1 b:=fun b base hp=>by refine⟨fun hN=>B.keep id _ b base O hp ⟨B.good.lt b hN,fun i blk bs hi ai=>B.good.own i blk b bs hi ai hN⟩,fun i blk bs hi ai=> ?_⟩;obtain⟨h1,h2⟩:=z i blk hi;exact h1 (B.st.inj i id blk _ _ _ h2 O ai hp rfl)
 have ac:Kept w w φ φ s.σ (s.σ.put id none) (Al U.N φ s.σ) (Al U.N φ σ1):=by rw[E];exact hK
 have cv:∀{c:C} {v:Vl},RelC w φ s.σ (Al U.N φ s.σ) c v->RelC w φ σ2 (Al U.N φ σ2) (c.frz id k es) v:=fun h=>by have:=h.frz B.toRs O ac hA;rw[E] at this;exact this.mono aa
 refine⟨φ,{good:=B.good,st:= ?_,keep:= ?_,os:=B.os,tape:=B.tape,drawn:=B.drawn,output:=B.output,size:=B.size,block:=B.block,kept:= ?_,defers:=by rw[J];exact(B.defers.kept hK).kept aa,asize:=B.asize,env:=fun t v ht=> ?_}⟩;rw[J];refine⟨fun i b hi=> ?_,fun i j bi bj p q hi hj=> ?_⟩;obtain⟨b0,h1,rfl⟩:=F i b hi;have hb:=B.st.blk i b0 (z i b0 h1).2;cases b0 with
 |obj p cs=>
  obtain⟨b,o,us,g1,g2,g3,g4⟩:=hb
  refine⟨b,o,us,g1,g2,g3,fun i x hx=> ?_⟩
  rw[U1] at hx
  simp only[lM,oM] at hx
  obtain⟨x0,al,rfl⟩:=hx
  obtain⟨u,hu,hr⟩:=g4 i x0 al
  exact⟨u,hu,cv hr⟩
 |cells k0 ad=>
  rcases hb with⟨g1,g2⟩|⟨b,base,arr,ety,g1,g2,g3,g4,g5⟩
  ·exact .inl ⟨g1,by subst g2;rfl⟩
  ·refine .inr ⟨b,base,arr,ety,g1,g2,by simpa using g3,fun j e he=> ?_,fun j e o x he hx=> ?_⟩
   ·simp only[lM,oM] at he
    obtain⟨e0,an,rfl⟩:=he
    rw[U1];simpa using g4 j e0 an
   ·simp only[lM,oM] at he
    obtain⟨e0,an,rfl⟩:=he
    rw[U1] at hx
    simp only[lM,oM] at hx
    obtain⟨x0,al,rfl⟩:=hx
    obtain⟨u,hu,hr⟩:=g5 j e0 o x0 an al
    exact⟨u,hu,cv hr⟩
 obtain⟨b1,h1,_⟩:=F i bi hi;obtain⟨b2,h2,_⟩:=F j bj hj;exact B.st.inj i j b1 b2 p q (z i b1 h1).2 (z j b2 h2).2;rw[J];intro i blk b base hi hp;obtain⟨b1,h1,_⟩:=F i blk hi;exact B.keep i b1 b base (z i b1 h1).2 hp;rw[J];exact Kept.trans B.size B.kept (Kept.trans (aL _) hK aa);rw[J];simp only[St.frz] at ht;rw[ak5 (fun v=>v.frz id k es),oM] at ht;obtain⟨v0,h1,rfl⟩:=ht;obtain⟨u,hu,hr⟩:=B.env t v0 h1;refine⟨u,hu,?_⟩;have:=hr.frz B.toRs O ac hA;rw[E] at this;exact this.mono aa
def Sub.virt{σ0:c9}{s:St}(t k:Nat)(ht:lookup t s.env=some (.c (.imm (.val (.slice none 0 0))))):Sub σ0 s ⟨(t,.c (.own (s.σ.length,[]) 0 0))::s.env,s.σ++[.one (.cells k [])]⟩:=by intro F sz φ a w B j;obtain⟨q,z⟩:=j.toRs.virt k;have h1:=j.of q z;refine⟨_,{toRs:=h1.toRs,defers:=h1.defers,asize:=h1.asize,env:=fun t' v h=> ?_}⟩;simp only[lookup] at h;split at h;rename_i e;have:=ao e;subst this;cases h;obtain⟨u,E,hr⟩:=j.env _ _ ht;refine⟨u,E,?_⟩;rw[val_inv hr];exact P3 (k:=k) (es:=[]) (c9.get_last _ _) rfl (.inl ⟨by simp,rfl,rfl,rfl⟩);exact h1.env t' v h
end
end Ab
end
section
namespace Ab
open Go
section
variable {K:St->Prop}{Q:Post}{env:Env}{σv:c9}{i id:Nat}
def b9(h:K (St.mk env σv)):thn K Q .normal (St.mk env σv):=h
def i9(h:Q .ret (St.mk env σv)):thn K Q .ret (St.mk env σv):=h
def o7(h:Q (.exit i) (St.mk env σv)):thn K Q (.exit i) (St.mk env σv):=h
def g8(h:Q .normal (St.mk env σv)):inB id Q .normal (St.mk env σv):=h
def n3(h:Q .ret (St.mk env σv)):inB id Q .ret (St.mk env σv):=h
def l9(h:Q .normal (St.mk env σv)):inB id Q (.exit id) (St.mk env σv):=by simpa[inB] using h
def J2(c:aG i id=false)(h:Q (.exit i) (St.mk env σv)):inB id Q (.exit i) (St.mk env σv):=by
 have:i ≠ id:=fun e=>by subst e;simp at c
 simpa[inB,this] using h
end
abbrev intI(n:Int):List I:=[.val (.int .i64 n)]
abbrev ints(l:Li):C:=.imm (.sl 1 (l.map intI))
def AOps.lenL{P:Program}{σ0:c9}{sz:Nat}{Q:Post}{env:Env}{σv:c9}{ops:Array Oper}{rest:List Oper}{dst:Option Nat}{ty:Ti}{pos:String}{after:Array Edge}{α:Type}{f:α->List I}{l:List α}{x:Od}{t e:Ti}{k:Nat}[ht:TyD P t (.slice e)]
  (hx:ev env x=some (.c (.imm (.sl k (l.map f))))) (hd:j6 sz dst=true) (h:AOps P σ0 sz ops Q rest (St.mk (putE env dst (.c (int (ct l)))) σv)):AOps P σ0 sz ops Q (⟨dst,.call ⟨.builtin .len,#[x],#[t]⟩,ty,pos,after,none⟩::rest) (St.mk env σv):=
 .len hx hd (by rw[bn];exact h)
end Ab
end
section
namespace Ab
open Go
def w8{α:Type}:List α->α->Option (List α)
 |[],x=>some [x]
 |a::l,x=>match w8 l x with
  |some r=>some (a::r)
  |none=>none
def v7{α:Type}:∀{l:List α} {x:α} {r:List α},w8 l x=some r->r=l++[x]
 |[],x,r,h=>by cases h;rfl
 |a::l,x,r,h=>by simp only[w8] at h;split at h<;>cases h;rename_i hl;rw[v7 hl];rfl
def tmpsOf(l:List Od):List Nat:=l.filterMap fun| .tmp t=>some t|_=>none
def z8(ops:List Oper)(j:Nat):Option Nat:=(ops[j]?).bind (·.dst)
def readsOf(ops:List Oper)(o:Oper):List Nat:=tmpsOf o.op.operands.toList++(match o.guard with|some (j,_)=>(z8 ops j).toList|none=>[])
def I7(o:Oper):List Nat:=(o.after.toList.filter (Region.binds .any)).map (·.on)
def an2(ops:List Oper)(V:List T)(base:Env)(o:Oper)(t:Nat):Option T:=
 match (I7 o).find? (fun j=>z8 ops j==some t) with
 |some j=>V[j]?
 |none=>lookup t base
def x7(ops:List Oper)(V:List T)(base:Env)(o:Oper):Env:=(readsOf ops o).filterMap fun t=>(an2 ops V base o t).map fun v=>(t,v)
def m6:List Oper->List T->Env->Env
 |o::ops,v::V,base=>match o.dst with
  |some d=>m6 ops V ((d,v)::base)
  |none=>m6 ops V base
 |_,_,base=>base
def T0(ops:List Oper):Bool:=
 ops.zipIdx.all fun(o,i)=>
  (I7 o).all (· <i) &&
  ops.zipIdx.all fun (p, j) => i == j || (match p.dst with
   |none=>true
   |some t=> !(o.dst==some t) && (!(readsOf ops o).contains t||(I7 o).contains j||(I7 p).contains i))
def ao1{d t:Nat}(h:d ≠ t):aG d t=false:=by
 cases c:aG d t with
 |false=>rfl
 |true=>exact absurd (ao c) h
def Only(s':St):Post:=fun e s=>e=.normal/\s=s'
def AOps.N{P:Program}{σ0:c9}{sz:Nat}{ops:Array Oper}{env:Env}{σv:c9}:AOps P σ0 sz ops (Only (St.mk env σv)) [] (St.mk env σv):=.nil ⟨rfl,rfl⟩
def g9(P:Program)(σ0:c9)(sz:Nat)(ops:List Oper)(base:Env)(σ:c9)(Q:Post):List Oper->List T->Prop
 |[],c=>Q .normal ⟨m6 ops c base,σ⟩
 |o::r,c=>∃v,(∀E:Env,AOps P σ0 sz ops.toArray (Only (St.put ⟨x7 ops c base o++E,σ⟩ o.dst v)) [o] ⟨x7 ops c base o++E,σ⟩)/\g9 P σ0 sz ops base σ Q r (c++[v])
def F5(t:Nat)(E:Env):∀l:Env,lookup t (l++E)=match lookup t l with|some v=>some v|none=>lookup t E
 |[]=>rfl
 |(k,v)::r=>by simp only[bH,lookup];split;rfl;exact F5 t E r
def ah8(f:Nat->Option T)(t:Nat):∀l:List Nat,lookup t (l.filterMap fun t=>(f t).map fun v=>(t,v))=if t ∈ l then f t else none
 |[]=>rfl
 |k::r=>by
  simp only[br];cases hk:f k with
  |none=>
   simp only[Option.map_none,ah8 f t r,aV]
   by_cases ht:t=k
   ·subst ht;simp[hk]
   ·simp[ht]
  |some v=>
   simp only[aJ,lookup,aV]
   by_cases ht:k=t
   ·subst ht;simp[hk]
   ·have:aG k t=false:=ao1 ht
    simp only[this,ah8 f t r]
    simp[Ne.symm ht]
def uponIn_mono{F:Fence}{n:Nat}{P:Program}{o:Oper}{a:Act}{K K':Act->World->Prop}{Q Q':Exit->Act->World->Prop}(hK:∀a w,K a w->K' a w)(hQ:∀e a w,e ≠ .normal->Q e a w->Q' e a w){r:Result Next}(h:o.uponIn F n P a K Q r):o.uponIn F n P a K' Q' r:=by
 cases r with
 |ok n w'=>
  cases n<;>simp only[Oper.uponIn] at h ⊢<;>
   first
    |exact hK _ _ h
    |exact⟨h.1,CallsIn.mono h.2 (fun e w'' he=>by
      cases e with
      |returned v=>exact hK _ _ he
      |panicked c=>exact hQ _ _ _ (by simp) he
      |outgrown=>obtain⟨a0,w0,hq⟩:=he;exact⟨a0,w0,hQ _ _ _ (by simp) hq⟩)⟩
    |exact⟨h.1,RowsIn.mono h.2 fun _ _ he=>hK _ _ he⟩
    |exact⟨h.1,RoundIn.mono h.2 (fun e w'' he=>by
      cases e with
      |returned v=>exact hK _ _ he
      |panicked c=>exact hQ _ _ _ (by simp) he
      |outgrown=>obtain⟨a0,w0,hq⟩:=he;exact⟨a0,w0,hQ _ _ _ (by simp) hq⟩)⟩
 |halt x w'=>cases x<;>simp only[Oper.uponIn] at h ⊢<;>first|exact hQ _ _ _ (by simp) h|exact h
structure DInv(ops:List Oper)(V:List T)(base:Env)(listed:Array Bool)(E:Env):Prop where
 lt:∀j,listed.getD j false=true->j<ct ops
 closed:∀(j:Nat) (o:Oper),ops[j]? =some o->listed.getD j false=true->∀e ∈ I7 o,listed.getD e false=true
 ran:∀j t,listed.getD j false=true->z8 ops j=some t->lookup t E=V[j]?
 rest:∀t,(∀j,listed.getD j false=true->z8 ops j ≠ some t)->lookup t E=lookup t base
def J1{ops:List Oper}(h:T0 ops=true){i:Nat}{o:Oper}(hi:ops[i]? =some o):
  (∀e ∈ I7 o,e<i)/\∀(j:Nat) (p:Oper) (t:Nat),ops[j]? =some p->i ≠ j->p.dst=some t->o.dst ≠ some t/\(t ∈ readsOf ops o->j ∈ I7 o\/i ∈ I7 p):=by
 simp only[T0,af] at h
 have h1:=h (o,i) (aD.2 (by simpa using hi))
 simp only[ap,af,decide_eq_true_eq] at h1
 refine⟨fun e u=>h1.1 e u,fun j p t v q ht=> ?_⟩
 have h2:=h1.2 (p,j) (aD.2 (by simpa using v))
 simp only[ht,bf,beq_iff_eq,q,false_or,ap,cj,beq_eq_false_iff_ne,ne_eq] at h2
 refine⟨h2.1,fun hr=> ?_⟩
 have c:=h2.2
 simp only[List.contains_iff_mem] at c
 rcases c with(c|c)|c
 ·simp[hr] at c
 ·exact .inl c
 ·exact .inr c
section
variable {P:Program}{σ0:c9}{sz:Nat}{Q:Post}{ops:List Oper}{base:Env}{σ:c9}
def g9.spec:∀(r:List Oper) (c:List T),g9 P σ0 sz ops base σ Q r c->
  ∃V:List T,ct V=ct r/\Q .normal ⟨m6 ops (c++V) base,σ⟩/\
   ∀(i:Nat) (o:Oper) (v:T),r[i]? =some o->V[i]? =some v->∀E:Env,AOps P σ0 sz ops.toArray (Only (St.put ⟨x7 ops (c++V.take i) base o++E,σ⟩ o.dst v)) [o] ⟨x7 ops (c++V.take i) base o++E,σ⟩
 |[],c,h=>⟨[],rfl,by simpa[g9] using h,fun i o v hi=>by simp at hi⟩
 |o::r,c,h=>by
  obtain⟨v,h1,h2⟩:=h;obtain⟨V,g1,j,q⟩:=g9.spec r (c++[v]) h2;refine⟨v::V,by simp[g1],by simpa using j,fun i o' u hi e E=> ?_⟩;match i with
  |0=>cases hi;cases e;simpa using h1 E
  |i+1=>simpa using q i o' u (by simpa using hi) (by simpa using e) E
def envAt_take{V:List T}{i:Nat}{o:Oper}(c:∀e ∈ I7 o,e<i):x7 ops (V.take i) base o=x7 ops V base o:=by
 unfold x7;congr 1;funext t;congr 1;unfold an2;cases hf:(I7 o).find? (fun j=>z8 ops j==some t) with
 |none=>rfl
 |some j=>simp only[au,if_pos (c j (bG hf))]
def DInv.env{V:List T}{c:Array Bool}{E:Env}(u:DInv ops V base c E)(z:T0 ops=true){i:Nat}{o:Oper}(hi:ops[i]? =some o)(N:c.getD i false=false)(O:∀e ∈ I7 o,c.getD e false=true):
  ∀t v,lookup t (x7 ops V base o++E)=some v->lookup t E=some v:=by
 intro t v h
 rw[F5] at h
 simp only[x7] at h
 rw[ah8] at h
 by_cases ht:t ∈ readsOf ops o
 ·rw[if_pos ht] at h
  have key:∀x,an2 ops V base o t=some x->lookup t E=some x:=fun x hx=>by
   unfold an2 at hx;cases hf:(I7 o).find? (fun j=>z8 ops j==some t) with
   |some j=>
    rw[hf] at hx
    have q:=bG hf
    have hd:z8 ops j=some t:=by simpa using List.find?_some hf
    exact(u.ran j t (O j q) hd).trans hx
   |none=>
    rw[hf] at hx
    rw[u.rest t fun j q hd=> ?_]
    ·exact hx
    ·have B:=u.lt j q
     obtain⟨p,hp⟩:∃p,ops[j]? =some p:=⟨_,ae B⟩
     have F:p.dst=some t:=by simpa[z8,hp] using hd
     have J:i ≠ j:=fun e=>by subst e;rw[N] at q;cases q
     rcases((J1 z hi).2 j p t hp J F).2 ht with h1|h1
     ·have:=List.find?_eq_none.1 hf j h1
      simp[hd] at this
     ·have:=u.closed j p hp q i h1
      rw[N] at this;cases this
  cases hs:an2 ops V base o t with
  |some x=>rw[hs] at h;cases h;exact key _ hs
  |none=>rw[hs] at h;exact h
 ·rw[if_neg ht] at h
  exact h
def count_set:∀{l:List Bool} {i:Nat},l[i]? =some false->(l.filter (fun b=>b)).length+1<=((l.set i true).filter (fun b=>b)).length
 |[],i,h=>by simp at h
 |b::l,0,h=>by simp at h;subst h;simp
 |b::l,i+1,h=>by have:=count_set (l:=l) (i:=i) (by simpa using h);cases b<;>simp at this ⊢<;>omega
def anc(ops:List Oper):Nat->Nat->Nat->Bool
 |0,_,_=>false
 |f+1,e,i=>match ops[i]? with
  |some o=>(I7 o).any fun x=>aG x e||anc ops f e x
  |none=>false
def aq3{c:Array Bool}(q:c.size=ct ops)(v:∀j p,ops[j]? =some p->c.getD j false=true->∀x ∈ I7 p,c.getD x false=true):∀(f e i:Nat) (o:Oper),ops[i]? =some o->(∀x ∈ I7 o,c.getD x false=true)->anc ops f e i=true->c.getD e false=true
 |0,e,i,o,_,_,h=>by simp[anc] at h
 |f+1,e,i,o,ho,z,h=>by
  simp only[anc,ho,bI,bf] at h;obtain⟨x,hx,h|h⟩:=h;rw[<- ao h];exact z x hx;have hl:=z x hx;have u:x<ct ops:=by rw[<- q];rcases az x c.size with g|g;exact g;simp[Array.getD,bV.2 g] at hl
  exact aq3 q v f e x _ (ae u) (v x _ (ae u) hl) h
def EOk(ops:List Oper)(V:List T)(base:Env)(i:Nat)(E:Env):Prop:=∀t v,lookup t E=some v->lookup t base=some v\/∃j,j ≠ i/\anc ops (ct ops) i j=false/\V[j]? =some v
theorem draw_anyS{ro:Option Nat}{V:List T}{Sg:Array Bool->c9->Prop}(hok:T0 ops=true)(hV:ct V=ct ops)
  (each:∀(listed:Array Bool) (σ:c9) (i:Nat) (o:Oper) (v:T),listed.size=ct ops->Sg listed σ->(∃E:Env,DInv ops V base listed E)->ops[i]? =some o->V[i]? =some v->listed.getD i false=false->(∀x ∈ I7 o,listed.getD x false=true)->
   (∀j p,ops[j]? =some p->listed.getD j false=true->∀x ∈ I7 p,listed.getD x false=true)->∃σ',Sg (listed.setIfInBounds i true) σ'/\∀E:Env,EOk ops V base i E->AOps P σ0 sz ops.toArray (Only (St.put ⟨x7 ops V base o++E,σ'⟩ o.dst v)) [o] ⟨x7 ops V base o++E,σ⟩)
  {Γ:Cx} (hΓ:Γ.σ0=σ0) (hend:∀listed σ E φ a w,Sg listed σ->(∀j,j<ct ops->listed.getD j false=true)->(∀j t,z8 ops j=some t->lookup t E=V[j]?)->(∀t,(∀j,z8 ops j ≠ some t)->lookup t E=lookup t base)->R Γ sz ⟨E,σ⟩ φ a w->lift Γ sz Q .normal a w):
  ∀(fuel:Nat) (listed:Array Bool) (σ:c9) (E:Env) (φ:Phi) (a:Act) (w:World),listed.size=ct ops->Sg listed σ->DInv ops V base listed E->R Γ sz ⟨E,σ⟩ φ a w->(ct ops<=fuel+(listed.toList.filter (fun b=>b)).length)->
   wpAnyIn (fw ro) 0 P .any ops.toArray (lift Γ sz Q) fuel listed a w:=by
 have finish:∀(listed:Array Bool) (σ:c9) (E:Env) (φ:Phi) (a:Act) (w:World),listed.size=ct ops->Sg listed σ->DInv ops V base listed E->R Γ sz ⟨E,σ⟩ φ a w->Region.ready .any ops.toArray listed=[]->lift Γ sz Q .normal a w:=by
  intro listed σ E φ a w hsz hSg hI hR hr
  -- all have run: the least that has not would be ready
  have all:∀n j,j<n->j<ct ops->listed.getD j false=true:=by
   intro n
   induction n with
   |zero=>intro j hj;omega
   |succ n ih=>
    intro j hj hjl
    by_cases hb:listed.getD j false=true
    ·exact hb
    ·have:j ∈ Region.ready .any ops.toArray listed:=by
      rw[mem_ready]
      refine⟨?_,ops[j],by simp[hjl],fun e he hbi=> ?_⟩
      ·have:j<listed.size:=by omega
       simpa[this] using hb
      ·have hw:e.on ∈ I7 ops[j]:=by
        simp only[I7,List.mem_map,List.mem_filter]
        exact⟨e,⟨by simpa using he,hbi⟩,rfl⟩
       have hlt:=(J1 hok (ae hjl)).1 _ hw
       exact ih e.on (by omega) (by omega)
     rw[hr] at this;cases this
  refine hend listed σ E φ a w hSg (fun j hj=>all (j+1) j (by omega) hj) (fun j t hd=> ?_) (fun t ht=>hI.rest t fun j hj=>ht j) hR
  have hjl:j<ct ops:=by
   unfold z8 at hd
   cases ho:ops[j]? with
   |none=>rw[ho] at hd;cases hd
   |some o=>exact(lG.1 ho).1
  exact hI.ran j t (all (j+1) j (by omega) hjl) hd
 intro fuel
 induction fuel with
 |zero=>
  intro listed σ E φ a w hsz hSg hI hR hf
  have hr:Region.ready .any ops.toArray listed=[]:=by
   rw[List.eq_nil_iff_forall_not_mem]
   intro j hj
   rw[mem_ready] at hj
   obtain⟨h0,o,ho,_⟩:=hj
   have hjl:j<ct ops:=by simpa using(aO.1 ho).1
   have hlt:(listed.toList.filter (fun b=>b)).length<ct listed.toList:=by
    apply List.length_filter_lt_length_iff_exists.2
    refine⟨false,?_,by simp⟩
    have:j<listed.size:=by omega
    simp[this] at h0
    rw[<- h0]
    simp
   simp at hlt
   omega
  exact⟨hr,finish listed σ E φ a w hsz hSg hI hR hr⟩
 |succ fuel ih=>
  intro listed σ E φ a w hsz hSg hI hR hf
  refine⟨finish listed σ E φ a w hsz hSg hI hR,fun i hi=> ?_⟩
  rw[mem_ready] at hi
  obtain⟨h0,o,ho,hw⟩:=hi
  have ho':ops[i]? =some o:=by simpa using ho
  have hil:i<ct ops:=(lG.1 ho').1
  have hn:listed.getD i false=false:=by
   have:i<listed.size:=by omega
   simpa[this] using h0
  have hwl:∀e ∈ I7 o,listed.getD e false=true:=fun e he=>by
   simp only[I7,List.mem_map,List.mem_filter] at he
   obtain⟨ed,⟨h1,h2⟩,rfl⟩:=he
   exact hw ed (by simpa using h1) h2
  have hvi:V[i]? =some V[i]:=ae (by omega)
  obtain⟨σ',hSg',hop⟩:=each listed σ i o _ hsz hSg ⟨E,hI⟩ ho' hvi hn hwl hI.closed
  have hop:=hop E fun t v ht=>by
   by_cases hx:∃j,listed.getD j false=true/\z8 ops j=some t
   ·obtain⟨j,hj,hd⟩:=hx
    have hjl:=hI.lt j hj
    refine .inr ⟨j,fun e=>(by subst e;rw[hn] at hj;cases hj),?_,by rw[<- hI.ran j t hj hd];exact ht⟩
    cases hb:anc ops (ct ops) i j with
    |false=>rfl
    |true=>
     have:=aq3 hsz hI.closed _ i j _ (ae hjl) (hI.closed j _ (ae hjl) hj) hb
     rw[hn] at this;cases this
   ·exact .inl (by rw[<- hI.rest t fun j hj hd=>hx ⟨j,hj,hd⟩];exact ht)
  have hR':R Γ sz ⟨x7 ops V base o++E,σ⟩ φ a w:={toRs:=hR.toRs,defers:=hR.defers,asize:=hR.asize,env:=fun t v ht=>hR.env t v (hI.env hok ho' hn hwl t v ht)}
  have hrun:=hop Γ φ a w hΓ hR' ro
  have next:∀a' w',lift Γ sz (Only (St.put ⟨x7 ops V base o++E,σ'⟩ o.dst V[i])) .normal a' w'->wpAnyIn (fw ro) 0 P .any ops.toArray (lift Γ sz Q) fuel (listed.setIfInBounds i true) a' w':=by
   rintro a' w' ⟨s',φ',⟨_,rfl⟩,hRn⟩
   have look:∀t,o.dst ≠ some t->∀v,lookup t (St.put ⟨x7 ops V base o++E,σ'⟩ o.dst V[i]).env=some v->lookup t E=some v:=fun t ht v hv=>by
    cases hd:o.dst with
    |none=>rw[hd] at hv;exact hI.env hok ho' hn hwl t v hv
    |some d=>
     rw[hd] at hv ht
     simp only[St.put,putE,lookup] at hv
     have:aG d t=false:=ao1 fun e:d=t=>ht (by rw[e])
     rw[this] at hv
     exact hI.env hok ho' hn hwl t v hv
   -- an environment with exactly the lookups wanted
   have hRE:R Γ sz ⟨(St.put ⟨E,σ'⟩ o.dst V[i]).env,σ'⟩ φ' a' w':=by
    refine {toRs:= ?_,defers:= ?_,asize:=hRn.asize,env:=fun t v ht=> ?_}
    ·have:=hRn.toRs
     cases hd:o.dst<;>simpa[hd,St.put,putE] using this
    ·have:=hRn.defers
     cases hd:o.dst<;>simpa[hd,St.put,putE] using this
    ·have hσ:(St.put ⟨x7 ops V base o++E,σ'⟩ o.dst V[i]).σ=σ':=by cases o.dst<;>rfl
     have:=hRn.env t v (by
      cases hd:o.dst with
      |none=>
       rw[hd] at ht
       simp only[St.put,putE] at ht ⊢
       rw[F5]
       cases hx:lookup t (x7 ops V base o) with
       |none=>exact ht
       |some x=>
        have:=hI.env hok ho' hn hwl t x (by rw[F5,hx])
        rw[ht] at this
        exact this.symm
      |some d=>
       rw[hd] at ht
       simp only[St.put,putE,lookup] at ht ⊢
       split at ht
       ·exact ht
       ·rw[F5]
        cases hx:lookup t (x7 ops V base o) with
        |none=>exact ht
        |some x=>
         have:=hI.env hok ho' hn hwl t x (by rw[F5,hx])
         rw[ht] at this
         exact this.symm)
     rw[hσ] at this
     exact this
   have lset:∀j,(listed.setIfInBounds i true).getD j false=true↔j=i\/listed.getD j false=true:=fun j=>by
    by_cases hj:i=j
    ·subst hj
     have:i<listed.size:=by omega
     simp[this]
    ·simp[aT hj,Ne.symm hj]
   refine ih (listed.setIfInBounds i true) σ' _ φ' a' w' (by simpa using hsz) hSg' ⟨fun j hj=> ?_,fun j p hp hj e he=> ?_,fun j t hj hd=> ?_,fun t ht=> ?_⟩ hRE ?_
   ·rcases(lset j).1 hj with rfl|h
    ·exact hil
    ·exact hI.lt j h
   ·rcases(lset j).1 hj with rfl|h
    ·rw[ho'] at hp;cases hp
     exact(lset e).2 (.inr (hwl e he))
    ·exact(lset e).2 (.inr (hI.closed j p hp h e he))
   ·rcases(lset j).1 hj with rfl|h
    ·have hd':o.dst=some t:=by simpa[z8,ho'] using hd
     simp[hd',St.put,putE,lookup,hvi]
    ·have hne:o.dst ≠ some t:=by
      have hlt:=hI.lt j h
      obtain⟨p,hp⟩:∃p,ops[j]? =some p:=⟨_,ae hlt⟩
      have hpd:p.dst=some t:=by simpa[z8,hp] using hd
      by_cases hij:i=j
      ·subst hij;rw[hn] at h;cases h
      ·exact((J1 hok ho').2 j p t hp hij hpd).1
     rw[<- hI.ran j t h hd]
     cases hd2:o.dst with
     |none=>rfl
     |some d=>
      have:aG d t=false:=ao1 fun e:d=t=>hne (by rw[hd2,e])
      simp[St.put,putE,lookup,this]
   ·have hne:o.dst ≠ some t:=by
     have:=ht i ((lset i).2 (.inl rfl))
     simpa[z8,ho'] using this
    rw[<- hI.rest t fun j hj=>ht j ((lset j).2 (.inr hj))]
    cases hd2:o.dst with
    |none=>rfl
    |some d=>
     have:aG d t=false:=ao1 fun e:d=t=>hne (by rw[hd2,e])
     simp[St.put,putE,lookup,this]
   ·have hcount:(listed.toList.filter (fun b=>b)).length+1<=((listed.setIfInBounds i true).toList.filter (fun b=>b)).length:=by
     rw[Array.toList_setIfInBounds]
     refine count_set ?_
     have:i<listed.size:=by omega
     simp[this] at hn
     simp[this,hn]
    omega
  unfold wpOpIn
  rw[ho]
  simp only
  unfold wpListIn at hrun
  by_cases hwt:Region.wanted o (yielded ops.toArray a.tmps)=true
  ·rw[if_pos hwt] at hrun ⊢
   refine⟨hrun.1,uponIn_mono (fun a' w' h=>next a' w' h) (fun e a' w' hne h=> ?_) hrun.2⟩
   obtain⟨s0,φ0,⟨he,_⟩,_⟩:=h
   exact absurd he hne
  ·rw[if_neg hwt] at hrun ⊢
   exact⟨hrun.1,next _ _ hrun.2⟩
def draw_any{ro:Option Nat}{V:List T}(F:T0 ops=true)(O:ct V=ct ops)
  (q:∀(i:Nat) (o:Oper) (v:T),ops[i]? =some o->V[i]? =some v->∀E:Env,AOps P σ0 sz ops.toArray (Only (St.put ⟨x7 ops V base o++E,σ⟩ o.dst v)) [o] ⟨x7 ops V base o++E,σ⟩)
  {u:Cx} (J:u.σ0=σ0) (z:∀E φ a w,(∀j t,z8 ops j=some t->lookup t E=V[j]?)->(∀t,(∀j,z8 ops j ≠ some t)->lookup t E=lookup t base)->R u sz ⟨E,σ⟩ φ a w->lift u sz Q .normal a w):
  ∀(h:Nat) (c:Array Bool) (E:Env) (φ:Phi) (a:Act) (w:World),c.size=ct ops->DInv ops V base c E->R u sz ⟨E,σ⟩ φ a w->(∀j,j<ct ops->c.getD j false=false->True)->(ct ops<=h+(c.toList.filter (fun b=>b)).length)->
   wpAnyIn (fw ro) 0 P .any ops.toArray (lift u sz Q) h c a w:=by
 intro h c E φ a w N U B _ hf
 exact draw_anyS (Sg:=fun _ s=>s=σ) F O (fun _ s i o v _ hs _ ho hv _ _ _=>⟨σ,rfl,fun E _=>by have e:s=σ:=hs;rw[e];exact q i o v ho hv E⟩) J (fun _ s E φ a w hs _ h1 h2 B=>by have e:s=σ:=hs;rw[e] at B;exact z E φ a w h1 h2 B) h c σ E φ a w N rfl U B hf
def af7:∀(ops:List Oper) (V:List T) (base:Env),ct V=ct ops->(∀(i j:Nat) (o p:Oper) (t:Nat),ops[i]? =some o->ops[j]? =some p->i ≠ j->p.dst=some t->o.dst ≠ some t)->
  (∀(j t:Nat),z8 ops j=some t->lookup t (m6 ops V base)=V[j]?)/\(∀t,(∀j,z8 ops j ≠ some t)->lookup t (m6 ops V base)=lookup t base)
 |[],V,base,hl,_=>⟨fun j t h=>by simp[z8] at h,fun t _=>by cases V<;>rfl⟩
 |o::ops,[],base,hl,_=>by simp at hl
 |o::ops,v::V,base,hl,hd=>by
  have u:ct V=ct ops:=by simpa using hl
  have z:∀(i j:Nat) (o p:Oper) (t:Nat),ops[i]? =some o->ops[j]? =some p->i ≠ j->p.dst=some t->o.dst ≠ some t:=fun i j o p t hi c B=>hd (i+1) (j+1) o p t (by simpa using hi) (by simpa using c) (by omega);have q:∀t,o.dst=some t->∀j,z8 ops j ≠ some t:=fun t ht j c=>by
   unfold z8 at c;cases hp:ops[j]? with
   |none=>rw[hp] at c;cases c
   |some p=>
    rw[hp] at c
    exact hd (j+1) 0 p o t (by simpa using hp) rfl (by omega) ht (by simpa using c)
  cases ho:o.dst with
  |none=>
   obtain⟨h1,h2⟩:=af7 ops V base u z
   simp only[m6,ho]
   refine⟨fun j t h=> ?_,fun t h=>h2 t fun j c=>h (j+1) (by simpa[z8] using c)⟩
   cases j with
   |zero=>simp[z8,ho] at h
   |succ j=>simpa using h1 j t (by simpa[z8] using h)
  |some d=>
   obtain⟨h1,h2⟩:=af7 ops V ((d,v)::base) u z
   simp only[m6,ho]
   refine⟨fun j t h=> ?_,fun t h=> ?_⟩
   ·cases j with
    |zero=>
     have:d=t:=by simpa[z8,ho] using h
     subst this
     rw[h2 d (q d ho)]
     simp[lookup]
    |succ j=>simpa using h1 j t (by simpa[z8] using h)
   ·rw[h2 t fun j c=>h (j+1) (by simpa[z8] using c)]
    have:aG d t=false:=ao1 fun e=>h 0 (by simp[z8,ho,e])
    simp[lookup,this]
def AWP.draw{id:Nat}{s:St}(hm:P.follows .mixedOrders=true)(z:T0 ops=true)(h:g9 P σ0 sz ops s.env s.σ Q ops []):AWP P σ0 sz (.region id ops.toArray true) Q s:=fun Γ φ a w F e ro _=>by obtain⟨V,N,O,q⟩:=g9.spec ops [] h;simp only[bO] at O q;have B:∀(i j:Nat) (o p:Oper) (t:Nat),ops[i]? =some o->ops[j]? =some p->i ≠ j->p.dst=some t->o.dst ≠ some t:=fun i j o p t hi c J ht=>((J1 z hi).2 j p t c J ht).1;obtain⟨e1,e2⟩:=af7 ops V s.env N B;refine wpIn_region_any hm ?_;rw[aX];refine draw_any (V:=V) (base:=s.env) (σ:=s.σ) z N (fun i o v hi hv E=> ?_) F (fun E φ a w h1 h2 e=> ?_) (ct ops) (bN (ct ops) false) s.env φ a _ (by simp) ⟨fun j c=> ?_,fun j o _ c=> ?_,fun j t c=> ?_,fun t _=>rfl⟩ ?_ (fun _ _ _=>Y) (by simp);have:=q i o v hi hv E;rwa [envAt_take (J1 z hi).1] at this;refine⟨⟨m6 ops V s.env,s.σ⟩,φ,O,{toRs:=e.toRs,defers:=e.defers,asize:=e.asize,env:=fun t v ht=>e.env t v ?_}⟩;rw[<- ht];by_cases hx:∃j,z8 ops j=some t;obtain⟨j,c⟩:=hx;exact(h1 j t c).trans (e1 j t c).symm;have U:∀j,z8 ops j ≠ some t:=fun j c=>hx ⟨j,c⟩;exact(h2 t U).trans (e2 t U).symm;simp[aB] at c;split at c<;>simp at c;simp[aB] at c;split at c<;>simp at c;simp[aB] at c;split at c<;>simp at c;exact {toRs:=e.toRs.drew,defers:=e.defers,asize:=e.asize,env:=fun t v ht=>let ⟨u,hu,hr⟩:=e.env t v ht; ⟨u,hu,hr.mono (Kept.drew w φ s.σ _)⟩}
def AWP.drawI{id:Nat}{env:Env}{σv:c9}(e:P.follows .mixedOrders=true)(c:T0 ops=true)(h:g9 P σ0 sz ops env σv Q ops []):AWP P σ0 sz (.region id ops.toArray true) Q (St.mk env σv):=.draw e c h
def g9.cons{o:Oper}{r:List Oper}{env:Env}{σv:c9}{c:List T}{v:T}(h1:∀E:Env,AOps P σ0 sz ops.toArray (Only (St.put ⟨x7 ops c env o++E,σv⟩ o.dst v)) [o] (St.mk (x7 ops c env o++E) σv))(h2:g9 P σ0 sz ops env σv Q r (c++[v])):g9 P σ0 sz ops env σv Q (o::r) c:=⟨v,h1,h2⟩
def envFT(ops:List Oper)(V:List T)(base:Env)(o:Oper):List Nat->Option Env
 |[]=>some []
 |t::ts=>match an2 ops V base o t with
  |some v=>match envFT ops V base o ts with
   |some r=>some ((t,v)::r)
   |none=>none
  |none=>envFT ops V base o ts
def envF(ops:List Oper)(V:List T)(base:Env)(o:Oper):Option Env:=envFT ops V base o (readsOf ops o)
def ae2{ops:List Oper}{V:List T}{base:Env}{o:Oper}:∀{ts:List Nat} {e:Env},envFT ops V base o ts=some e->ts.filterMap (fun t=>(an2 ops V base o t).map fun v=>(t,v))=e
 |[],e,h=>by cases h;rfl
 |t::ts,e,h=>by
  simp only[envFT] at h;cases hs:an2 ops V base o t with
  |none=>
   rw[hs] at h
   rw[br,hs]
   exact ae2 h
  |some v=>
   rw[hs] at h
   cases hr:envFT ops V base o ts with
   |none=>simp only[hr] at h;cases h
   |some r=>
    simp only[hr] at h
    cases h
    rw[br,hs]
    simp only[aJ]
    rw[ae2 hr]
def g9.consF{o:Oper}{r:List Oper}{env e:Env}{σv:c9}{c h:List T}{v:T}(j:envF ops c env o=some e)(h1:∀E:Env,AOps P σ0 sz ops.toArray (Only (St.mk (putE (e++E) o.dst v) σv)) [o] (St.mk (e++E) σv))(q:w8 c v=some h)(h2:g9 P σ0 sz ops env σv Q r h):g9 P σ0 sz ops env σv Q (o::r) c:=by have u:x7 ops c env o=e:=ae2 j;rw[v7 q] at h2;exact⟨v,fun E=>by rw[u];exact h1 E,h2⟩
def g9.done{env:Env}{σv:c9}{c:List T}(h:Q .normal (St.mk (m6 ops c env) σv)):g9 P σ0 sz ops env σv Q [] c:=h
end
end Ab
end
section
namespace Ab
open Go
def memN(n:Nat):List Nat->Bool
 |[]=>false
 |m::r=>match aG m n with
  |true=>true
  |false=>memN n r
def feas(ops:List Oper)(effs:List Nat)(i k:Nat):Bool:=
  (match k with
    |0=>true
    |k+1=>match effs[k]? with
      |some e=> !anc ops (ct ops) i e
      |none=>true) &&
  (match effs[k]? with
    |some e=> !anc ops (ct ops) e i
    |none=>true)
def effOk(ops:List Oper)(effs:List Nat):Bool:=
 effs.zipIdx.all fun(e,m)=>aN e (ct ops) && effs.zipIdx.all fun(e',c)=> !(aN c m)||anc ops (ct ops) e' e
def l0(P:Program)(σ0:c9)(sz:Nat)(ops:List Oper)(base:Env)(V:List T)(σs:List c9)(effs:List Nat)(i:Nat)(o:Oper)(v:T):List Nat->Prop
 |[]=>True
 | k :: c => (match feas ops effs i k with
  |true=>match σs[k]? with
   |some σ=>∀E:Env,AOps P σ0 sz ops.toArray (Only (St.put ⟨x7 ops V base o++E,σ⟩ o.dst v)) [o] ⟨x7 ops V base o++E,σ⟩
   |none=>True
  |false=>True)/\l0 P σ0 sz ops base V σs effs i o v c
def i7(P:Program)(σ0:c9)(sz:Nat)(ops:List Oper)(base:Env)(V:List T)(σs:List c9)(effs:List Nat)(c:List Nat):List Oper->Nat->Prop
 |[],_=>True
 | o :: r, i => (match memN i effs with
  |true=>True
  |false=>match V[i]? with
   |some v=>l0 P σ0 sz ops base V σs effs i o v c
   |none=>True)/\i7 P σ0 sz ops base V σs effs c r (i+1)
def e9(P:Program)(σ0:c9)(sz:Nat)(ops:List Oper)(effs:List Nat)(base:Env)(Q:Post):List Oper->Nat->List T->List c9->c9->Prop
 |[],_,c,σs,σ=>i7 P σ0 sz ops base c (σs++[σ]) effs (aj (ct effs+1)) ops 0/\Q .normal ⟨m6 ops c base,σ⟩
 |o::r,i,c,σs,σ=>match memN i effs with
  |true=>∃v σ',(∀E:Env,AOps P σ0 sz ops.toArray (Only (St.put ⟨x7 ops c base o++E,σ'⟩ o.dst v)) [o] ⟨x7 ops c base o++E,σ⟩)/\e9 P σ0 sz ops effs base Q r (i+1) (c++[v]) (σs++[σ]) σ'
  |false=>∃v,(∀E:Env,AOps P σ0 sz ops.toArray (Only (St.put ⟨x7 ops c base o++E,σ⟩ o.dst v)) [o] ⟨x7 ops c base o++E,σ⟩)/\e9 P σ0 sz ops effs base Q r (i+1) (c++[v]) σs σ
def Stage(effs:List Nat)(c:Array Bool)(k:Nat):Prop:=k<=ct effs/\∀(m e:Nat),effs[m]? =some e->(c.getD e false=true↔m<k)
def effOk_lt{ops:List Oper}{effs:List Nat}(h:effOk ops effs=true){m e:Nat}(c:effs[m]? =some e):e<ct ops:=by simp only[effOk,af] at h;have h1:=h (e,m) (aD.2 (by simpa using c));simp only[ap,aC] at h1;exact h1.1
def effOk_anc{ops:List Oper}{effs:List Nat}(h:effOk ops effs=true){m c e e':Nat}(u:effs[m]? =some e)(j:effs[c]? =some e')(q:c<m):anc ops (ct ops) e' e=true:=by
 simp only[effOk,af] at h;have h1:=h (e,m) (aD.2 (by simpa using u));simp only[ap,af] at h1;have h2:=h1.2 (e',c) (aD.2 (by simpa using j));simp only[bf,cj] at h2;rcases h2 with h2|h2;have:aN c m=true:=by simpa using q
 rw[this] at h2;cases h2;exact h2
def anc_lt{ops:List Oper}(c:T0 ops=true):∀(f e i:Nat),anc ops f e i=true->e<i
 |0,e,i,h=>by simp[anc] at h
 |f+1,e,i,h=>by simp only[anc] at h;split at h;rename_i o ho;simp only[bI,bf] at h;obtain⟨x,hx,h|h⟩:=h;rw[<- ao h];exact(J1 c ho).1 x hx;exact Nat.lt_trans (anc_lt c f e x h) ((J1 c ho).1 x hx);cases h
def aq1{ops:List Oper}{V:List T}{base:Env}{c:Array Bool}{E:Env}(q:DInv ops V base c E):∀(f e i:Nat) (o:Oper),ops[i]? =some o->(∀x ∈ I7 o,c.getD x false=true)->anc ops f e i=true->c.getD e false=true
 |0,e,i,o,_,_,h=>by simp[anc] at h
 |f+1,e,i,o,ho,u,h=>by simp only[anc,ho,bI,bf] at h;obtain⟨x,hx,h|h⟩:=h;rw[<- ao h];exact u x hx;have hl:=u x hx;have j:=q.lt x hl;exact aq1 q f e x _ (ae j) (q.closed x _ (ae j) hl) h
def feas_of{ops:List Oper}{V:List T}{base:Env}{effs:List Nat}{c:Array Bool}{E:Env}{k i:Nat}{o:Oper}(j:Stage effs c k)(u:DInv ops V base c E)(ho:ops[i]? =some o)(B:c.getD i false=false)(F:∀x ∈ I7 o,c.getD x false=true):feas ops effs i k=true:=by
 have h1:∀v,v<k->∀e,effs[v]? =some e->anc ops (ct ops) i e=false:=fun v hk e h=>by
  have hl:=(j.2 v e h).2 hk;have q:=u.lt e hl;cases z:anc ops (ct ops) i e with
  |false=>rfl
  |true=>
   have:=aq1 u _ i e _ (ae q) (u.closed e _ (ae q) hl) z
   rw[B] at this;cases this
 have h2:∀e,effs[k]? =some e->anc ops (ct ops) e i=false:=fun e h=>by
  cases z:anc ops (ct ops) e i with
  |false=>rfl
  |true=>
   have:=(j.2 k e h).1 (aq1 u _ e i o ho F z)
   omega
 unfold feas;rw[ap];constructor;cases k with
 |zero=>rfl
 |succ k=>
  show(match effs[k]? with|some e=> !anc ops (ct ops) i e|none=>true)=true
  split
  ·rename_i e h;rw[h1 k (by omega) e h];rfl
  ·rfl
 split;rename_i e h;rw[h2 e h];rfl;rfl
def stage_next{ops:List Oper}{V:List T}{base:Env}{effs:List Nat}{c:Array Bool}{E:Env}{k i:Nat}{o:Oper}(_hok:T0 ops=true)(e:effOk ops effs=true)(j:Stage effs c k)(v:DInv ops V base c E)(ho:ops[i]? =some o)(z:c.getD i false=false)(B:∀x ∈ I7 o,c.getD x false=true)(q:i ∈ effs):effs[k]? =some i:=by
 obtain⟨m,u⟩:=ar q;have h1:¬ m<k:=fun h=>by have:=(j.2 m i u).2 h;rw[z] at this;cases this
 rcases az k m with h2|h2;have F:=(lG.1 u).1;have hk:effs[k]? =some effs[k]:=ae (by omega);have:=(j.2 k _ hk).1 (aq1 v _ _ i o ho B (effOk_anc e u hk h2));omega;rw[show k=m by omega];exact u
def stage_step{ops:List Oper}{effs:List Nat}{c:Array Bool}{k i:Nat}(v:T0 ops=true)(q:effOk ops effs=true)(B:Stage effs c k)(j:effs[k]? =some i)(hi:i<c.size):Stage effs (c.setIfInBounds i true) (k+1):=by
 refine⟨(lG.1 j).1,fun m e z=> ?_⟩;by_cases u:i=e;subst u;have E:m=k:=by rcases Nat.lt_trichotomy m k with h|h|h;have:=anc_lt v _ _ _ (effOk_anc q j z h);omega;exact h;have:=anc_lt v _ _ _ (effOk_anc q z j h);omega
 subst E;simp[hi];rw[show(c.setIfInBounds i true).getD e false=c.getD e false by simp[aT u]];rw[B.2 m e z];constructor;omega;intro h;rcases az m k with F|F;exact F;have:m=k:=by omega
 subst this;rw[j] at z;cases z;exact absurd rfl u
def stage_keep{effs:List Nat}{c:Array Bool}{k i:Nat}(j:Stage effs c k)(q:i ∉ effs):Stage effs (c.setIfInBounds i true) k:=by refine⟨j.1,fun m e v=> ?_⟩;have u:i ≠ e:=fun h=>q (by rw[h];exact ak v);rw[show(c.setIfInBounds i true).getD e false=c.getD e false by simp[aT u]];exact j.2 m e v
section
variable {P:Program}{σ0:c9}{sz:Nat}{Q:Post}{ops:List Oper}{base:Env}
def draw_anyE{ro:Option Nat}{V:List T}{effs:List Nat}{σs:List c9}(B:T0 ops=true)(u:effOk ops effs=true)(hV:ct V=ct ops)
  (F:∀(i:Nat) (o:Oper) (v:T) (k:Nat) (σ:c9),ops[i]? =some o->V[i]? =some v->σs[k]? =some σ->feas ops effs i k=true->k<=ct effs->
   (effs[k]? =some i->∃σ',σs[k+1]? =some σ'/\∀E:Env,AOps P σ0 sz ops.toArray (Only (St.put ⟨x7 ops V base o++E,σ'⟩ o.dst v)) [o] ⟨x7 ops V base o++E,σ⟩)/\
   (i ∉ effs->∀E:Env,AOps P σ0 sz ops.toArray (Only (St.put ⟨x7 ops V base o++E,σ⟩ o.dst v)) [o] ⟨x7 ops V base o++E,σ⟩))
  {J:Cx} (aa:J.σ0=σ0) (N:∀σ E φ a w,σs[ct effs]? =some σ->(∀j t,z8 ops j=some t->lookup t E=V[j]?)->(∀t,(∀j,z8 ops j ≠ some t)->lookup t E=lookup t base)->R J sz ⟨E,σ⟩ φ a w->lift J sz Q .normal a w):
  ∀(q:Nat) (c:Array Bool) (k:Nat) (σ:c9) (E:Env) (φ:Phi) (a:Act) (w:World),c.size=ct ops->σs[k]? =some σ->Stage effs c k->DInv ops V base c E->R J sz ⟨E,σ⟩ φ a w->(ct ops<=q+(c.toList.filter (fun b=>b)).length)->
   wpAnyIn (fw ro) 0 P .any ops.toArray (lift J sz Q) q c a w:=by
 intro q c k σ E φ a w ab h e hI hR hf
 refine draw_anyS (Sg:=fun c σ=>∃k,σs[k]? =some σ/\Stage effs c k) B hV (fun c σ i o v _ hs hD ho hv hn hw _=> ?_) aa (fun c σ E φ a w hs O h1 h2 hR=> ?_) q c σ E φ a w ab ⟨k,h,e⟩ hI hR hf
 ·obtain⟨k,h,e⟩:=hs
  obtain⟨E0,hI⟩:=hD
  obtain⟨e1,e2⟩:=F i o v k σ ho hv h (feas_of e hI ho hn hw) e.1
  by_cases z:i ∈ effs
  ·have U:effs[k]? =some i:=stage_next B u e hI ho hn hw z
   obtain⟨σ',h1,h2⟩:=e1 U
   exact⟨σ',⟨k+1,h1,stage_step B u e U (by have:=(lG.1 ho).1;omega)⟩,fun E _=>h2 E⟩
  ·exact⟨σ,⟨k,h,stage_keep e z⟩,fun E _=>e2 z E⟩
 ·obtain⟨k,h,e⟩:=hs
  have hk:k=ct effs:=by rcases az k (ct effs) with ac|ad;have he:effs[k]? =some effs[k]:=ae ac;have:=(e.2 k _ he).1 (O _ (effOk_lt u he));omega;exact Nat.le_antisymm e.1 ad
  subst hk
  exact N σ E φ a w h h1 h2 hR
def J9(n:Nat):∀l:List Nat,memN n l=true↔n ∈ l
 |[]=>by simp[memN]
 |m::r=>by
  simp only[memN,aV];split;rename_i h;simp[ao h];rename_i h;rw[J9 n r];have:n ≠ m:=fun e=>by subst e;simp at h
  simp[this]
def e9.spec{effs:List Nat}:∀(r:List Oper) (j:Nat) (e:List T) (σs:List c9) (σ:c9),e9 P σ0 sz ops effs base Q r j e σs σ->
  ∃(V:List T) (c:List c9) (q:c9),ct V=ct r/\c++[q]=[σ]++(c++[q]).drop 1/\i7 P σ0 sz ops base (e++V) (σs++(c++[q])) effs (aj (ct effs+1)) ops 0/\Q .normal ⟨m6 ops (e++V) base,q⟩/\
   c.length=((bP j (ct r)).filter fun i=>memN i effs).length/\
   ∀(i:Nat) (o:Oper) (v:T),r[i]? =some o->V[i]? =some v->∃σ1 σ2,(c++[q])[((bP j i).filter fun i=>memN i effs).length]? =some σ1/\(c++[q])[((bP j (i+1)).filter fun i=>memN i effs).length]? =some σ2/\
    (memN (j+i) effs=false->σ1=σ2)/\∀E:Env,AOps P σ0 sz ops.toArray (Only (St.put ⟨x7 ops (e++V.take i) base o++E,σ2⟩ o.dst v)) [o] ⟨x7 ops (e++V.take i) base o++E,σ1⟩
 |[],j,e,σs,σ,h=>⟨[],[],σ,rfl,rfl,by simpa[e9] using h.1,by simpa[e9] using h.2,rfl,fun i o v hi=>by simp at hi⟩
 |o::r,j,e,σs,σ,h=>by
  simp only[e9] at h;split at h;rename_i u;obtain⟨v,σ',h1,h2⟩:=h;obtain⟨V,c,q,g1,z,F,J,N,O⟩:=e9.spec r (j+1) (e++[v]) (σs++[σ]) σ' h2;refine⟨v::V,σ::c,q,by simp[g1],by simp,by simpa using F,by simpa using J,by simp[aS,u,N],fun i o' U hi B=> ?_⟩;match i with
  |0=>
   cases hi;cases B
   refine⟨σ,σ',by simp,?_,fun h=>(by rw[aY,u] at h;cases h),fun E=>by simpa using h1 E⟩
   simp only[aR,List.range'_one,aF,u,if_true,bg,ax,aW]
   rw[bH,bM,z]
   rfl
  |i+1=>
   obtain⟨σ1,σ2,k1,k2,k3,k4⟩:=O i o' U (by simpa using hi) (by simpa using B)
   refine⟨σ1,σ2,?_,?_,fun h=>k3 (by rw[show j+1+i=j+(i+1) by omega];exact h),fun E=>by simpa using k4 E⟩
   ·simpa[aS,u] using k1
   ·rw[aS,aF,u]
    simpa using k2
  rename_i u;obtain⟨v,h1,h2⟩:=h;obtain⟨V,c,q,g1,z,F,J,N,O⟩:=e9.spec r (j+1) (e++[v]) σs σ h2;refine⟨v::V,c,q,by simp[g1],z,by simpa using F,by simpa using J,by simp[aS,u,N],fun i o' U hi B=> ?_⟩;match i with
  |0=>
   cases hi;cases B
   refine⟨σ,σ,by rw[z];rfl,?_,fun _=>rfl,fun E=>by simpa using h1 E⟩
   simp only[aR,List.range'_one,aF,u,bx,if_false,bg,aW]
   rw[z];rfl
  |i+1=>
   obtain⟨σ1,σ2,k1,k2,k3,k4⟩:=O i o' U (by simpa using hi) (by simpa using B)
   refine⟨σ1,σ2,?_,?_,fun h=>k3 (by rw[show j+1+i=j+(i+1) by omega];exact h),fun E=>by simpa using k4 E⟩
   ·simpa[aS,u] using k1
   ·rw[aS,aF,u]
    simpa using k2
def l0.get{V:List T}{σs:List c9}{effs:List Nat}{i:Nat}{o:Oper}{v:T}:∀{e:List Nat},l0 P σ0 sz ops base V σs effs i o v e->∀k ∈ e,∀σ,feas ops effs i k=true->σs[k]? =some σ->∀E:Env,AOps P σ0 sz ops.toArray (Only (St.put ⟨x7 ops V base o++E,σ⟩ o.dst v)) [o] ⟨x7 ops V base o++E,σ⟩
 |[],_,k,hk=>by simp at hk
 |k0::e,h,k,hk=>fun σ hf c=>by rcases aV.1 hk with rfl|hk;have:=h.1;rw[hf] at this;simp only[c] at this;exact this;exact l0.get h.2 k hk σ hf c
def i7.get{V:List T}{σs:List c9}{effs:List Nat}{q:List Nat}:∀{r:List Oper} {c:Nat},i7 P σ0 sz ops base V σs effs q r c->∀(i:Nat) (o:Oper) (v:T),r[i]? =some o->V[c+i]? =some v->memN (c+i) effs=false->l0 P σ0 sz ops base V σs effs (c+i) o v q
 |[],_,_,i,o,v,hi,_,_=>by simp at hi
 |u::r,c,h,i,o,v,hi,e,j=>by
  match i with
  |0=>
   cases hi
   have:=h.1
   rw[aY] at j e
   rw[j] at this
   simp only[e] at this
   simpa using this
  |i+1=>
   have:=i7.get h.2 i o v (by simpa using hi) (by rw[show c+1+i=c+(i+1) by omega];exact e) (by rw[show c+1+i=c+(i+1) by omega];exact j)
   rwa [show c+1+i=c+(i+1) by omega] at this
def rising:List Nat->Bool
 |a::b::r=>aN a b && rising (b::r)
 |_=>true
def count_rising:∀(effs:List Nat) (n:Nat),rising effs=true->(∀e ∈ effs,e<n)->((aj n).filter fun i=>memN i effs).length=ct effs/\∀k e,effs[k]? =some e->((aj e).filter fun i=>memN i effs).length=k:=by
 intro effs;have sorted:∀l:List Nat,rising l=true->l.Pairwise (· < ·):=by
  intro l;induction l with
  |nil=>intro _;exact .nil
  |cons a l ih=>
   intro h
   cases l with
   |nil=>simp
   |cons b l=>
    simp only[rising,ap,aC] at h
    have hp:=ih h.2
    refine bh.2 ⟨fun c hc=> ?_,hp⟩
    rcases aV.1 hc with rfl|hc
    ·exact h.1
    ·exact Nat.lt_trans h.1 ((bh.1 hp).1 c hc)
 have key:∀(l:List Nat),l.Pairwise (· < ·)->∀m,((aj m).filter fun i=>memN i l).length=(l.filter fun e=>decide (e<m)).length:=by
  intro l hl m;induction m with
  |zero=>
   have:l.filter (fun e=>decide (e<0))=[]:=bQ.2 fun e _=>by simp
   rw[this]
   rfl
  |succ m ih=>
   rw[List.range_succ,ch,aM,ih]
   clear ih
   induction l with
   |nil=>simp[memN]
   |cons a l ihl=>
    have hl':=(bh.1 hl)
    have:=ihl hl'.2
    by_cases ham:a=m
    ·subst ham
     have hn:memN a l=false:=by
      cases hb:memN a l with
      |false=>rfl
      |true=>exact absurd (hl'.1 a ((J9 a l).1 hb)) (aP a)
     have hn2:memN a (a::l)=true:=(J9 a _).2 (by simp)
     simp only[aF,bg,hn,hn2,aP,decide_false,Nat.lt_succ_self,decide_true,if_true,bx,if_false,aW,ax,aY] at this ⊢
     omega
    ·have hn2:memN m (a::l)=memN m l:=by
      cases hb:memN m l with
      |true=>exact(J9 m _).2 (bU _ ((J9 m l).1 hb))
      |false=>
       cases hb2:memN m (a::l) with
       |false=>rfl
       |true=>
        rcases aV.1 ((J9 m _).1 hb2) with h|h
        ·exact absurd h.symm ham
        ·rw[(J9 m l).2 h] at hb;cases hb
     simp only[aF,bg,hn2] at this ⊢
     by_cases h1:a<m
     ·have h2:a<m+1:=by omega
      simp only[h1,h2,decide_true,if_true,ax]
      omega
     ·have h2:¬ a<m+1:=by omega
      simp only[h1,h2,decide_false,bx,if_false]
      exact this
 intro n hr hn;have hp:=sorted effs hr;refine⟨?_,fun k e he=> ?_⟩;rw[key effs hp n,List.filter_eq_self.2 fun e he=>by simpa using hn e he];rw[key effs hp e];clear hn key sorted hr;induction effs generalizing k with
 |nil=>simp at he
 |cons a l ih=>
  have hp':=bh.1 hp
  cases k with
  |zero=>
   simp only[bJ,Option.some.injEq] at he
   subst he
   rw[List.length_eq_zero_iff,bQ]
   intro x hx
   rcases aV.1 hx with rfl|hx
   ·simp
   ·have:=hp'.1 x hx
    simp;omega
  |succ k=>
   simp only[bM] at he
   have:=ih hp'.2 k he
   have hlt:=hp'.1 e (ak he)
   simp only[aF,hlt,decide_true,if_true,ax,this]
def AWP.drawE{id:Nat}{s:St}(effs:List Nat)(hm:P.follows .mixedOrders=true)(J:T0 ops=true)(q:effOk ops effs=true)(aa:rising effs=true)(h:e9 P σ0 sz ops effs s.env Q ops 0 [] [] s.σ):AWP P σ0 sz (.region id ops.toArray true) Q s:=fun Γ φ a w ab B ro _=>by
 obtain⟨V,ac,τ,hV,g2,g3,hQ,g5,F⟩:=e9.spec ops 0 [] [] s.σ h;simp only[bO] at hQ F g3;obtain⟨c1,c2⟩:=count_rising effs (ct ops) aa (fun e he=>by obtain⟨m,hm⟩:=ar he;exact effOk_lt q hm);rw[<- bp,c1] at g5;have N:∀(i j:Nat) (o p:Oper) (t:Nat),ops[i]? =some o->ops[j]? =some p->i ≠ j->p.dst=some t->o.dst ≠ some t:=fun i j o p t hi c ad ht=>((J1 J hi).2 j p t c ad ht).1;obtain⟨e1,e2⟩:=af7 ops V s.env hV N;refine wpIn_region_any hm ?_;rw[aX];refine draw_anyE (V:=V) (base:=s.env) (effs:=effs) (σs:=ac++[τ]) J q hV (fun i o v k σ hi hv z hf hk=>⟨fun O=> ?_,fun ai E=> ?_⟩) ab (fun σ E φ a w z h1 h2 B=> ?_) (ct ops) (bN (ct ops) false) 0 s.σ s.env φ a _ (by simp) (by rw[g2];rfl) ⟨bR _,fun m e he=> ?_⟩ ⟨fun j c=> ?_,fun j o _ c=> ?_,fun j t c=> ?_,fun t _=>rfl⟩ ?_ (by simp);obtain⟨σ1,σ2,k1,k2,_,k4⟩:=F i o v hi hv;rw[<- bp,c2 k i O,z] at k1;cases k1;have U:memN i effs=true:=(J9 i effs).2 (ak O);rw[<- bp,List.range_succ,ch,aM,c2 k i O] at k2;simp only[aF,U,if_true,bg,ax,aW] at k2;refine⟨σ2,k2,fun E=> ?_⟩;have:=k4 E;rwa [envAt_take (J1 J hi).1] at this;have U:memN i effs=false:=by
  cases hb:memN i effs with
  |false=>rfl
  |true=>exact absurd ((J9 i effs).1 hb) ai
 have:=i7.get g3 i o v hi (by simpa using hv) (by simpa using U);rw[aR] at this;exact this.get k (by simp;omega) σ hf z E;have:σ=τ:=by rw[<- g5] at z;simpa using z.symm
 subst this;refine⟨⟨m6 ops V s.env,σ⟩,φ,hQ,{toRs:=B.toRs,defers:=B.defers,asize:=B.asize,env:=fun t v ht=>B.env t v ?_}⟩;rw[<- ht];by_cases hx:∃j,z8 ops j=some t;obtain⟨j,c⟩:=hx;exact(h1 j t c).trans (e1 j t c).symm;have hn:∀j,z8 ops j ≠ some t:=fun j c=>hx ⟨j,c⟩;exact(h2 t hn).trans (e2 t hn).symm;have:e<ct ops:=effOk_lt q he;simp[this];simp[aB] at c;split at c<;>simp at c;simp[aB] at c;split at c<;>simp at c;simp[aB] at c;split at c<;>simp at c;exact {toRs:=B.toRs.drew,defers:=B.defers,asize:=B.asize,env:=fun t v ht=>let ⟨u,hu,hr⟩:=B.env t v ht; ⟨u,hu,hr.mono (Kept.drew w φ s.σ _)⟩}
def AWP.drawEI{id:Nat}{env:Env}{σv:c9}(effs:List Nat)(q:P.follows .mixedOrders=true)(j:T0 ops=true)(c:effOk ops effs=true)(e:rising effs=true)(h:e9 P σ0 sz ops effs env Q ops 0 [] [] σv):AWP P σ0 sz (.region id ops.toArray true) Q (St.mk env σv):=.drawE effs q j c e h
def e9.consN{effs:List Nat}{o:Oper}{r:List Oper}{i:Nat}{env e:Env}{c h:List T}{σs:List c9}{σv:c9}{v:T}(j:memN i effs=false)(q:envF ops c env o=some e)(h1:∀E:Env,AOps P σ0 sz ops.toArray (Only (St.mk (putE (e++E) o.dst v) σv)) [o] (St.mk (e++E) σv))(u:w8 c v=some h)
  (h2:e9 P σ0 sz ops effs env Q r (i+1) h σs σv):e9 P σ0 sz ops effs env Q (o::r) i c σs σv:=by
 have z:x7 ops c env o=e:=ae2 q
 rw[v7 u] at h2
 simp only[e9,j]
 exact⟨v,fun E=>by rw[z];exact h1 E,h2⟩
def e9.consE{effs:List Nat}{o:Oper}{r:List Oper}{i:Nat}{env e:Env}{c h:List T}{σs j:List c9}{σv σ':c9}{v:T}(q:memN i effs=true)(u:envF ops c env o=some e)(h1:∀E:Env,AOps P σ0 sz ops.toArray (Only (St.mk (putE (e++E) o.dst v) σ')) [o] (St.mk (e++E) σv))(z:w8 c v=some h)(hs:w8 σs σv=some j)
  (h2:e9 P σ0 sz ops effs env Q r (i+1) h j σ'):e9 P σ0 sz ops effs env Q (o::r) i c σs σv:=by
 have B:x7 ops c env o=e:=ae2 u
 rw[v7 z,v7 hs] at h2
 simp only[e9,q]
 exact⟨v,σ',fun E=>by rw[B];exact h1 E,h2⟩
def e9.done{effs:List Nat}{i:Nat}{env:Env}{e:List T}{σs c:List c9}{σv:c9}(hs:w8 σs σv=some c)(hr:i7 P σ0 sz ops env e c effs (aj (ct effs+1)) ops 0)(h:Q .normal (St.mk (m6 ops e env) σv)):e9 P σ0 sz ops effs env Q [] i e σs σv:=by rw[v7 hs] at hr;exact⟨hr,h⟩
def i7.nil{effs c:List Nat}{env:Env}{V:List T}{σs:List c9}{i:Nat}:i7 P σ0 sz ops env V σs effs c [] i:=trivial
def i7.skip{effs c:List Nat}{env:Env}{V:List T}{σs:List c9}{i:Nat}{o:Oper}{r:List Oper}(e:memN i effs=true)(h:i7 P σ0 sz ops env V σs effs c r (i+1)):i7 P σ0 sz ops env V σs effs c (o::r) i:=by
 simp only[i7,e];exact⟨trivial,h⟩
def i7.cons{effs c:List Nat}{env:Env}{V:List T}{σs:List c9}{i:Nat}{o:Oper}{r:List Oper}{v:T}(e:memN i effs=false)(j:V[i]? =some v)(h1:l0 P σ0 sz ops env V σs effs i o v c)(h:i7 P σ0 sz ops env V σs effs c r (i+1)):i7 P σ0 sz ops env V σs effs c (o::r) i:=by
 simp only[i7,e,j];exact⟨h1,h⟩
def l0.nil{effs:List Nat}{env:Env}{V:List T}{σs:List c9}{i:Nat}{o:Oper}{v:T}:l0 P σ0 sz ops env V σs effs i o v []:=trivial
def l0.skip{effs:List Nat}{env:Env}{V:List T}{σs:List c9}{i:Nat}{o:Oper}{v:T}{k:Nat}{c:List Nat}(hf:feas ops effs i k=false)(h:l0 P σ0 sz ops env V σs effs i o v c):l0 P σ0 sz ops env V σs effs i o v (k::c):=by
 simp only[l0,hf];exact⟨trivial,h⟩
def l0.go{effs:List Nat}{env e:Env}{V:List T}{σs:List c9}{i:Nat}{o:Oper}{v:T}{k:Nat}{c:List Nat}{σv:c9}(hs:σs[k]? =some σv)(j:envF ops V env o=some e)(h1:∀E:Env,AOps P σ0 sz ops.toArray (Only (St.mk (putE (e++E) o.dst v) σv)) [o] (St.mk (e++E) σv))(h:l0 P σ0 sz ops env V σs effs i o v c):l0 P σ0 sz ops env V σs effs i o v (k::c):=by
 have q:x7 ops V env o=e:=ae2 j;simp only[l0,hs];refine⟨?_,h⟩;split;exact fun E=>by rw[q];exact h1 E
 trivial
end
end Ab
end
section
namespace Ab
open Go
class PlacesC (P:Program) (fs:List Field) (places:outParam (List (Nat×Nat))):Prop where
 h:∀(i:Nat) (f:Field),fs[i]? =some f->∃n j,places[i]? =some (f.offset,n)/\P.info? f.type=some j/\j.size=n
 len:ct places=ct fs
instance (P:Program):PlacesC P [] []:=⟨fun i f h=>by simp at h,rfl⟩
instance (P:Program)(f:Field)(fs:List Field)(n b:Nat)(z:Vl)(r:List (Nat×Nat))[h:TyS P f.type n b z][k:PlacesC P fs r]:PlacesC P (f::fs) ((f.offset,n)::r):=
 ⟨fun i g hi=>by
  obtain⟨j,h1,h2,_⟩:=h.h;match i with
  |0=>cases hi;exact⟨n,j,rfl,h1,h2⟩
  |i+1=>simpa using k.h i g (by simpa using hi),by simp[k.len]⟩
def evP(env:Env):List (Nat×Od)->Option (List (Nat×T))
 |[]=>some []
 |(i,x)::r=>match ev env x,evP env r with
  |some t,some ts=>some ((i,t)::ts)
  |_,_=>none
def fillC(place:Nat->Option (Nat×Nat)):List C->List (Nat×T)->Option (List C)
 |cs,[]=>some cs
 |cs,(i,v)::r=>match place i,aa7 v with
  |some (off,size),some vs=>match aG (ct vs) size && ba (off+ct vs) (ct cs) with
   |true=>fillC place (cs.take off++vs++cs.drop (off+ct vs)) r
   |false=>none
  |_,_=>none
def foldl_set:∀(l:List Vl) (p off:Nat) (base:Array Vl),off+p+ct l<=base.size->((l.zipIdx p).foldl (fun cs (c,j)=>cs.setIfInBounds (off+j) c) base).size=base.size/\
  ∀i,((l.zipIdx p).foldl (fun cs (c,j)=>cs.setIfInBounds (off+j) c) base)[i]? =if off+p<=i/\i<off+p+ct l then l[i - (off+p)]? else base[i]? :=by
 intro l
 induction l with
 |nil=>intro p off base _;exact⟨rfl,fun i=>by simp;omega⟩
 |cons c l h=>
  intro p off base hp
  simp only[ax] at hp
  simp only[cr,List.foldl_cons]
  obtain⟨g1,q⟩:=h (p+1) off (base.setIfInBounds (off+p) c) (by simp;omega)
  refine⟨by rw[g1];simp,fun i=> ?_⟩
  rw[q]
  by_cases hi:off+(p+1)<=i/\i<off+(p+1)+ct l
  ·rw[if_pos hi,if_pos (by simp;omega)]
   rw[show i - (off+p)=(i - (off+(p+1)))+1 by omega]
   simp
  ·rw[if_neg hi]
   by_cases e:i=off+p
   ·subst e
    rw[if_pos (by simp)]
    have u:off+p<base.size:=by omega
    simp[u]
   ·rw[if_neg (by simp;omega)]
    simp[bu];omega
section
variable {P:Program}{σ0:c9}{sz:Nat}{Q:Post}{env:Env}{σv:c9}{ops:Array Oper}{rest:List Oper}{dst:Option Nat}{ty:Ti}{pos:String}{after:Array Edge}
def RelL(w:World)(φ:Phi)(σ:c9)(A:Nat->Prop)(cs:List C)(arr:Array Vl):Prop:=arr.size=ct cs/\∀(i:Nat) (c:C),cs[i]? =some c->∃v,arr[i]? =some v/\RelC w φ σ A c v
def al2{w:World}{φ:Phi}{σ:c9}{A:Nat->Prop}{place:Nat->Option (Nat×Nat)}:∀{parts:List (Nat×T)} {vs:List (Nat×Vl)} {cs z:List C} {arr:Array Vl},ct parts=ct vs->
  (∀(i:Nat) (p:Nat×T) (q:Nat×Vl),parts[i]? =some p->vs[i]? =some q->p.1=q.1/\RelT w φ σ A p.2 q.2)->RelL w φ σ A cs arr->fillC place cs parts=some z->
  ∃arr',Instr.fill place arr vs=some arr'/\RelL w φ σ A z arr'
 |[],[],cs,z,arr,_,_,hr,h=>by cases h;exact⟨arr,rfl,hr⟩
 |(i,t)::parts,(i',v)::vs,cs,z,arr,hl,hp,hr,h=>by
  obtain⟨he,ht⟩:=hp 0 _ _ rfl rfl;dsimp only at he ht;subst he;simp only[fillC] at h;split at h<;>try cases h
  rename_i off size us h1 h2;split at h<;>try cases h
  rename_i N;simp only[ap] at N;have B:ct us=size:=ao N.1;have E:off+ct us<=ct cs:=aA N.2;obtain⟨k1,k2⟩:=R4 ht h2;have hf:=foldl_set v.cells.toList 0 off arr (by simp[k1,hr.1];omega);obtain⟨f1,f2⟩:=hf;have e:v.cells.zipIdx.foldl (fun cs (c,j)=>cs.setIfInBounds (off+j) c) arr=(v.cells.toList.zipIdx 0).foldl (fun cs (c,j)=>cs.setIfInBounds (off+j) c) arr:=by rw[<- ce,bZ]
  generalize (v.cells.toList.zipIdx 0).foldl (fun cs (c,j)=>cs.setIfInBounds (off+j) c) arr=F at f1 f2 e;have O:RelL w φ σ A (cs.take off++us++cs.drop (off+ct us)) F:=by
   refine⟨by rw[f1,hr.1];simp;omega,fun q c J=> ?_⟩;rw[D7 cs us off q E] at J;rw[f2];have ab:ct v.cells.toList=ct us:=by simp[k1]
   by_cases hq:off<=q/\q<off+ct us;rw[if_pos hq] at J;rw[if_pos (by omega)];obtain⟨u,hu,U⟩:=k2 _ c J;exact⟨u,by simpa using hu,U⟩;rw[if_neg hq] at J;rw[if_neg (by omega)];exact hr.2 q c J
  obtain⟨arr',g1,g2⟩:=al2 (parts:=parts) (vs:=vs) (by simpa using hl) (fun j p q hj aa=>hp (j+1) p q (by simpa using hj) (by simpa using aa)) O h;refine⟨arr',?_,g2⟩;simp only[Instr.fill,h1];rw[if_neg (by simp[k1,B,hr.1];omega)];rw[e];exact g1
 |[],_::_,_,_,_,hl,_,_,_=>by simp at hl
 |_::_,[],_,_,_,hl,_,_,_=>by simp at hl
def ar0{c:Cx}{φ:Phi}{a:Act}{w:World}(e:R c sz (St.mk env σv) φ a w):∀{l:List (Nat×Od)} {ts:List (Nat×T)},evP env l=some ts->ct ts=(l.map fun p=>(p.1,a.eval p.2)).length/\
  ∀(i:Nat) (p:Nat×T) (q:Nat×Vl),ts[i]? =some p->(l.map fun p=>(p.1,a.eval p.2))[i]? =some q->p.1=q.1/\RelT w φ σv (Al c.N φ σv) p.2 q.2
 |[],ts,h=>by cases h;exact⟨rfl,fun i p q hi=>by simp at hi⟩
 |(z,x)::r,ts,h=>by
  simp only[evP] at h;split at h<;>cases h;rename_i t0 u h1 h2;obtain⟨g1,v⟩:=ar0 e h2;refine⟨by simpa using g1,fun i p q hi j=> ?_⟩;match i with
  |0=>cases hi;cases j;exact⟨rfl,k7 e h1⟩
  |i+1=>exact v i p q (by simpa using hi) (by simpa using j)
def zero_rel{w:World}{φ:Phi}{σ:c9}{A:Nat->Prop}{z:Vl}{c:List C}(hz:ac7 z=some (.agg c)):RelL w φ σ A c z.cells:=by have:=R4 (Y9 (w:=w) (φ:=φ) (σ:=σ) (A:=A) hz) rfl;exact⟨this.1,this.2⟩
def relL_agg{w:World}{φ:Phi}{σ:c9}{A:Nat->Prop}{cs:List C}{arr:Array Vl}(h:RelL w φ σ A cs arr):RelT w φ σ A (.agg cs) (.agg arr):=by
 obtain⟨l⟩:=arr;refine RelT.agg' (by simpa using h.1.symm) fun i c v e j=> ?_;obtain⟨u,q,hr⟩:=h.2 i c e;have:u=v:=by simpa[j] using q.symm
 subst this;exact hr
def AOps.build{t:Ti}{fs:Array Field}{parts:List (Nat×Od)}{ps:List (Nat×T)}{n b:Nat}{z:Vl}{B cs:List C}{c:List (Nat×Nat)}[ht:TyD P t (.struct fs)][hs:TyS P t n b z][hp:PlacesC P fs.toList c]
  (hz:ac7 z=some (.agg B)) (u:evP env parts=some ps) (hf:fillC (fun i=>c[i]?) B ps=some cs) (hd:j6 sz dst=true)
  (h:AOps P σ0 sz ops Q rest (St.mk (putE env dst (.agg cs)) σv)):AOps P σ0 sz ops Q (⟨dst,.build t parts.toArray,ty,pos,after,none⟩::rest) (St.mk env σv):=
 .value rfl hd _ (fun Γ φ a w F=>by
  obtain⟨g1,J⟩:=ar0 F u;obtain⟨arr',k1,N⟩:=al2 (w:=w) g1 J (zero_rel hz) hf;refine⟨.agg arr',?_,relL_agg N⟩;have O:∀(l:List Field) (e:List (Nat×Nat)),ct e=ct l->(∀(i:Nat) (f:Field),l[i]? =some f->∃n j,e[i]? =some (f.offset,n)/\P.info? f.type=some j/\j.size=n)->
    (l.mapM (fun f=>Functor.map (Prod.mk f.offset) (Go.sizeOf f.type):Field->Sem (Nat×Nat))).run P w=.ok e w:=by
   intro l
   induction l with
   |nil=>intro e hl _;cases e with|nil=>rfl|cons=>simp at hl
   |cons f l U=>
    intro e hl E
    cases e with
    |nil=>simp at hl
    |cons p e=>
     obtain⟨n,j,h1,h2,h3⟩:=E 0 f rfl
     cases h1
     have:=U e (by simpa using hl) (fun i f hi=>by simpa using E (i+1) f (by simpa using hi))
     simp[List.mapM_cons,Go.sizeOf,typeInfo,h2,h3] at this ⊢
     simp[this]
  have q:=O fs.toList c hp.len hp.h;have e1:(execOp a.eval ⟨dst,.build t parts.toArray,ty,pos,after,none⟩).run P w=((Instr.build t (parts.map fun p=>(p.1,a.eval p.2)).toArray).run P w).andThen fun v w=>.ok (.value v) w:=by simp[execOp]
  rw[e1];have e2:(Instr.build t (parts.map fun p=>(p.1,a.eval p.2)).toArray).run P w=.ok (.agg arr') w:=by obtain⟨fl⟩:=fs;simp only[Instr.build];rw[Sem.run_bind,H4 (t:=t)];simp only[Result.andThen,Sem.run_bind,run_underlying ht.h,ck];simp at q;simp[q,k1]
  rw[e2];rfl) h
def AOps.buildA{t e:Ti}{len k:Nat}{parts:List (Nat×Od)}{ps:List (Nat×T)}{n b q:Nat}{z u:Vl}{j cs:List C}[ht:TyD P t (.array len e)][hs:TyS P t n b z][F:TyS P e k q u]
  (hz:ac7 z=some (.agg j)) (c:evP env parts=some ps) (hf:fillC (fun i=>some (i * k,k)) j ps=some cs) (hd:j6 sz dst=true)
  (h:AOps P σ0 sz ops Q rest (St.mk (putE env dst (.agg cs)) σv)):AOps P σ0 sz ops Q (⟨dst,.build t parts.toArray,ty,pos,after,none⟩::rest) (St.mk env σv):=
 .value rfl hd _ (fun J φ a w v=>by obtain⟨g1,B⟩:=ar0 v c;obtain⟨arr',k1,E⟩:=al2 (w:=w) g1 B (zero_rel hz) hf;refine⟨.agg arr',?_,relL_agg E⟩;simp[execOp,Instr.build,H4 (t:=t),run_underlying ht.h,s9 (t:=e),k1]) h
/-! ### Comparisons -/
class EqT (P:Program) (t:Ti):Prop where
 held:P.stoodInHeld t=false
 guard:P.eqGuardType P.depth t=false
def aj9{op:BinOp}{t:Ti}[h:EqT P t](x y:Od)(a b:Array Vl)(w:World):(eqGuard op t x y (.agg a) (.agg b)).run P w=.ok () w:=by
 cases op<;>simp[eqGuard,h.guard]
def am8(d:Nat){t:Ti}{k:IntKind}[h:TyD P t (.int k)](a b:Int)(w:World):(Op.equalIn (d+1) t (.int k a) (.int k b)).run P w=.ok (a==b) w:=by
 simp[Op.equalIn,run_underlying h.h]
def run_equal_pair'(d : Nat){t : Ti}{f0 f1 : Field}{k0 k1 : IntKind}[ht : TyD P t (.struct #[f0, f1])][z : TyD P f0.type (.int k0)][h1 : TyD P f1.type (.int k1)][B : EqT P t](j : (f0.name == "_")=false)(q:(f1.name== "_")=false)(u:f0.offset=0)(v:f1.offset=1)
  (a0 a1 b0 b1:Int) (w:World):(Op.equalIn (d+2) t (.agg #[.int k0 a0,.int k1 a1]) (.agg #[.int k0 b0,.int k1 b1])).run P w=.ok (decide (a0=b0) && decide (a1=b1)) w:=by
 have c:¬ f0.name= "_" :=by simpa using j
 have e:¬ f1.name= "_" :=by simpa using q
 have E:=fun a b=>am8 (P:=P) d (t:=f0.type) (k:=k0) a b w
 have F:=fun a b=>am8 (P:=P) d (t:=f1.type) (k:=k1) a b w
 rw[Op.equalIn]
 by_cases h:a0=b0<;>by_cases J:a1=b1<;>simp[run_underlying ht.h,B.held,c,e,part,Y7 z.h,Y7 h1.h,A7,u,v,E,F,h,J]
def ax7{t : Ti}{f0 f1 : Field}{k0 k1 : IntKind}[ht : TyD P t (.struct #[f0, f1])][q : TyD P f0.type (.int k0)][h1 : TyD P f1.type (.int k1)][u : EqT P t](c : (f0.name == "_")=false)(e:(f1.name== "_")=false)(h:f0.offset=0)(j:f1.offset=1)
  (a0 a1 b0 b1:Int) (w:World):(Op.equal t (.agg #[.int k0 a0,.int k1 a1]) (.agg #[.int k0 b0,.int k1 b1])).run P w=.ok (decide (a0=b0) && decide (a1=b1)) w:=
 run_equal_pair' 9998 c e h j a0 a1 b0 b1 w
def run_equal_arr2'(d:Nat){t e:Ti}{k:IntKind}[ht:TyD P t (.array 2 e)][c:TyD P e (.int k)]{n b:Nat}{z:Vl}[hs:TyS P e n b z](j:n=1)(a0 a1 b0 b1:Int)(w:World):
  (Op.equalIn (d+2) t (.agg #[.int k a0,.int k a1]) (.agg #[.int k b0,.int k b1])).run P w=.ok (decide (a0=b0) && decide (a1=b1)) w:=by
 subst j
 have q:=fun a b=>am8 (P:=P) d (t:=e) (k:=k) a b w
 rw[Op.equalIn]
 by_cases h:a0=b0<;>by_cases u:a1=b1<;>simp[run_underlying ht.h,s9 (t:=e),part,Y7 c.h,A7,q,Std.Legacy.Range.forIn_eq_forIn_range',Std.Legacy.Range.size,bP,h,u]
def run_equal_arr2{t e:Ti}{k:IntKind}[ht:TyD P t (.array 2 e)][h:TyD P e (.int k)]{n b:Nat}{z:Vl}[hs:TyS P e n b z](c:n=1)(a0 a1 b0 b1:Int)(w:World):
  (Op.equal t (.agg #[.int k a0,.int k a1]) (.agg #[.int k b0,.int k b1])).run P w=.ok (decide (a0=b0) && decide (a1=b1)) w:=
 run_equal_arr2' 9998 c a0 a1 b0 b1 w
def al3{w:World}{φ:Phi}{σ:c9}{A:Nat->Prop}{u v x:Vl}(h:RelT w φ σ A (.agg [.imm (.val u),.imm (.val v)]) x):x=.agg #[u,v]:=by
 obtain⟨vs,h1,h2,e⟩:=RelT.agg_inv h;obtain⟨p,hp,hr⟩:=e 0 _ rfl;obtain⟨q,c,hs⟩:=e 1 _ rfl;cases hr with|imm hr=>cases hs with|imm hs=>
  cases hr
  cases hs
  match vs,h2,hp,c with
  |[j,z],_,hp,c=>cases hp;cases c;exact h1
section pairs
variable {t t':Ti}{f0 f1:Field}{k0 k1:IntKind}{x y:Od}{a0 a1 b0 b1:Int}
def AOps.eqlP[ht : TyD P t (.struct #[f0, f1])][E : TyD P f0.type (.int k0)][h1 : TyD P f1.type (.int k1)][F : EqT P t](e : (f0.name == "_")=false)(j:(f1.name== "_")=false)(q:f0.offset=0)(u:f1.offset=1)
  (hx:ev env x=some (.agg [.imm (.val (.int k0 a0)),.imm (.val (.int k1 a1))])) (hy:ev env y=some (.agg [.imm (.val (.int k0 b0)),.imm (.val (.int k1 b1))])) (hd:j6 sz dst=true)
  (h:AOps P σ0 sz ops Q rest (St.mk (putE env dst (.c (bool (decide (a0=b0) && decide (a1=b1))))) σv)):AOps P σ0 sz ops Q (⟨dst,.binOp .eql t x y t',ty,pos,after,none⟩::rest) (St.mk env σv):=
 .value rfl hd _ (fun J φ a w v=>⟨.bool (decide (a0=b0) && decide (a1=b1)),by have g1:=al3 (k7 v hx);have z:=al3 (k7 v hy);have B:=ax7 (P:=P) (t:=t) (f0:=f0) (f1:=f1) (k0:=k0) (k1:=k1) e j q u a0 a1 b0 b1 w;simp[execOp,g1,z,aj9,binOp,B],.bool _⟩) h
def AOps.neqP[ht : TyD P t (.struct #[f0, f1])][E : TyD P f0.type (.int k0)][h1 : TyD P f1.type (.int k1)][F : EqT P t](e : (f0.name == "_")=false)(j:(f1.name== "_")=false)(q:f0.offset=0)(u:f1.offset=1)
  (hx:ev env x=some (.agg [.imm (.val (.int k0 a0)),.imm (.val (.int k1 a1))])) (hy:ev env y=some (.agg [.imm (.val (.int k0 b0)),.imm (.val (.int k1 b1))])) (hd:j6 sz dst=true)
  (h:AOps P σ0 sz ops Q rest (St.mk (putE env dst (.c (bool (!(decide (a0=b0) && decide (a1=b1)))))) σv)):AOps P σ0 sz ops Q (⟨dst,.binOp .neq t x y t',ty,pos,after,none⟩::rest) (St.mk env σv):=
 .value rfl hd _ (fun J φ a w v=>⟨.bool (!(decide (a0=b0) && decide (a1=b1))),by have g1:=al3 (k7 v hx);have z:=al3 (k7 v hy);have B:=ax7 (P:=P) (t:=t) (f0:=f0) (f1:=f1) (k0:=k0) (k1:=k1) e j q u a0 a1 b0 b1 w;simp[execOp,g1,z,aj9,binOp,B],.bool _⟩) h
def AOps.eqlA{e:Ti}{k:IntKind}{n b:Nat}{z:Vl}[ht:TyD P t (.array 2 e)][B:TyD P e (.int k)][hs:TyS P e n b z](q:n=1)[E:EqT P t]
  (hx:ev env x=some (.agg [.imm (.val (.int k a0)),.imm (.val (.int k a1))])) (hy:ev env y=some (.agg [.imm (.val (.int k b0)),.imm (.val (.int k b1))])) (hd:j6 sz dst=true)
  (h:AOps P σ0 sz ops Q rest (St.mk (putE env dst (.c (bool (decide (a0=b0) && decide (a1=b1))))) σv)):AOps P σ0 sz ops Q (⟨dst,.binOp .eql t x y t',ty,pos,after,none⟩::rest) (St.mk env σv):=
 .value rfl hd _ (fun F φ a w j=>⟨.bool (decide (a0=b0) && decide (a1=b1)),by have g1:=al3 (k7 j hx);have u:=al3 (k7 j hy);have v:=run_equal_arr2 (P:=P) (t:=t) (e:=e) (k:=k) q a0 a1 b0 b1 w;simp[execOp,g1,u,aj9,binOp,v],.bool _⟩) h
end pairs
/-! ### An array as' a slice -/
def AOps.sliceArrI{x:Od}{t e:Ti}{len b:Nat}{z:Vl}{cs:List I}[ht:TyD P t (.array len e)][hs:TyS P e 1 b z](hx:ev env x=some (.c (.imm (.ipt cs))))(hl:len<=ct cs)(B:ba len 1000000=true)(hd:j6 sz dst=true)
  (h:AOps P σ0 sz ops Q rest (St.mk (putE env dst (.c (.imm (.sl 1 ((cs.take len).map fun c=>[c]))))) σv)):AOps P σ0 sz ops Q (⟨dst,.slice t x none none none,ty,pos,after,none⟩::rest) (St.mk env σv):=
 .value rfl hd _ (fun O φ a w U=>by
  obtain⟨E,us,hv,F⟩:=ipt_inv (k7 U hx);have J:len<=1000000:=aA B;have v:((cs.take len).map fun c=>[c]).length=len:=by simp;omega
  refine⟨.slice (some E) len len,?_,.c (.imm ?_)⟩;simp[execOp,hv,Instr.sliceAt,Instr.sureAddr,run_underlying ht.h,Instr.sliceBounds,s9 (t:=e)];exact fun _=>Addr.add_zero' E;have:RelI w (Al O.N φ σv) (.sl 1 ((cs.take len).map fun c=>[c])) (.slice (some E) ((cs.take len).map fun c=>[c]).length len):=by
   have u:∀(j:Nat) (e:List I),((cs.take len).map fun c=>[c])[j]? =some e->∃c,cs[j]? =some c/\e=[c]:=fun j e q=>by rw[lM,oM] at q;obtain⟨c,h1,h2⟩:=q;rw[au] at h1;split at h1;exact⟨c,h1,h2.symm⟩;cases h1
   refine .sl (fun j o=>us (j * 1+o)) (by omega) (by simp only[maxLen];omega) (fun j e q=> ?_) (fun j e o x q hx=> ?_) (fun j e o x q hx=> ?_);obtain⟨c,_,rfl⟩:=u j e q;rfl;obtain⟨c,h1,rfl⟩:=u j e q;match o with
   |0=>cases hx;exact⟨(F _ _ h1).1,by simpa using(F _ _ h1).2.1⟩
   |o+1=>simp at hx
   obtain⟨c,h1,rfl⟩:=u j e q;match o with
   |0=>cases hx;simpa using(F _ _ h1).2.2
   |o+1=>simp at hx
  rwa [v] at this) h
end
end Ab
end
section
namespace Ab
open Go
section
variable {P:Program}{σ0:c9}{sz:Nat}{Q:Post}{env:Env}{σv:c9}{ops:Array Oper}{rest:List Oper}{dst:Option Nat}{ty:Ti}{pos:String}{after:Array Edge}
def AWP.condT{x:Od}{c d:Code}(hx:ev env x=some (.c (bool true)))(h:AWP P σ0 sz c Q (St.mk env σv)):AWP P σ0 sz (.cond x c d) Q (St.mk env σv):=.cond hx (fun _=>h) (fun h=>by cases h)
def AWP.ac{x:Od}{c d:Code}(hx:ev env x=some (.c (bool false)))(h:AWP P σ0 sz d Q (St.mk env σv)):AWP P σ0 sz (.cond x c d) Q (St.mk env σv):=.cond hx (fun h=>by cases h) (fun _=>h)
def AWP.condD{x:Od}{c d:Code}{p:Prop}[Decidable p](hx:ev env x=some (.c (bool (decide p))))(ht:p->AWP P σ0 sz c Q (St.mk env σv))(hf:¬ p->AWP P σ0 sz d Q (St.mk env σv)):AWP P σ0 sz (.cond x c d) Q (St.mk env σv):=
 .cond hx (fun h=>ht (of_decide_eq_true h)) (fun h=>hf (of_decide_eq_false h))
def AWP.condN{x:Od}{c d:Code}{p:Prop}[Decidable p](hx:ev env x=some (.c (bool (!decide p))))(ht:¬ p->AWP P σ0 sz c Q (St.mk env σv))(hf:p->AWP P σ0 sz d Q (St.mk env σv)):AWP P σ0 sz (.cond x c d) Q (St.mk env σv):=
 .cond hx (fun h=>ht (of_decide_eq_false (by simpa using h))) (fun h=>hf (of_decide_eq_true (by simpa using h)))
def AWP.condB{x:Od}{c d:Code}{b:Bool}(hx:ev env x=some (.c (bool (!b))))(ht:b=false->AWP P σ0 sz c Q (St.mk env σv))(hf:b=true->AWP P σ0 sz d Q (St.mk env σv)):AWP P σ0 sz (.cond x c d) Q (St.mk env σv):=
 .cond hx (fun h=>ht (by simpa using h)) (fun h=>hf (by simpa using h))
def AWP.condE{x:Od}{c d:Code}{p q:Prop}[Decidable p][Decidable q](hx:ev env x=some (.c (bool (!(decide p && decide q)))))(ht:¬ (p/\q)->AWP P σ0 sz c Q (St.mk env σv))(hf:p->q->AWP P σ0 sz d Q (St.mk env σv)):AWP P σ0 sz (.cond x c d) Q (St.mk env σv):=
 .cond hx (fun h=>ht (fun⟨hp,e⟩=>by simp[hp,e] at h)) (fun h=>by
  have:p/\q:=by simpa using h
  exact hf this.1 this.2)
def AOps.u{op:Op}{j t:Nat}{b e:Bool}(q:(ops[j]?).bind (·.dst)=some t)(ht:lookup t env=some (.c (bool e)))(hd:j6 sz dst=true)(v:e=b)(h:AOps P σ0 sz ops Q (⟨dst,op,ty,pos,after,none⟩::rest) (St.mk env σv)):
  AOps P σ0 sz ops Q (⟨dst,op,ty,pos,after,some (j,b)⟩::rest) (St.mk env σv):=.guard q ht hd (fun _=>h) (fun z=>by subst v;cases e<;>cases z)
def AOps.B{op:Op}{j t:Nat}{b e:Bool}(q:(ops[j]?).bind (·.dst)=some t)(ht:lookup t env=some (.c (bool e)))(hd:j6 sz dst=true)(u:e= !b)(h:AOps P σ0 sz ops Q rest (St.mk (putE env dst .undef) σv)):
  AOps P σ0 sz ops Q (⟨dst,op,ty,pos,after,some (j,b)⟩::rest) (St.mk env σv):=.guard q ht hd (fun v=>by subst v;cases e<;>cases u) (fun _=>h)
def AOps.lenB{α:Type}{f:α->List I}{l:List α}{x:Od}{t e:Ti}{k:Nat}[ht:TyD P t (.slice e)]
  (hx:ev env x=some (.c (.imm (.sl k (l.map f))))) (hd:j6 sz dst=true) (h:ct l<=9223372036854775807->AOps P σ0 sz ops Q rest (St.mk (putE env dst (.c (int (ct l)))) σv)):AOps P σ0 sz ops Q (⟨dst,.call ⟨.builtin .len,#[x],#[t]⟩,ty,pos,after,none⟩::rest) (St.mk env σv):=fun E φ a w q z=>by
 have F:ct l<=9223372036854775807:=by
  have hr:=k7 z hx;generalize a.eval x=u at hr;cases hr with|c hr=>cases hr with|imm hr=>
   generalize v:l.map f=es at hr
   have:ct l=ct es:=by rw[<- v];simp
   cases hr with
   |slNil=>rw[this];exact bR _
   |sl us B j hk J hr=>simp only[maxLen] at j;omega
 exact AOps.lenL hx hd (h F) E φ a w q z
def AOps.lenOwnB{x:Od}{t e:Ti}{id:Id}{j n k:Nat}{es:List (List C)}[ht:TyD P t (.slice e)](hx:ev env x=some (.c (.own id j n)))(q:σv[id]? =some (some (.cells k es)))(hd:j6 sz dst=true)
  (h:n<=9223372036854775807->AOps P σ0 sz ops Q rest (St.mk (putE env dst (.c (int n))) σv)):AOps P σ0 sz ops Q (⟨dst,.call ⟨.builtin .len,#[x],#[t]⟩,ty,pos,after,none⟩::rest) (St.mk env σv):=fun E φ a w v z=>by
 have F:n<=9223372036854775807:=by rcases F8 (k7 z hx) q with⟨_,_,_,N⟩|⟨b,base,cap,arr,ety,O,hp,U,J,B,u,_,_,_⟩;omega;simp only[maxLen] at u;omega
 exact AOps.lenOwn hx q hd (h F) E φ a w v z
def AWP.frz{c:Code}{e env2:Env}{σ2:c9}(id:Id)(k:Nat)(es:List (List I))(h1:aa9 env e)(hid:ba (ct σ0) id.1=true)(j:σv[id]? =some (some (Blk.im k es)))(h2:aa9 (St.frz ⟨e,σv⟩ id k es).env env2)(q:(St.frz ⟨e,σv⟩ id k es).σ=σ2)
  (h:AWP P σ0 sz c Q (St.mk env2 σ2)):AWP P σ0 sz c Q (St.mk env σv):=
 AWP.sub (Sub.env h1) (AWP.sub (Sub.frz id k es (aA hid) j) (AWP.sub (s':=⟨env2,σ2⟩) (by subst q;exact Sub.env h2) h))
def AOps.frz{c env2:Env}{σ2:c9}(id:Id)(k:Nat)(es:List (List I))(h1:aa9 env c)(hid:ba (ct σ0) id.1=true)(e:σv[id]? =some (some (Blk.im k es)))(h2:aa9 (St.frz ⟨c,σv⟩ id k es).env env2)(j:(St.frz ⟨c,σv⟩ id k es).σ=σ2)
  (h:AOps P σ0 sz ops Q rest (St.mk env2 σ2)):AOps P σ0 sz ops Q rest (St.mk env σv):=
 AOps.sub (Sub.env h1) (AOps.sub (Sub.frz id k es (aA hid) e) (AOps.sub (s':=⟨env2,σ2⟩) (by subst j;exact Sub.env h2) h))
end
end Ab
end
section
namespace Ab
open Go
def idF{α:Type}:List α->Option Nat
 |[]=>some 0
 |_::l=>match idF l with
  |some 0=>some 1
  |some 1=>some 2
  |some 2=>some 3
  |some 3=>some 4
  |some 4=>some 5
  |some 5=>some 6
  |some 6=>some 7
  |some 7=>some 8
  |some 8=>some 9
  |some 9=>some 10
  |some 10=>some 11
  |some 11=>some 12
  |some 12=>some 13
  |some 13=>some 14
  |some 14=>some 15
  |some 15=>some 16
  |some 16=>some 17
  |some 17=>some 18
  |some 18=>some 19
  |some 19=>some 20
  |some 20=>some 21
  |some 21=>some 22
  |some 22=>some 23
  |some 23=>some 24
  |some 24=>some 25
  |some 25=>some 26
  |some 26=>some 27
  |some 27=>some 28
  |some 28=>some 29
  |some 29=>some 30
  |some 30=>some 31
  |some 31=>some 32
  |some 32=>some 33
  |some 33=>some 34
  |_=>none
def V4{α:Type}:∀{l:List α} {n:Nat},idF l=some n->n=ct l
 |[],n,h=>by cases h;rfl
 |a::l,n,h=>by
  simp only[idF] at h;split at h<;>first
   |(cases h;done)
   |(rename_i hl;have:=V4 hl;cases h;simp only[ax];omega)
def setF{α:Type}:List α->Nat->α->Option (List α)
 |[],_,_=>none
 |_::l,0,x=>some (x::l)
 |a::l,n+1,x=>match setF l n x with
  |some r=>some (a::r)
  |none=>none
def H7{α:Type}:∀{l:List α} {n:Nat} {x:α} {r:List α},setF l n x=some r->r=l.set n x/\n<ct l
 |[],n,x,r,h=>by cases h
 |a::l,0,x,r,h=>by cases h;exact⟨rfl,by simp⟩
 |a::l,n+1,x,r,h=>by simp only[setF] at h;split at h<;>cases h;rename_i hl;have:=H7 hl;exact⟨by rw[this.1];rfl,by simp[this.2]⟩
def newF(σ:c9):Option Id:=match idF σ with
 |some n=>some (n,[])
 |none=>none
def B2{σ:c9}{id:Id}(h:newF σ=some id):id=(ct σ,[]):=by unfold newF at h;split at h;rename_i n c;cases h;rw[V4 c];cases h
def putEnt:Ent->List Nat->Option Blk->Option Ent
 | .one _,[],some b=>some (.one b)
 | .one _,[],none=>some .dead
 | .node _ s,[],b=>some (.node b s)
 |_,_,_=>none
def putEnt_eq{e e':Ent}{p:List Nat}{b:Option Blk}(h:putEnt e p b=some e'):e'=e.put p b:=by unfold putEnt at h;split at h<;>first|(cases h;rfl)|(cases h)
def putFn:c9->Nat->List Nat->Option Blk->Option c9
 |[],_,_,_=>none
 |e::l,0,p,b=>match putEnt e p b with
  |some e'=>some (e'::l)
  |none=>none
 |e::l,n+1,p,b=>match putFn l n p b with
  |some r=>some (e::r)
  |none=>none
def putF(σ:c9)(i:Id)(b:Option Blk):Option c9:=putFn σ i.1 i.2 b
def putFn_eq:∀{σ r:c9} {n:Nat} {p:List Nat} {b:Option Blk},putFn σ n p b=some r->r=σ.put (n,p) b
 |[],r,n,p,b,h=>by cases h
 |e::l,r,0,p,b,h=>by simp only[putFn] at h;split at h;rename_i e' c;cases h;rw[putEnt_eq c];simp[c9.put];cases h
 |e::l,r,n+1,p,b,h=>by simp only[putFn] at h;split at h;rename_i j hr;cases h;rw[putFn_eq hr];simp[c9.put];cases h
def putF_eq{σ r:c9}{i:Id}{b:Option Blk}(h:putF σ i b=some r):r=σ.put i b:=putFn_eq h
def dropF{α:Type}:Nat->List α->Option (List α)
 |0,l=>some l
 |n+1,_::l=>dropF n l
 |_+1,[]=>none
def an0{α:Type}:∀{n:Nat} {l r:List α},dropF n l=some r->r=l.drop n/\n<=ct l
 |0,l,r,h=>by cases h;exact⟨rfl,bR _⟩
 |n+1,a::l,r,h=>by have:=an0 (n:=n) (l:=l) h;exact⟨this.1,by simp;exact this.2⟩
 |n+1,[],r,h=>by cases h
def takeF{α:Type}:Nat->List α->Option (List α)
 |0,_=>some []
 |n+1,a::l=>match takeF n l with
  |some r=>some (a::r)
  |none=>none
 |_+1,[]=>none
def ay6{α:Type}:∀{n:Nat} {l r:List α},takeF n l=some r->r=l.take n/\n<=ct l
 |0,l,r,h=>by cases h;exact⟨rfl,bR _⟩
 |n+1,a::l,r,h=>by simp only[takeF] at h;split at h<;>cases h;rename_i hl;have:=ay6 hl;exact⟨by rw[this.1];rfl,by simp;exact this.2⟩
 |n+1,[],r,h=>by cases h
def immF:List I->Option (List C)
 |[]=>some []
 |x::l=>match immF l with
  |some r=>some (.imm x::r)
  |none=>none
def immF_eq:∀{l:List I} {r:List C},immF l=some r->r=l.map .imm
 |[],r,h=>by cases h;rfl
 |x::l,r,h=>by simp only[immF] at h;split at h<;>cases h;rename_i hl;rw[immF_eq hl];rfl
def Y1{α:Type}(e:List α)(o:Nat)(cs:List α):Option (List α):=match e,o,cs with
 |e,_,[]=>some e
 |[],_,_::_=>none
 |_::e,0,c::cs=>match Y1 e 0 cs with
  |some r=>some (c::r)
  |none=>none
 |a::e,o+1,c::cs=>match Y1 e o (c::cs) with
  |some r=>some (a::r)
  |none=>none
def spliceF_eq{α:Type}:∀{e:List α} {o:Nat} {cs r:List α},cs ≠ []->Y1 e o cs=some r->r=e.take o++cs++e.drop (o+ct cs)/\o+ct cs<=ct e:=by
 have zero:∀(e cs r:List α),Y1 e 0 cs=some r->r=cs++e.drop (ct cs)/\(ct cs)<=ct e:=by
  intro e;induction e with
  |nil=>intro cs r h;cases cs with|nil=>cases h;exact⟨rfl,by simp⟩|cons=>simp[Y1] at h
  |cons a e q=>
   intro cs r h
   cases cs with
   |nil=>simp[Y1] at h;subst h;exact⟨rfl,by simp⟩
   |cons c cs=>
    simp only[Y1] at h
    split at h<;>cases h
    rename_i u hr
    obtain⟨h1,h2⟩:=q cs u hr
    exact⟨by rw[h1];rfl,by simp;exact h2⟩
 intro e;induction e with
 |nil=>intro o cs r j h;cases cs with|nil=>exact absurd rfl j|cons=>simp[Y1] at h
 |cons a e q=>
  intro o cs r j h
  cases cs with
  |nil=>exact absurd rfl j
  |cons c cs=>
   cases o with
   |zero=>
    obtain⟨h1,h2⟩:=zero _ _ _ h
    exact⟨by rw[h1];simp,by simpa using h2⟩
   |succ o=>
    simp only[Y1] at h
    split at h<;>cases h
    rename_i u hr
    obtain⟨h1,h2⟩:=q (by simp) hr
    refine⟨?_,?_⟩
    ·rw[h1]
     simp only[List.take_succ_cons,bH,ax]
     rw[show o+1+(ct cs+1)=(o+(ct cs+1))+1 by omega,List.drop_succ_cons]
    ·simp only[ax] at h2 ⊢;omega
class TyZ (P:Program) (t:Ti) (zc:outParam (List C)):Prop where
 h:∃size bytes z v,TyS P t size bytes z/\ac7 z=some v/\aa7 v=some zc
theorem TyZ.of{P:Program}{t size bytes:Nat}{z:Vl}{e:List C}[h:TyS P t size bytes z](c:(ac7 z).bind aa7=some e):TyZ P t e:=by
 cases hz:ac7 z with
 |none=>rw[hz] at c;cases c
 |some v=>rw[hz] at c;exact⟨size,bytes,z,v,h,hz,c⟩
class FieldC (P:Program) (t f:Nat) (off ft:outParam Nat):Prop where
 h:∃(fs:Array Field) (fd:Field),P.underlying t=some (.struct fs)/\fs[f]? =some fd/\fd.offset=off/\fd.type=ft
theorem FieldC.of{P:Program}{t f off e:Nat}{fs:Array Field}[ht:TyD P t (.struct fs)]{c:Field}(h1:fs[f]? =some c)(h2:c.offset=off)(j:c.type=e):FieldC P t f off e:=⟨fs,c,ht.h,h1,h2,j⟩
class FlatC (P:Program) (t n:Nat):Prop where
 h:∃(fs:Array Field),P.underlying t=some (.struct fs)/\fs.size=n/\∀(i:Nat) (f:Field),fs[i]? =some f->f.offset=i/\∃j,P.info? f.type=some j/\j.size=1
def ones(l:List (Nat×Nat))(i:Nat):Bool:=match l with
 |[]=>true
 |(o,n)::r=>aG o i && aG n 1 && ones r (i+1)
def ones_get:∀{l:List (Nat×Nat)} {i:Nat},ones l i=true->∀(j:Nat) (p:Nat×Nat),l[j]? =some p->p=(i+j,1)
 |[],_,_,j,p,h=>by simp at h
 |(o,n)::r,i,ho,j,p,h=>by
  simp only[ones,ap] at ho;match j with
  |0=>cases h;rw[ao ho.1.1,ao ho.1.2];rfl
  |j+1=>
   have:=ones_get ho.2 j p (by simpa using h)
   rw[this]
   congr 1
   omega
theorem FlatC.of{P:Program}{t n:Nat}{fs:Array Field}{c:List (Nat×Nat)}[ht:TyD P t (.struct fs)][hp:PlacesC P fs.toList c](e:fs.size=n)(ho:ones c 0=true):FlatC P t n:=
 ⟨fs,ht.h,e,fun i f hf=>by obtain⟨m,j,h1,h2,q⟩:=hp.h i f (by simpa using hf);have:=ones_get ho i _ h1;simp only[aR,Prod.mk.injEq] at this;exact⟨this.1,j,h2,by rw[q];exact this.2⟩⟩
def fillF:List C->List (Nat×T)->Option (List C)
 |cs,[]=>some cs
 |cs,(i,.c c)::r=>match setF cs i c with
  |some e=>fillF e r
  |none=>none
 |_,_=>none
def fillF_eq{j:Nat->Option (Nat×Nat)}{n:Nat}(hp:∀i,i<n->j i=some (i,1)):∀{cs:List C} {ps:List (Nat×T)} {q:List C},ct cs=n->fillF cs ps=some q->fillC j cs ps=some q
 |cs,[],q,_,h=>h
 |cs,(i,.c c)::r,q,hl,h=>by
  simp only[fillF] at h;split at h<;>try cases h
  rename_i u hs;obtain⟨h1,h2⟩:=H7 hs;simp only[fillC,hp i (by omega),aa7];rw[show(aG [c].length 1 && ba (i+[c].length) (ct cs))=true by simp only[ax,aW,ap];exact⟨rfl,Nat.ble_eq_true_of_le (by omega)⟩];have e:cs.take i++[c]++cs.drop (i+[c].length)=u:=by rw[h1,bm,if_pos h2,bF];rfl
  simp only[e];exact fillF_eq hp (by rw[h1];simpa using hl) h
 |_,(_,.agg _)::_,_,_,h=>by cases h
 |_,(_,.tup _)::_,_,_,h=>by cases h
 |_,(_,.undef)::_,_,_,h=>by cases h
section
variable {P:Program}{σ0:c9}{sz:Nat}{Q:Post}{env:Env}{σv σ':c9}{ops:Array Oper}{rest:List Oper}{dst:Option Nat}{ty:Ti}{pos:String}{after:Array Edge}
def W.box{x:Od}{t:Ti}{v:T}{cs:List C}{id:Id}{k:Nat}(hx:ev env x=some v)(j:aa7 v=some cs)(hk:idF cs=some k)(hid:newF σv=some id)(e:w8 σv (.one (.cells k [cs]))=some σ')(hd:j6 sz dst=true)
  (h:AOps P σ0 sz ops Q rest ⟨putE env dst (.c (.ptr id 0 0)),σ'⟩):AOps P σ0 sz ops Q (⟨dst,.box t x,ty,pos,after,none⟩::rest) ⟨env,σv⟩:=by
 have h1:=V4 hk;have h2:=B2 hid;have q:=v7 e
 subst h1 h2 q
 exact .box hx j hd h
def W.alloc{t:Ti}{cs:List C}{id:Id}{k:Nat}[hz:TyZ P t cs](hk:idF cs=some k)(hid:newF σv=some id)(e:w8 σv (.one (.cells k [cs]))=some σ')(hd:j6 sz dst=true)
  (h:AOps P σ0 sz ops Q rest ⟨putE env dst (.c (.ptr id 0 0)),σ'⟩):AOps P σ0 sz ops Q (⟨dst,.alloc t,ty,pos,after,none⟩::rest) ⟨env,σv⟩:=by
 have h1:=V4 hk;have h2:=B2 hid;have j:=v7 e
 subst h1 h2 j
 obtain⟨size,bytes,z,v,hs,g1,q⟩:=hz.h
 exact AOps.alloc (hs:=hs) g1 q hd h
def W.store{x y:Od}{t:Ti}{bytes:Nat}{z:Vl}{id:Id}{o k:Nat}{e e':List C}{c:C}[hs:TyS P t 1 bytes z](hx:ev env x=some (.c (.ptr id 0 o)))(hy:ev env y=some (.c c))(q:σv[id]? =some (some (.cells k [e])))(u:setF e o c=some e')(j:putF σv id (some (.cells k [e']))=some σ')
  (h:AOps P σ0 sz ops Q rest ⟨env,σ'⟩):AOps P σ0 sz ops Q (⟨none,.store t x y,ty,pos,after,none⟩::rest) ⟨env,σv⟩:=by
 have h1:=H7 u;have h2:=putF_eq j
 obtain⟨h1,v⟩:=h1
 subst h1 h2
 exact .store hx hy q rfl v h
def W.storeAgg{x y:Od}{t:Ti}{size bytes:Nat}{z:Vl}{id:Id}{o k:Nat}{e e' cs:List C}[hs:TyS P t size bytes z](hx:ev env x=some (.c (.ptr id 0 o)))(hy:ev env y=some (.agg cs))(q:σv[id]? =some (some (.cells k [e])))(hl:idF cs=some size)(hz:aN 0 size=true)(B:Y1 e o cs=some e')(j:putF σv id (some (.cells k [e']))=some σ')
  (h:AOps P σ0 sz ops Q rest ⟨env,σ'⟩):AOps P σ0 sz ops Q (⟨none,.store t x y,ty,pos,after,none⟩::rest) ⟨env,σv⟩:=by
 have u:=V4 hl
 have v:cs ≠ []:=fun E=>by subst E;simp at u;subst u;cases hz
 obtain⟨h1,F⟩:=spliceF_eq v B
 have h2:=putF_eq j
 subst h1 h2
 exact .storeAgg hx hy q rfl (by omega) u.symm h
def W.loadAgg{x:Od}{t:Ti}{d:TypeDesc}{size bytes:Nat}{z:Vl}{id:Id}{j o k:Nat}{es:List (List C)}{e u cs:List C}[ht:TyD P t d][hs:TyS P t size bytes z](v:A7 d=true)(hx:ev env x=some (.c (.ptr id j o)))(q:σv[id]? =some (some (.cells k es)))
  (B:es[j]? =some e) (h1:dropF o e=some u) (h2:takeF size u=some cs) (hd:j6 sz dst=true)
  (h:AOps P σ0 sz ops Q rest ⟨putE env dst (.agg cs),σv⟩):AOps P σ0 sz ops Q (⟨dst,.load t x,ty,pos,after,none⟩::rest) ⟨env,σv⟩:=by
 obtain⟨h1,g1⟩:=an0 h1
 obtain⟨h2,E⟩:=ay6 h2
 subst h1 h2
 exact .loadAgg v hx q B (by simp at E;omega) hd h
def W.loadIAgg{x:Od}{t:Ti}{d:TypeDesc}{size bytes:Nat}{z:Vl}{cs cs1:List I}{e:List C}[ht:TyD P t d][hs:TyS P t size bytes z](j:A7 d=true)(hx:ev env x=some (.c (.imm (.ipt cs))))(h1:takeF size cs=some cs1)(h2:immF cs1=some e)(hd:j6 sz dst=true)
  (h:AOps P σ0 sz ops Q rest ⟨putE env dst (.agg e),σv⟩):AOps P σ0 sz ops Q (⟨dst,.load t x,ty,pos,after,none⟩::rest) ⟨env,σv⟩:=by
 obtain⟨h1,g1⟩:=ay6 h1
 have h2:=immF_eq h2
 subst h1 h2
 exact .loadIAgg j hx g1 hd h
def W.fieldAddr{x:Od}{t:Ti}{id:Id}{f j k off q size bytes:Nat}{z:Vl}{es:List (List C)}[hf:FieldC P t f off q][hs:TyS P q size bytes z](hz:aG size 0=false)
  (hx:ev env x=some (.c (.ptr id j 0))) (e:σv[id]? =some (some (.cells k es))) (hd:j6 sz dst=true)
  (h:AOps P σ0 sz ops Q rest ⟨putE env dst (.c (.ptr id j off)),σv⟩):AOps P σ0 sz ops Q (⟨dst,.fieldAddr t x f,ty,pos,after,none⟩::rest) ⟨env,σv⟩:=by
 obtain⟨fs,B,h1,h2,u,v⟩:=hf.h
 subst u v
 exact AOps.fieldAddr (ht:=⟨h1⟩) h2 (by cases size with|zero=>cases hz|succ n=>rfl) hx e hd (by rw[aR];exact h)
def natF:Int->Option Nat
 | .ofNat n=>some n
 |_=>none
def natF_eq{z:Int}{n:Nat}(h:natF z=some n):z=(n:Int):=by
 cases z with
 |ofNat m=>cases h;rfl
 |negSucc m=>cases h
def W.idxArr{x y:Od}{t e:Ti}{len kb bytes:Nat}{z:Vl}{u:Int}{i:Nat}{id:Id}{j:Nat}{es:List (List C)}[ht:TyD P t (.array len e)][hs:TyS P e 1 bytes z]
  (hx:ev env x=some (.c (.ptr id j 0))) (q:σv[id]? =some (some (.cells kb es))) (hy:ev env y=some (.c (int u))) (hz:natF u=some i) (hi:i<len) (hd:j6 sz dst=true)
  (h:AOps P σ0 sz ops Q rest ⟨putE env dst (.c (.ptr id j i)),σv⟩):AOps P σ0 sz ops Q (⟨dst,.indexAddr t x y,ty,pos,after,none⟩::rest) ⟨env,σv⟩:=
 by
 have e:=natF_eq hz
 subst e
 exact .indexAddrArr hx q hy (by omega) hd (by rw[cm,aR,Nat.mul_one];exact h)
def W.build{t n:Ti}{parts:List (Nat×Od)}{ps:List (Nat×T)}{B cs:List C}[hf:FlatC P t n][hz:TyZ P t B](hl:idF B=some n)
  (E:evP env parts=some ps) (F:fillF B ps=some cs) (hd:j6 sz dst=true)
  (h:AOps P σ0 sz ops Q rest ⟨putE env dst (.agg cs),σv⟩):AOps P σ0 sz ops Q (⟨dst,.build t parts.toArray,ty,pos,after,none⟩::rest) ⟨env,σv⟩:=by
 obtain⟨fs,h1,h2,h3⟩:=hf.h
 obtain⟨size,bytes,z,v,hs,g1,J⟩:=hz.h
 have q:=V4 hl
 have u:PlacesC P fs.toList ((aj n).map fun i=>(i,1)):=⟨fun i f hi=>by
  have O:fs[i]? =some f:=by simpa using hi
  obtain⟨k1,j,k2,k3⟩:=h3 i f O;have:i<n:=by rw[<- h2];exact(aO.1 O).1
  exact⟨1,j,by simp[this,k1],k2,k3⟩,by simp[h2]⟩
 have hv:v=.agg B\/(∃x,v=.c x/\B=[x]):=by
  cases v with
  |c x=>cases J;exact .inr ⟨x,rfl,rfl⟩
  |agg cs=>cases J;exact .inl rfl
  |tup _=>cases J
  |undef=>cases J
 have ab:A7 (.struct fs)=true:=rfl
 rcases hv with rfl|⟨x,rfl,rfl⟩
 ·exact AOps.build (ht:=⟨h1⟩) (hs:=hs) (hp:=u) g1 E (fillF_eq (fun i hi=>by simp[hi]) q.symm F) hd h
 · -- a struct whose zero is one cell: read as' a list of one cell all the same
  refine AOps.value rfl hd _ (fun Γ φ a w hR=> ?_) h
  obtain⟨k1,k2⟩:=ar0 hR E
  have aa:RelL w φ σv (Al Γ.N φ σv) [x] z.cells:=by have:=R4 (Y9 (w:=w) (φ:=φ) (σ:=σv) (A:=Al Γ.N φ σv) g1) J;exact⟨this.1,this.2⟩
  obtain⟨arr',e1,e2⟩:=al2 (w:=w) (place:=fun i=>((aj n).map fun i=>(i,1))[i]?) k1 k2 aa (fillF_eq (fun i hi=>by simp[hi]) q.symm F)
  refine⟨.agg arr',?_,relL_agg e2⟩
  have hm:∀(l:List Field) (e:List (Nat×Nat)),ct e=ct l->(∀(i:Nat) (f:Field),l[i]? =some f->∃n j,e[i]? =some (f.offset,n)/\P.info? f.type=some j/\j.size=n)->
    (l.mapM (fun f=>Functor.map (Prod.mk f.offset) (Go.sizeOf f.type):Field->Sem (Nat×Nat))).run P w=.ok e w:=by
   intro l
   induction l with
   |nil=>intro e hl _;cases e with|nil=>rfl|cons=>simp at hl
   |cons f l ih=>
    intro e hl hh
    cases e with
    |nil=>simp at hl
    |cons p e=>
     obtain⟨n,j,h1,h2,h3⟩:=hh 0 f rfl
     cases h1
     have:=ih e (by simpa using hl) (fun i f hi=>by simpa using hh (i+1) f (by simpa using hi))
     simp[List.mapM_cons,Go.sizeOf,typeInfo,h2,h3] at this ⊢
     simp[this]
  have U:=hm fs.toList _ u.len u.h
  obtain⟨fl⟩:=fs
  have e3:(execOp a.eval ⟨dst,.build t parts.toArray,ty,pos,after,none⟩).run P w=((Instr.build t (parts.map fun p=>(p.1,a.eval p.2)).toArray).run P w).andThen fun v w=>.ok (.value v) w:=by simp[execOp]
  rw[e3]
  simp only[Instr.build]
  rw[Sem.run_bind,H4 (t:=t)]
  simp only[Result.andThen,Sem.run_bind,run_underlying h1,ck]
  simp at U e1
  simp[U,e1]
def W.lit1{x:Od}{t e:Ti}{id:Id}{k bytes:Nat}{z:Vl}{v:T}{cs:List C}[ht:TyD P t (.slice e)][hs:TyS P e k bytes z](j:(z.cells.size==k)=true)(q:ba k 16777216=true)(u:aN 0 k=true)(hx:ev env x=some v)(E:aa7 v=some cs)(hl:idF cs=some k)(hid:newF σv=some id)(B:w8 σv (.one (.cells k [cs]))=some σ')(hd:j6 sz dst=true)
  (h:AOps P σ0 sz ops Q rest ⟨putE env dst (.c (.own id 0 1)),σ'⟩):AOps P σ0 sz ops Q (⟨dst,.buildSlice t 1 #[(0,x)],ty,pos,after,none⟩::rest) ⟨env,σv⟩:=by
 have h1:=V4 hl;have h2:=B2 hid;have F:=v7 B
 subst h2 F
 exact .lit1 j q u hx E h1.symm hd h
def W.make{x y:Od}{t e:Ti}{id:Id}{k bytes:Nat}{z:Vl}{n:Nat}{cs:List C}[ht:TyD P t (.slice e)][hz:TyZ P e cs][hs:TyS P e k bytes z](hk:idF cs=some k)
  (hx:ev env x=some (.c (int (n:Int)))) (hy:ev env y=some (.c (int (n:Int)))) (J:n<=9223372036854775807) (hb:bytes * n<=281474976710656) (hid:newF σv=some id) (B:w8 σv (.one (.cells k (bw n cs)))=some σ') (hd:j6 sz dst=true)
  (h:AOps P σ0 sz ops Q rest ⟨putE env dst (.c (.own id 0 n)),σ'⟩):AOps P σ0 sz ops Q (⟨dst,.makeSlice t x y,ty,pos,after,none⟩::rest) ⟨env,σv⟩:=by
 have h1:=V4 hk;have h2:=B2 hid;have N:=v7 B
 subst h2 N
 obtain⟨E,u,z',v,F,g1,O⟩:=hz.h
 obtain⟨i,U,e2,e3,e4⟩:=hs.h
 obtain⟨i',j,aa,ab,q⟩:=F.h
 rw[U] at j;cases j
 rw[e4] at q;cases q
 refine AOps.make (hs:=hs) g1 O (by rw[h1];simp) hx hy (Int.natCast_nonneg n) (by omega) (by
  have:((bytes * n:Nat):Int)<=281474976710656:=by omega
  rwa [Int.natCast_mul] at this) hd ?_
 rw[cm]
 exact h
end
end Ab
end
