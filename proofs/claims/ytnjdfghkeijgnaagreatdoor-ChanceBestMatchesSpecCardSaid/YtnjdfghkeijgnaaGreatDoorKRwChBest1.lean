/-
  Texts that the proof stands on.
-/
import Derived.WalkKit
import Derived.Sort.LoopGhostIn
import Derived.CallsIn
import Derived.TacticsIn
import Derived.RangeFuncNested
import Derived.RangeFuncLeaves
import Derived.RegionTactic
import Derived.OrdersIn
set_option linter.all false
open List renaming getElem?_eq_getElem->ae,all_eq_true->af,eq_nil_of_length_eq_zero->ah,range->ai,mem_of_getElem?->aj,getElem?_of_mem->ar,getElem?_take->au,getElem?_drop->aw,length_cons->ax,mem_zipIdx_iff_getElem?->aD,getElem?_append_right->aE,filter_cons->aF,getElem?_append_left->aH,getElem?_modify->aI,length_append->aL,range'_succ->aQ,mem_cons->aS,length_nil->aT,size_toArray->aU,append_nil->aZ,filter_nil->bb,pairwise_cons->bc,set_eq_take_append_cons_drop->bf,length_map->bh,getElem?_append->bl,range_eq_range'->bm,map_congr_left->bn,filterMap_cons->bo,take_zero->bp,replicate->br,map_cons->bu,ext_getElem?->bz,append_assoc->bA,mem_of_find?_eq_some->bE,cons_append->bF,any_eq_true->bG,getElem?_cons_zero->bH,getElem?_replicate->bJ,getElem?_cons_succ->bK,nil_append->bM,filter_eq_nil_iff->bN,getElem?_toArray->bP,mem_cons_of_mem->bR,mem_iff_getElem->bT,filter_append->bZ,getElem?_set->co,mapM_toArray->cq,range'->cr,length_take->cu,length_drop->cw,zipIdx_cons->cy,length->cA
open Nat renaming lt_of_lt_of_le->ag,mul_le_mul_right->ak,eq_of_beq_eq_true->am,add_mul->aq,lt_or_ge->az,le_of_ble_eq_true->aA,blt_eq->aC,beq->aG,le_refl->aK,blt->aM,lt_irrefl->aO,le_trans->aP,add_zero->aV,mul_comm->aW,zero_add->aX,ble->aY,one_mul->bd,add_assoc->bg,le_mul_of_pos_right->bI,zero_le->bO,not_lt->bS,div_lt_of_lt_mul->bU,pos_of_ne_zero->bX
open Bool renaming and_eq_true->ap,or_eq_true->ba,false_eq_true->bt,not_eq_true'->cp
open Array renaming getElem?_replicate->aB,getElem?_eq_some_iff->aN,getElem?_setIfInBounds_ne->aR,getElem?_setIfInBounds->bq,replicate->bL,length_toList->bV,toList_zipIdx->bW,foldl_toList->bY
open Option renaming map_some->aJ,map_eq_map->bw,map->bQ
namespace Ab
open Go
variable{a x:Nat}{g:World}{l:Nat->Prop}{r:Program}{t:Array Oper}{H:Option Nat}{P:String}{Q:Array Edge}{X:List Oper}
abbrev Od:=Go.Operand
variable{B:Od}
abbrev Ti:=Go.TypeId
variable{M:Ti}
abbrev Vl:=Go.Value
variable{p:Vl}
def lS{b:Type}{l:List b}{i:Nat}{a:b}:(l.set i a).length=cA l:=List.length_set
def lG{c:Type}{l:List c}{b:c}:l[a]?=some b↔∃h:a<cA l,l[a]=b:=List.getElem?_eq_some_iff
def lM{b c:Type}{f:b->c}{l:List b}:(l.map f)[a]?=bQ f l[a]?:=List.getElem?_map
def oM{c d:Type}{f:c->d}{x:Option c}{b:d}:x.map f=some b↔∃a,x=some a/\f a=b:=Option.map_eq_some_iff
abbrev LL:=List (List Int)
abbrev Li:=List Int
def Z.{u}{α:Sort u}{a:α}:a=a:=rfl
def Y:True:=trivial
def oB{b c:Type}(a:b)(f:b->Option c):(some a).bind f=f a:=rfl
def bft(b:Bool):b=true\/b=false:=Bool.eq_false_or_eq_true b
def oi{c:Type}{a b:c}(h:some a=some b):a=b:=Option.some.inj h
def o2{e f:Type}{a c:e}{b d:f}(h:some (a,b)=some (c,d)):a=c/\b=d:=by cases h;exact⟨rfl,rfl⟩
def o4{i j l n:Type}{a c:i}{b d:j}{e f:l}{g h:n}(k:some (a,b,e,g)=some (c,d,f,h)):a=c/\b=d/\e=f/\g=h:=by cases k;exact⟨rfl,rfl,rfl,rfl⟩
def o5{l n o p q:Type}{a c:l}{b d:n}{e f:o}{g h:p}{i j:q}(k:some (a,b,e,g,i)=some (c,d,f,h,j)):a=c/\b=d/\e=f/\g=h/\i=j:=by cases k;exact⟨rfl,rfl,rfl,rfl,rfl⟩
def o6{n o p q r s:Type}{a c:n}{b d:o}{e f:p}{g h:q}{i j:r}{l m:s}(k:some (a,b,e,g,i,l)=some (c,d,f,h,j,m)):a=c/\b=d/\e=f/\g=h/\i=j/\l=m:=by cases k;exact⟨rfl,rfl,rfl,rfl,rfl,rfl⟩
def o3{g i j:Type}{a c:g}{b d:i}{e f:j}(h:some (a,b,e)=some (c,d,f)):a=c/\b=d/\e=f:=by cases h;exact⟨rfl,rfl,rfl⟩
inductive I where
 |val (v:Vl)
 |sl (k:Nat) (es:List (List I))
 |ipt (cs:List I)
 |fn (f:FuncId) (caps:List I)
abbrev Id:=Nat×List Nat
variable{c:Id}
instance (n:Nat):OfNat Id n:=⟨(n,[])⟩
inductive C where
 |imm (x:I)
 |own (id:Id) (j n:Nat)
 |ptr (id:Id) (j o:Nat)
 |fn (f:FuncId) (caps:List C)
 |ifc (t:Ti) (cs:List C) (agg:Bool)
 |map (id:Id)
 |fnb (f:FuncId) (caps:List C)
 |yld (id:Id)
variable{y:List C}{V:List (List C)}
inductive T where
 |c (x:C)
 |agg (cs:List C)
 |tup (ts:List T)
 |undef
variable{A:List T}
inductive Blk where
 |cells (k:Nat) (es:List (List C))
 |obj (p:Obj->List Vl->Prop) (cs:List C)
inductive Ent where
 |dead
 |one (b:Blk)
 |node (main:Option Blk) (subs:List Ent)
abbrev b6:=List Ent
variable{b d:b6}
abbrev Env:=List (Nat×T)
variable{L:Env}
abbrev Phi:=Id->Option (Nat×Nat)
variable{q:Phi}
def Ent.sub:Ent->List Nat->Option Blk
 | .dead,_=>none
 | .one b,[]=>some b
 | .one _,_::_=>none
 | .node m _,[]=>m
 | .node _ s,i::p=>match s[i]? with
  |some e=>e.sub p
  |none=>none
def Ent.opt:Option Blk->Ent
 |none=>.dead
 |some b=>.one b
def Ent.put:Ent->List Nat->Option Blk->Ent
 | .dead,[],b=>.opt b
 | .one _,[],b=>.opt b
 | .node _ s,[],b=>.node b s
 | .node m s,i::p,b=>.node m (s.modify i fun e=>e.put p b)
 | .dead,_::_,_=>.dead
 | .one c,_::_,_=>.one c
def b6.at(σ:b6)(i:Id):Option (Option Blk):=match σ[i.1]? with
 |some e=>some (e.sub i.2)
 |none=>none
instance:GetElem? (List Ent) Id (Option Blk) (fun σ i=>i.1<cA σ) where
 getElem σ i h:=(σ[i.1]'h).sub i.2
 getElem? σ i:=b6.at σ i
def b6.put(σ:b6)(i:Id)(b:Option Blk):b6:=σ.modify i.1 fun e=>e.put i.2 b
def b6.at_eq(σ:b6)(i:Id):σ[i]? =b6.at σ i:=rfl
@[simp] theorem b6.get_nil (i:Id):([]:b6)[i]? =none:=rfl
def b6.lt_of{x:Option Blk}(h:b[c]? =some x):c.1<cA b:=by rw[b6.at_eq,b6.at] at h;split at h;rename_i e;exact(lG.1 e).1;cases h
def b6.get_left(h:c.1<cA b):(b++d)[c]? =b[c]? :=by
 rw[b6.at_eq,b6.at_eq,b6.at,b6.at,aH h]
def b6.get_right(h:cA b<=c.1):(b++d)[c]? =d[((c.1 - (cA b),c.2):Id)]? :=by
 rw[b6.at_eq,b6.at_eq,b6.at,b6.at,aE h]
def b6.get_new{σ:b6}{b:Blk}{x:Blk}(h:(σ++[.one b])[c]? =some (some x)):(c.1<cA σ/\σ[c]? =some (some x))\/(c=(cA σ,[])/\x=b):=by
 rcases az c.1 (cA σ) with d|d;exact .inl ⟨d,by rwa [b6.get_left d] at h⟩;rw[b6.get_right d] at h;have e:=b6.lt_of h;simp only[ax,aT] at e;obtain⟨r,p⟩:=c;have f:r - (cA σ)=0:=by simp only at e;omega
 have g:r=cA σ:=by simp only at d;omega
 simp only[f] at h;cases p with
 |nil=>
  rw[b6.at_eq] at h
  simp only[b6.at,bH,Ent.sub,Option.some.injEq] at h
  exact .inr ⟨by rw[g],h.symm⟩
 |cons a p=>
  rw[b6.at_eq] at h
  simp[b6.at,Ent.sub] at h
def b6.get_last(σ:b6)(b:Blk):(σ++[.one b])[((cA σ,[]):Id)]? =some (some b):=by rw[b6.get_right (aK _)];simp[b6.at_eq,b6.at,Ent.sub]
@[simp] theorem b6.length_put (σ:b6) (i:Id) (b:Option Blk):(σ.put i b).length=cA σ:=by simp[b6.put]
def Ent.sub_opt(b:Option Blk)(p:List Nat):(Ent.opt b).sub p=match p with|[]=>b|_::_=>none:=by
 cases b<;>cases p<;>rfl
def Ent.sub_put_ne:∀(p q:List Nat) (e:Ent) (b:Option Blk),q ≠ p->(e.put p b).sub q=e.sub q
 |[],q,e,b,h=>by
  cases q with
  |nil=>exact absurd rfl h
  |cons a q=>cases e<;>simp[Ent.put,Ent.sub,Ent.sub_opt]
 |i::p,q,e,b,h=>by
  cases e with
  |dead=>rfl
  |one c=>rfl
  |node m s=>
   cases q with
   |nil=>rfl
   |cons a q=>
    simp only[Ent.put,Ent.sub,aI]
    by_cases d:i=a
    ·subst d
     simp only[if_true]
     cases j:s[i]? with
     |none=>rfl
     |some f=>exact Ent.sub_put_ne p q f b (fun g=>h (by rw[g]))
    ·simp[d]
def Ent.sub_put_eq:∀(p:List Nat) (e:Ent) (b:Option Blk) {a:Blk},e.sub p=some a->(e.put p b).sub p=b
 |[],e,b,_,h=>by cases e<;>simp[Ent.put,Ent.sub,Ent.sub_opt]
 |i::p,e,b,a,h=>by
  cases e with
  |dead=>cases h
  |one c=>cases h
  |node m s=>
   simp only[Ent.put,Ent.sub,aI] at h ⊢
   cases d:s[i]? with
   |none=>rw[d] at h;cases h
   |some f=>
    rw[d] at h
    simpa using Ent.sub_put_eq p f b h
def b6.get_put_ne{j:Id}{b:Option Blk}(h:j ≠ c):(d.put c b)[j]? =d[j]? :=by
 rw[b6.at_eq,b6.at_eq,b6.at,b6.at,b6.put,aI];by_cases a:c.1=j.1;simp only[if_pos a];cases g:d[j.1]? with
 |none=>rfl
 |some e=>
  simp only[bw,aJ]
  rw[Ent.sub_put_ne _ _ _ _ (fun f=>h (Prod.ext a.symm f))]
 simp[if_neg a]
def b6.get_put_eq{b:Option Blk}{f:Blk}(h:d[c]? =some (some f)):(d.put c b)[c]? =some b:=by
 rw[b6.at_eq,b6.at] at h ⊢;rw[b6.put,aI];cases a:d[c.1]? with
 |none=>rw[a] at h;cases h
 |some e=>
  rw[a] at h
  simp only[Option.some.injEq] at h
  simp only[if_true,bw,aJ,Option.some.injEq]
  exact Ent.sub_put_eq _ _ _ h
def b6.get_put{j:Id}{b:Option Blk}{f x:Blk}(h:d[c]? =some (some f))(a:(d.put c b)[j]? =some (some x)):(j=c/\b=some x)\/(j ≠ c/\d[j]? =some (some x)):=by by_cases e:j=c;subst e;rw[b6.get_put_eq h] at a;exact .inl ⟨rfl,Option.some.inj a⟩;rw[b6.get_put_ne e] at a;exact .inr ⟨e,a⟩
def Ent.dead_put:∀(p:List Nat) (e:Ent) {x:Blk},e.sub p=none->(e.put p none).sub p=some x->False
 |[],e,x,h,a=>by cases e<;>simp[Ent.put,Ent.sub,Ent.sub_opt] at a
 |i::p,e,x,h,a=>by
  cases e with
  |dead=>cases a
  |one c=>cases a
  |node m s=>
   simp only[Ent.put,Ent.sub,aI] at h a
   cases b:s[i]? with
   |none=>rw[b] at a;cases a
   |some d=>
    rw[b] at h a
    exact Ent.dead_put p d h (by simpa using a)
def b6.get_kill{j:Id}{x:Blk}(a:(b.put c none)[j]? =some (some x)):j ≠ c/\b[j]? =some (some x):=by
 by_cases e:j=c;subst e;cases h:b[j]? with
 |none=>
  have:=b6.lt_of a
  rw[b6.length_put] at this
  rw[b6.at_eq,b6.at,ae this] at h
  cases h
 |some o=>
  cases o with
  |none=>
   exfalso
   rw[b6.at_eq,b6.at,b6.put,aI] at a
   rw[b6.at_eq,b6.at] at h
   cases d:b[j.1]? with
   |none=>rw[d] at h;cases h
   |some e=>
    rw[d] at h a
    simp only[if_true,bw,aJ,Option.some.injEq] at h a
    exact Ent.dead_put _ _ h a
  |some f=>rw[b6.get_put_eq h] at a;cases a
 exact⟨e,by rwa [b6.get_put_ne e] at a⟩
def lookup(t:Nat):Env->Option T
 |[]=>none
 |(k,v)::r=>match aG k t with
  |true=>some v
  |false=>lookup t r
structure St where
 env:Env
 σ:b6
def aa5(a:Addr)(n:Nat):(a.add n).block=a.block:=by unfold Addr.add;split<;>rfl
def b6.put_last(b a:Blk):∀σ:b6,b6.put (σ++[.one b]) (cA σ,[]) (some a)=σ++[.one a]
 |[]=>rfl
 |e::σ=>by have:=b6.put_last b a σ;simp only[b6.put] at this ⊢;simpa using this
mutual
def Ent.map(f:Blk->Blk):Ent->Ent
 | .dead=>.dead
 | .one b=>.one (f b)
 | .node m s=>.node (m.map f) (Ent.mapL f s)
def Ent.mapL(f:Blk->Blk):List Ent->List Ent
 |[]=>[]
 |e::r=>Ent.map f e::Ent.mapL f r
end
def b6.mapB(f:Blk->Blk)(σ:b6):b6:=Ent.mapL f σ
def mapL_eq(f:Blk->Blk):∀l:List Ent,Ent.mapL f l=List.map (Ent.map f) l
 |[]=>rfl
 |e::r=>by rw[Ent.mapL,mapL_eq f r];rfl
def Ent.sub_map(f:Blk->Blk):∀(p:List Nat) (e:Ent),(e.map f).sub p=(e.sub p).map f
 |[],e=>by cases e<;>simp[Ent.map,Ent.sub]
 |i::p,e=>by
  cases e with
  |dead=>rfl
  |one c=>rfl
  |node m s=>
   simp only[Ent.map,Ent.sub,mapL_eq,lM]
   cases b:s[i]? with
   |none=>rfl
   |some a=>simpa using Ent.sub_map f p a
def b6.get_map(f:Blk->Blk)(σ:b6)(i:Id):(σ.mapB f)[i]? =(σ[i]?).map (bQ f):=by
 rw[b6.at_eq,b6.at_eq,b6.at,b6.at,b6.mapB,mapL_eq,lM];cases σ[i.1]? with
 |none=>rfl
 |some e=>simp[Ent.sub_map]
@[simp] theorem b6.length_map (f:Blk->Blk) (σ:b6):(σ.mapB f).length=cA σ:=by simp[b6.mapB,mapL_eq]
def b6.get_map_some{f:Blk->Blk}{b:Blk}(h:(d.mapB f)[c]? =some (some b)):∃a,d[c]? =some (some a)/\b=f a:=by
 rw[b6.get_map] at h;cases e:d[c]? with
 |none=>rw[e] at h;cases h
 |some o=>
  rw[e] at h
  cases o with
  |none=>cases h
  |some a=>cases h;exact⟨a,rfl,rfl⟩
def sh(n:Nat):Id->Id:=fun i=>(i.1+n,i.2)
def unsh(n:Nat):Id->Id:=fun i=>(i.1 - n,i.2)
def unsh_sh(n:Nat)(i:Id):unsh n (sh n i)=i:=by simp[sh,unsh]
def sh_unsh(h:a<=c.1):sh a (unsh a c)=c:=by obtain⟨r,p⟩:=c;simp only[sh,unsh] at h ⊢;rw[show r - a+a=r by omega]
inductive RelI(w:World)(A:Nat->Prop):I->Vl->Prop
 |val {v} (h:v.oneCell'=true):RelI w A (.val v) v
 |sl {k es n cap} (us:Nat->Nat->Vl) (hcap:cA es<=cap) (hmax:cap<=maxLen)
   (hk:∀(j:Nat) (e:List I),es[j]? =some e->cA e=k)
   (hc:∀(j:Nat) (e:List I) (o:Nat) (x:I),es[j]? =some e->e[o]? =some x->A n.block/\w.cell? (n.add (j * k+o))=some (us j o))
   (hr:∀(j:Nat) (e:List I) (o:Nat) (x:I),es[j]? =some e->e[o]? =some x->RelI w A x (us j o)):RelI w A (.sl k es) (.slice (some n) (cA es) cap)
 |slNil {k}:RelI w A (.sl k []) (.slice none 0 0)
 |ipt {cs n} (us:Nat->Vl)
   (hc:∀(o:Nat) (x:I),cs[o]? =some x->A n.block/\w.cell? (n.add o)=some (us o))
   (hr:∀(o:Nat) (x:I),cs[o]? =some x->RelI w A x (us o)):RelI w A (.ipt cs) (.pointer (some n))
 |fn {f caps} (us:Nat->Vl) (hr:∀(i:Nat) (c:I),caps[i]? =some c->RelI w A c (us i)):
   RelI w A (.fn f caps) (.func (.func f) #[] ((ai (cA caps)).map us).toArray)
def RelI.one{x:I}(h:RelI g l x p):p.oneCell'=true:=by cases h<;>first|assumption|rfl
def RelI.mono{s:World}{t:Nat->Prop}{x:I}(u:∀b,l b->b<g.heap.size->s.heap[b]? =g.heap[b]?)(y:∀b,l b->b<g.heap.size->t b)(h:RelI g l x p):RelI s t x p:=by
 induction h with
 |val h=>exact .val h
 |sl d f i hk q _ k=>
  refine .sl d f i hk (fun j e o x z r=> ?_) k
  obtain⟨n,a⟩:=q j e o x z r
  have c:=World.block_lt_of_cell? _ _ a
  rw[aa5] at c
  exact⟨y _ n c,(World.cell?_of_block (by rw[aa5];exact u _ n c)).trans a⟩
 |slNil=>exact .slNil
 |ipt d q _ k=>
  refine .ipt d (fun o x r=> ?_) k
  obtain⟨n,a⟩:=q o x r
  have c:=World.block_lt_of_cell? _ _ a
  rw[aa5] at c
  exact⟨y _ n c,(World.cell?_of_block (by rw[aa5];exact u _ n c)).trans a⟩
 |fn d _ k=>exact .fn d k
def ad5(w:World)(p:Option (Nat×Nat))(k len:Nat)(j n:Nat)(v:Vl):Prop:=
 (p=none/\v=.slice none 0 0/\j=0/\n=0)\/
 ∃b c d e f a,p=some (b,c)/\v=.slice (some a) n d/\(0<d->a=⟨b,c+j * k,none⟩)/\n<=d/\d<=maxLen/\j+n<=len/\
  w.heap[b]? =some (.cells e f (0,0))/\c+(j+d) * k<=e.size
inductive RelC(w:World)(φ:Phi)(σ:b6)(A:Nat->Prop):C->Vl->Prop
 |imm {E v} (h:RelI w A E v):RelC w φ σ A (.imm E) v
 |own {id j n v} (hid:id.1<cA σ) (h1:v.oneCell'=true)
   (h:∀(k:Nat) (es:List (List C)),σ[id]? =some (some (.cells k es))->ad5 w (φ id) k (cA es) j n v):RelC w φ σ A (.own id j n) v
 |ptr {id j o v} (hid:id.1<cA σ) (h1:v.oneCell'=true)
   (h:∀(k:Nat) (es:List (List C)),σ[id]? =some (some (.cells k es))->∃D base,φ id=some (D,base)/\v=.pointer (some ⟨D,base+(j * k+o),none⟩)):RelC w φ σ A (.ptr id j o) v
 |fn {f caps} (us:Nat->Vl) (hr:∀(i:Nat) (s:C),caps[i]? =some s->RelC w φ σ A s (us i)):
   RelC w φ σ A (.fn f caps) (.func (.func f) #[] ((ai (cA caps)).map us).toArray)
 |ifcA {e cs} (us:Nat->Vl) (hr:∀(i:Nat) (s:C),cs[i]? =some s->RelC w φ σ A s (us i)):
   RelC w φ σ A (.ifc e cs true) (.iface e (.agg ((ai (cA cs)).map us).toArray))
 |ifc1 {e s u} (hr:RelC w φ σ A s u):RelC w φ σ A (.ifc e [s] false) (.iface e u)
 |map {id v} (hid:id.1<cA σ) (h1:v.oneCell'=true)
   (h:∀z cs,σ[id]? =some (some (.obj z cs))->∃D base,φ id=some (D,base)/\v=.map (some D)):RelC w φ σ A (.map id) v
 |fnb {f caps} (us:Nat->Vl) (hr:∀(i:Nat) (s:C),caps[i]? =some s->RelC w φ σ A s (us i)):
   RelC w φ σ A (.fnb f caps) (.func (.func f) ((ai (cA caps)).map us).toArray #[])
 |yld {id v} (hid:id.1<cA σ) (h1:v.oneCell'=true)
   (h:∀z cs,σ[id]? =some (some (.obj z cs))->∃D base,φ id=some (D,base)/\v=.func (.yield D) #[] #[]):RelC w φ σ A (.yld id) v
def RelC.one{c:C}(h:RelC g q b l c p):p.oneCell'=true:=by
 cases h<;>first|assumption|rfl|(exact RelI.one ‹_›)
inductive RelT(w:World)(φ:Phi)(σ:b6)(A:Nat->Prop):T->Vl->Prop
 |c {e v} (h:RelC w φ σ A e v):RelT w φ σ A (.c e) v
 |agg {cs} (us:Nat->Vl) (hr:∀(i:Nat) (c:C),cs[i]? =some c->RelC w φ σ A c (us i)):RelT w φ σ A (.agg cs) (.agg ((ai (cA cs)).map us).toArray)
 |tup {ts} (us:Nat->Vl) (hr:∀(i:Nat) (t:T),ts[i]? =some t->RelT w φ σ A t (us i)):RelT w φ σ A (.tup ts) (.tuple ((ai (cA ts)).map us).toArray)
 |undef:RelT w φ σ A .undef undef
def Al(N:Nat->Prop)(φ:Phi)(σ:b6)(b:Nat):Prop:=¬ N b/\∀(i:Id) (blk:Blk) (a:Nat),σ[i]? =some (some blk)->φ i ≠ some (b,a)
def BlkR(w:World)(g:Phi)(σ:b6)(A:Nat->Prop)(p:Option (Nat×Nat)):Blk->Prop
 | .cells k d=>(p=none/\d=[])\/∃(b a:Nat) (c:Array Vl) (f:Ti),p=some (b,a)/\w.heap[b]? =some (.cells c f (0,0))/\a+cA d * k<=c.size/\
   (∀(j:Nat) (e:List C),d[j]? =some e->cA e=k)/\(∀(j:Nat) (e:List C) (o:Nat) (x:C),d[j]? =some e->e[o]? =some x->∃u,c[a+(j * k+o)]? =some u/\RelC w g σ A x u)
 | .obj q cs=>∃b o h,p=some (b,0)/\w.heap[b]? =some o/\q o h/\∀(i:Nat) (x:C),cs[i]? =some x->∃u,h[i]? =some u/\RelC w g σ A x u
structure StR(w:World)(φ:Phi)(σ:b6)(A:Nat->Prop):Prop where
 blk:∀(i:Id) e,σ[i]? =some (some e)->BlkR w φ σ A (φ i) e
 inj:∀(i j:Id) bi bj p q,σ[i]? =some (some bi)->σ[j]? =some (some bj)->φ i=some p->φ j=some q->p.1=q.1->i=j
structure Kept(w w':World)(φ φ':Phi)(σ σ':b6)(A A':Nat->Prop):Prop where
 imm:∀b,A b->b<w.heap.size->w'.heap[b]? =w.heap[b]?
 all:∀b,A b->b<w.heap.size->A' b
 len:cA σ<=cA σ'
 cells:∀(i:Id) k es',i.1<cA σ->σ'[i]? =some (some (.cells k es'))->∃es,σ[i]? =some (some (.cells k es))/\(cA es)=cA es'/\φ' i=φ i/\
  ∀b base arr ety,φ i=some (b,base)->w.heap[b]? =some (.cells arr ety (0,0))->∃arr',w'.heap[b]? =some (.cells arr' ety (0,0))/\arr'.size=arr.size
 obj:∀(i:Id) p' cs',i.1<cA σ->σ'[i]? =some (some (.obj p' cs'))->φ' i=φ i/\∃e cs,σ[i]? =some (some (.obj e cs))
def RelC.mono{K:World}{u:Phi}{x:b6}{L:Nat->Prop}{c:C}(H:Kept g K q u d x l L)(h:RelC g q d l c p):RelC K u x L c p:=by
 induction h with
 |imm h=>exact .imm (h.mono H.imm H.all)
 |own e j h=>
  refine .own (ag e H.len) j fun k n o=> ?_
  obtain⟨D,f,O,r,M⟩:=H.cells _ k n e o
  rw[r]
  rcases h k D f with h|⟨b,i,E,F,y,P,N,Q,G,U,V,A,X,v⟩
  ·exact .inl h
  ·obtain⟨z,w,hs⟩:=M b i F y N X
   exact .inr ⟨b,i,E,z,y,P,N,Q,G,U,V,by omega,w,by omega⟩
 |ptr e j h=>
  refine .ptr (ag e H.len) j fun k n o=> ?_
  obtain⟨D,f,O,r,M⟩:=H.cells _ k n e o
  rw[r]
  exact h k D f
 |fn B _ s=>exact .fn B s
 |ifcA B _ s=>exact .ifcA B s
 |ifc1 _ s=>exact .ifc1 s
 |map e j h=>
  refine .map (ag e H.len) j fun J t o=> ?_
  obtain⟨r,a,cs,f⟩:=H.obj _ J t e o
  rw[r]
  exact h a cs f
 |fnb B _ s=>exact .fnb B s
 |yld e j h=>
  refine .yld (ag e H.len) j fun J t o=> ?_
  obtain⟨r,a,cs,f⟩:=H.obj _ J t e o
  rw[r]
  exact h a cs f
def RelT.mono{f:World}{a:Phi}{j:Nat->Prop}{t:T}(H:Kept g f q a b d l j)(h:RelT g q b l t p):RelT f a d j t p:=by
 induction h with
 |c h=>exact .c (h.mono H)
 |agg e k=>exact .agg e fun i c n=>(k i c n).mono H
 |tup e _ o=>exact .tup e o
 |undef=>exact .undef
def Kept.refl(w:World)(b:Phi)(σ:b6)(A:Nat->Prop):Kept w w b b σ σ A A:=
 ⟨fun _ _ _=>rfl,fun _ h _=>h,aK _,fun _ _ c _ h=>⟨c,h,rfl,rfl,fun _ _ a _ _ d=>⟨a,d,rfl⟩⟩,fun _ p cs _ h=>⟨rfl,p,cs,h⟩⟩
def Kept.trans{z o:World}{r a:Phi}{σ' c:b6}{K s:Nat->Prop}(L:g.heap.size<=z.heap.size)(h:Kept g z q r d σ' l K)(k:Kept z o r a σ' c K s):Kept g o q a d c l s where
 imm b j n:=(k.imm b (h.all b j n) (ag n L)).trans (h.imm b j n)
 all b j n:=k.all b (h.all b j n) (ag n L)
 len:=aP h.len k.len
 cells i M t u B:=by obtain⟨D,E,N,U,V⟩:=k.cells i M t (ag u h.len) B;obtain⟨X,F,O,P,w⟩:=h.cells i M D u E;refine⟨X,F,by omega,U.trans P,fun b e G v Q j=> ?_⟩;obtain⟨x,A,e2⟩:=w b e G v Q j;obtain⟨f,e3,e4⟩:=V b e x v (P.trans Q) A;exact⟨f,e3,e4.trans e2⟩
 obj i H y u B:=by obtain⟨E,p',J,N⟩:=k.obj i H y (ag u h.len) B;obtain⟨F,p,cs,O⟩:=h.obj i p' J u N;exact⟨E.trans F,p,cs,O⟩
def BlkR.mono{s:World}{G f:Phi}{n:b6}{J:Nat->Prop}(H:Kept g s G f d n l J){p:Option (Nat×Nat)}{b:Blk}(K:∀a c,p=some (a,c)->s.heap[a]? =g.heap[a]?)(h:BlkR g G d l p b):BlkR s f n J p b:=by
 cases b with
 |cells k O=>
  rcases h with h|⟨b,c,t,v,r,y,z,B,L⟩
  ·exact .inl h
  ·refine .inr ⟨b,c,t,v,r,(K b c r).trans y,z,B,fun j e o x M D=> ?_⟩
   obtain⟨u,E,F⟩:=L j e o x M D
   exact⟨u,E,F.mono H⟩
 |obj q cs=>
  obtain⟨b,o,N,r,y,z,B⟩:=h
  exact⟨b,o,N,r,(K b 0 r).trans y,z,fun i x D=>let ⟨u,E,F⟩:=B i x D; ⟨u,E,F.mono H⟩⟩
structure Cx where
 w0:World
 N:Nat->Prop
 φ0:Phi
 σ0:b6
def Cx.K(c:Cx)(b:Nat):Prop:=b<c.w0.heap.size/\∀(i:Id) (blk:Blk) (a:Nat),c.σ0[i]? =some (some blk)->c.φ0 i ≠ some (b,a)
structure Good(Γ:Cx):Prop where
 st:StR Γ.w0 Γ.φ0 Γ.σ0 (Al Γ.N Γ.φ0 Γ.σ0)
 lt:∀b,Γ.N b->b<Γ.w0.heap.size
 own:∀(i:Id) (blk:Blk) (b base:Nat),Γ.σ0[i]? =some (some blk)->Γ.φ0 i=some (b,base)->¬ Γ.N b
structure Rs(Γ:Cx)(σ:b6)(φ:Phi)(w:World):Prop where
 good:Good Γ
 st:StR w φ σ (Al Γ.N φ σ)
 keep:∀(i:Id) (blk:Blk) (b base:Nat),σ[i]? =some (some blk)->φ i=some (b,base)->¬ Γ.K b
 os:w.os=Γ.w0.os
 tape:w.tape=Γ.w0.tape
 drawn:Γ.w0.drawn<=w.drawn
 output:w.output=Γ.w0.output
 size:Γ.w0.heap.size<=w.heap.size
 block:∀b,Γ.K b->w.heap[b]? =Γ.w0.heap[b]?
 kept:Kept Γ.w0 w Γ.φ0 φ Γ.σ0 σ (Al Γ.N Γ.φ0 Γ.σ0) (Al Γ.N φ σ)
def Marks(a:Cx)(c:Phi)(σ:b6)(w:World)(b:List Deferred):Prop:=
 b.Nodup/\∀d ∈ b,∃D,d={target:=.collected D,args:=#[]}/\w.heap[D]? =some (.deferred (some []))/\a.w0.heap.size<=D/\Al a.N c σ D
def Marks.nil{a:Cx}:Marks a q b g []:=⟨.nil,nofun⟩
def Marks.kept{e:Cx}{a:Phi}{c:b6}{f:World}{i:List Deferred}(h:Marks e q b g i)(hk:Kept g f q a b c (Al e.N q b) (Al e.N a c)):Marks e a c f i:=
 ⟨h.1,fun d n=>by obtain⟨D,o,j,p,k⟩:=h.2 d n;have l:=(aN.1 j).1;exact⟨D,o,(hk.imm D k l).trans j,p,hk.all D k l⟩⟩
def Marks.al{e:Cx}{a:Phi}{σ c:b6}{f:List Deferred}(h:Marks e q σ g f)(i:∀b,Al e.N q σ b->Al e.N a c b):Marks e a c g f:=
 ⟨h.1,fun d j=>let ⟨D,k,l,n,o⟩:=h.2 d j; ⟨D,k,l,n,i D o⟩⟩
structure R(Γ:Cx)(sz:Nat)(s:St)(φ:Phi)(a:Act)(w:World):Prop extends Rs Γ s.σ φ w where
 defers:Marks Γ φ s.σ w a.defers
 asize:a.tmps.size=sz
 env:∀t v,lookup t s.env=some v->∃u,a.tmps[t]? =some u/\RelT w φ s.σ (Al Γ.N φ s.σ) v u
abbrev Post:=Exit->St->Prop
variable{s:Post}
def lift(b:Cx)(c:Nat)(Q:Post):Exit->Act->World->Prop:=fun e a w=>∃s d,Q e s/\R b c s d a w
abbrev fw(a:Option Nat):Fence:={fn:=fun _=>True,depth:=none,alive:=false,round:=a}
def ag7:Code->Bool
 | .seq a b| .cond _ a b=>ag7 a||ag7 b
 | .block _ c| .loop c| .scope c=>ag7 c
 | .rangeFunc ..=>true
 |_=>false
def AWP(P:Program)(σ0:b6)(d:Nat)(c:Code)(Q:Post)(s:St):Prop:=
 ∀b f a w,b.σ0=σ0->R b d s f a w->∀e,(ag7 c=true->e=none)->c.wpIn (fw e) 0 P (lift b d Q) a w
def AOps(P:Program)(σ0:b6)(c:Nat)(ops:Array Oper)(Q:Post)(rest:List Oper)(s:St):Prop:=
 ∀b d a w,b.σ0=σ0->R b c s d a w->∀e,wpListIn (fw e) 0 P ops (lift b c Q) rest a w
def thn(K:St->Prop)(Q:Post):Post
 | .normal,s=>K s
 |e,s=>Q e s
def inB(id:Nat)(Q:Post):Post
 | .exit i,s=>if i=id then Q .normal s else Q (.exit i) s
 |e,s=>Q e s
def Sub(σ0:b6)(s s':St):Prop:=∀b d e a w,b.σ0=σ0->R b d s e a w->∃c,R b d s' c a w
def Sub.refl(σ0:b6)(s:St):Sub σ0 s s:=fun _ _ a _ _ _ h=>⟨a,h⟩
def Sub.trans{s f c:St}(h:Sub b s f)(k:Sub b f c):Sub b s c:=fun g i j a w d l=>
 let ⟨e,n⟩:=h g i j a w d l
 k g i e a w d n
def AWP.sub{d:St}{c:Code}{s':St}(j:Sub b d s')(h:AWP r b a c s s'):AWP r b a c s d:=fun i k e w f l=>
 let ⟨g,n⟩:=j i a k e w f l
 h i g e w f n
def AOps.sub{c:St}{rest:List Oper}{s':St}(i:Sub b c s')(h:AOps r b a t s rest s'):AOps r b a t s rest c:=fun g j d w e k=>
 let ⟨f,l⟩:=i g a j d w e k
 h g f d w e l
def AWP.mono{d:St}{c:Code}{l:Post}(n:∀e d,s e d->l e d)(h:AWP r b a c s d):AWP r b a c l d:=fun o g f w i j p k=>
 wpIn_mono (h o g f w i j p k) fun _ _ _ ⟨d,g,q,j⟩=>⟨d,g,n _ _ q,j⟩
def AWP.j{P:Program}{Q:Post}{s:St}{c d:Code}(h:AWP P b a c (thn (fun n=>AWP P b a d Q n) Q) s):AWP P b a (.seq c d) Q s:=fun o r f w g t p i=>
 wpIn_seq (wpIn_mono (h o r f w g t p (fun e=>i (by simp[ag7,e]))) fun e u v ⟨n,k,q,l⟩=>by
  cases e with
  |normal=>exact q o k u v g l p (fun e=>i (by simp[ag7,e]))
  |_=>exact⟨n,k,q,l⟩)
def AWP.skip{c:St}(h:s .normal c):AWP r b a .skip s c:=fun _ d _ _ _ e _ _=>wpIn_skip ⟨c,d,h,e⟩
def AWP.exit{P:Program}{σ0:b6}{sz:Nat}{Q:Post}{s:St}{id:Nat}(h:Q (.exit id) s):AWP P σ0 sz (.exit id) Q s:=fun _ a _ _ _ b _ _=>wpIn_exit ⟨s,a,h,b⟩
def AWP.ret{c:St}(h:s .ret c):AWP r b a .ret s c:=fun _ d _ _ _ e _ _=>wpIn_ret ⟨c,d,h,e⟩
def AWP.u{P:Program}{d:St}{c:Code}(h:AWP P b a c (inB x s) d):AWP P b a (.block x c) s d:=fun q r f w l t v n=>
 wpIn_block (wpIn_mono (h q r f w l t v n) fun e y z ⟨o,g,k,j⟩=>by
  cases e with
  |exit i=>
   simp only[Exit.inBlock]
   simp only[inB] at k
   split at k
   ·rename_i p;rw[if_pos p];exact⟨o,g,k,j⟩
   ·rename_i p;rw[if_neg p];exact⟨o,g,k,j⟩
  |_=>exact⟨o,g,k,j⟩)
def AWP.loop{d:St}{X:Type}{c:Code}(S:X->St)(p:X->Prop)(μ:X->Nat)(q:X)(E:Sub b d (S q))(F:p q)(round:∀x,p x->AWP r b a c (thn (fun u=>∃h,Sub b u (S h)/\p h/\μ h<μ x) s) (S x)):AWP r b a (.loop c) s d:=fun t i f w g v G y=>by
 obtain⟨φ0,z⟩:=E t a i f w g v
 refine wpIn_loop_ghost (fun n f w=>∃x i,μ x=n/\p x/\R t a (S x) i f w) (μ q) ⟨q,φ0,rfl,F,z⟩ ?_
 rintro n f w ⟨x,i,rfl,H,v⟩
 refine wpIn_mono (round x H t i f w g v G y) ?_
 rintro e J K ⟨u,j,D,k⟩
 cases e with
 |normal=>
  obtain⟨h,L,A,B⟩:=D
  obtain⟨l,o⟩:=L t a j J K g k
  exact⟨μ h,B,h,l,rfl,A,o⟩
 |_=>exact⟨u,j,D,k⟩
/-! ## Operands -/
abbrev int(n:Int):C:=.imm (.val (.int .i64 n))
abbrev bool(b:Bool):C:=.imm (.val (.bool b))
def aj2:Vl->Option T
 | .agg cs=>if cs.toList.all (·.oneCell') then some (.agg (cs.toList.map fun v=>.imm (.val v))) else none
 | .tuple _=>none
 |v=>some (.c (.imm (.val v)))
def ev(env:Env):Od->Option T
 | .tmp t=>lookup t env
 | .const v=>aj2 v
 | .global g=>some (.c (.imm (.val (.pointer (some ⟨g,0,none⟩)))))
 | .func f=>some (.c (.fn f []))
def RelC.val{w:World}{φ:Phi}{σ:b6}{A:Nat->Prop}{v:Vl}(h:v.oneCell'=true):RelC w φ σ A (.imm (.val v)) v:=.imm (.val h)
def RelT.int(n:Int):RelT g q b l (.c (int n)) (.int .i64 n):=.c (.imm (.val rfl))
def RelT.bool(b:Bool):RelT g q d l (.c (bool b)) (.bool b):=.c (.imm (.val rfl))
def RelT.agg'{vs:List Vl}(d:cA y=cA vs)(h:∀(i:Nat) (c:C) (v:Vl),y[i]? =some c->vs[i]? =some v->RelC g q b l c v):RelT g q b l (.agg y) (.agg vs.toArray):=by
 have e:vs=(ai (cA y)).map fun i=>vs.getD i Go.undef:=by apply bz;intro i;by_cases a:i<cA vs;simp[a,d];simp[d,a]
 rw[e];refine .agg _ fun i c f=> ?_;have a:i<cA vs:=by rw[<- d];exact(lG.1 f).1
 exact h i c _ f (by simp[a])
def RelT.agg_inv(h:RelT g q b l (.agg y) p):∃vs:List Vl,p=.agg vs.toArray/\(cA vs)=cA y/\∀(i:Nat) (c:C),y[i]? =some c->∃u,vs[i]? =some u/\RelC g q b l c u:=by
 cases h with
 |agg d e=>exact⟨_,rfl,by simp,fun i c a=>⟨d i,by simp[(lG.1 a).1],e i c a⟩⟩
def RelT.tup'{vs:List Vl}(d:cA A=cA vs)(h:∀(i:Nat) (c:T) (v:Vl),A[i]? =some c->vs[i]? =some v->RelT g q b l c v):RelT g q b l (.tup A) (.tuple vs.toArray):=by
 have e:vs=(ai (cA A)).map fun i=>vs.getD i Go.undef:=by apply bz;intro i;by_cases a:i<cA vs;simp[a,d];simp[d,a]
 rw[e];refine .tup _ fun i c f=> ?_;have a:i<cA vs:=by rw[<- d];exact(lG.1 f).1
 exact h i c _ f (by simp[a])
def RelT.tup_inv(h:RelT g q b l (.tup A) p):∃vs:List Vl,p=.tuple vs.toArray/\(cA vs)=cA A/\∀(i:Nat) (c:T),A[i]? =some c->∃u,vs[i]? =some u/\RelT g q b l c u:=by
 cases h with
 |tup d e=>exact⟨_,rfl,by simp,fun i c a=>⟨d i,by simp[(lG.1 a).1],e i c a⟩⟩
def ai1{w:World}{φ:Phi}{σ:b6}{A:Nat->Prop}{t:T}(h:aj2 p=some t):RelT w φ σ A t p:=by
 cases p with
 |agg cs=>
  simp only[aj2] at h
  split at h
  ·rename_i a
   cases h
   obtain⟨l⟩:=cs
   refine RelT.agg' (by simp) fun i c p b d=> ?_
   simp only[lM,d,aJ,Option.some.injEq] at b
   subst b
   exact .val (by have:=af.1 a p (aj d);exact this)
  ·cases h
 |tuple _=>cases h
 |_=>cases h;exact .c (.imm (.val rfl))
def m9{j:Cx}{s:St}{b:Act}(l:R j a s q b g){t:T}(h:ev s.env B=some t):RelT g q s.σ (Al j.N q s.σ) t (b.eval B):=by
 cases B with
 |tmp k=>
  obtain⟨u,n,o⟩:=l.env k t h
  have e:b.eval (.tmp k)=u:=by simp[Act.eval,n]
  rw[e];exact o
 |const v=>exact ai1 h
 |global d=>cases h;exact .c (.imm (.val rfl))
 |func f=>cases h;exact .c (.fn (fun _=>Go.undef) fun i c p=>by simp at p)
def putE(env:Env)(a:Option Nat)(v:T):Env:=
 match a with
 |some d=>(d,v)::env
 |none=>env
def St.put(s:St)(a:Option Nat)(v:T):St:=⟨putE s.env a v,s.σ⟩
def h9(a:Nat):Option Nat->Bool
 |some d=>aM d a
 |none=>true
def R.put{i:Cx}{s:St}{b:Act}(c:R i a s q b g){v:T}{u:Vl}(n:h9 a H=true)(h:RelT g q s.σ (Al i.N q s.σ) v u):R i a (s.put H v) q (b.put H u) g:=by
 cases H with
 |none=>exact c
 |some H=>
  have j:H<b.tmps.size:=by rw[c.asize];simpa[h9] using n
  refine {toRs:=c.toRs,defers:=c.defers,asize:=by simp[Act.put,c.asize],env:=fun t x f=> ?_}
  simp only[St.put,putE,lookup] at f
  split at f
  ·rename_i k
   cases f
   have:H=t:=am k
   subst this
   exact⟨u,by simp[Act.put,j],h⟩
  ·rename_i k
   obtain⟨y,o,p⟩:=c.env t x f
   have l:H ≠ t:=fun e=>by subst e;simp at k
   exact⟨y,by simp[Act.put,l,o],p⟩
mutual
def C.ren(c:Id->Id):C->C
 | .imm x=>.imm x
 | .own id j n=>.own (c id) j n
 | .ptr id j o=>.ptr (c id) j o
 | .fn f a=>.fn f (C.renL c a)
 | .ifc t cs b=>.ifc t (C.renL c cs) b
 | .map id=>.map (c id)
 | .fnb f a=>.fnb f (C.renL c a)
 | .yld id=>.yld (c id)
def C.renL(a:Id->Id):List C->List C
 |[]=>[]
 |c::r=>C.ren a c::C.renL a r
end
mutual
def C.ok(m:Nat):C->Bool
 | .imm _=>true
 | .own id _ _=>aM id.1 m
 | .ptr id _ _=>aM id.1 m
 | .fn _ a=>C.okL m a
 | .ifc _ cs _=>C.okL m cs
 | .map id=>aM id.1 m
 | .fnb _ a=>C.okL m a
 | .yld id=>aM id.1 m
def C.okL(m:Nat):List C->Bool
 |[]=>true
 |c::r=>C.ok m c && C.okL m r
end
mutual
def T.ren(a:Id->Id):T->T
 | .c x=>.c (x.ren a)
 | .agg cs=>.agg (C.renL a cs)
 | .tup b=>.tup (T.renL a b)
 | .undef=>.undef
def T.renL(a:Id->Id):List T->List T
 |[]=>[]
 |t::r=>T.ren a t::T.renL a r
end
mutual
def T.ok(m:Nat):T->Bool
 | .c x=>x.ok m
 | .agg cs=>C.okL m cs
 | .tup a=>T.okL m a
 | .undef=>true
def T.okL(m:Nat):List T->Bool
 |[]=>true
 |t::r=>T.ok m t && T.okL m r
end
def Blk.ren(a:Id->Id):Blk->Blk
 | .cells k b=>.cells k (b.map (C.renL a))
 | .obj p cs=>.obj p (C.renL a cs)
def Blk.ok(m:Nat):Blk->Bool
 | .cells _ a=>a.all (C.okL m)
 | .obj _ cs=>C.okL m cs
def x6(a:Id->Id):∀l:List C,C.renL a l=l.map (C.ren a)
 |[]=>rfl
 |c::r=>by rw[C.renL,x6 a r];rfl
def N7(m:Nat):∀l:List C,C.okL m l=l.all (C.ok m)
 |[]=>rfl
 |c::r=>by rw[C.okL,N7 m r];rfl
def am4(a:Id->Id):∀l:List T,T.renL a l=l.map (T.ren a)
 |[]=>rfl
 |c::r=>by rw[T.renL,am4 a r];rfl
def av6(m:Nat):∀l:List T,T.okL m l=l.all (T.ok m)
 |[]=>rfl
 |c::r=>by rw[T.okL,av6 m r];rfl
mutual
theorem C.ren_id:∀c:C,c.ren (fun i=>i)=c
 | .imm _=>rfl
 | .own _ _ _=>rfl
 | .ptr _ _ _=>rfl
 | .fn f a=>by rw[C.ren,C.renL_id a]
 | .ifc t cs b=>by rw[C.ren,C.renL_id cs]
 | .map _=>rfl
 | .fnb f a=>by rw[C.ren,C.renL_id a]
 | .yld _=>rfl
theorem C.renL_id:∀l:List C,C.renL (fun i=>i) l=l
 |[]=>rfl
 |c::r=>by rw[C.renL,C.ren_id c,C.renL_id r]
end
mutual
theorem T.ren_id:∀c:T,c.ren (fun i=>i)=c
 | .c x=>by rw[T.ren,C.ren_id]
 | .agg cs=>by rw[T.ren,C.renL_id]
 | .tup a=>by rw[T.ren,T.renL_id a]
 | .undef=>rfl
theorem T.renL_id:∀l:List T,T.renL (fun i=>i) l=l
 |[]=>rfl
 |x::r=>by rw[T.renL,T.ren_id x,T.renL_id r]
end
def Blk.ren_id(b:Blk):b.ren (fun i=>i)=b:=by
 cases b with
 |cells k a=>
  simp only[Blk.ren]
  congr 1
  conv=>rhs;rw[<- List.map_id a]
  exact bn fun l _=>C.renL_id l
 |obj p cs=>simp only[Blk.ren,C.renL_id]
structure Back(w:World)(φ φ':Phi)(σ σ':b6)(A A':Nat->Prop)(π:Id->Id):Prop where
 all:∀e,A e->e<w.heap.size->A' e
 blk:∀(i:Id) e,i.1<cA σ'->σ'[i]? =some (some e)->σ[π i]? =some (some (e.ren π))/\φ' i=φ (π i)
def RelC.back{w:World}{φ φ':Phi}{σ σ':b6}{A A':Nat->Prop}{π:Id->Id}(H:Back w φ φ' σ σ' A A' π){c:C}{v:Vl}(hok:c.ok (cA σ')=true)(h:RelC w φ σ A (c.ren π) v):RelC w φ' σ' A' c v:=by
 generalize hc:c.ren π=c' at h;induction h generalizing c with
 |imm h=>
  cases c<;>simp only[C.ren] at hc<;>cases hc
  exact .imm (h.mono (fun _ _ _=>rfl) H.all)
 |own hid h1 h=>
  cases c<;>simp only[C.ren] at hc<;>cases hc
  simp only[C.ok,aC] at hok
  refine .own hok h1 fun k es he=> ?_
  obtain⟨hb,hp⟩:=H.blk _ _ hok he
  have:=h k _ hb
  rw[hp]
  simpa using this
 |ptr hid h1 h=>
  cases c<;>simp only[C.ren] at hc<;>cases hc
  simp only[C.ok,aC] at hok
  refine .ptr hok h1 fun k es he=> ?_
  obtain⟨hb,hp⟩:=H.blk _ _ hok he
  have:=h k _ hb
  rw[hp]
  exact this
 |fn us hr ih=>
  cases c<;>simp only[C.ren] at hc<;>cases hc
  rename_i caps
  simp only[C.ok,N7,af] at hok
  have e:(C.renL π caps).length=cA caps:=by rw[x6];simp
  rw[e]
  refine .fn us fun i c hi=> ?_
  refine ih i (c.ren π) (by rw[x6];simp[hi]) (hok c (aj hi)) rfl
 |ifcA us hr ih=>
  cases c<;>simp only[C.ren] at hc<;>cases hc
  rename_i caps
  simp only[C.ok,N7,af] at hok
  have e:(C.renL π caps).length=cA caps:=by rw[x6];simp
  rw[e]
  refine .ifcA us fun i c hi=> ?_
  refine ih i (c.ren π) (by rw[x6];simp[hi]) (hok c (aj hi)) rfl
 |@ifc1 t c' u hr ih=>
  cases c with
  |ifc t2 cs b=>
   simp only[C.ren,C.ifc.injEq] at hc
   obtain⟨rfl,h2,rfl⟩:=hc
   rw[x6] at h2
   cases cs with
   |nil=>simp at h2
   |cons x r=>
    cases r with
    |cons y r=>simp at h2
    |nil=>
     simp only[bu,List.map_nil,List.cons.injEq,and_true] at h2
     simp only[C.ok,C.okL,Bool.and_true] at hok
     exact .ifc1 (ih hok h2)
  |_=>simp[C.ren] at hc
 |map hid h1 h=>
  cases c<;>simp only[C.ren] at hc<;>cases hc
  simp only[C.ok,aC] at hok
  refine .map hok h1 fun p cs he=> ?_
  obtain⟨hb,hp⟩:=H.blk _ _ hok he
  rw[hp]
  exact h p _ hb
 |fnb us hr ih=>
  cases c<;>simp only[C.ren] at hc<;>cases hc
  rename_i caps
  simp only[C.ok,N7,af] at hok
  have e:(C.renL π caps).length=cA caps:=by rw[x6];simp
  rw[e]
  refine .fnb us fun i c hi=> ?_
  refine ih i (c.ren π) (by rw[x6];simp[hi]) (hok c (aj hi)) rfl
 |yld hid h1 h=>
  cases c<;>simp only[C.ren] at hc<;>cases hc
  simp only[C.ok,aC] at hok
  refine .yld hok h1 fun p cs he=> ?_
  obtain⟨hb,hp⟩:=H.blk _ _ hok he
  rw[hp]
  exact h p _ hb
def RelT.back{w:World}{φ φ':Phi}{σ σ':b6}{A A':Nat->Prop}{π:Id->Id}(H:Back w φ φ' σ σ' A A' π){c:T}{v:Vl}(hok:c.ok (cA σ')=true)(h:RelT w φ σ A (c.ren π) v):RelT w φ' σ' A' c v:=by
 generalize hc:c.ren π=c' at h;induction h generalizing c with
 |c h=>
  cases c<;>simp only[T.ren] at hc<;>cases hc
  exact .c (h.back H hok)
 |agg us hr=>
  cases c<;>simp only[T.ren] at hc<;>cases hc
  rename_i cs
  simp only[T.ok,N7,af] at hok
  have e:(C.renL π cs).length=cA cs:=by rw[x6];simp
  rw[e]
  exact .agg us fun i c hi=>(hr i (c.ren π) (by rw[x6];simp[hi])).back H (hok c (aj hi))
 |tup us hr ih=>
  cases c<;>simp only[T.ren] at hc<;>cases hc
  rename_i ts
  simp only[T.ok,av6,af] at hok
  have e:(T.renL π ts).length=cA ts:=by rw[am4];simp
  rw[e]
  exact .tup us fun i c hi=>ih i (c.ren π) (by rw[am4];simp[hi]) (hok c (aj hi)) rfl
 |undef=>
  cases c<;>simp only[T.ren] at hc<;>cases hc
  exact .undef
structure Fwd(w:World)(φ φ':Phi)(σ σ':b6)(A A':Nat->Prop)(π:Id->Id):Prop where
 all:∀e,A e->e<w.heap.size->A' e
 blk:∀(i:Id),i.1<cA σ->(π i).1<cA σ'/\φ' (π i)=φ i/\∀b',σ'[π i]? =some (some b')->∃e,σ[i]? =some (some e)/\b'=e.ren π
def RelC.fwd{P E:Phi}{F:b6}{Q:Nat->Prop}{G:Id->Id}(H:Fwd g P E d F l Q G){c:C}(h:RelC g P d l c p):RelC g E F Q (c.ren G) p:=by
 induction h with
 |imm h=>exact .imm (h.mono (fun _ _ _=>rfl) H.all)
 |own n r h=>
  obtain⟨s,t,u⟩:=H.blk _ n
  refine .own s r fun k M y=> ?_
  obtain⟨b,z,e⟩:=u _ y
  cases b with
  |obj a cs=>simp[Blk.ren] at e
  |cells N J=>
   simp only[Blk.ren,Blk.cells.injEq] at e
   obtain⟨rfl,rfl⟩:=e
   rw[t]
   simpa using h k J z
 |ptr n r h=>
  obtain⟨s,t,u⟩:=H.blk _ n
  refine .ptr s r fun k M y=> ?_
  obtain⟨b,z,e⟩:=u _ y
  cases b with
  |obj a cs=>simp[Blk.ren] at e
  |cells N J=>
   simp only[Blk.ren,Blk.cells.injEq] at e
   obtain⟨rfl,rfl⟩:=e
   rw[t]
   exact h k J z
 |@fn f j K O B=>
  have e:(C.renL G j).length=cA j:=by rw[x6];simp
  simp only[C.ren]
  rw[<- e]
  refine .fn K fun i c o=> ?_
  rw[x6,lM,oM] at o
  obtain⟨x,L,rfl⟩:=o
  exact B i x L
 |@ifcA f j K O B=>
  have e:(C.renL G j).length=cA j:=by rw[x6];simp
  simp only[C.ren]
  rw[<- e]
  refine .ifcA K fun i c o=> ?_
  rw[x6,lM,oM] at o
  obtain⟨x,L,rfl⟩:=o
  exact B i x L
 |ifc1 O B=>exact .ifc1 B
 |map n r h=>
  obtain⟨s,t,u⟩:=H.blk _ n
  refine .map s r fun a cs y=> ?_
  obtain⟨b,z,e⟩:=u _ y
  cases b with
  |cells N J=>simp[Blk.ren] at e
  |obj q D=>
   rw[t]
   exact h q D z
 |@fnb f j K O B=>
  have e:(C.renL G j).length=cA j:=by rw[x6];simp
  simp only[C.ren]
  rw[<- e]
  refine .fnb K fun i c o=> ?_
  rw[x6,lM,oM] at o
  obtain⟨x,L,rfl⟩:=o
  exact B i x L
 |yld n r h=>
  obtain⟨s,t,u⟩:=H.blk _ n
  refine .yld s r fun a cs y=> ?_
  obtain⟨b,z,e⟩:=u _ y
  cases b with
  |cells N J=>simp[Blk.ren] at e
  |obj q D=>
   rw[t]
   exact h q D z
def RelT.fwd{a:Phi}{o:Nat->Prop}{j:Id->Id}(H:Fwd g q a b d l o j){c:T}(h:RelT g q b l c p):RelT g a d o (c.ren j) p:=by
 induction h with
 |c h=>exact .c (h.fwd H)
 |@agg cs k r=>
  have e:(C.renL j cs).length=cA cs:=by rw[x6];simp
  simp only[T.ren]
  rw[<- e]
  refine .agg k fun i c f=> ?_
  rw[x6,lM,oM] at f
  obtain⟨x,n,rfl⟩:=f
  exact(r i x n).fwd H
 |@tup s k r t=>
  have e:(T.renL j s).length=cA s:=by rw[am4];simp
  simp only[T.ren]
  rw[<- e]
  refine .tup k fun i c f=> ?_
  rw[am4,lM,oM] at f
  obtain⟨x,n,rfl⟩:=f
  exact t i x n
 |undef=>exact .undef
/-! ## Weakening -/
def Al.own_lt(h:StR g q d l){blk:Blk}(s:d[c]? =some (some blk))(f:q c=some (a,x)):a<g.heap.size:=by
 have r:=h.blk c blk s;have lt:∀{o:Obj},g.heap[a]? =some o->a<g.heap.size:=fun h=>(aN.1 h).1;cases blk with
 |cells k y=>
  rcases r with⟨e,_⟩|⟨t,j,u,v,e,n,_⟩
  ·rw[f] at e;cases e
  ·rw[f] at e;cases e;exact lt n
 |obj p cs=>
  obtain⟨t,o,z,e,n,_⟩:=r
  rw[f] at e;cases e;exact lt n
def Sub.mk{s s':St}(f:Id->Id)(P:∀i,i.1<cA d->f i=i)(E:cA d<=s'.σ.length)(F:∀(i j:Id) b b',s'.σ[i]? =some (some b)->s'.σ[j]? =some (some b')->f i=f j->i=j)(g:∀(i:Id) b,s'.σ[i]? =some (some b)->b.ok s'.σ.length=true/\s.σ[f i]? =some (some (b.ren f)))(G:∀t v,lookup t s'.env=some v->v.ok s'.σ.length=true/\lookup t s.env=some (v.ren f)):Sub d s s':=by
 intro Q sz A a w U r
 subst U
 have V:∀b,Al Q.N A s.σ b->Al Q.N (fun i=>A (f i)) s'.σ b:=fun b ⟨n,z⟩=>⟨n,fun i blk l c=>z (f i) _ l (g i blk c).2⟩
 have H:Back w A (fun i=>A (f i)) s.σ s'.σ (Al Q.N A s.σ) (Al Q.N (fun i=>A (f i)) s'.σ) f:=⟨fun b h _=>V b h,fun i b _ c=>⟨(g i b c).2,rfl⟩⟩
 have X:∀{m k:Nat} {B:List (List C)} {j o:Nat} {e:List C} {x:C},(Blk.cells k B).ok m=true->B[j]? =some e->e[o]? =some x->x.ok m=true:=by intro m k B j o e x n z J;simp only[Blk.ok,af] at n;have:=n e (aj z);rw[N7,af] at this;exact this x (aj J)
 refine⟨fun i=>A (f i),{good:=r.good,st:=⟨fun i b c=> ?_,fun i j bi bj p q c hj hp hq y=> ?_⟩,keep:=fun i blk b l c hp=>r.keep (f i) _ b l (g i blk c).2 hp,os:=r.os,tape:=r.tape,drawn:=r.drawn,output:=r.output,size:=r.size,block:=r.block,kept:= ?_,defers:=r.defers.al V,asize:=r.asize,env:=fun t v ht=> ?_}⟩
 ·obtain⟨K,hs⟩:=g i b c
  have D:=r.st.blk _ _ hs
  cases b with
  |cells k B=>
   simp only[Blk.ren] at D hs
   rcases D with⟨n,z⟩|⟨b,l,aa,ac,n,z,J,h4,h5⟩
   ·exact .inl ⟨n,by simpa using z⟩
   ·refine .inr ⟨b,l,aa,ac,n,z,by simpa using J,fun j e y=> ?_,fun j e o x y L=> ?_⟩
    ·have:=h4 j (C.renL f e) (by simp[y])
     rw[x6] at this;simpa using this
    ·obtain⟨u,M,O⟩:=h5 j (C.renL f e) o (x.ren f) (by simp[y]) (by rw[x6];simp[L])
     exact⟨u,M,O.back H (X (k:=k) K y L)⟩
  |obj p cs=>
   simp only[Blk.ren] at D hs
   obtain⟨b,o,us,n,z,J,h4⟩:=D
   refine⟨b,o,us,n,z,J,fun i x L=> ?_⟩
   obtain⟨u,M,O⟩:=h4 i (x.ren f) (by rw[x6];simp[L])
   have ad:x.ok s'.σ.length=true:=by simp only[Blk.ok,N7,af] at K;exact K x (aj L)
   exact⟨u,M,O.back H ad⟩
 ·exact F i j bi bj c hj (r.st.inj _ _ _ _ p q (g i bi c).2 (g j bj hj).2 hp hq y)
 ·have hk:=r.kept
  refine⟨hk.imm,fun b D hl=>V b (hk.all b D hl),E,fun i k an c y=> ?_,fun i p' ao c y=> ?_⟩
  ·have n:=(g i _ y).2
   rw[P i c] at n
   obtain⟨B,g1,g2,g3,g4⟩:=hk.cells i k _ c n
   exact⟨B,g1,by simpa using g2,by simpa[P i c] using g3,g4⟩
  ·have n:=(g i _ y).2
   rw[P i c] at n
   obtain⟨g1,g2⟩:=hk.obj i _ _ c n
   exact⟨by simpa[P i c] using g1,g2⟩
 ·obtain⟨K,hl⟩:=G t v ht
  obtain⟨u,M,O⟩:=r.env t _ hl
  exact⟨u,M,O.back H K⟩
def K7(env:Env):Env->Prop
 |[]=>True
 |(t,v)::r=>lookup t env=some v/\K7 env r
def K7.get:∀{a:Env},K7 L a->∀t v,lookup t a=some v->lookup t L=some v
 |[],_,t,v,h=>by simp[lookup] at h
 |(k,x)::r,⟨b,c⟩,t,v,h=>by simp only[lookup] at h;split at h;rename_i d;cases h;rw[<- am d];exact b;exact K7.get c t v h
def Sub.env{σ0:b6}{env:Env}{σ:b6}(h:K7 env L):Sub σ0 ⟨env,σ⟩ ⟨L,σ⟩:=fun _ _ b _ _ _ a=>
 ⟨b,{toRs:=a.toRs,defers:=a.defers,asize:=a.asize,env:=fun t v c=>a.env t v (h.get t v c)}⟩
def V7(n:Nat):Env->Bool
 |[]=>true
 |(_,v)::r=>v.ok n && V7 n r
def an2:∀{env:Env},V7 a env=true->∀t v,lookup t env=some v->v.ok a=true
 |[],_,t,v,h=>by simp[lookup] at h
 |(k,x)::r,h,t,v,b=>by simp only[V7,ap] at h;simp only[lookup] at b;split at b;cases b;exact h.1;exact an2 h.2 t v b
structure FnOk(P:Program)(f:FuncId)(args:List T)(σ:b6)(Q:T->b6->Prop):Prop where
 fn : ∃ fn, P.funcs[f]? = some fn /\ (fn.name == "runtime.NumGoroutine")=false/\fn.body.isNone=false
 run:∀(Γ:Cx) (vs:List Vl),Γ.σ0=σ->Good Γ->cA args=cA vs->
  (∀(i:Nat) (t:T) (u:Vl),args[i]? =some t->vs[i]? =some u->RelT Γ.w0 Γ.φ0 σ (Al Γ.N Γ.φ0 σ) t u)->
  Calls P f vs.toArray Γ.w0 fun e w'=>∃v r σ' φ',e=.returned v/\Q r σ'/\RelT w' φ' σ' (Al Γ.N φ' σ') r v/\Rs Γ σ' φ' w'
def FnOk.mono{P:Program}{f:FuncId}{args:List T}{Q i:T->b6->Prop}(h:FnOk P f args d Q)(j:∀r e,Q r e->i r e):FnOk P f args d i:=
 ⟨h.fn,fun k vs l n o p=>(h.run k vs l n o p).mono fun _ _ ⟨v,r,e,g,a,b,c⟩=>⟨v,r,e,g,a,j _ _ b,c⟩⟩
def argEnv(i:Nat):List T->Env
 |[]=>[]
 |t::a=>(i,t)::argEnv (i+1) a
def aC9:∀(a:List T) (i t:Nat) (v:T),lookup t (argEnv i a)=some v->i<=t/\a[t - i]? =some v
 |[],_,_,_,h=>by simp[argEnv,lookup] at h
 |x::a,i,t,v,h=>by simp only[argEnv,lookup] at h;split at h;rename_i b;have:=am b;subst this;simpa using h;obtain⟨d,c⟩:=aC9 a (i+1) t v h;refine⟨by omega,?_⟩;rw[show t - i=(t - (i+1))+1 by omega];simpa using c
inductive RV where
 |t (n:Nat)
 |cell (a:Nat) (ty:Ti) (size:Nat)
 |one (a:Nat) (ty:Ti)
def RV.var:RV->ResultVar
 | .t n=>.tmp n
 | .cell a b _=>.cell a b
 | .one a b=>.cell a b
def D8:TypeDesc->Bool
 | .struct _| .array _ _=>true
 |_=>false
def RV.ok(P:Program):RV->Prop
 | .t _=>True
 | .cell _ a size=>∃d i,P.underlying a=some d/\D8 d=true/\P.info? a=some i/\i.size=size
 | .one _ a=>∃d,P.underlying a=some d/\D8 d=false
def RV.oks(P:Program):List RV->Prop
 |[]=>True
 |r::a=>r.ok P/\RV.oks P a
def ret1(s:St):RV->Option T
 | .t n=>lookup n s.env
 | .cell a _ size=>match lookup a s.env with
  |some (.c (.ptr id j o))=>match s.σ[id]? with
   |some (some (.cells _ b))=>match b[j]? with
    |some e=>if aY (o+size) (cA e) then some (.agg ((e.drop o).take size)) else none
    |none=>none
   |_=>none
  |_=>none
 | .one a _=>match lookup a s.env with
  |some (.c (.ptr id j o))=>match s.σ[id]? with
   |some (some (.cells _ b))=>match b[j]? with
    |some e=>match e[o]? with
     |some c=>some (.c c)
     |none=>none
    |none=>none
   |_=>none
  |_=>none
def retL(s:St):List RV->Option (List T)
 |[]=>some []
 |r::a=>match ret1 s r,retL s a with
  |some x,some xs=>some (x::xs)
  |_,_=>none
def retT(s:St)(a:List RV):Option T:=match retL s a with
 |some [x]=>some x
 |some xs=>some (.tup xs)
 |none=>none
def resF(tmps:Array Vl):ResultVar->Sem Vl
 | .tmp t=>pure (tmps.getD t Go.undef)
 | .cell a t=>do loadVar t (<- asAddr (tmps.getD a Go.undef))
def results_eq(fn : Func)(tmps : Array Vl) : results fn tmps = (do
 let vs <- fn.results.mapM (resF tmps)
 pure (if h:vs.size=1 then vs[0] else .tuple vs)):=rfl
def ag8{d:TypeDesc}(h:r.underlying M=some d)(w:World):(isAgg M).run r w=.ok (D8 d) w:=by
 cases d<;>simp[isAgg,run_underlying h,D8]
def U9{c:Array Vl}{d:Nat×Nat}(h:g.heap[a]? =some (.cells c M d)):g.cell? ⟨a,x,none⟩=c[x]? :=by simp[World.cell?,h]
def H8(b o n:Nat):(⟨b,o,none⟩:Addr).add n=⟨b,o+n,none⟩:=by unfold Addr.add;split;subst_vars;rfl;rfl
def P8{j:Nat}(h:(ai a)[x]? =some j):x<a/\x=j:=by obtain⟨c,b⟩:=lG.1 h;rw[List.getElem_range] at b;exact⟨by simpa using c,b⟩
def ret1_run{V:Cx}{sz:Nat}{s:St}{G:Phi}{a:Act}{w:World}(H:R V sz s G a w){P:Program}{rv:RV}(J:rv.ok P){r:T}(h:ret1 s rv=some r):
  ∃v,(resF a.tmps rv.var).run P w=.ok v w/\RelT w G s.σ (Al V.N G s.σ) r v:=by
 cases rv with
 |t n=>
  obtain⟨u,x,p⟩:=H.env n r h
  exact⟨u,by simp[RV.var,resF,x],p⟩
 |cell X ty size=>
  obtain⟨d,i,D,E,aa,ac⟩:=J
  simp only[ret1] at h
  split at h<;>try cases h
  rename_i id j o hl
  split at h<;>try cases h
  rename_i k es y
  split at h<;>try cases h
  rename_i e he
  split at h<;>cases h
  rename_i K
  have al:o+size<=cA e:=aA K
  obtain⟨u,x,p⟩:=H.env X _ hl
  cases p with|c p=>cases p with|ptr an _ hp=>
   obtain⟨b,f,z,rfl⟩:=hp k es y
   rcases H.st.blk _ _ y with⟨A,L⟩|⟨b',F,B,ao,A,L,h3,h4,h5⟩
   ·rw[z] at A;cases A
   rw[z] at A;cases A
   have g:∀q,q<size->∃u,B[f+(j * k+(o+q))]? =some u/\RelC w G s.σ (Al V.N G s.σ) (e[o+q]?.getD (.imm (.val (.bool true)))) u:=fun q Q=>by
    have l:o+q<cA e:=by omega
    obtain⟨u,x,p⟩:=h5 j e (o+q) _ he (ae l);exact⟨u,x,by simpa[l] using p⟩
   have M:=run_loadCells_list (P:=P) w ⟨b,f+(j * k+o),none⟩ ((ai size).map fun q=>(B[f+(j * k+(o+q))]?).getD Go.undef) (fun q v O=>by rw[lM,oM] at O;obtain⟨q',Q,rfl⟩:=O;obtain⟨l,rfl⟩:=P8 Q;obtain⟨u,x,_⟩:=g q l;rw[H8,U9 L,show f+(j * k+o)+q=f+(j * k+(o+q)) by omega,x];rfl)
   simp only[bh,List.length_range] at M
   refine⟨.agg ((ai size).map fun q=>(B[f+(j * k+(o+q))]?).getD Go.undef).toArray,?_,RelT.agg' (by simp;omega) fun q c v U O=> ?_⟩
   ·simp[RV.var,resF,x,asAddr,loadVar,ag8 D,E,Go.sizeOf,typeInfo,aa,ac,M]
   ·rw[lM,oM] at O
    obtain⟨q',Q,rfl⟩:=O
    obtain⟨l,rfl⟩:=P8 Q
    rw[au,if_pos l,aw] at U
    obtain⟨u,x,p⟩:=g q l
    rw[x]
    rw[U] at p
    exact p
 |one X ty=>
  obtain⟨d,D,E⟩:=J
  simp only[ret1] at h
  split at h<;>try cases h
  rename_i id j o hl
  split at h<;>try cases h
  rename_i k es y
  split at h<;>try cases h
  rename_i e he
  split at h<;>cases h
  rename_i c U
  obtain⟨u,x,p⟩:=H.env X _ hl
  cases p with|c p=>cases p with|ptr an _ hp=>
   obtain⟨b,f,z,rfl⟩:=hp k es y
   rcases H.st.blk _ _ y with⟨A,L⟩|⟨b',F,B,ao,A,L,h3,h4,h5⟩
   ·rw[z] at A;cases A
   rw[z] at A;cases A
   obtain⟨u',av,ay⟩:=h5 j e o c he U
   refine⟨u',?_,.c ay⟩
   have g:w.cell? ⟨b,f+(j * k+o),none⟩=some u':=by rw[U9 L];exact av
   simp[RV.var,resF,x,asAddr,loadVar,ag8 D,E,g]
def retL_run{k:Cx}{s:St}{b:Act}(l:R k a s q b g){P:Program}:∀{d:List RV} {e:List T},RV.oks P d->retL s d=some e->
  ∃vs:List Vl,cA vs=cA d/\(cA e)=cA d/\(∀(i:Nat) (rv:RV) (v:Vl),d[i]? =some rv->vs[i]? =some v->(resF b.tmps rv.var).run P g=.ok v g)/\∀(i:Nat) (t:T) (v:Vl),e[i]? =some t->vs[i]? =some v->RelT g q s.σ (Al k.N q s.σ) t v
 |[],e,_,h=>by cases h;exact⟨[],rfl,rfl,fun i rv v c=>by simp at c,fun i t v c=>by simp at c⟩
 |r::d,e,f,h=>by
  simp only[retL] at h;split at h<;>cases h;rename_i x xs n o;obtain⟨v,p,y⟩:=ret1_run l f.1 n;obtain⟨vs,z,A,B,D⟩:=retL_run l f.2 o;refine⟨v::vs,by simp[z],by simp[A],fun i rv u c j=> ?_,fun i t u c j=> ?_⟩;match i with
  |0=>cases c;cases j;exact p
  |i+1=>exact B i rv u (by simpa using c) (by simpa using j)
  match i with
  |0=>cases c;cases j;exact y
  |i+1=>exact D i t u (by simpa using c) (by simpa using j)
def retT_run{J:Cx}{L:Nat}{s:St}{u:Phi}{a:Act}{w:World}(M:R J L s u a w){fn:Func}{g:List RV}(x:fn.results=(g.map RV.var).toArray)(l:aY (cA g) 5=true){P:Program}(y:RV.oks P g){r:T}(h:retT s g=some r):
  ∃v,(results fn a.tmps).run P w=.ok v w/\RelT w u s.σ (Al J.N u s.σ) r v:=by
 unfold retT at h
 cases d:retL s g with
 |none=>rw[d] at h;cases h
 |some A=>
  rw[d] at h
  obtain⟨vs,O,V,b,e⟩:=retL_run M y d
  have B:cA g<=5:=aA l
  have n:(results fn a.tmps).run P w=.ok (if h:cA vs=1 then vs[0]'(by rw[h];exact Nat.one_pos) else .tuple vs.toArray) w:=by
   rw[results_eq,x];match g,vs,O,b,B with
   |[],[],_,_,_=>simp
   |[f],[v0],_,b,_=>simp[b 0 f v0 rfl rfl]
   |[f,j],[v0,k],_,b,_=>simp[b 0 f v0 rfl rfl,b 1 j k rfl rfl]
   |[f,j,o],[v0,k,p],_,b,_=>simp[b 0 f v0 rfl rfl,b 1 j k rfl rfl,b 2 o p rfl rfl]
   |[f,j,o,D],[v0,k,p,E],_,b,_=>simp[b 0 f v0 rfl rfl,b 1 j k rfl rfl,b 2 o p rfl rfl,b 3 D E rfl rfl]
   |[f,j,o,D,Q],[v0,k,p,E,U],_,b,_=>simp[b 0 f v0 rfl rfl,b 1 j k rfl rfl,b 2 o p rfl rfl,b 3 D E rfl rfl,b 4 Q U rfl rfl]
  have K:cA A=cA vs:=by omega
  refine⟨_,n,?_⟩
  by_cases q:cA vs=1
  ·rw[dif_pos q]
   match A,vs,q,K,h,e with
   |[t],[v],_,_,h,e=>cases h;exact e 0 _ _ rfl rfl
   |[],[v],_,F,_,_=>simp at F
   |_::_::_,[v],_,F,_,_=>simp at F
  ·rw[dif_neg q]
   match A,h,K,e with
   |[],h,d,e=>cases h;exact RelT.tup' d fun i c z G H=>e i c z G H
   |[t],h,d,e=>exact absurd d.symm q
   |t::X::r',h,d,e=>cases h;exact RelT.tup' d fun i c z G H=>e i c z G H
def Done(a:List RV)(Q:T->b6->Prop):Post:=fun e s=>(e=.normal\/e=.ret)/\∃r,retT s a=some r/\Q r s.σ
def Done.ret{a:List RV}{Q:T->b6->Prop}{s:St}{r:T}(h:retT s a=some r)(b:Q r s.σ):Done a Q .ret s:=⟨.inr rfl,r,h,b⟩
def Done.normal{a:List RV}{Q:T->b6->Prop}{s:St}{r:T}(h:retT s a=some r)(b:Q r s.σ):Done a Q .normal s:=⟨.inl rfl,r,h,b⟩
def Good.rs{a:Cx}(h:Good a):Rs a a.σ0 a.φ0 a.w0:=
 {good:=h,st:=h.st,keep:=fun i blk _ b c d e=>e.2 i blk b c d,os:=rfl,tape:=rfl,drawn:=aK _,output:=rfl,size:=aK _,block:=fun _ _=>rfl,kept:=Kept.refl _ _ _ _}
def aa3{c:Obj}(h:x ≠ a):(g.putObj a c).heap[x]? =g.heap[x]? :=World.putObj_heap_other h
def cell_putD{f:Obj}(i:g.heap[a]? =some (.deferred (some []))){b:Addr}(h:g.cell? b=some p):(g.putObj a f).cell? b=some p:=by
 have c:b.block ≠ a:=fun e=>by obtain⟨o,d,j⟩:=cells_of_cell h;rw[e,i] at d;cases d;cases j
 exact(World.cell?_of_block (aa3 c)).trans h
def RelI.putD{r:Obj}(n:g.heap[a]? =some (.deferred (some []))){x:I}(h:RelI g l x p):RelI (g.putObj a r) l x p:=by
 induction h with
 |val h=>exact .val h
 |sl b c d hk f _ i=>exact .sl b c d hk (fun j e o x q k=>⟨(f j e o x q k).1,cell_putD n (f j e o x q k).2⟩) i
 |slNil=>exact .slNil
 |ipt b f _ i=>exact .ipt b (fun o x k=>⟨(f o x k).1,cell_putD n (f o x k).2⟩) i
 |fn b _ i=>exact .fn b i
def cells_ne(d:g.heap[a]? =some (.deferred (some []))){c:Array Vl}{f:Nat×Nat}(h:g.heap[x]? =some (.cells c M f)):x ≠ a:=fun e=>by rw[e,d] at h;cases h
def RelC.putD{y:Obj}(u:g.heap[a]? =some (.deferred (some []))){c:C}(h:RelC g q d l c p):RelC (g.putObj a y) q d l c p:=by
 induction h with
 |imm h=>exact .imm (h.putD u)
 |own e f h=>
  refine .own e f fun k z B=> ?_
  rcases h k z B with h|⟨b,j,o,r,s,E,F,G,t,H,J,K,x,L⟩
  ·exact .inl h
  ·exact .inr ⟨b,j,o,r,s,E,F,G,t,H,J,K,(aa3 (cells_ne u x)).trans x,L⟩
 |ptr e f h=>exact .ptr e f h
 |fn n _ i=>exact .fn n i
 |ifcA n _ i=>exact .ifcA n i
 |ifc1 _ i=>exact .ifc1 i
 |map e f h=>exact .map e f h
 |fnb n _ i=>exact .fnb n i
 |yld e f h=>exact .yld e f h
def RelT.putD{f:Obj}(e:g.heap[a]? =some (.deferred (some []))){t:T}(h:RelT g q b l t p):RelT (g.putObj a f) q b l t p:=by
 induction h with
 |c h=>exact .c (h.putD e)
 |agg d j=>exact .agg d fun i c k=>(j i c k).putD e
 |tup d _ n=>exact .tup d n
 |undef=>exact .undef
def Rs.putD{F:Phi}{U:Obj}{A:Cx}(h:Rs A d F g)(B:g.heap[a]? =some (.deferred (some [])))(M:A.w0.heap.size<=a)(V:Al A.N F d a):Rs A d F (g.putObj a U):=
 {good:=h.good
  st:=⟨fun i b E=>by
   have p:=h.st.blk i b E;cases b with
   |cells k O=>
    rcases p with c|⟨b,f,l,n,r,s,t,v,X⟩
    ·exact .inl c
    ·exact .inr ⟨b,f,l,n,r,(aa3 (cells_ne B s)).trans s,t,v,fun j e o x G H=>let ⟨u,J,K⟩:=X j e o x G H; ⟨u,J,K.putD B⟩⟩
   |obj q cs=>
    obtain⟨b,o,w,r,s,t,v⟩:=p
    exact⟨b,o,w,r,(aa3 (fun e=>V.2 i _ 0 E (by rw[r,e]))).trans s,t,fun i x H=>let ⟨u,J,K⟩:=v i x H; ⟨u,J,K.putD B⟩⟩,h.st.inj⟩
  keep:=h.keep,os:=h.os,tape:=h.tape,drawn:=h.drawn,output:=h.output
  size:=by rw[World.putObj_size];exact h.size
  block:=fun b P=>(aa3 (Nat.ne_of_lt (ag P.1 M))).trans (h.block b P)
  kept:=⟨fun b p y=>(aa3 (Nat.ne_of_lt (ag y M))).trans (h.kept.imm b p y),h.kept.all,h.kept.len,fun i k L E G=>by obtain⟨O,r,s,t,v⟩:=h.kept.cells i k L E G;exact⟨O,r,s,t,fun b f l n D p=>let ⟨z,Q,e2⟩:=v b f l n D p; ⟨z,(aa3 (cells_ne B Q)).trans Q,e2⟩⟩,h.kept.obj⟩}
def aE7{i:Cx}{s:St}{fn:Func}{tmps:Array Vl}{j:Ending->World->Prop}(b:∀w,R i a s q ⟨tmps,[]⟩ w->LeavesIn Fence.wide 0 r fn tmps j [] .returning w):
  ∀(f:List Deferred) (w:World),R i a s q ⟨tmps,f⟩ w->LeavesInM Fence.wide 0 r fn tmps j f .returning w
 |[],w,h=>b w h
 |d::f,w,h=>by obtain⟨k,l⟩:=h.defers;obtain⟨D,rfl,g,n,o⟩:=l d (by simp);refine⟨by simp,.inl ⟨D,_,rfl,run_takeDeferred g,aE7 b f _ ?_⟩⟩;refine {toRs:=h.toRs.putD g n o,defers:=⟨(List.nodup_cons.1 k).2,fun p c=> ?_⟩,asize:=h.asize,env:=fun t v x=>let ⟨u,y,z⟩:=h.env t v x; ⟨u,y,z.putD g⟩};obtain⟨A,rfl,B,E,F⟩:=l p (bR _ c);refine⟨A,rfl,(aa3 fun e=> ?_).trans B,E,F⟩;subst e;exact(List.nodup_cons.1 k).1 c
def FnOk.enter{P:Program}{f:FuncId}{fn:Func}{c:Code}{rs:List RV}{args:List T}{Q:T->b6->Prop}(F : P.funcs[f]? = some fn)(G : fn.body = some c)(x : fn.ntmps = a)(y : fn.results = (rs.map RV.var).toArray)(o : aY (cA rs) 5 = true)(z : RV.oks P rs)(j : (fn.name == "runtime.NumGoroutine")=false)(K:aY (cA args) a=true)(h:AWP P b a c (Done rs Q) ⟨argEnv 0 args,b⟩):FnOk P f args b Q:=by
 refine⟨⟨fn,F,j,by rw[G];rfl⟩,fun i vs A L M O=> ?_⟩
 subst A
 have U:cA args<=a:=aA K
 refine(callsIn_wide (n:=0)).1 (callsIn_of_wp_marks F G Y ?_)
 rw[x]
 have V:R i a ⟨argEnv 0 args,i.σ0⟩ i.φ0 {tmps:=vs.toArray++bL (a - vs.toArray.size) Go.undef,defers:=[]} i.w0:=
  {toRs:=L.rs,defers:=.nil,asize:=by simp;omega,env:=fun t v X=>by
    obtain⟨_,B⟩:=aC9 args 0 t v X;simp only[Nat.sub_zero] at B;have p:t<cA vs:=by rw[<- M];exact(lG.1 B).1
    refine⟨vs[t],by simp[Array.getElem?_append,p],O t v _ B (by simp[p])⟩}
 refine wpIn_mono (h i _ _ _ rfl V none (fun _=>rfl)) ?_
 rintro e d w ⟨s,H,⟨he,r,q,hq⟩,D⟩
 have E:∀l,R i a s H ⟨d.tmps,[]⟩ l->LeavesIn Fence.wide 0 P fn d.tmps (fun e l=>∃v r g k,e=.returned v/\Q r g/\RelT l k g (Al i.N k g) r v/\Rs i g k l) [] .returning l:=fun l J=>by obtain⟨v,hv,u⟩:=retT_run J y o z q;exact⟨v,hv,v,r,s.σ,H,rfl,hq,u,J.toRs⟩
 have:=aE7 E d.defers w D
 rcases he with rfl|rfl<;>exact this
/-! ## Calls -/
def Rs.down{k:Cx}(h:Rs k d q g):Good ⟨g,k.N,q,d⟩:=
 {st:=h.st,lt:=fun b n=>ag (h.good.lt b n) h.size,
  own:=fun i blk b c o p l=>h.keep i blk b c o p ⟨h.good.lt b l,fun r e a f j=>h.good.own r e b a f j l⟩}
def Rs.up{p:Cx}{l:b6}{n:Phi}{s:World}(h:Rs p d q g)(k:Rs ⟨g,p.N,q,d⟩ l n s):Rs p l n s where
 good:=h.good
 st:=k.st
 keep i blk b o t u j:=k.keep i blk b o t u ⟨ag j.1 h.size,fun r c a e f=>h.keep r c b a e f j⟩
 os:=k.os.trans h.os
 tape:=k.tape.trans h.tape
 drawn:=aP h.drawn k.drawn
 output:=k.output.trans h.output
 size:=aP h.size k.size
 block b j:=(k.block b ⟨ag j.1 h.size,fun r c a e f=>h.keep r c b a e f j⟩).trans (h.block b j)
 kept:=Kept.trans h.size h.kept k.kept
def Cx.bare(a:Cx)(c:Phi)(σ:b6)(w:World):Cx:=⟨w,fun b=>b<w.heap.size/\¬ Al a.N c σ b,fun _=>none,[]⟩
def good_bare(d:Cx)(e:Phi)(σ:b6)(w:World):Good (d.bare e σ w):=
 {st:=⟨fun i b a=>by simp[Cx.bare] at a,fun i j f g p q a=>by simp[Cx.bare] at a⟩,lt:=fun _ h=>h.1,own:=fun i blk b c a=>by simp[Cx.bare] at a}
def bare_al{c:Cx}(h:Al c.N q d a):Al (c.bare q d g).N (fun _=>none) [] a:=
 ⟨fun f=>f.2 h,fun i blk e j=>by simp at j⟩
def T4(n:Nat)(b a:Phi):Phi:=fun i=>if i.1<n then b i else a (unsh n i)
theorem Rs.upBare{Γ:Cx}{σ σ':b6}{φ φ':Phi}{w w':World}(h:Rs Γ σ φ w)(k:Rs (Γ.bare φ σ w) σ' φ' w'):
  Kept w w' φ (T4 (cA σ) φ φ') σ (σ++σ'.mapB (Blk.ren (sh (cA σ)))) (Al Γ.N φ σ) (Al Γ.N (T4 (cA σ) φ φ') (σ++σ'.mapB (Blk.ren (sh (cA σ)))))/\
  Fwd w' φ' (T4 (cA σ) φ φ') σ' (σ++σ'.mapB (Blk.ren (sh (cA σ)))) (Al (Γ.bare φ σ w).N φ' σ') (Al Γ.N (T4 (cA σ) φ φ') (σ++σ'.mapB (Blk.ren (sh (cA σ))))) (sh (cA σ))/\
  Rs Γ (σ++σ'.mapB (Blk.ren (sh (cA σ)))) (T4 (cA σ) φ φ') w':=by
 generalize hn:cA σ=n
 generalize hσ:σ++σ'.mapB (Blk.ren (sh n))=σ2
 have lo:∀i:Id,i.1<n->σ2[i]? =σ[i]? :=fun i hi=>by rw[<- hσ];exact b6.get_left (by rw[hn];exact hi)
 have hi':∀i:Id,n<=i.1->σ2[i]? =(σ'[unsh n i]?).map (bQ (Blk.ren (sh n))):=fun i hi=>by rw[<- hσ,b6.get_right (by rw[hn];exact hi),b6.get_map,hn];rfl
 have plo:∀i:Id,i.1<n->T4 n φ φ' i=φ i:=fun i hi=>by simp[T4,hi]
 have phi:∀i:Id,n<=i.1->T4 n φ φ' i=φ' (unsh n i):=fun i hi=>by simp[T4,bS.2 hi]
 have hlen:n<=cA σ2:=by rw[<- hσ];simp[hn]
 have old:∀b,b<w.heap.size->(Γ.bare φ σ w).K b:=fun b hb=>⟨hb,fun i blk base hi=>by simp[Cx.bare] at hi⟩
 have ownlt:∀(i:Id) blk b base,σ[i]? =some (some blk)->φ i=some (b,base)->b<w.heap.size:=fun i blk b base hi hp=>Al.own_lt h.st hi hp
 have newge:∀(i:Id) blk b base,σ'[i]? =some (some blk)->φ' i=some (b,base)->w.heap.size<=b:=fun i blk b base hi hp=>by
  rcases az b w.heap.size with hb|hb
  ·exact absurd (old b hb) (k.keep i blk b base hi hp)
  ·exact hb
 have hnew:∀(i:Id) blk,n<=i.1->σ2[i]? =some (some blk)->∃b0,σ'[unsh n i]? =some (some b0)/\blk=b0.ren (sh n):=fun i blk hge h2=>by
  rw[hi' i hge] at h2
  cases hx:σ'[unsh n i]? with
  |none=>rw[hx] at h2;cases h2
  |some o=>
   rw[hx] at h2
   cases o with
   |none=>cases h2
   |some b0=>cases h2;exact⟨b0,rfl,rfl⟩
 have A1:∀b,Al Γ.N φ σ b->b<w.heap.size->Al Γ.N (T4 n φ φ') σ2 b:=fun b hb hlt=>⟨hb.1,fun i blk base hib hp=>by
  rcases az i.1 n with hin|hin
  ·exact hb.2 i blk base (by rw[<- lo i hin];exact hib) (by rw[<- plo i hin];exact hp)
  ·obtain⟨b0,h1,_⟩:=hnew i blk hin hib
   rw[phi i hin] at hp
   have:=newge _ _ _ _ h1 hp
   omega⟩
 have A2:∀b,Al (Γ.bare φ σ w).N φ' σ' b->b<w'.heap.size->Al Γ.N (T4 n φ φ') σ2 b:=fun b hb _=>by
  have key:b<w.heap.size->Al Γ.N φ σ b:=fun hlt=>Classical.byContradiction fun hx=>hb.1 ⟨hlt,hx⟩
  refine⟨fun hN=> ?_,fun i blk base hib hp=> ?_⟩
  ·have hlt:b<w.heap.size:=ag (h.good.lt b hN) h.size
   exact(key hlt).1 hN
  ·rcases az i.1 n with hin|hin
   ·rw[lo i hin] at hib;rw[plo i hin] at hp
    have hlt:=ownlt i blk b base hib hp
    exact(key hlt).2 i blk base hib hp
   ·obtain⟨b0,h1,_⟩:=hnew i blk hin hib
    rw[phi i hin] at hp
    exact hb.2 _ b0 base h1 hp
 have hK:Kept w w' φ (T4 n φ φ') σ σ2 (Al Γ.N φ σ) (Al Γ.N (T4 n φ φ') σ2):=
  {imm:=fun b _ hl=>k.block b (old b hl),all:=A1,len:=by omega,
   cells:=fun i kk es' hi he=>by
    rw[hn] at hi
    rw[lo i hi] at he
    refine⟨es',he,rfl,plo i hi,fun b base arr ety hp hb=>⟨arr,?_,rfl⟩⟩
    exact(k.block b (old b (ownlt i _ b base he hp))).trans hb,
   obj:=fun i p' cs' hi he=>by
    rw[hn] at hi
    rw[lo i hi] at he
    exact⟨plo i hi,p',cs',he⟩}
 have hF:Fwd w' φ' (T4 n φ φ') σ' σ2 (Al (Γ.bare φ σ w).N φ' σ') (Al Γ.N (T4 n φ φ') σ2) (sh n):=
  {all:=A2,blk:=fun i hi=>by
    have hge:n<=(sh n i).1:=by simp[sh]
    refine⟨by rw[<- hσ];simp[hn,sh];omega,by rw[phi _ hge,unsh_sh],fun b' hb'=> ?_⟩
    obtain⟨b0,h1,h2⟩:=hnew (sh n i) b' hge hb'
    exact⟨b0,by rwa [unsh_sh] at h1,h2⟩}
 refine⟨hK,hF,?_⟩
 exact {
  good:=h.good
  st:=⟨fun i b hib=>by
    rcases az i.1 n with hin|hin
    ·rw[lo i hin] at hib
     rw[plo i hin]
     exact(h.st.blk i b hib).mono hK fun g base hp=>k.block g (old g (ownlt i b g base hib hp))
    ·obtain⟨b0,h1,rfl⟩:=hnew i b hin hib
     rw[phi i hin]
     have hb:=k.st.blk _ _ h1
     cases b0 with
     |cells kk es=>
      rcases hb with⟨g1,g2⟩|⟨b,base,arr,ety,g1,g2,g3,g4,g5⟩
      ·exact .inl ⟨g1,by subst g2;rfl⟩
      ·refine .inr ⟨b,base,arr,ety,g1,g2,by simpa using g3,fun j e he=> ?_,fun j e o x he hx=> ?_⟩
       ·simp only[lM,oM] at he
        obtain⟨e0,he0,rfl⟩:=he
        rw[x6];simpa using g4 j e0 he0
       ·simp only[lM,oM] at he
        obtain⟨e0,he0,rfl⟩:=he
        rw[x6] at hx
        simp only[lM,oM] at hx
        obtain⟨x0,hx0,rfl⟩:=hx
        obtain⟨u,hu,hr⟩:=g5 j e0 o x0 he0 hx0
        exact⟨u,hu,hr.fwd hF⟩
     |obj p cs=>
      obtain⟨b,o,us,g1,g2,g3,g4⟩:=hb
      refine⟨b,o,us,g1,g2,g3,fun i x hx=> ?_⟩
      rw[x6] at hx
      simp only[lM,oM] at hx
      obtain⟨x0,hx0,rfl⟩:=hx
      obtain⟨u,hu,hr⟩:=g4 i x0 hx0
      exact⟨u,hu,hr.fwd hF⟩,
   fun i j bi bj p q hib hjb hp hq he=>by
    obtain⟨pb,po⟩:=p
    obtain⟨qb,qo⟩:=q
    dsimp only at he
    subst he
    rcases az i.1 n with hin|hin<;>rcases az j.1 n with hjn|hjn
    ·rw[lo i hin] at hib;rw[lo j hjn] at hjb;rw[plo i hin] at hp;rw[plo j hjn] at hq
     exact h.st.inj i j bi bj _ _ hib hjb hp hq rfl
    ·rw[lo i hin] at hib;rw[plo i hin] at hp
     obtain⟨b0,h1,_⟩:=hnew j bj hjn hjb
     rw[phi j hjn] at hq
     have:=newge _ _ _ _ h1 hq
     have:=ownlt i bi _ _ hib hp
     omega
    ·rw[lo j hjn] at hjb;rw[plo j hjn] at hq
     obtain⟨b0,h1,_⟩:=hnew i bi hin hib
     rw[phi i hin] at hp
     have:=newge _ _ _ _ h1 hp
     have:=ownlt j bj _ _ hjb hq
     omega
    ·obtain⟨b0,h1,_⟩:=hnew i bi hin hib
     obtain⟨b1,h2,_⟩:=hnew j bj hjn hjb
     rw[phi i hin] at hp
     rw[phi j hjn] at hq
     have:=k.st.inj _ _ _ _ _ _ h1 h2 hp hq rfl
     rw[<- sh_unsh hin,this,sh_unsh hjn]⟩
  keep:=fun i blk b base hib hp hKb=>by
   rcases az i.1 n with hin|hin
   ·rw[lo i hin] at hib;rw[plo i hin] at hp
    exact h.keep i blk b base hib hp hKb
   ·obtain⟨b0,h1,_⟩:=hnew i blk hin hib
    rw[phi i hin] at hp
    have:=newge _ _ _ _ h1 hp
    have:=hKb.1
    have:=h.size
    omega
  os:=k.os.trans h.os
  tape:=k.tape.trans h.tape
  drawn:=aP h.drawn k.drawn
  output:=k.output.trans h.output
  size:=aP h.size k.size
  block:=fun b hKb=>(k.block b (old b (ag hKb.1 h.size))).trans (h.block b hKb)
  kept:=Kept.trans h.size h.kept hK}
class TyD (P:Program) (t:Ti) (d:outParam TypeDesc):Prop where
 h:P.underlying t=some d
class TyS (P:Program) (t:Ti) (size bytes:outParam Nat) (zero:outParam Vl):Prop where
 h:∃i,P.info? t=some i/\i.size=size/\i.bytes=bytes/\i.zero=some zero
def evs(env:Env):List Od->Option (List T)
 |[]=>some []
 |x::r=>match ev env x,evs env r with
  |some t,some a=>some (t::a)
  |_,_=>none
def sem_ro{P:Program}{a:Act}{w w':World}{o:Oper}{ro:Option Nat}{x:Next}(h:(execOp a.eval o).run P w=.ok x w')(hx:∀d,x ≠ .defer d):(o.semAt ro a.eval).run P w=.ok x w':=by
 by_cases hd:∃c,o.op=.defer c;obtain⟨c,hc⟩:=hd;exfalso;unfold execOp at h;simp only[hc,Sem.run_bind] at h;cases hr:(resolve a.eval c o.type).run P w with
 |ok d w1=>rw[hr] at h;simp only[Result.andThen,Sem.run_pure] at h;cases h;exact hx _ rfl
 |halt x w1=>rw[hr] at h;simp[Result.andThen] at h
 rw[Oper.semAt_eq ro _ o fun c hc=>hd ⟨c,hc⟩];exact h
def ad6{Q:Exit->Act->World->Prop}{rest:List Oper}{a:Act}{o:Oper}(b:o.guard=none)(h:o.wpIn (fw H) 0 r a g (wpListIn (fw H) 0 r t Q rest) Q):wpListIn (fw H) 0 r t Q (o::rest) a g:=by unfold wpListIn;rw[if_pos (by simp[Region.wanted,b])];exact h
def val_in{Q:Exit->Act->World->Prop}{a:Act}{b:World}{o:Oper}{K:Act->World->Prop}(c:(execOp a.eval o).run r g=.ok (.value p) b)(h:K (a.put o.dst p) b):o.wpIn (fw H) 0 r a g K Q:=
 ⟨fun _ _=>trivial,by rw[sem_ro c (fun d=>nofun),Oper.uponIn_value];exact h⟩
def skip_in{Q:Exit->Act->World->Prop}{a:Act}{b:World}{o:Oper}{K:Act->World->Prop}(c:(execOp a.eval o).run r g=.ok .skip b)(h:K (a.put o.dst undef) b):o.wpIn (fw H) 0 r a g K Q:=
 ⟨fun _ _=>trivial,by rw[sem_ro c (fun d=>nofun),Oper.uponIn_skip];exact h⟩
def ax3{Q:Exit->Act->World->Prop}{a:Act}{e:World}{o:Oper}{f:FuncId}{vs:Array Vl}{K:Act -> World -> Prop}(i : (execOp a.eval o).run r g = .ok (.enter f vs) e)(h : Calls r f vs e fun
   | .returned v,b=>K (a.put o.dst v) b
   | .panicked c,b=>Q (.panic c) a b
   | .outgrown,_=>LetsOut Q):o.wpIn (fw H) 0 r a g K Q:=
 ⟨fun _ _=>trivial,by rw[sem_ro i (fun d=>nofun),Oper.uponIn_enter];exact⟨fun h=>by simp at h,(callsIn_wide (n:=0 - 1)).2 h⟩⟩
section
variable {P:Program}{σ0:b6}{sz:Nat}{Q:Post}{env:Env}{σv:b6}{ops:Array Oper}{rest:List Oper}
def AWP.aa{l:List Oper}(h:AOps P σ0 sz l.toArray Q l (St.mk env σv)):AWP P σ0 sz (.region a l.toArray false) Q (St.mk env σv):=fun d e b w c f g _=>wpIn_region_lit (h d e b w c f g)
def AOps.nil(h:Q .normal (St.mk env σv)):AOps P σ0 sz ops Q [] (St.mk env σv):=fun _ a _ _ _ b _=>⟨(St.mk env σv),a,h,b⟩
def AWP.cond{c d:Code}{b:Bool}(o:ev env B=some (.c (bool b)))(p:b=true->AWP P σ0 sz c Q (St.mk env σv))(q:b=false->AWP P σ0 sz d Q (St.mk env σv)):AWP P σ0 sz (.cond B c d) Q (St.mk env σv):=fun k l a w f i n g=>by
 have h:=m9 i o;have e:a.eval B=.bool b:=by generalize a.eval B=v at h;cases h with|c h=>cases h with|imm h=>cases h;rfl
 exact wpIn_cond_split e (fun j=>p j k l a w f i n (fun e=>g (by simp[ag7,e]))) (fun j=>q j k l a w f i n (fun e=>g (by simp[ag7,e])))
def AOps.value{o:Oper}(f:o.guard=none)(g:h9 sz o.dst=true)(v:T)
  (h:∀c b a w,R c sz (St.mk env σv) b a w->∃u,(execOp a.eval o).run P w=.ok (.value u) w/\RelT w b σv (Al c.N b σv) v u)
  (i:AOps P σ0 sz ops Q rest (St.mk (putE env o.dst v) σv)):AOps P σ0 sz ops Q (o::rest) (St.mk env σv):=fun c b a w d e j=>by
 obtain⟨u,k,l⟩:=h c b a w e
 exact ad6 f (val_in k (i c b _ w d (e.put g l) j))
def AOps.valueW{o:Oper}(j:o.guard=none)(k:h9 sz o.dst=true)(v:T)(c:b6)
  (h:∀d f a w,R d sz (St.mk env σv) f a w->∃u e b,(execOp a.eval o).run P w=.ok (.value u) e/\RelT e b c (Al d.N b c) v u/\R d sz ⟨env,c⟩ b a e)
  (l:AOps P σ0 sz ops Q rest ((St.mk env c).put o.dst v)):AOps P σ0 sz ops Q (o::rest) (St.mk env σv):=fun d f a w g n p=>by
 obtain⟨u,e,b,q,r,i⟩:=h d f a w n
 exact ad6 j (val_in q (l d b _ e g (i.put k r) p))
def AOps.skipW{o:Oper}(j:o.guard=none)(k:o.dst=none)(c:b6)
  (h:∀d f a w,R d sz (St.mk env σv) f a w->∃e b,(execOp a.eval o).run P w=.ok .skip e/\R d sz ⟨env,c⟩ b a e)
  (l:AOps P σ0 sz ops Q rest ⟨env,c⟩):AOps P σ0 sz ops Q (o::rest) (St.mk env σv):=fun d f a w g n p=>by
 obtain⟨e,b,q,i⟩:=h d f a w n
 refine ad6 j (skip_in q ?_)
 rw[k]
 exact l d b _ e g i p
def AOps.guard{op:Op}{pos:String}{f:Array Edge}{b g:Bool}(r:(ops[a]?).bind (·.dst)=some x)(s:lookup x env=some (.c (bool g)))(v:h9 sz H=true)(y:g=b->AOps P σ0 sz ops Q (⟨H,op,M,pos,f,none⟩::rest) (St.mk env σv))(z:g= !b->AOps P σ0 sz ops Q rest (St.mk (putE env H .undef) σv)):AOps P σ0 sz ops Q (⟨H,op,M,pos,f,some (a,b)⟩::rest) (St.mk env σv):=fun n o d w i k p=>by
 obtain⟨u,A,B⟩:=k.env x _ s
 have e:u=.bool g:=by cases B with|c h=>cases h with|imm h=>cases h;rfl
 subst e
 have q:yielded ops d.tmps a=some g:=by simp[yielded,r,A]
 unfold wpListIn
 by_cases l:g=b
 ·rw[if_pos (by simp[Region.wanted,q,l])]
  have:=y l n o d w i k p
  unfold wpListIn at this
  rw[if_pos (by simp[Region.wanted])] at this
  exact this
 ·rw[if_neg (by simp[Region.wanted,q,l])]
  exact⟨fun _ _=>Y,z (by cases g<;>cases b<;>simp_all) n o _ w i (k.put v .undef) p⟩
def AOps.guardSkip{op:Op}{pos:String}{d:Array Edge}{b:Bool}(h:(ops[a]?).bind (·.dst)=some x)(i:lookup x env=some .undef)(k:h9 sz H=true)(l:AOps P σ0 sz ops Q rest (St.mk (putE env H .undef) σv)):AOps P σ0 sz ops Q (⟨H,op,M,pos,d,some (a,b)⟩::rest) (St.mk env σv):=fun n o c w f g p=>by
 obtain⟨u,q,r⟩:=g.env x _ i
 have e:u=Go.undef:=by cases r;rfl
 subst e
 have s:yielded ops c.tmps a=none:=by simp[yielded,h,q,Go.undef]
 unfold wpListIn
 rw[if_neg (by simp[Region.wanted,s])]
 exact⟨fun _ _=>Y,l n o _ w f (g.put k .undef) p⟩
section
variable {dst:Option Nat}{ty:Ti}{pos:String}{after:Array Edge}
def AOps.F{v:T}(b:ev env B=some v)(c:h9 sz dst=true)(h:AOps P σ0 sz ops Q rest (St.mk (putE env dst v) σv)):AOps P σ0 sz ops Q (⟨dst,.move B,ty,pos,after,none⟩::rest) (St.mk env σv):=
 .value rfl c v (fun _ _ a _ d=>⟨a.eval B,rfl,m9 d b⟩) h
def AOps.E{v:T}(b:ev env B=some v)(c:h9 sz dst=true)(h:AOps P σ0 sz ops Q rest (St.mk (putE env dst v) σv)):AOps P σ0 sz ops Q (⟨dst,.assign B,ty,pos,after,none⟩::rest) (St.mk env σv):=
 .value rfl c v (fun _ _ a _ d=>⟨a.eval B,rfl,m9 d b⟩) h
def val_inv{u:Vl}(h:RelT g q b l (.c (.imm (.val p))) u):u=p:=by cases h with|c h=>cases h with|imm h=>cases h;rfl
def z7{b:Cx}{a:Act}(d:R b sz (St.mk env σv) q a g)(h:ev env B=some (.c (.imm (.val p)))):a.eval B=p:=val_inv (m9 d h)
def AOps.pick{x y:Od}{b:Bool}{v:T}(g:ev env B=some (.c (bool b)))(i:(b=true/\ev env x=some v)\/(b=false/\ev env y=some v))(j:h9 sz dst=true)(h:AOps P σ0 sz ops Q rest (St.mk (putE env dst v) σv)):AOps P σ0 sz ops Q (⟨dst,.pick B x y,ty,pos,after,none⟩::rest) (St.mk env σv):=
 .value rfl j v (fun _ _ a _ d=>by have e:=z7 d g;rcases i with⟨rfl,f⟩|⟨rfl,f⟩;exact⟨a.eval x,by simp[execOp,e,asBool],m9 d f⟩;exact⟨a.eval y,by simp[execOp,e,asBool],m9 d f⟩) h
def AOps.pickT{x y:Od}{b:Bool}{v:T}(a:ev env B=some (.c (bool b)))(d:b=true)(e:ev env x=some v)(f:h9 sz dst=true)(h:AOps P σ0 sz ops Q rest (St.mk (putE env dst v) σv)):AOps P σ0 sz ops Q (⟨dst,.pick B x y,ty,pos,after,none⟩::rest) (St.mk env σv):=.pick a (.inl ⟨d,e⟩) f h
def AOps.pickF{x y:Od}{b:Bool}{v:T}(a:ev env B=some (.c (bool b)))(d:b=false)(e:ev env y=some v)(f:h9 sz dst=true)(h:AOps P σ0 sz ops Q rest (St.mk (putE env dst v) σv)):AOps P σ0 sz ops Q (⟨dst,.pick B x y,ty,pos,after,none⟩::rest) (St.mk env σv):=.pick a (.inr ⟨d,e⟩) f h
def AOps.bin{op:BinOp}{d:Ti}{y:Od}{v r:Vl}(e:ev env B=some (.c (.imm (.val p))))(f:ev env y=some (.c (.imm (.val v))))(g:h9 sz dst=true)(i:r.oneCell'=true)(j:∀w,(eqGuard op M B y p v).run P w=.ok () w)(k:∀w,(binOp op M p v).run P w=.ok r w)(h:AOps P σ0 sz ops Q rest (St.mk (putE env dst (.c (.imm (.val r)))) σv)):AOps P σ0 sz ops Q (⟨dst,.binOp op M B y d,ty,pos,after,none⟩::rest) (St.mk env σv):=
 .value rfl g _ (fun _ _ a w b=>⟨r,by simp[execOp,z7 b e,z7 b f,j,k],.c (.imm (.val i))⟩) h
section
variable {t t':Ti}{x y:Od}{k:IntKind}{a b:Int}(hx:ev env x=some (.c (.imm (.val (.int k a)))))(hy:ev env y=some (.c (.imm (.val (.int k b)))))(hd:h9 sz dst=true)
include hx hy hd
theorem AOps.lss(h:AOps P σ0 sz ops Q rest (St.mk (putE env dst (.c (bool (decide (a<b))))) σv)):AOps P σ0 sz ops Q (⟨dst,.binOp .lss t x y t',ty,pos,after,none⟩::rest) (St.mk env σv):=.bin hx hy hd rfl (fun w=>by simp[go_sem]) (fun w=>by simp[go_sem]) h
theorem AOps.leq(h:AOps P σ0 sz ops Q rest (St.mk (putE env dst (.c (bool (decide (a<=b))))) σv)):AOps P σ0 sz ops Q (⟨dst,.binOp .leq t x y t',ty,pos,after,none⟩::rest) (St.mk env σv):=.bin hx hy hd rfl (fun w=>by simp[go_sem]) (fun w=>by simp[go_sem]) h
theorem AOps.gtr(h:AOps P σ0 sz ops Q rest (St.mk (putE env dst (.c (bool (decide (b<a))))) σv)):AOps P σ0 sz ops Q (⟨dst,.binOp .gtr t x y t',ty,pos,after,none⟩::rest) (St.mk env σv):=.bin hx hy hd rfl (fun w=>by simp[go_sem]) (fun w=>by simp[go_sem]) h
theorem AOps.geq(h:AOps P σ0 sz ops Q rest (St.mk (putE env dst (.c (bool (decide (b<=a))))) σv)):AOps P σ0 sz ops Q (⟨dst,.binOp .geq t x y t',ty,pos,after,none⟩::rest) (St.mk env σv):=.bin hx hy hd rfl (fun w=>by simp[go_sem]) (fun w=>by simp[go_sem]) h
theorem AOps.eql(h:AOps P σ0 sz ops Q rest (St.mk (putE env dst (.c (bool (decide (a=b))))) σv)):AOps P σ0 sz ops Q (⟨dst,.binOp .eql t x y t',ty,pos,after,none⟩::rest) (St.mk env σv):=.bin hx hy hd rfl (fun w=>by simp[go_sem]) (fun w=>by simp[go_sem];rfl) h
theorem AOps.neq(h:AOps P σ0 sz ops Q rest (St.mk (putE env dst (.c (bool (!decide (a=b))))) σv)):AOps P σ0 sz ops Q (⟨dst,.binOp .neq t x y t',ty,pos,after,none⟩::rest) (St.mk env σv):=.bin hx hy hd rfl (fun w=>by simp[go_sem]) (fun w=>by simp[go_sem];rfl) h
theorem AOps.addW(h:AOps P σ0 sz ops Q rest (St.mk (putE env dst (.c (.imm (.val (.int k (k.wrap (a+b))))))) σv)):AOps P σ0 sz ops Q (⟨dst,.binOp .add t x y t',ty,pos,after,none⟩::rest) (St.mk env σv):=.bin hx hy hd rfl (fun w=>by simp[go_sem]) (fun w=>by simp[binOp_add,Op.intArith]) h
theorem AOps.subW(h:AOps P σ0 sz ops Q rest (St.mk (putE env dst (.c (.imm (.val (.int k (k.wrap (a - b))))))) σv)):AOps P σ0 sz ops Q (⟨dst,.binOp .sub t x y t',ty,pos,after,none⟩::rest) (St.mk env σv):=.bin hx hy hd rfl (fun w=>by simp[go_sem]) (fun w=>by simp[binOp_sub,Op.intArith]) h
theorem AOps.mulW(h:AOps P σ0 sz ops Q rest (St.mk (putE env dst (.c (.imm (.val (.int k (k.wrap (a * b))))))) σv)):AOps P σ0 sz ops Q (⟨dst,.binOp .mul t x y t',ty,pos,after,none⟩::rest) (St.mk env σv):=.bin hx hy hd rfl (fun w=>by simp[go_sem]) (fun w=>by simp[binOp_mul,Op.intArith]) h
theorem AOps.quoW(hb:b ≠ 0)(h:AOps P σ0 sz ops Q rest (St.mk (putE env dst (.c (.imm (.val (.int k (k.wrap (a.tdiv b))))))) σv)):AOps P σ0 sz ops Q (⟨dst,.binOp .quo t x y t',ty,pos,after,none⟩::rest) (St.mk env σv):=.bin hx hy hd rfl (fun w=>by simp[go_sem]) (fun w=>by simp[binOp_quo,Op.intDiv,hb]) h
theorem AOps.remW(hb:b ≠ 0)(h:AOps P σ0 sz ops Q rest (St.mk (putE env dst (.c (.imm (.val (.int k (a.tmod b)))))) σv)):AOps P σ0 sz ops Q (⟨dst,.binOp .rem t x y t',ty,pos,after,none⟩::rest) (St.mk env σv):=.bin hx hy hd rfl (fun w=>by simp[go_sem]) (fun w=>by simp[binOp_rem,Op.intDiv,hb]) h
theorem AOps.bits{op:BinOp}(ho:op=.and\/op=.or\/op=.xor\/op=.andNot)(h:AOps P σ0 sz ops Q rest (St.mk (putE env dst (.c (.imm (.val (.int k (Go.bits op k a b)))))) σv)):AOps P σ0 sz ops Q (⟨dst,.binOp op t x y t',ty,pos,after,none⟩::rest) (St.mk env σv):=by
 rcases ho with rfl|rfl|rfl|rfl<;>exact .bin hx hy hd rfl (fun w=>by simp[go_sem]) (fun w=>by simp[go_sem]) h
end
def wrap_i64{n:Int}(h: -9223372036854775808<=n/\n<=9223372036854775807):IntKind.i64.wrap n=n:=by rw[IntKind.wrap_i64];omega
section
variable {t t':Ti}{x y:Od}{a b:Int}(hx:ev env x=some (.c (int a)))(hy:ev env y=some (.c (int b)))(hd:h9 sz dst=true)
include hx hy hd
def AOps.add(d: -9223372036854775808<=a+b/\a+b<=9223372036854775807)(h:AOps P σ0 sz ops Q rest (St.mk (putE env dst (.c (int (a+b)))) σv)):AOps P σ0 sz ops Q (⟨dst,.binOp .add t x y t',ty,pos,after,none⟩::rest) (St.mk env σv):=.addW hx hy hd (by rw[wrap_i64 d];exact h)
def AOps.sub'(d: -9223372036854775808<=a - b/\a - b<=9223372036854775807)(h:AOps P σ0 sz ops Q rest (St.mk (putE env dst (.c (int (a - b)))) σv)):AOps P σ0 sz ops Q (⟨dst,.binOp .sub t x y t',ty,pos,after,none⟩::rest) (St.mk env σv):=.subW hx hy hd (by rw[wrap_i64 d];exact h)
def AOps.mul(d: -9223372036854775808<=a * b/\a * b<=9223372036854775807)(h:AOps P σ0 sz ops Q rest (St.mk (putE env dst (.c (int (a * b)))) σv)):AOps P σ0 sz ops Q (⟨dst,.binOp .mul t x y t',ty,pos,after,none⟩::rest) (St.mk env σv):=.mulW hx hy hd (by rw[wrap_i64 d];exact h)
end
def AOps.not{b:Bool}(d:ev env B=some (.c (bool b)))(e:h9 sz dst=true)(h:AOps P σ0 sz ops Q rest (St.mk (putE env dst (.c (bool (!b)))) σv)):AOps P σ0 sz ops Q (⟨dst,.unOp .not M B,ty,pos,after,none⟩::rest) (St.mk env σv):=
 .value rfl e _ (fun _ _ a w f=>⟨.bool (!b),by simp[execOp,z7 f d,Op.unary],.c (.imm (.val rfl))⟩) h
def AOps.neg{k:IntKind}{n:Int}(b:ev env B=some (.c (.imm (.val (.int k n)))))(d:h9 sz dst=true)(h:AOps P σ0 sz ops Q rest (St.mk (putE env dst (.c (.imm (.val (.int k (k.wrap (0 - n))))))) σv)):AOps P σ0 sz ops Q (⟨dst,.unOp .neg M B,ty,pos,after,none⟩::rest) (St.mk env σv):=
 .value rfl d _ (fun _ _ a w e=>⟨.int k (k.wrap (0 - n)),by simp[execOp,z7 e b,Op.unary,Op.intArith],.c (.imm (.val rfl))⟩) h
def sl_inv{f:List (List I)}(h:RelT g q d l (.c (.imm (.sl a f))) p):∃b e,p=.slice b (cA f) e:=by
 cases h with|c h=>cases h with|imm h=>cases h<;>exact⟨_,_,rfl⟩
def H1{id:Id}{k:Nat}(h:RelT g q b l (.c (.own id a x)) p)(d:b[id]? =some (some (.cells k V))):ad5 g (q id) k (cA V) a x p:=by
 cases h with|c h=>cases h with|own _ _ h=>exact h k V d
def ad5.len{w:World}{p:Option (Nat×Nat)}{k l n:Nat}{u:Vl}(h:ad5 w p k l a n u):∃b c,u=.slice b n c:=by rcases h with⟨_,d,_,f⟩|⟨b,e,c,g,i,o,_,d,_⟩;exact⟨none,0,by rw[d,f]⟩;exact⟨_,c,d⟩
/-! ### Length -/
def AOps.len{t:Ti}{k:Nat}{d:List (List I)}[f:TyD P t (.slice M)](g:ev env B=some (.c (.imm (.sl k d))))(i:h9 sz dst=true)(h:AOps P σ0 sz ops Q rest (St.mk (putE env dst (.c (int (cA d)))) σv)):AOps P σ0 sz ops Q (⟨dst,.call ⟨.builtin .len,#[B],#[t]⟩,ty,pos,after,none⟩::rest) (St.mk env σv):=
 .value rfl i _ (fun _ _ a w j=>⟨.int .i64 (cA d),by obtain⟨b,l,M⟩:=sl_inv (m9 j g);simp[execOp,resolve,invoke,builtin,M,Builtin.len_,run_underlying f.h,goInt],.int _⟩) h
def AOps.lenOwn{e:Ti}{n k:Nat}[g:TyD P M (.slice e)](i:ev env B=some (.c (.own c a n)))(f:σv[c]? =some (some (.cells k V)))(l:h9 sz dst=true)(h:AOps P σ0 sz ops Q rest (St.mk (putE env dst (.c (int n))) σv)):AOps P σ0 sz ops Q (⟨dst,.call ⟨.builtin .len,#[B],#[M]⟩,ty,pos,after,none⟩::rest) (St.mk env σv):=
 .value rfl l _ (fun _ _ d w o=>⟨.int .i64 n,by obtain⟨b,p,e⟩:=(H1 (m9 o i) f).len;simp[execOp,resolve,invoke,builtin,e,Builtin.len_,run_underlying g.h,goInt],.int _⟩) h
def AOps.lenNil{e:Ti}{b:Option Addr}{c:Nat}[f:TyD P M (.slice e)](g:ev env B=some (.c (.imm (.val (.slice b a c)))))(i:h9 sz dst=true)(h:AOps P σ0 sz ops Q rest (St.mk (putE env dst (.c (int a))) σv)):AOps P σ0 sz ops Q (⟨dst,.call ⟨.builtin .len,#[B],#[M]⟩,ty,pos,after,none⟩::rest) (St.mk env σv):=
 .value rfl i _ (fun _ _ d w j=>⟨.int .i64 a,by simp[execOp,z7 j g,resolve,invoke,builtin,Builtin.len_,run_underlying f.h,goInt],.int _⟩) h
/-! ### min, max -/
def AOps.min2{x y:Od}{ts:Array Ti}{k:IntKind}{m n:Int}(hx:ev env x=some (.c (.imm (.val (.int k m)))))(hy:ev env y=some (.c (.imm (.val (.int k n)))))(hd:h9 sz dst=true)
  (h:AOps P σ0 sz ops Q rest (St.mk (putE env dst (.c (.imm (.val (.int k (min m n)))))) σv)):AOps P σ0 sz ops Q (⟨dst,.call ⟨.builtin .min,#[x,y],ts⟩,ty,pos,after,none⟩::rest) (St.mk env σv):=
 .value rfl hd _ (fun _ _ a w hR=>⟨.int k (min m n),by simp[execOp,z7 hR hx,z7 hR hy,resolve,invoke,builtin,Builtin.min_,Builtin.min2];split<;>omega,.c (.imm (.val rfl))⟩) h
def AOps.max2{x y:Od}{ts:Array Ti}{k:IntKind}{m n:Int}(hx:ev env x=some (.c (.imm (.val (.int k m)))))(hy:ev env y=some (.c (.imm (.val (.int k n)))))(hd:h9 sz dst=true)
  (h:AOps P σ0 sz ops Q rest (St.mk (putE env dst (.c (.imm (.val (.int k (max m n)))))) σv)):AOps P σ0 sz ops Q (⟨dst,.call ⟨.builtin .max,#[x,y],ts⟩,ty,pos,after,none⟩::rest) (St.mk env σv):=
 .value rfl hd _ (fun _ _ a w hR=>⟨.int k (max m n),by simp[execOp,z7 hR hx,z7 hR hy,resolve,invoke,builtin,Builtin.max_,Builtin.max2];split<;>omega,.c (.imm (.val rfl))⟩) h
def AOps.extract{v:T}(c:ev env B=some (.tup A))(d:A[a]? =some v)(e:h9 sz dst=true)(h:AOps P σ0 sz ops Q rest (St.mk (putE env dst v) σv)):AOps P σ0 sz ops Q (⟨dst,.extract B a,ty,pos,after,none⟩::rest) (St.mk env σv):=
 .value rfl e _ (fun _ _ b w f=>by obtain⟨vs,g,n,j⟩:=RelT.tup_inv (m9 f c);obtain⟨u,k,l⟩:=j a v d;exact⟨u,by simp[execOp,g,Instr.extract,k],l⟩) h
end
end
def Kept.drew(w:World)(b:Phi)(σ:b6)(A:Nat->Prop):Kept w w.drew b b σ σ A A:=
 ⟨fun _ _ _=>rfl,fun _ h _=>h,aK _,fun _ _ c _ h=>⟨c,h,rfl,rfl,fun _ _ a _ _ d=>⟨a,d,rfl⟩⟩,fun _ p cs _ h=>⟨rfl,p,cs,h⟩⟩
def Rs.drew{a:Cx}(h:Rs a d q g):Rs a d q g.drew:=
 {good:=h.good,st:=⟨fun i b c=>(h.st.blk i b c).mono (Kept.drew g q d _) (fun _ _ _=>rfl),h.st.inj⟩,
  keep:=h.keep,os:=h.os,tape:=h.tape,drawn:=aP h.drawn (Nat.le_succ _),output:=h.output,size:=h.size,block:=h.block,
  kept:=Kept.trans h.size h.kept (Kept.drew g q d _)}
def R.of{e:Cx}{s:St}{d:Phi}{c:Act}{f:World}(h:R e a s q c g)(hk:Kept g f q d s.σ b (Al e.N q s.σ) (Al e.N d b))(i:Rs e b d f):R e a ⟨s.env,b⟩ d c f:=
 {toRs:=i,defers:=h.defers.kept hk,asize:=h.asize,env:=fun t v j=>let ⟨u,k,l⟩:=h.env t v j; ⟨u,k,l.mono hk⟩}
def r7(n:Nat)(a:Phi)(b:Nat):Phi:=fun i=>if i=(n,[]) then some (b,0) else a i
def Rs.alloc{z:Cx}{r:Phi}(h:Rs z d r g){k:Nat}{es:List (List C)}{arr:Array Vl}{ety:Ti}(hk:∀(j:Nat) (e:List C),es[j]? =some e->cA e=k)(P:cA es * k<=arr.size)(Q:∀(j:Nat) (e:List C) (o:Nat) (x:C),es[j]? =some e->e[o]? =some x->∃u,arr[j * k+o]? =some u/\RelC g r d (Al z.N r d) x u):
  Kept g (g.alloc (.cells arr ety)) r (r7 (cA d) r g.heap.size) d (d++[.one (.cells k es)]) (Al z.N r d) (Al z.N (r7 (cA d) r g.heap.size) (d++[.one (.cells k es)]))/\
  Rs z (d++[.one (.cells k es)]) (r7 (cA d) r g.heap.size) (g.alloc (.cells arr ety)):=by
 have old:∀b,b<g.heap.size->(g.alloc (.cells arr ety)).heap[b]? =g.heap[b]? :=fun b D=>by first|exact heap_alloc_old g _ D|exact heap_alloc_old g _ _ D
 have new:(g.alloc (.cells arr ety)).heap[g.heap.size]? =some (.cells arr ety (0,0)):=heap_alloc_new g _
 have l:∀i:Id,i.1<cA d->r7 (cA d) r g.heap.size i=r i:=fun i n=>by
  have:i ≠ (cA d,[]):=fun e=>by rw[e] at n;exact aO _ n
  simp[r7,this]
 have s:r7 (cA d) r g.heap.size (cA d,[])=some (g.heap.size,0):=by simp[r7]
 have c:∀(i:Id) blk,(d++[.one (.cells k es)])[i]? =some (some blk)->(i.1<cA d/\d[i]? =some (some blk))\/(i=(cA d,[])/\blk=.cells k es):=fun i blk n=>b6.get_new n
 have U:∀b,Al z.N r d b->b<g.heap.size->Al z.N (r7 (cA d) r g.heap.size) (d++[.one (.cells k es)]) b:=fun b D J=>⟨D.1,fun i blk t n f=>by rcases c i blk n with⟨B,A⟩|⟨rfl,rfl⟩;rw[l i B] at f;exact D.2 i blk t A f;rw[s] at f;cases f;omega⟩
 have F:Kept g (g.alloc (.cells arr ety)) r (r7 (cA d) r g.heap.size) d (d++[.one (.cells k es)]) (Al z.N r d) (Al z.N (r7 (cA d) r g.heap.size) (d++[.one (.cells k es)])):=
  {imm:=fun b _ J=>old b J,all:=U,len:=by simp,
   cells:=fun i kk G n v=>by rw[b6.get_left n] at v;exact⟨G,v,rfl,l i n,fun b t arr ety f D=>⟨arr,(old b (Al.own_lt h.st v f)).trans D,rfl⟩⟩,
   obj:=fun i V H n v=>by rw[b6.get_left n] at v;exact⟨l i n,V,H,v⟩}
 refine⟨F,?_⟩
 exact {
  good:=h.good
  st:=⟨fun i b n=>by rcases c i b n with⟨B,A⟩|⟨rfl,rfl⟩;rw[l i B];exact(h.st.blk i b A).mono F fun a t f=>old a (Al.own_lt h.st A f);rw[s];refine .inr ⟨g.heap.size,0,arr,ety,rfl,new,by omega,hk,fun j e o x v X=> ?_⟩;obtain⟨u,w,hr⟩:=Q j e o x v X;exact⟨u,by simpa using w,hr.mono F⟩,
   fun i j K L p q n hj f E v=>by obtain⟨pb,po⟩:=p;obtain⟨qb,qo⟩:=q;dsimp only at v;subst v;rcases c i K n with⟨B,A⟩|⟨rfl,rfl⟩<;>rcases c j L hj with⟨M,O⟩|⟨rfl,rfl⟩;rw[l i B] at f;rw[l j M] at E;exact h.st.inj i j K L _ _ A O f E rfl;rw[l i B] at f;rw[s] at E;cases E;have:=Al.own_lt h.st A f;omega;rw[l j M] at E;rw[s] at f;cases f;have:=Al.own_lt h.st O E;omega;rfl⟩
  keep:=fun i blk b t n f y=>by rcases c i blk n with⟨B,A⟩|⟨rfl,rfl⟩;rw[l i B] at f;exact h.keep i blk b t A f y;rw[s] at f;cases f;have:=y.1;have:=h.size;omega
  os:=h.os
  tape:=h.tape
  drawn:=h.drawn
  output:=h.output
  size:=aP h.size (by simp)
  block:=fun b y=>(old b (ag y.1 h.size)).trans (h.block b y)
  kept:=Kept.trans h.size h.kept F}
theorem Rs.write{Γ:Cx}{σ:b6}{φ:Phi}{w:World}(h:Rs Γ σ φ w){id:Id}{k b base:Nat}{es es':List (List C)}{arr arr':Array Vl}{ety:Ti}(hid:σ[id]? =some (some (.cells k es)))(hp:φ id=some (b,base))
  (hb:w.heap[b]? =some (.cells arr ety (0,0))) (hl:cA es'=cA es) (hsz:arr'.size=arr.size) (hk:∀(j:Nat) (e:List C),es'[j]? =some e->cA e=k) (hsz':base+cA es * k<=arr.size)
  (hc:∀(j:Nat) (e:List C) (o:Nat) (x:C),es'[j]? =some e->e[o]? =some x->∃u,arr'[base+(j * k+o)]? =some u/\RelC w φ σ (Al Γ.N φ σ) x u):
  Kept w (w.setRow b arr') φ φ σ (σ.put id (some (.cells k es'))) (Al Γ.N φ σ) (Al Γ.N φ (σ.put id (some (.cells k es'))))/\Rs Γ (σ.put id (some (.cells k es'))) φ (w.setRow b arr'):=by
 have new:(w.setRow b arr').heap[b]? =some (.cells arr' ety (0,0)):=setRow_heap w b arr arr' ety (0,0) hb
 have old:∀g,g ≠ b->(w.setRow b arr').heap[g]? =w.heap[g]? :=fun g hg=>setRow_other w b g arr' hg
 have hsize:(w.setRow b arr').heap.size=w.heap.size:=by simp[World.setRow]
 have at_:∀(i:Id) x,(σ.put id (some (.cells k es')))[i]? =some (some x)->(i=id/\x=.cells k es')\/(i ≠ id/\σ[i]? =some (some x)):=fun i x hi=>by
  rcases b6.get_put hid hi with⟨h1,h2⟩|h
  ·cases h2;exact .inl ⟨h1,rfl⟩
  ·exact .inr h
 have other:∀(i:Id) blk g bs,i ≠ id->σ[i]? =some (some blk)->φ i=some (g,bs)->g ≠ b:=fun i blk g bs hne hi hpi e=>by
  subst e
  exact hne (h.st.inj i id _ _ _ _ hi hid hpi hp rfl)
 have A1:∀g,Al Γ.N φ σ g->Al Γ.N φ (σ.put id (some (.cells k es'))) g:=fun g hg=>⟨hg.1,fun i blk bs hi hpi=>by
  rcases at_ i blk hi with⟨rfl,_⟩|⟨_,hi⟩
  ·exact hg.2 i _ bs hid hpi
  ·exact hg.2 i blk bs hi hpi⟩
 have hK:Kept w (w.setRow b arr') φ φ σ (σ.put id (some (.cells k es'))) (Al Γ.N φ σ) (Al Γ.N φ (σ.put id (some (.cells k es')))):=
  {imm:=fun g hg _=>old g (fun e=>by subst e;exact hg.2 id _ base hid hp),all:=fun g hg _=>A1 g hg,len:=by simp,
   cells:=fun i kk es2 hi he=>by
    rcases at_ i _ he with⟨rfl,e⟩|⟨hne,he⟩
    ·cases e
     refine⟨es,hid,hl.symm,rfl,fun b2 base2 arr2 ety2 hp2 hb2=> ?_⟩
     rw[hp] at hp2;cases hp2
     rw[hb] at hb2;cases hb2
     exact⟨arr',new,hsz⟩
    ·refine⟨es2,he,rfl,rfl,fun b2 base2 arr2 ety2 hp2 hb2=>⟨arr2,?_,rfl⟩⟩
     exact(old b2 (other i _ b2 base2 hne he hp2)).trans hb2,
   obj:=fun i p' cs' hi he=>by
    rcases at_ i _ he with⟨_,e⟩|⟨_,he⟩
    ·cases e
    ·exact⟨rfl,p',cs',he⟩}
 refine⟨hK,?_⟩
 exact {
  good:=h.good
  st:=⟨fun i bk hi=>by
    rcases at_ i _ hi with⟨rfl,e⟩|⟨hne,hi⟩
    ·cases e
     rw[hp]
     refine .inr ⟨b,base,arr',ety,rfl,new,by rw[hl,hsz];exact hsz',hk,fun j e o x he hx=> ?_⟩
     obtain⟨u,hu,hr⟩:=hc j e o x he hx
     exact⟨u,hu,hr.mono hK⟩
    ·exact(h.st.blk i bk hi).mono hK fun g bs hpi=>old g (other i bk g bs hne hi hpi),
   fun i j bi bj p q hi hj hpi hqj he=>by
    have alive:∀(i:Id) bi,(σ.put id (some (.cells k es')))[i]? =some (some bi)->∃b0,σ[i]? =some (some b0):=fun i bi hi=>by
     rcases at_ i _ hi with⟨rfl,_⟩|⟨_,hi⟩
     ·exact⟨_,hid⟩
     ·exact⟨_,hi⟩
    obtain⟨b1,h1⟩:=alive i bi hi
    obtain⟨b2,h2⟩:=alive j bj hj
    exact h.st.inj i j b1 b2 p q h1 h2 hpi hqj he⟩
  keep:=fun i blk g bs hi hpi hKb=>by
   rcases at_ i _ hi with⟨rfl,_⟩|⟨_,hi⟩
   ·exact h.keep i _ g bs hid hpi hKb
   ·exact h.keep i blk g bs hi hpi hKb
  os:=h.os
  tape:=h.tape
  drawn:=h.drawn
  output:=h.output
  size:=by rw[hsize];exact h.size
  block:=fun g hKb=>(old g (fun e=>by subst e;exact h.keep id _ g base hid hp hKb)).trans (h.block g hKb)
  kept:=Kept.trans h.size h.kept hK}
def Rs.kill{l:Cx}{f:Phi}(h:Rs l d f g)(id:Id):
  Kept g g f f d (d.put id none) (Al l.N f d) (Al l.N f (d.put id none))/\Rs l (d.put id none) f g:=by
 have a:∀(i:Id) b,(d.put id none)[i]? =some (some b)->d[i]? =some (some b):=fun i b c=>(b6.get_kill c).2
 have n:Kept g g f f d (d.put id none) (Al l.N f d) (Al l.N f (d.put id none)):=
  {imm:=fun _ _ _=>rfl,all:=fun b s _=>⟨s.1,fun i blk e c=>s.2 i blk e (a i blk c)⟩,len:=by simp,
   cells:=fun i k t c o=>⟨t,a _ _ o,rfl,rfl,fun _ _ r _ _ u=>⟨r,u,rfl⟩⟩,
   obj:=fun i p cs c o=>⟨rfl,p,cs,a _ _ o⟩}
 refine⟨n,?_⟩
 exact
 {good:=h.good,st:=⟨fun i b c=>(h.st.blk i b (a _ _ c)).mono n (fun _ _ _=>rfl),fun i j v x p q c y=>h.st.inj i j v x p q (a _ _ c) (a _ _ y)⟩,
  keep:=fun i blk b e c=>h.keep i blk b e (a _ _ c),os:=h.os,tape:=h.tape,drawn:=h.drawn,output:=h.output,size:=h.size,block:=h.block,kept:=Kept.trans h.size h.kept n}
/-! ## Addresses -/
def add_add(a:Addr)(m n:Nat):(a.add m).add n=a.add (m+n):=by unfold Addr.add;by_cases b:m=0;subst b;simp;by_cases c:n=0;subst c;simp;simp[b,c];omega
def p7{P:Program}{t:Ti}{bytes:Nat}[h:TyS P t a bytes p](w:World):(Go.sizeOf t).run P w=.ok a w:=by obtain⟨i,b,c,_⟩:=h.h;simp[Go.sizeOf,typeInfo,b,c]
def am6{P:Program}{t:Ti}{bytes:Nat}[h:TyS P t a bytes p](w:World):(zeroValue t).run P w=.ok p w:=by obtain⟨i,b,_,_,c⟩:=h.h;simp[zeroValue,typeInfo,b,c]
def ax9{P:Program}{t:Ti}{d:TypeDesc}{bytes:Nat}[b:TyD P t d][f:TyS P t x bytes p](c:D8 d=true){w:World}{a:Addr}{us:List Vl}(e:cA us=x)(h:∀(j:Nat) (v:Vl),us[j]? =some v->w.cell? (a.add j)=some v):(loadVar t a).run P w=.ok (.agg us.toArray) w:=by
 have:=run_loadCells_list (P:=P) w a us h
 subst e
 simp[loadVar,ag8 b.h,c,p7,this]
def ay5{d:TypeDesc}[b:TyD r M d](c:D8 d=false){a:Addr}(h:g.cell? a=some p):(loadVar M a).run r g=.ok p g:=by
 simp[loadVar,ag8 b.h,c,h]
def ipt_inv{cs:List I}(h:RelT g q b l (.c (.imm (.ipt cs))) p):
  ∃(a:Addr) (d:Nat->Vl),p=.pointer (some a)/\(∀(o:Nat) (x:I),cs[o]? =some x->l a.block/\g.cell? (a.add o)=some (d o)/\RelI g l x (d o)):=by
 cases h with|c h=>cases h with|imm h=>cases h with|ipt d f i=>exact⟨_,d,rfl,fun o x e=>⟨(f o x e).1,(f o x e).2,i o x e⟩⟩
def av5{id:Id}{k:Nat}(h:RelT g q d l (.c (.ptr id a x)) p)(f:d[id]? =some (some (.cells k V))):
  id.1<cA d/\∃b e,q id=some (b,e)/\p=.pointer (some ⟨b,e+(a * k+x),none⟩):=by
 cases h with|c h=>cases h with|ptr i _ h=>exact⟨i,h k V f⟩
def AOps.indexAddr{ops:Array Oper}{rest:List Oper}{y:Od}{t e:Ti}{k bytes:Nat}{F:IntKind}{i:Int}{j:List (List I)}{l:List I}[G:TyD r t (.slice e)][hs:TyS r e k bytes p](J:ev L B=some (.c (.imm (.sl k j))))(K:ev L y=some (.c (.imm (.val (.int F i)))))(hi:0<=i)(n:j[i.toNat]? =some l)(N:h9 a H=true)(h:AOps r b a ops s rest (St.mk (putE L H (.c (.imm (.ipt l)))) d)):AOps r b a ops s (⟨H,.indexAddr t B y,M,P,Q,none⟩::rest) (St.mk L d):=
 .value rfl N _ (fun Γ φ f w A=>by
  have g:=m9 A J;have q:i.toNat<cA j:=(lG.1 n).1;generalize O:f.eval B=u at g;cases g with|c g=>cases g with|imm g=>cases g with
   |slNil=>simp at q
   |@sl _ _ U V X D E hk x g=>
    have z:0<=i/\i<cA j:=by omega
    refine⟨.pointer (some (U.add (i.toNat * k))),by simp[execOp,O,z7 A K,Instr.indexAt,asIntOf,run_underlying G.h,p7,z],.c (.imm (.ipt (fun o=>X i.toNat o) (fun o B v=> ?_) (fun o B v=>g _ l o B n v)))⟩
    have:=x _ l o B n v
    rw[aa5,add_add]
    exact this) h
def AOps.indexAddrOwn{g:b6}{ops:Array Oper}{rest:List Oper}{y:Od}{t e:Ti}{k bytes:Nat}{E:IntKind}{i:Int}{j n:Nat}[F:TyD r t (.slice e)][hs:TyS r e k bytes p](G:ev L B=some (.c (.own c j n)))(o:g[c]? =some (some (.cells k V)))(J:ev L y=some (.c (.imm (.val (.int E i)))))(K:0<=i/\i<n)(N:h9 a H=true)(h:AOps r d a ops s rest (St.mk (putE L H (.c (.ptr c (j+i.toNat) 0))) g)):AOps r d a ops s (⟨H,.indexAddr t B y,M,P,Q,none⟩::rest) (St.mk L g):=
 .value rfl N _ (fun Γ φ f w v=>by have O:=m9 v G;have q:c.1<cA g:=b6.lt_of o;rcases H1 O o with⟨_,_,_,h0⟩|⟨b,l,U,X,x,ad,z,hv,u,A,_,_,_,_⟩;omega;have:=u (by omega);subst this;refine⟨.pointer (some ⟨b,l+j * k+i.toNat * k,none⟩),by simp[execOp,hv,z7 v J,Instr.indexAt,asIntOf,run_underlying F.h,p7,K,H8],.c (.ptr q rfl fun k' aa D=> ?_)⟩;rw[o] at D;cases D;refine⟨b,l,z,?_⟩;rw[aq,bg,aV]) h
/-! ### Fields -/
def AOps.fieldAddr{i:b6}{ops:Array Oper}{rest:List Oper}{t:Ti}{v:Array Field}{f:Nat}{n:Field}{j o k size bytes:Nat}[ht:TyD r t (.struct v)](A:v[f]? =some n)[hs:TyS r n.type size bytes p](D:(size==0)=false)(E:ev L B=some (.c (.ptr c j o)))(l:i[c]? =some (some (.cells k V)))(F:h9 a H=true)(h:AOps r d a ops s rest (St.mk (putE L H (.c (.ptr c j (o+n.offset)))) i)):AOps r d a ops s (⟨H,.fieldAddr t B f,M,P,Q,none⟩::rest) (St.mk L i):=
 .value rfl F _ (fun O U e w G=>by
  obtain⟨q,b,g,J,K⟩:=av5 (m9 G E) l;have u:size ≠ 0:=by simpa using D
  refine⟨.pointer (some ⟨b,g+(j * k+o)+n.offset,none⟩),by simp[execOp,K,Instr.fieldAt,Instr.sureAddr,run_underlying ht.h,A,fieldPlace,p7,u,H8],.c (.ptr q rfl fun X N y=> ?_)⟩;rw[l] at y;cases y;exact⟨b,g,J,by rw[bg,bg]⟩) h
def AOps.fieldAddrI{ops:Array Oper}{rest:List Oper}{t:Ti}{k:Array Field}{f:Nat}{g:Field}{size bytes:Nat}{cs:List I}[ht:TyD r t (.struct k)](n:k[f]? =some g)[hs:TyS r g.type size bytes p](q:(size==0)=false)(u:ev L B=some (.c (.imm (.ipt cs))))(v:h9 a H=true)(h:AOps r b a ops s rest (St.mk (putE L H (.c (.imm (.ipt (cs.drop g.offset))))) d)):AOps r b a ops s (⟨H,.fieldAddr t B f,M,P,Q,none⟩::rest) (St.mk L d):=
 .value rfl v _ (fun F G e w y=>by
  obtain⟨A,D,E,l⟩:=ipt_inv (m9 y u);have j:size ≠ 0:=by simpa using q
  refine⟨.pointer (some (A.add g.offset)),by simp[execOp,E,Instr.fieldAt,Instr.sureAddr,run_underlying ht.h,n,fieldPlace,p7,j],.c (.imm (.ipt (fun o=>D (g.offset+o)) (fun o B i=> ?_) (fun o B i=> ?_)))⟩;rw[aw] at i;have:=l _ B i;rw[aa5,add_add];exact⟨this.1,this.2.1⟩;rw[aw] at i;exact(l _ B i).2.2) h
def AOps.field{g:b6}{ops:Array Oper}{rest:List Oper}{t:Ti}{k:Array Field}{f:Nat}{i:Field}{d:TypeDesc}{c:C}[l:TyD r t (.struct k)](n:k[f]? =some i)[j:TyD r i.type d](o:D8 d=false)(p:ev L B=some (.agg y))(q:y[i.offset]? =some c)(v:h9 a H=true)(h:AOps r b a ops s rest (St.mk (putE L H (.c c)) g)):AOps r b a ops s (⟨H,.field t B f,M,P,Q,none⟩::rest) (St.mk L g):=
 .value rfl v _ (fun G J e w z=>by obtain⟨vs,A,K,D⟩:=RelT.agg_inv (m9 z p);obtain⟨u,E,F⟩:=D _ c q;exact⟨u,by simp[execOp,A,Instr.field,run_underlying l.h,n,asAgg,part,ag8 j.h,o,E],.c F⟩) h
/-! ### Loads -/
def AOps.loadI{f:b6}{ops:Array Oper}{rest:List Oper}{t:Ti}{d:TypeDesc}{cs:List I}{c:I}[ht:TyD r t d](i:D8 d=false)(j:ev L B=some (.c (.imm (.ipt cs))))(k:cs[0]? =some c)(l:h9 a H=true)(h:AOps r b a ops s rest (St.mk (putE L H (.c (.imm c))) f)):AOps r b a ops s (⟨H,.load t B,M,P,Q,none⟩::rest) (St.mk L f):=
 .value rfl l _ (fun q u e w n=>by obtain⟨v,o,p,g⟩:=ipt_inv (m9 n j);have:=g 0 c k;rw[Addr.add_zero'] at this;exact⟨o 0,by simp[execOp,p,Instr.loadAt,Instr.sureAddr,ay5 i this.2.1],.c (.imm this.2.2)⟩) h
def AOps.loadIAgg{g:b6}{ops:Array Oper}{rest:List Oper}{t:Ti}{d:TypeDesc}{size bytes:Nat}{cs:List I}[ht:TyD r t d][hs:TyS r t size bytes p](A:D8 d=true)(n:ev L B=some (.c (.imm (.ipt cs))))(G:size<=cA cs)(D:h9 a H=true)(h:AOps r b a ops s rest (St.mk (putE L H (.agg ((cs.take size).map .imm))) g)):AOps r b a ops s (⟨H,.load t B,M,P,Q,none⟩::rest) (St.mk L g):=
 .value rfl D _ (fun J K e w E=>by obtain⟨u,q,o,k⟩:=ipt_inv (m9 E n);refine⟨.agg ((ai size).map q).toArray,?_,RelT.agg' (by simp;omega) fun i c v y o=> ?_⟩;rw[show(execOp e.eval ⟨H,.load t B,M,P,Q,none⟩).run r w=((loadVar t u).run r w).andThen fun v w=>.ok (.value v) w by simp[execOp,o,Instr.loadAt,Instr.sureAddr]];rw[ax9 (P:=r) (t:=t) A (w:=w) (a:=u) (us:=(ai size).map q) (by simp) (fun j v f=>by simp only[lM,oM] at f;obtain⟨F,f,rfl⟩:=f;obtain⟨l,rfl⟩:=P8 f;exact(k j _ (ae (by omega))).2.1)];rfl;simp only[lM,oM] at y o;obtain⟨B,n,rfl⟩:=y;obtain⟨F,f,rfl⟩:=o;obtain⟨l,rfl⟩:=P8 f;rw[au,if_pos l] at n;exact .imm (k _ B n).2.2) h
def N5{s:Cx}{f:Act}(y:R s a (St.mk L d) q f g){k b h:Nat}(p:d[c]? =some (some (.cells k V)))(t:q c=some (b,h)):
  ∃i l,g.heap[b]? =some (.cells i l (0,0))/\h+cA V * k<=i.size/\(∀(j:Nat) (e:List C),V[j]? =some e->cA e=k)/\
   ∀(j:Nat) (e:List C) (o:Nat) (x:C),V[j]? =some e->e[o]? =some x->∃u,i[h+(j * k+o)]? =some u/\RelC g q d (Al s.N q d) x u:=by
 rcases y.st.blk _ _ p with⟨n,v⟩|⟨D,r,i,l,n,v,z,A,B⟩
 ·rw[t] at n;cases n
 ·rw[t] at n;cases n;exact⟨i,l,v,z,A,B⟩
def AOps.load{σ0:b6}{g:b6}{ops:Array Oper}{rest:List Oper}{t:Ti}{d:TypeDesc}{id:Id}{j o k:Nat}{e:List C}{c:C}[ht:TyD r t d](q:D8 d=false)(v:ev L B=some (.c (.ptr id j o)))(i:g[id]? =some (some (.cells k V)))(y:V[j]? =some e)(z:e[o]? =some c)(A:h9 a H=true)(h:AOps r σ0 a ops s rest (St.mk (putE L H (.c c)) g)):AOps r σ0 a ops s (⟨H,.load t B,M,P,Q,none⟩::rest) (St.mk L g):=
 .value rfl A _ (fun U X f w n=>by obtain⟨D,b,p,E,F⟩:=av5 (m9 n v) i;obtain⟨G,J,K,_,_,l⟩:=N5 n i E;obtain⟨u,N,O⟩:=l j e o c y z;exact⟨u,by simp[execOp,F,Instr.loadAt,Instr.sureAddr,ay5 q ((U9 K).trans N)],.c O⟩) h
def AOps.loadAgg{σ0:b6}{l:b6}{ops:Array Oper}{rest:List Oper}{t:Ti}{d:TypeDesc}{size bytes:Nat}{id:Id}{j o k:Nat}[ht:TyD r t d][hs:TyS r t size bytes p](U:D8 d=true)(X:ev L B=some (.c (.ptr id j o)))(n:l[id]? =some (some (.cells k V)))(J:V[j]? =some y)(hl:o+size<=cA y)(x:h9 a H=true)(h:AOps r σ0 a ops s rest (St.mk (putE L H (.agg ((y.drop o).take size))) l)):AOps r σ0 a ops s (⟨H,.load t B,M,P,Q,none⟩::rest) (St.mk L l):=
 .value rfl x _ (fun Γ φ f w K=>by obtain⟨z,b,g,e,E⟩:=av5 (m9 K X) n;obtain⟨q,aa,hb,_,_,A⟩:=N5 K n e;refine⟨.agg ((ai size).map fun i=>(q[g+(j * k+(o+i))]?).getD Go.undef).toArray,?_,RelT.agg' (by simp;omega) fun i c v N E=> ?_⟩;rw[show(execOp f.eval ⟨H,.load t B,M,P,Q,none⟩).run r w=((loadVar t ⟨b,g+(j * k+o),none⟩).run r w).andThen fun v w=>.ok (.value v) w by simp[execOp,E,Instr.loadAt,Instr.sureAddr]];rw[ax9 (P:=r) (t:=t) U (w:=w) (a:=⟨b,g+(j * k+o),none⟩) (us:=(ai size).map fun i=>(q[g+(j * k+(o+i))]?).getD Go.undef) (by simp) (fun i v O=>by simp only[lM,oM] at O;obtain⟨j',F,rfl⟩:=O;obtain⟨D,rfl⟩:=P8 F;obtain⟨u,G,_⟩:=A j y (o+i) _ J (ae (by omega));rw[H8,U9 hb,show g+(j * k+o)+i=g+(j * k+(o+i)) by omega,G];rfl)];rfl;simp only[lM,oM] at E;obtain⟨j',F,rfl⟩:=E;obtain⟨D,rfl⟩:=P8 F;rw[au,if_pos D,aw] at N;obtain⟨u,G,hr⟩:=A j y (o+i) c J N;rw[G];exact hr) h
/-! ### Stores -/
def D3{a:Type}(l m:List a)(p i:Nat)(c:p+cA m<=cA l):(l.take p++m++l.drop (p+cA m))[i]? =if p<=i/\i<p+cA m then m[i - p]? else l[i]? :=by by_cases b:i<p;rw[bA,aH (by simp;omega),au,if_pos b,if_neg (by omega)];by_cases d:i<p+cA m;rw[aH (by simp;omega),aE (by simp;omega),if_pos (by omega)];congr 1;simp;omega;rw[aE (by simp;omega),aw,if_neg (by omega)];congr 1;simp;omega
theorem own_store{P:Program}{sz:Nat}{env:Env}{σv:b6}{Γ:Cx}{φ:Phi}{a:Act}{w:World}(hR:R Γ sz (St.mk env σv) φ a w){id:Id}{j o k b base:Nat}{es:List (List C)}{e:List C}(hσ:σv[id]? =some (some (.cells k es)))(hp:φ id=some (b,base))(he:es[j]? =some e)
    {cs:List C} {us:List Vl} (hl:cA us=cA cs) (hfit:o+cA cs<=cA e) (hr:∀(i:Nat) (c:C) (v:Vl),cs[i]? =some c->us[i]? =some v->RelC w φ σv (Al Γ.N φ σv) c v):
    ∃w',(storeCells ⟨b,base+(j * k+o),none⟩ us).run P w=.ok () w'/\R Γ sz ⟨env,σv.put id (some (.cells k (es.set j (e.take o++cs++e.drop (o+cA cs)))))⟩ φ a w':=by
  obtain⟨arr,ety,hb,hsz,hk,hcs⟩:=N5 hR hσ hp
  have hj:j<cA es:=(lG.1 he).1
  have hek:=hk j e he
  have hjk:(j+1) * k<=cA es * k:=ak _ hj
  rw[aq,bd] at hjk
  have h1:∀v ∈ us,v.oneCell'=true:=fun v hv=>by
    obtain⟨i,hi,rfl⟩:=bT.1 hv
    exact(hr i _ _ (ae (by omega)) (ae hi)).one
  have hst:=run_storeCells_at P b (base+(j * k+o)) ety us 0 arr w hb (by omega) h1
  refine⟨_,hst,?_⟩
  have hw:=Rs.write (arr':=(arr.toList.take (base+(j * k+o)+0)++us++arr.toList.drop (base+(j * k+o)+0+cA us)).toArray) (es':=es.set j (e.take o++cs++e.drop (o+cA cs))) hR.toRs hσ hp hb (by simp) (by simp;omega) (fun i e' hi=> ?_) hsz (fun i e' q x hi hx=> ?_)
  · exact hR.of hw.1 hw.2
  · rw[co] at hi
    split at hi
    · first
        | (split at hi
           · cases hi
             simp;omega
           · cases hi)
        | (cases hi
           simp;omega)
    · exact hk i e' hi
  · have hsp:=D3 arr.toList us (base+(j * k+o)) (base+(i * k+q)) (by simp;omega)
    simp only[aV,bP]
    rw[hsp]
    rw[co] at hi
    by_cases hij:j=i
    · subst hij
      rw[if_pos rfl,if_pos hj] at hi
      cases hi
      have hsp2:=D3 e cs o q (by omega)
      rw[hsp2] at hx
      by_cases hq:o<=q/\q<o+cA cs
      · rw[if_pos hq] at hx
        rw[if_pos (by omega)]
        refine⟨us[q - o]'(by omega),?_,hr _ x _ hx (ae (by omega))⟩
        rw[show base+(j * k+q) - (base+(j * k+o))=q - o by omega]
        exact ae (by omega)
      · rw[if_neg hq] at hx
        rw[if_neg (by omega)]
        obtain⟨u,hu,hr'⟩:=hcs j e q x he hx
        exact⟨u,by simpa using hu,hr'⟩
    · rw[if_neg hij] at hi
      obtain⟨u,hu,hr'⟩:=hcs i e' q x hi hx
      have hqk:q<k:=by rw[<- hk i e' hi];exact(lG.1 hx).1
      have:¬ (base+(j * k+o)<=base+(i * k+q)/\base+(i * k+q)<base+(j * k+o)+cA us):=by
        rcases Nat.lt_or_gt_of_ne hij with hlt|hlt
        · have:(j+1) * k<=i * k:=ak _ hlt
          rw[aq,bd] at this
          omega
        · have:(i+1) * k<=j * k:=ak _ hlt
          rw[aq,bd] at this
          omega
      rw[if_neg this]
      exact⟨u,by simpa using hu,hr'⟩
def AOps.store{g:b6}{ops:Array Oper}{rest:List Oper}{y:Od}{t:Ti}{bytes:Nat}{id:Id}{j o k:Nat}{e:List C}{c:C}[hs:TyS r t 1 bytes p](F:ev L B=some (.c (.ptr id j o)))(G:ev L y=some (.c c))(l:g[id]? =some (some (.cells k V)))(H:V[j]? =some e)(J:o<cA e)(h:AOps r d a ops s rest ⟨L,g.put id (some (.cells k (V.set j (e.set o c))))⟩):AOps r d a ops s (⟨none,.store t B y,M,P,Q,none⟩::rest) (St.mk L g):=
 .skipW rfl rfl _ (fun Γ K f w q=>by
  obtain⟨N,b,D,O,A⟩:=av5 (m9 q F) l;have n:=m9 q G;generalize U:f.eval y=u at n;cases n with|c n=>
   obtain⟨X,x,z⟩:=own_store (P:=r) q l O H (o:=o) (cs:=[c]) (us:=[u]) rfl (by simp;omega) (fun i c' v E A=>by
    match i with
    |0=>cases E;cases A;exact n
    |i+1=>simp at E)
   refine⟨X,K,?_,?_⟩
   ·have e1:u.cells=#[u]:=by have:=n.one;cases u<;>first|rfl|simp[Value.oneCell'] at this
    simp[execOp,A,U,Instr.storeAt,Instr.sureAddr,storeVar,p7,e1,x]
   ·have e2:e.set o c=e.take o++[c]++e.drop (o+[c].length):=by rw[bf,if_pos J,bA];rfl
    rw[e2]
    exact z) h
def AOps.storeAgg{l:b6}{ops:Array Oper}{rest:List Oper}{f:Od}{t:Ti}{size bytes:Nat}{id:Id}{j o k:Nat}{cs:List C}[hs:TyS r t size bytes p](H:ev L B=some (.c (.ptr id j o)))(J:ev L f=some (.agg cs))(n:l[id]? =some (some (.cells k V)))(K:V[j]? =some y)(hl:o+size<=cA y)(q:cA cs=size)(h:AOps r d a ops s rest ⟨L,l.put id (some (.cells k (V.set j (y.take o++cs++y.drop (o+cA cs)))))⟩):AOps r d a ops s (⟨none,.store t B f,M,P,Q,none⟩::rest) (St.mk L l):=
 .skipW rfl rfl _ (fun Γ N g w A=>by obtain⟨O,b,E,U,D⟩:=av5 (m9 A H) n;obtain⟨vs,X,F,x⟩:=RelT.agg_inv (m9 A J);obtain⟨z,e,g2⟩:=own_store (P:=r) A n U K (o:=o) (cs:=cs) (us:=vs) F (by omega) (fun i c v hc D=>by obtain⟨u,G,hr⟩:=x i c hc;rw[D] at G;cases G;exact hr);refine⟨z,N,?_,g2⟩;simp[execOp,D,X,Instr.storeAt,Instr.sureAddr,storeVar,p7,Value.cells,F,q,e]) h
/-! ### New blocks -/
def ac7:T->Option (List C)
 | .c x=>some [x]
 | .agg cs=>some cs
 |_=>none
def W3{w:World}{φ:Phi}{σ:b6}{A:Nat->Prop}{t:T}(h:RelT w φ σ A t p)(b:ac7 t=some y):p.cells.size=cA y/\∀(i:Nat) (c:C),y[i]? =some c->∃v,p.cells[i]? =some v/\RelC w φ σ A c v:=by
 cases h with
 |c h=>
  cases b
  have f:p.cells=#[p]:=by have:=h.one;cases p<;>first|rfl|simp[Value.oneCell'] at this
  rw[f]
  refine⟨rfl,fun i c a=> ?_⟩
  match i with
  |0=>cases a;exact⟨p,rfl,h⟩
  |i+1=>simp at a
 |agg d e=>
  cases b
  refine⟨by simp[Value.cells],fun i c a=>⟨d i,?_,e i c a⟩⟩
  simp[Value.cells,(lG.1 a).1]
 |tup d e=>cases b
 |undef=>cases b
def new_one{l:Cx}{d:Act}(n:R l a (St.mk L b) q d g){f:Array Vl}{ety:Ti}(r:f.size=cA y)(s:∀(i:Nat) (c:C),y[i]? =some c->∃v,f[i]? =some v/\RelC g q b (Al l.N q b) c v):
  RelT (g.alloc (.cells f ety)) (r7 (cA b) q g.heap.size) (b++[.one (.cells (cA y) [y])]) (Al l.N (r7 (cA b) q g.heap.size) (b++[.one (.cells (cA y) [y])])) (.c (.ptr (cA b,[]) 0 0)) (.pointer (some ⟨g.heap.size,0,none⟩))/\
  R l a ⟨L,b++[.one (.cells (cA y) [y])]⟩ (r7 (cA b) q g.heap.size) d (g.alloc (.cells f ety)):=by
 have p:=Rs.alloc (k:=cA y) (es:=[y]) (arr:=f) (ety:=ety) n.toRs (fun j e h=>by
  match j with
  |0=>cases h;rfl
  |j+1=>simp at h) (by simp;omega) (fun j e o x h u=>by
  match j with
  |0=>cases h;simpa using s o x u
  |j+1=>simp at h)
 refine⟨.c (.ptr (by simp) rfl fun k t h=> ?_),n.of p.1 p.2⟩
 rw[b6.get_last] at h
 cases h
 exact⟨g.heap.size,0,by simp[r7],by simp⟩
def AOps.box{ops:Array Oper}{rest:List Oper}{t:Ti}{v:T}(g:ev L B=some v)(i:ac7 v=some y)(j:h9 a H=true)(h:AOps r b a ops s rest (St.mk (putE L H (.c (.ptr (cA d,[]) 0 0))) (d++[.one (.cells (cA y) [y])]))):AOps r b a ops s (⟨H,.box t B,M,P,Q,none⟩::rest) (St.mk L d):=
 .valueW rfl j _ _ (fun o p e w f=>by obtain⟨k,l⟩:=W3 (m9 f g) i;have:=new_one (ety:=t) f k l;exact⟨_,_,_,by simp[execOp,Instr.box,newVar,newRow],this⟩) h
def AOps.alloc{ops:Array Oper}{rest:List Oper}{t:Ti}{bytes:Nat}{v:T}[hs:TyS r t x bytes p](hz:aj2 p=some v)(g:ac7 v=some y)(i:h9 a H=true)(h:AOps r b a ops s rest (St.mk (putE L H (.c (.ptr (cA d,[]) 0 0))) (d++[.one (.cells (cA y) [y])]))):AOps r b a ops s (⟨H,.alloc t,M,P,Q,none⟩::rest) (St.mk L d):=
 .valueW rfl i _ _ (fun j f e w k=>by obtain⟨l,n⟩:=W3 (w:=w) (φ:=f) (σ:=d) (A:=Al j.N f d) (ai1 hz) g;have:=new_one (ety:=t) k l n;exact⟨_,_,_,by simp[execOp,Instr.alloc,am6 (t:=t),newVar,newRow],this⟩) h
def Rs.reown{J:Cx}{D:Phi}(h:Rs J d D g){k b z base':Nat}{es':List (List C)}{U arr':Array Vl}(E:d[c]? =some (some (.cells a V)))(X:D c=some (b,z))(hb:g.heap[b]? =some (.cells U M (0,0)))(hk:∀(j:Nat) (e:List C),es'[j]? =some e->cA e=k)(w:base'+cA es' * k<=arr'.size)(hc:∀(j:Nat) (e:List C) (o:Nat) (x:C),es'[j]? =some e->e[o]? =some x->∃u,arr'[base'+(j * k+o)]? =some u/\RelC g D d (Al J.N D d) x u):
  Kept g (g.setRow b arr') D (fun i=>if i=(cA d,[]) then some (b,base') else D i) d (d.put c none++[.one (.cells k es')]) (Al J.N D d) (Al J.N (fun i=>if i=(cA d,[]) then some (b,base') else D i) (d.put c none++[.one (.cells k es')]))/\
  Rs J (d.put c none++[.one (.cells k es')]) (fun i=>if i=(cA d,[]) then some (b,base') else D i) (g.setRow b arr'):=by
 generalize aa:(fun i=>if i=(cA d,[]) then some (b,base') else D i)=G
 have ay:c.1<cA d:=b6.lt_of E
 have new:(g.setRow b arr').heap[b]? =some (.cells arr' M (0,0)):=setRow_heap g b U arr' M (0,0) hb
 have old:∀f,f ≠ b->(g.setRow b arr').heap[f]? =g.heap[f]? :=fun f K=>setRow_other g b f arr' K
 have P:(g.setRow b arr').heap.size=g.heap.size:=by simp[World.setRow]
 have r:∀i:Id,i.1<cA d->G i=D i:=fun i B=>by
  have:i ≠ (cA d,[]):=fun e=>by rw[e] at B;exact aO _ B
  rw[<- aa];simp[this]
 have A:G (cA d,[])=some (b,base'):=by rw[<- aa];simp
 have n:∀(i:Id) blk,(d.put c none++[.one (.cells k es')])[i]? =some (some blk)->(i.1<cA d/\i ≠ c/\d[i]? =some (some blk))\/(i=(cA d,[])/\blk=.cells k es'):=fun i blk B=>by rcases b6.get_new B with⟨v,y⟩|⟨v,y⟩;rw[b6.length_put] at v;exact .inl ⟨v,b6.get_kill y⟩;rw[b6.length_put] at v;exact .inr ⟨v,y⟩
 have s:∀(i:Id) blk f L,i ≠ c->d[i]? =some (some blk)->D i=some (f,L)->f ≠ b:=fun i blk f L t B l e=>by subst e;exact t (h.st.inj i c _ _ _ _ B E l X rfl)
 have A1:∀f,Al J.N D d f->Al J.N G (d.put c none++[.one (.cells k es')]) f:=fun f K=>⟨K.1,fun i blk L B l=>by rcases n i blk B with⟨v,_,y⟩|⟨rfl,rfl⟩;rw[r i v] at l;exact K.2 i blk L y l;rw[A] at l;cases l;exact K.2 c _ z E X⟩
 have hK:Kept g (g.setRow b arr') D G d (d.put c none++[.one (.cells k es')]) (Al J.N D d) (Al J.N G (d.put c none++[.one (.cells k es')])):=
  {imm:=fun f K _=>old f (fun e=>by subst e;exact K.2 c _ z E X),all:=fun f K _=>A1 f K,len:=by simp,
   cells:=fun i kk ad B O=>by rcases n i _ O with⟨v,t,y⟩|⟨rfl,_⟩;exact⟨ad,y,rfl,r i v,fun b2 Q ac a0 al an=>⟨ac,(old b2 (s i _ b2 Q t y al)).trans an,rfl⟩⟩;omega,
   obj:=fun i p' ao B O=>by rcases n i _ O with⟨v,t,y⟩|⟨rfl,_⟩;exact⟨r i v,p',ao,y⟩;omega}
 refine⟨hK,?_⟩
 exact {
  good:=h.good
  st:=⟨fun i bk B=>by rcases n i bk B with⟨v,t,y⟩|⟨rfl,rfl⟩;rw[r i v];exact(h.st.blk i bk y).mono hK fun f L l=>old f (s i bk f L t y l);rw[A];refine .inr ⟨b,base',arr',M,rfl,new,w,hk,fun j e o x O hx=> ?_⟩;obtain⟨u,hu,hr⟩:=hc j e o x O hx;exact⟨u,hu,hr.mono hK⟩,
   fun i j bi bj p q B hj l F O=>by obtain⟨pb,po⟩:=p;obtain⟨qb,qo⟩:=q;dsimp only at O;subst O;rcases n i bi B with⟨v,t,y⟩|⟨rfl,rfl⟩<;>rcases n j bj hj with⟨g1,av,g2⟩|⟨rfl,rfl⟩;rw[r i v] at l;rw[r j g1] at F;exact h.st.inj i j bi bj _ _ y g2 l F rfl;rw[r i v] at l;rw[A] at F;cases F;exact absurd rfl (s i bi _ _ t y l);rw[r j g1] at F;rw[A] at l;cases l;exact absurd rfl (s j bj _ _ av g2 F);rfl⟩
  keep:=fun i blk f L B l H=>by rcases n i blk B with⟨v,t,y⟩|⟨rfl,rfl⟩;rw[r i v] at l;exact h.keep i blk f L y l H;rw[A] at l;cases l;exact h.keep c _ b z E X H
  os:=h.os
  tape:=h.tape
  drawn:=h.drawn
  output:=h.output
  size:=by rw[P];exact h.size
  block:=fun f H=>(old f (fun e=>by subst e;exact h.keep c _ f z E X H)).trans (h.block f H)
  kept:=Kept.trans h.size h.kept hK}
def Rs.virt{t:Cx}{r:Phi}(h:Rs t d r g)(k:Nat):
  Kept g g r (fun i=>if i=(cA d,[]) then none else r i) d (d++[.one (.cells k [])]) (Al t.N r d) (Al t.N (fun i=>if i=(cA d,[]) then none else r i) (d++[.one (.cells k [])]))/\
  Rs t (d++[.one (.cells k [])]) (fun i=>if i=(cA d,[]) then none else r i) g:=by
 generalize z:(fun i=>if i=(cA d,[]) then none else r i)=s
 have l:∀i:Id,i.1<cA d->s i=r i:=fun i c=>by
  have:i ≠ (cA d,[]):=fun e=>by rw[e] at c;exact aO _ c
  rw[<- z];simp[this]
 have f:s (cA d,[])=none:=by rw[<- z];simp
 have a:∀(i:Id) blk,(d++[.one (.cells k [])])[i]? =some (some blk)->(i.1<cA d/\d[i]? =some (some blk))\/(i=(cA d,[])/\blk=.cells k []):=fun i blk c=>b6.get_new c
 have K:∀b,Al t.N r d b->Al t.N s (d++[.one (.cells k [])]) b:=fun b y=>⟨y.1,fun i blk o c n=>by rcases a i blk c with⟨u,v⟩|⟨rfl,rfl⟩;rw[l i u] at n;exact y.2 i blk o v n;rw[f] at n;cases n⟩
 have B:Kept g g r s d (d++[.one (.cells k [])]) (Al t.N r d) (Al t.N s (d++[.one (.cells k [])])):=
  {imm:=fun _ _ _=>rfl,all:=fun b y _=>K b y,len:=by simp,
   cells:=fun i U D c x=>by rw[b6.get_left c] at x;exact⟨D,x,rfl,l i c,fun b o E L n y=>⟨E,y,rfl⟩⟩,
   obj:=fun i M F c x=>by rw[b6.get_left c] at x;exact⟨l i c,M,F,x⟩}
 refine⟨B,?_⟩
 exact {
  good:=h.good
  st:=⟨fun i b c=>by rcases a i b c with⟨u,v⟩|⟨rfl,rfl⟩;rw[l i u];exact(h.st.blk i b v).mono B fun _ _ _=>rfl;rw[f];exact .inl ⟨rfl,rfl⟩,
   fun i j H J p q c O n A x=>by rcases a i H c with⟨u,v⟩|⟨rfl,rfl⟩<;>rcases a j J O with⟨P,Q⟩|⟨rfl,rfl⟩;rw[l i u] at n;rw[l j P] at A;exact h.st.inj i j H J _ _ v Q n A x;rw[f] at A;cases A;rw[f] at n;cases n;rfl⟩
  keep:=fun i blk b o c n G=>by rcases a i blk c with⟨u,v⟩|⟨rfl,rfl⟩;rw[l i u] at n;exact h.keep i blk b o v n G;rw[f] at n;cases n
  os:=h.os
  tape:=h.tape
  drawn:=h.drawn
  output:=h.output
  size:=h.size
  block:=h.block
  kept:=Kept.trans h.size h.kept B}
structure ak7(w:World)(φ:Phi)(σ:b6)(A:Nat->Prop)(k:Nat)(es:List (List C))(b:Option Addr)(us:List Vl):Prop where
 len:cA us=cA es * k
 none:b=.none->es=[]
 cell:∀ad,b=some ad->∀(j:Nat) (u:Vl),us[j]? =some u->w.cell? (ad.add j)=some u
 hk:∀(j:Nat) (e:List C),es[j]? =some e->cA e=k
 rel:∀(j:Nat) (e:List C) (o:Nat) (x:C),es[j]? =some e->e[o]? =some x->∃u,us[j * k+o]? =some u/\RelC w φ σ A x u
def ak7.one{k:Nat}{es:List (List C)}{b:Option Addr}{f:List Vl}(h:ak7 g q d l k es b f):∀u ∈ f,u.oneCell'=true:=by
 intro u n;obtain⟨i,a,rfl⟩:=bT.1 n;rw[h.len] at a;have hk:0<k:=bX fun o=>by subst o;simp at a
 have j:i / k<cA es:=bU (by rw[aW];exact a);have p:=h.hk _ _ (ae j);have r:i % k<(es[i / k]).length:=by rw[p];exact Nat.mod_lt _ hk
 obtain⟨v,c,s⟩:=h.rel _ _ _ _ (ae j) (ae r);rw[show i / k * k+i % k=i by rw[aW];exact Nat.div_add_mod i k] at c;rw[ae (by rw[h.len];exact a)] at c;have e:=Option.some.inj c;rw[e];exact s.one
def app_rel{new:List (List C)}{b t:Option Addr}{n vs:List Vl}(h:ak7 g q d l a V b n)(c:ak7 g q d l a new t vs):
  (∀(j:Nat) (e:List C),(V++new)[j]? =some e->cA e=a)/\∀(j:Nat) (e:List C) (o:Nat) (x:C),(V++new)[j]? =some e->e[o]? =some x->∃u,(n++vs)[j * a+o]? =some u/\RelC g q d l x u:=by
 refine⟨fun j e f=> ?_,fun j e o x f s=> ?_⟩
 ·rw[bl] at f
  split at f
  ·exact h.hk _ _ f
  ·exact c.hk _ _ f
 ·rw[bl] at f
  split at f
  ·rename_i p
   obtain⟨u,i,r⟩:=h.rel j e o x f s
   exact⟨u,by rw[aH (lG.1 i).1];exact i,r⟩
  ·rename_i p
   obtain⟨u,i,r⟩:=c.rel _ e o x f s
   refine⟨u,?_,r⟩
   have:cA n<=j * a+o:=by rw[h.len];have:=ak a (bS.1 p);omega
   rw[aE this,h.len]
   rw[Nat.sub_mul] at i
   have:=ak a (bS.1 p)
   rw[show j * a+o - (cA V) * a=j * a - (cA V) * a+o by omega]
   exact i
inductive Src(σ:b6)(k:Nat):T->List (List C)->Prop
 |own {id:Id} {j n:Nat} {es:List (List C)} (h:σ[id]? =some (some (.cells k es))):Src σ k (.c (.own id j n)) ((es.drop j).take n)
 |imm {es:List (List I)}:Src σ k (.c (.imm (.sl k es))) (es.map (·.map .imm))
 |nil:Src σ k (.c (.imm (.val (.slice none 0 0)))) []
def W7{s:St}{M:Cx}{d:Act}(hR:R M a s q d g){j n k:Nat}(D:s.σ[c]? =some (some (.cells k V)))(E:ad5 g (q c) k (cA V) j n p):
  ∃b y us,p=.slice b n y/\((V.drop j).take n).length=n/\ak7 g q s.σ (Al M.N q s.σ) k ((V.drop j).take n) b us:=by
 rcases E with⟨h1,h2,h3,h4⟩|⟨b,f,y,z,aa,ad,hp,E,F,O,P,G,Q,ac⟩
 ·subst h3 h4
  exact⟨none,0,[],h2,by simp,⟨by simp,fun _=>by simp,fun _ h=>by simp at h,fun j e h=>by simp at h,fun j e o x h=>by simp at h⟩⟩
 ·obtain⟨U,X,A,w,hk,H⟩:=N5 hR D hp
  rw[Q] at A;cases A
  have r:((V.drop j).take n).length=n:=by simp;omega
  have get:∀(i:Nat) (e:List C),((V.drop j).take n)[i]? =some e->i<n/\V[j+i]? =some e:=fun i e l=>by rw[au] at l;split at l;rw[aw] at l;exact⟨‹_›,l⟩;cases l
  have J:f+(j+n) * k<=z.size:=by have:(j+n) * k<=cA V * k:=ak _ G;omega
  rw[aq] at J
  refine⟨some ad,y,(z.toList.drop (f+j * k)).take (n * k),E,r,⟨?_,fun h=>(by cases h),fun al h i u t=> ?_,fun i e l=>hk _ _ (get i e l).2,fun i e o x l v=> ?_⟩⟩
  ·rw[r];simp;omega
  ·cases h
   rw[au] at t
   split at t
   ·rename_i K
    rw[aw] at t
    have hn:0<n:=by rcases Nat.eq_zero_or_pos n with h|h;subst h;simp at K;exact h
    rw[F (by omega),H8,U9 Q]
    simpa using t
   ·cases t
  ·obtain⟨K,B⟩:=get i e l
   obtain⟨u,t,hr⟩:=H _ e o x B v
   have L:=hk _ _ B
   have an:o<k:=by rw[<- L];exact(lG.1 v).1
   have:(i+1) * k<=n * k:=ak _ K
   rw[aq,bd] at this
   refine⟨u,?_,hr⟩
   rw[au,if_pos (by omega),aw]
   rw[aq] at t
   rw[show f+j * k+(i * k+o)=f+(j * k+i * k+o) by omega]
   simpa using t
def Src.shows{s:St}{L:Cx}{d:Act}(M:R L a s q d g){k:Nat}{t:T}(G:ev s.env B=some t)(X:Src s.σ k t V):
  ∃b f y,d.eval B=.slice b (cA V) f/\ak7 g q s.σ (Al L.N q s.σ) k V b y:=by
 have l:=m9 M G
 cases X with
 |own A=>
  obtain⟨b,f,y,n,H,w⟩:=W7 M A (H1 l A)
  exact⟨b,f,y,by rw[n,H],w⟩
 |@imm V=>
  generalize d.eval B=v at l
  cases l with|c l=>cases l with|imm l=>cases l with
   |slNil=>exact⟨none,0,[],rfl,⟨by simp,fun _=>rfl,fun _ h=>by simp at h,fun j e h=>by simp at h,fun j e o B h=>by simp at h⟩⟩
   |@sl _ _ x f y O P hk hc l=>
    have get:∀(i:Nat) (e:List C),(V.map (·.map C.imm))[i]? =some e->∃p,V[i]? =some p/\e=p.map C.imm:=fun i e z=>by rw[lM,oM] at z;obtain⟨p,n,H⟩:=z;exact⟨p,n,H.symm⟩
    refine⟨some x,f,(ai (cA V * k)).map fun i=>y (i / k) (i % k),by simp,⟨by simp,fun h=>(by cases h),fun aa h i u Q=> ?_,fun i e z=> ?_,fun i e o B z G=> ?_⟩⟩
    ·cases h
     rw[lM,oM] at Q
     obtain⟨i',hi,rfl⟩:=Q
     obtain⟨D,rfl⟩:=P8 hi
     have J:0<k:=bX fun h0=>by subst h0;simp at D
     have U:i / k<cA V:=bU (by rw[aW];exact D)
     have r:=hk _ _ (ae U)
     have ho:i % k<(V[i / k]).length:=by rw[r];exact Nat.mod_lt _ J
     have:=(hc _ _ _ _ (ae U) (ae ho)).2
     rwa [show i / k * k+i % k=i by rw[aW];exact Nat.div_add_mod i k] at this
    ·obtain⟨p,n,rfl⟩:=get i e z
     simpa using hk _ _ n
    ·obtain⟨p,n,rfl⟩:=get i e z
     rw[lM,oM] at G
     obtain⟨x0,E,rfl⟩:=G
     have r:=hk _ _ n
     have F:o<k:=by rw[<- r];exact(lG.1 E).1
     have K:i<cA V:=(lG.1 n).1
     have:(i+1) * k<=cA V * k:=ak _ K
     rw[aq,bd] at this
     refine⟨y i o,?_,.imm (l i p o x0 n E)⟩
     rw[lM,List.getElem?_range (by omega)]
     have e1:(i * k+o) / k=i:=by rw[aW,Nat.mul_add_div (by omega),Nat.div_eq_of_lt F,aV]
     have e2:(i * k+o) % k=o:=by rw[aW,Nat.mul_add_mod,Nat.mod_eq_of_lt F]
     simp[e1,e2]
 |nil=>exact⟨none,0,[],val_inv l,⟨by simp,fun _=>rfl,fun _ h=>by simp at h,fun j e h=>by simp at h,fun j e o B h=>by simp at h⟩⟩
section
variable {P:Program}(w:World)
def ag5{size n cap:Nat}{b:Option Addr}{us:List Vl}(c:cA us=n * size)(d:b=none->us=[])(e:∀a,b=some a->∀(j:Nat) (u:Vl),us[j]? =some u->w.cell? (a.add j)=some u):
  (Builtin.firstCells size n (.slice b n cap)).run P w=.ok us.toArray w:=by
 cases b with
 |none=>rw[d rfl];simp[Builtin.firstCells]
 |some a=>exact run_firstCells_some w size n a n cap us c (e a rfl)
def aH5{t ty:Ti}{bytes:Nat}[y:TyD P t (.slice M)][J:TyS P M a bytes p]{d sLen sCap:Nat}{f:Array Vl}{n:Ti}(A:w.heap[x]? =some (.cells f n (0,0))){b:Option Addr}{m c:Nat}{l:List Vl}(B:cA l=m * a)(D:b=none->l=[])(E:∀s,b=some s->∀(j:Nat) (u:Vl),l[j]? =some u->w.cell? (s.add j)=some u)(F:∀u ∈ l,u.oneCell'=true)(i:sLen+m<=sCap)(v:d+sCap * a<=f.size):
  (Builtin.append_ #[t,t] ty #[.slice (some ⟨x,d,none⟩) sLen sCap,.slice b m c]).run P w=
   .ok (.slice (some ⟨x,d,none⟩) (sLen+m) sCap) (w.setRow x (f.toList.take (d+sLen * a)++l++f.toList.drop (d+sLen * a+cA l)).toArray):=by
 have G:=ag5 (P:=P) w (size:=a) (cap:=c) B D E
 have q:(sLen+m) * a<=sCap * a:=ak _ i
 rw[aq] at q
 have o:=run_storeCells_at P x (d+sLen * a) n l 0 f w A (by omega) F
 simp only[aV] at o
 have r:=p7 (P:=P) (t:=M) w
 simp[Builtin.append_,run_underlying y.h,r,Builtin.lenOf,i,G,H8,o]
def aH1{t ty:Ti}{bytes:Nat}[L:TyD P t (.slice M)][N:TyS P M a bytes p]{n:Option Addr}{d:Nat}{f:List Vl}(o:cA f=x * a)(q:n=none->f=[])(r:∀g,n=some g->∀(j:Nat) (u:Vl),f[j]? =some u->w.cell? (g.add j)=some u){b:Option Addr}{m c:Nat}{l:List Vl}(O:cA l=m * a)(Q:b=none->l=[])(U:∀g,b=some g->∀(j:Nat) (u:Vl),l[j]? =some u->w.cell? (g.add j)=some u)(V:d<x+m)(X:(x+m) * bytes<=140737488355328)(J:x+m<=9223372036854775807):
  (Builtin.append_ #[t,t] ty #[.slice n x d,.slice b m c]).run P w=
   .ok (.slice (some ⟨w.heap.size,0,none⟩) (x+m) (grownCap w (x+m) d M)) (w.drew.alloc (.cells (f.toArray++l.toArray++Builtin.zeroCells p.cells (grownCap w (x+m) d M - (x+m))) M)):=by
 obtain⟨i,s,v,y,A⟩:=N.h
 subst v y
 have K:=growslice_fits V X
 have B:¬ (281474976710656<Builtin.nextslicecap (x+m) d * i.bytes):=by omega
 have D:¬ (9223372036854775807<((x:Int)+(m:Int))):=by omega
 have E:¬ (x+m<=d):=by omega
 have e:=ag5 (P:=P) w.drew (size:=i.size) (cap:=c) O Q (fun g h j u G=>by simpa using U g h j u G)
 have H:=ag5 (P:=P) w.drew (size:=i.size) (cap:=d) o q (fun g h j u G=>by simpa using r g h j u G)
 simp[Builtin.append_,run_underlying L.h,Go.sizeOf,typeInfo,zeroValue,s,A,Builtin.lenOf,E,D,B,Question.forced,e,H,newRow,grownCap]
 rw[<- Array.append_assoc,List.append_toArray f l]
end
def K0{k:Nat}{es:List (List C)}(d:b[c]? =some (some (.cells k es)))(f:p.oneCell'=true)(h:ad5 g (q c) k (cA es) 0 a p):RelT g q b l (.c (.own c 0 a)) p:=
 .c (.own (b6.lt_of d) f fun j i e=>by rw[d] at e;cases e;exact h)
def append_new{P:Program}{r:Cx}{f:Act}(hR:R r a (St.mk L d) q f g){k:Nat}{t ty' e:Ti}{bytes:Nat}[ht:TyD P t (.slice e)][hs:TyS P e k bytes p](O:(p.cells.size==k)=true){b0:Option Addr}{n cap0:Nat}{old:List (List C)}{us0:List Vl}(B:ak7 g q d (Al r.N q d) k old b0 us0)(s:cA old=n){b:Option Addr}{c:Nat}{Q:List Vl}(D:ak7 g q d (Al r.N q d) k V b Q)(hg:cap0<n+cA V)(hb:(n+cA V) * bytes<=140737488355328)(y:n+cA V<=maxLen)(i:b6)(E:∀(q:Phi) (g:World),Rs r d q g->Kept g g q q d i (Al r.N q d) (Al r.N q i)/\Rs r i q g)(H:cA i=cA d):
  ∃v' U F,(Builtin.append_ #[t,t] ty' #[.slice b0 n cap0,.slice b (cA V) c]).run P g=.ok v' U/\
   RelT U F (i++[.one (.cells k (old++V))]) (Al r.N F (i++[.one (.cells k (old++V))])) (.c (.own (cA d,[]) 0 (n+cA V))) v'/\R r a ⟨L,i++[.one (.cells k (old++V))]⟩ F f U:=by
 have G:n+cA V<=9223372036854775807:=by simpa[maxLen] using y
 have J:=aH1 (P:=P) (t:=t) (ty:=ty') g (by rw[B.len,s]) (fun h=>by rw[B.none h] at B;exact ah (by simpa using B.len)) B.cell (c:=c) D.len (fun h=>by rw[D.none h] at D;exact ah (by simpa using D.len)) D.cell hg hb G
 have K:=grownCap_ge g (n+cA V) cap0 e
 have X:grownCap g (n+cA V) cap0 e<=maxLen:=grownCap_le_maxLen g (n+cA V) cap0 e y
 obtain⟨w,z⟩:=E q g.drew hR.toRs.drew
 have aa:=Kept.drew g q d (Al r.N q d)
 have A:=Kept.trans (show g.heap.size<=g.drew.heap.size from aK _) aa w
 have M:=app_rel B D
 have hz:p.cells.size=k:=by simpa using O
 generalize ac:grownCap g (n+cA V) cap0 e=v at *
 have l:(us0.toArray++Q.toArray++Builtin.zeroCells p.cells (v - (n+cA V))).size=v * k:=by simp only[Array.size_append,aU,size_zeroCells,hz,B.len,D.len,s,<- aq];congr 1;omega
 have hA:=Rs.alloc (k:=k) (es:=old++V) (arr:=us0.toArray++Q.toArray++Builtin.zeroCells p.cells (v - (n+cA V))) (ety:=e) z M.1 (by
   rw[l,aL,s];exact ak _ K) (fun j e' o x he hx=>by
   obtain⟨u,hu,hr⟩:=M.2 j e' o x he hx;refine⟨u,?_,hr.mono A⟩;rw[Array.getElem?_append_left (by have:=(lG.1 hu).1;simpa using this)];simpa using hu)
 rw[H] at hA
 refine⟨_,_,r7 (cA d) q g.heap.size,J,K0 (k:=k) (es:=old++V) (by rw[<- H];exact b6.get_last _ _) rfl (.inr ⟨g.heap.size,0,v,_,e,_,by simp[r7],rfl,fun _=>by simp,K,X,by simp[s],heap_alloc_new g.drew _,by rw[l];simp⟩),?_⟩
 exact hR.of (Kept.trans (show g.heap.size<=g.drew.heap.size from aK _) A hA.1) hA.2
def append_R{P:Program}{ty:Ti}{x y:Od}{t e:Ti}{k bytes:Nat}{id:Id}{j n:Nat}{new:List (List C)}{v:T}[ht:TyD P t (.slice e)][hs:TyS P e k bytes p](a4:(p.cells.size==k)=true)(a5:aM 0 bytes=true)(hx:ev L x=some (.c (.own id j n)))(Q:d[id]? =some (some (.cells k V)))(hy:ev L y=some v)(al:Src d k v new)(hb:(n+cA new) * bytes<=140737488355328){Γ:Cx}{f:Act}(O:R Γ a (St.mk L d) q f g):
  ∃v' w' H,(Builtin.append_ #[t,t] ty #[f.eval x,f.eval y]).run P g=.ok v' w'/\RelT w' H (d.put id none++[.one (.cells k ((V.drop j).take n++new))]) (Al Γ.N H (d.put id none++[.one (.cells k ((V.drop j).take n++new))])) (.c (.own (cA d,[]) 0 (n+cA new))) v'/\
   R Γ a ⟨L,d.put id none++[.one (.cells k ((V.drop j).take n++new))]⟩ H f w':=by
  obtain⟨b',A,F,a6,r⟩:=al.shows O hy
  have hv:=H1 (m9 O hx) Q
  obtain⟨b0,s,an,w,U,X⟩:=W7 O Q hv
  rw[w,a6]
  by_cases B:n+cA new<=s
  ·rcases hv with⟨h1,h2,h3,h4⟩|⟨b,l,ao,D,z,ad,hp,hv,a7,b1,J,cd,G,aa⟩
   · -- nil, and nothing is appended
    rw[w] at h2
    cases h2
    have K:new=[]:=ah (by omega)
    subst K
    subst h3
    obtain⟨a8,a9⟩:=O.toRs.kill id
    obtain⟨av,ay⟩:=a9.virt k
    have E:(Builtin.append_ #[t,t] ty #[.slice none 0 0,.slice b' 0 A]).run P g=.ok (.slice none 0 0) g:=by have hf:=ag5 (P:=P) g (size:=k) (cap:=A) (b:=b') (n:=0) (us:=F) r.len (fun h=>ah (by simpa using r.len)) r.cell;simp[Builtin.append_,run_underlying ht.h,p7 (t:=e),Builtin.lenOf,hf]
    refine⟨.slice none 0 0,g,(fun i=>if i=(cA d,[]) then none else q i),by rw[show([]:List (List C)).length=0 from rfl,E],?_,?_⟩
    ·simp only[bp,aZ]
     exact K0 (k:=k) (es:=[]) (by rw[<- b6.length_put d id none];exact b6.get_last _ _) rfl (.inl ⟨by simp,rfl,rfl,rfl⟩)
    ·simp only[bp,aZ]
     rw[b6.length_put] at av ay
     exact O.of (Kept.trans (aK _) a8 av) ay
   ·rw[w] at hv
    cases hv
    have b4:0<n+cA new\/n+cA new=0:=by omega
    by_cases be:0<s
    ·have:=a7 be
     subst this
     have a0:l+j * k+s * k<=D.size:=by rw[aq] at aa;omega
     have E:=aH5 (P:=P) (t:=t) (ty:=ty) g (sLen:=n) (sCap:=s) G (c:=A) r.len (fun h=>by rw[r.none h] at r;exact ah (by simpa using r.len)) r.cell r.one B a0
     have a1:=app_rel X r
     have bi:(n+cA new) * k<=s * k:=ak _ B
     rw[aq] at bi
     have a2:cA F=cA new * k:=r.len
     have cc:cA an=n * k:=by rw[X.len,U]
     have hA:=Rs.reown (k:=k) (base':=l+j * k) (es':=(V.drop j).take n++new) (arr':=(D.toList.take (l+j * k+n * k)++F++D.toList.drop (l+j * k+n * k+cA F)).toArray) O.toRs Q hp G a1.1 (by simp only[aL,U,aU,cu,cw,bV,aq];omega) (fun i e' o x' he bk=>by
      obtain⟨u,hu,hr⟩:=a1.2 i e' o x' he bk;refine⟨u,?_,hr⟩;have bs:=D3 D.toList F (l+j * k+n * k) (l+j * k+(i * k+o)) (by simp;omega);simp only[bP];rw[bs];by_cases ce:i * k+o<n * k;rw[if_neg (by omega)];rw[aH (by omega)] at hu; -- what stood there;obtain⟨arr2,ety2,hb2,_,hkk,hcs⟩:=N5 hR hσ hp;rw[hbk] at hb2;cases hb2;have hi:i<n:=by rcases az i n with h|h;exact h;have:=ak k h;omega
      have M:=X.cell _ rfl _ u hu;rw[H8,U9 G] at M;simpa using M;rw[aE (by omega)] at hu;have cf:=(lG.1 hu).1;rw[if_pos (by omega),show l+j * k+(i * k+o) - (l+j * k+n * k)=i * k+o - (cA an) by omega];exact hu)
     refine⟨_,_,_,by rw[E],?_,O.of hA.1 hA.2⟩
     refine K0 (k:=k) (es:=(V.drop j).take n++new) (by rw[<- b6.length_put d id none];exact b6.get_last _ _) rfl (.inr ⟨b,l+j * k,s,_,z,_,by simp,rfl,fun _=>by simp,B,J,by simp[U],setRow_heap g b D _ z (0,0) G,?_⟩)
     simp only[aU,aL,cu,cw,bV,aX]
     omega
    · -- no room at all, and nothing is appended
     have h0:s=0:=by omega
     subst h0
     have bv:n=0:=by omega
     have K:new=[]:=ah (by omega)
     subst K
     subst bv
     have E:(Builtin.append_ #[t,t] ty #[.slice (some ad) 0 0,.slice b' 0 A]).run P g=.ok (.slice (some ad) 0 0) g:=by have hf:=ag5 (P:=P) g (size:=k) (cap:=A) (b:=b') (n:=0) (us:=F) r.len (fun h=>ah (by simpa using r.len)) r.cell;have a2:F=[]:=ah (by simpa using r.len);subst a2;simp[Builtin.append_,run_underlying ht.h,p7 (t:=e),Builtin.lenOf,hf,storeCells]
     have hA:=Rs.reown (k:=k) (base':=l+j * k) (es':=[]) (arr':=D) O.toRs Q hp G (fun i e' he=>by simp at he) (by simp;rw[aq] at aa;omega) (fun i e' o x' he=>by simp at he)
     rw[setRow_self g b D z (0,0) G] at hA
     refine⟨.slice (some ad) 0 0,g,(fun i=>if i=(cA d,[]) then some (b,l+j * k) else q i),by rw[show([]:List (List C)).length=0 from rfl,E],?_,?_⟩
     ·simp only[bp,aZ]
      exact K0 (k:=k) (es:=[]) (by rw[<- b6.length_put d id none];exact b6.get_last _ _) rfl (.inr ⟨b,l+j * k,0,D,z,ad,by simp,rfl,fun h=>by omega,by simp,by simp[maxLen],by simp,G,by simp;rw[aq] at aa;omega⟩)
     ·simp only[bp,aZ]
      exact O.of hA.1 hA.2
  ·have J:n+cA new<=maxLen:=by
    have bx:0<bytes:=by simpa using a5
    have:n+cA new<=(n+cA new) * bytes:=bI _ bx;simp only[maxLen];omega
   obtain⟨v',w',H,g1,g2,g3⟩:=append_new (P:=P) (t:=t) (e:=e) (ty':=ty) O a4 (cap0:=s) X U (c:=A) r (Nat.not_le.1 B) hb J (d.put id none) (fun q g h=>h.kill id) (by simp)
   exact⟨v',w',H,by rw[g1],g2,g3⟩
def AOps.append{ops:Array Oper}{rest:List Oper}{y:Od}{t e:Ti}{k bytes:Nat}{j n:Nat}{new:List (List C)}{v:T}[U:TyD r t (.slice e)][X:TyS r e k bytes p](i:(p.cells.size==k)=true)(l:aM 0 bytes=true)(u:ev L B=some (.c (.own c j n)))(o:d[c]? =some (some (.cells k V)))(A:ev L y=some v)(g:Src d k v new)(D:(n+cA new) * bytes<=140737488355328)(E:h9 a H=true)(h:AOps r b a ops s rest ((St.mk L (d.put c none++[.one (.cells k ((V.drop j).take n++new))])).put H (.c (.own (cA d,[]) 0 (n+cA new))))):
  AOps r b a ops s (⟨H,.call ⟨.builtin .append,#[B,y],#[t,t]⟩,M,P,Q,none⟩::rest) (St.mk L d):=
 .valueW rfl E _ _ (fun x z f w F=>by obtain⟨G,J,q,K,N,O⟩:=append_R (P:=r) (t:=t) (e:=e) (ty:=M) i l u o A g D F;refine⟨G,J,q,?_,N,O⟩;simp[execOp,resolve,invoke,builtin,K]) h
def AOps.appendNil{l:b6}{ops:Array Oper}{rest:List Oper}{y:Od}{t e:Ti}{k bytes:Nat}{new:List (List C)}{v:T}[ht:TyD r t (.slice e)][hs:TyS r e k bytes p](F:(p.cells.size==k)=true)(G:aM 0 bytes=true)(hx:ev L B=some (.c (.imm (.val (.slice none 0 0)))))(hy:ev L y=some v)(u:Src l k v new)(hb:cA new * bytes<=140737488355328)(hd:h9 a H=true)(h:AOps r d a ops s rest (St.mk (putE L H (.c (.own (cA l,[]) 0 (cA new)))) (l++[.one (.cells k new)]))):
  AOps r d a ops s (⟨H,.call ⟨.builtin .append,#[B,y],#[t,t]⟩,M,P,Q,none⟩::rest) (St.mk L l):=
 .valueW rfl hd _ _ (fun Γ z f w A=>by
  obtain⟨J,g,K,N,q⟩:=u.shows A hy;have O:=z7 A hx;have ex:(execOp f.eval ⟨H,.call ⟨.builtin .append,#[B,y],#[t,t]⟩,M,P,Q,none⟩).run r w=((Builtin.append_ #[t,t] M #[.slice none 0 0,.slice J (cA new) g]).run r w).andThen fun v w=>.ok (.value v) w:=by simp[execOp,resolve,invoke,builtin,O,N]
  rw[ex];by_cases hn:new=[];subst hn;obtain⟨U,V⟩:=A.toRs.virt k;have D:(Builtin.append_ #[t,t] M #[.slice none 0 0,.slice J 0 g]).run r w=.ok (.slice none 0 0) w:=by have hf:=ag5 (P:=r) w (size:=k) (cap:=g) (b:=J) (n:=0) (us:=K) q.len (fun h=>ah (by simpa using q.len)) q.cell;simp[Builtin.append_,run_underlying ht.h,p7 (t:=e),Builtin.lenOf,hf]
  exact⟨.slice none 0 0,w,(fun i=>if i=(cA l,[]) then none else z i),by rw[show([]:List (List C)).length=0 from rfl,D];rfl,K0 (k:=k) (es:=[]) (b6.get_last _ _) rfl (.inl ⟨by simp,rfl,rfl,rfl⟩),A.of U V⟩;have aa:0<cA new:=List.length_pos_iff.2 hn;have E:0+cA new<=maxLen:=by
   have X:0<bytes:=by simpa using G
   have:cA new<=cA new * bytes:=bI _ X;simp only[maxLen];omega
  obtain⟨v',w',x,g1,g2,g3⟩:=append_new (P:=r) (t:=t) (e:=e) (ty':=M) A F (n:=0) (cap0:=0) (old:=[]) (us0:=[]) (b0:=none) ⟨by simp,fun _=>rfl,fun _ h=>by simp at h,fun j e h=>by simp at h,fun j e o B h=>by simp at h⟩ rfl (c:=g) q (by omega) (by simpa using hb) E l (fun z w h=>⟨Kept.refl _ _ _ _,h⟩) rfl;simp only[aX,bM] at g2 g3;exact⟨v',w',x,by rw[g1];rfl,g2,g3⟩) h
def AOps.lit1{P:Program}{σ0:b6}{sz:Nat}{Q:Post}{env:Env}{σv:b6}{ops:Array Oper}{rest:List Oper}{dst:Option Nat}{ty:Ti}{pos:String}{after:Array Edge} {x : Od} {t e : Ti} {k bytes : Nat} {z : Vl} {v : T} {cs : List C} [ht : TyD P t (.slice e)] [hs : TyS P e k bytes z] (hzk : (z.cells.size == k) = true) (hks : aY k 16777216 = true) (hkp : aM 0 k = true) (hx : ev env x = some v) (hc : ac7 v = some cs) (hl : (cA cs) = k) (hd : h9 sz dst = true)
    (h : AOps P σ0 sz ops Q rest (St.mk (putE env dst (.c (.own (cA σv, []) 0 1))) (σv ++ [.one (.cells k [cs])]))) :
    AOps P σ0 sz ops Q (⟨dst, .buildSlice t 1 #[(0, x)], ty, pos, after, none⟩ :: rest) (St.mk env σv) :=
  .valueW rfl hd _ _ (fun Γ φ a w hR => by
    obtain ⟨h1, h2⟩ := W3 (m9 hR hx) hc;have hz : z.cells.size = k := by simpa using hzk
    have hk0 : k ≠ 0 := by have : 0 < k := by simpa using hkp
                           omega
    have hk1 : ¬ (16777216 < k) := by have : k <= 16777216 := aA hks
                                      omega
    have hfold : ∀ (l : List Vl) (p : Nat) (base : Array Vl), p + (cA l) <= base.size -> ((l.zipIdx p).foldl (fun cs (c, j) => cs.setIfInBounds (0 + j) c) base).size = base.size /\
        ∀ i, ((l.zipIdx p).foldl (fun cs (c, j) => cs.setIfInBounds (0 + j) c) base)[i]? = if p <= i /\ i < p + (cA l) then l[i - p]? else base[i]? := by
      intro l
      induction l with
      | nil => intro p base _; exact ⟨rfl, fun i => by simp; omega⟩
      | cons c l ih =>
        intro p base hp
        simp only [ax] at hp
        simp only [cy, List.foldl_cons]
        obtain ⟨g1, g2⟩ := ih (p + 1) (base.setIfInBounds (0 + p) c) (by simp; omega)
        refine ⟨by rw [g1]; simp, fun i => ?_⟩
        rw [g2]
        by_cases hi : p + 1 <= i /\ i < p + 1 + (cA l)
        · rw [if_pos hi, if_pos (by simp; omega)]
          rw [show i - p = (i - (p + 1)) + 1 by omega]
          simp
        · rw [if_neg hi]
          by_cases hp' : i = p
          · subst hp'
            rw [if_pos (by simp)]
            have hb : i < base.size := by omega
            simp [hb]
          · rw [if_neg (by simp; omega)]
            simp [bq]; omega
    generalize hu : a.eval x = u at h1 h2;generalize hbase : (Array.range k).map (fun i => z.cells[i % z.cells.size]!) = base;have hbs : base.size = k := by rw [<- hbase]; simp
    have hsz : (cA u.cells.toList) = k := by simp [h1, hl]
    obtain ⟨f1, f2⟩ := hfold u.cells.toList 0 base (by omega);generalize hfin : (u.cells.toList.zipIdx 0).foldl (fun cs (c, j) => cs.setIfInBounds (0 + j) c) base = fin at f1 f2;have hfin' : u.cells.zipIdx.foldl (fun cs (c, j) => cs.setIfInBounds (0 + j) c) base = fin := by rw [<- hfin, <- bY, bW]
    have hA := Rs.alloc (k := k) (es := [cs]) (arr := fin) (ety := e) hR.toRs (fun j e he => by
      match j with
      | 0 => cases he; exact hl
      | j + 1 => simp at he) (by simp; omega) (fun j e o x he hx => by
      match j with
      | 0 =>
        cases he
        obtain ⟨v, hv, hr⟩ := h2 o x hx
        have ho := (lG.1 hx).1
        refine ⟨v, ?_, hr⟩
        rw [f2, if_pos (by omega)]
        simpa using hv
      | j + 1 => simp at he)
    refine ⟨.slice (some ⟨w.heap.size, 0, none⟩) 1 1, _, _, ?_, K0 (k := k) (es := [cs]) (b6.get_last _ _) rfl (.inr ⟨w.heap.size, 0, 1, fin, e, _, by simp [r7], rfl, fun _ => by simp, by simp, by simp [maxLen], by simp, heap_alloc_new w _, by simp; omega⟩), hR.of hA.1 hA.2⟩;have hfill : Instr.fill (fun i => some (i * k, k)) base [(0, u)] = some fin := by simp only [Instr.fill];rw [if_neg (by simp [h1, hl, hbs])];simp only [Nat.zero_mul];rw [hfin']
    simp [execOp, Instr.buildSlice, run_underlying ht.h, p7 (t := e), am6 (t := e), hk0, hk1, hu, hbase, hfill, newRow]) h
def AOps.make{ops:Array Oper}{rest:List Oper}{f:Od}{t e:Ti}{k bytes:Nat}{kk D:IntKind}{n:Int}{v:T}[ht:TyD r t (.slice e)][hs:TyS r e k bytes p](hz:aj2 p=some v)(hc:ac7 v=some y)(O:(cA y==k)=true)(G:ev L B=some (.c (.imm (.val (.int kk n)))))(hy:ev L f=some (.c (.imm (.val (.int D n)))))(hn:0<=n)(E:n<=9223372036854775807)(hb:(bytes:Int) * n<=281474976710656)(hd:h9 a H=true)(h:AOps r b a ops s rest (St.mk (putE L H (.c (.own (cA d,[]) 0 n.toNat))) (d++[.one (.cells k (br n.toNat y))]))):
  AOps r b a ops s (⟨H,.makeSlice t B f,M,P,Q,none⟩::rest) (St.mk L d):=
 .valueW rfl hd _ _ (fun Γ J g w K=>by
  obtain⟨i,U,V,X,x⟩:=hs.h;have l:=run_make (P:=r) w t e i p ht.h U x kk D n n hn (Int.le_refl _) (by rw[X];exact hb) E;obtain⟨h1,h2⟩:=W3 (w:=w) (φ:=J) (σ:=d) (A:=Al Γ.N J d) (ai1 hz) hc;have hk:cA y=k:=by simpa using O
  rw[V] at l;have hA:=Rs.alloc (k:=k) (es:=br n.toNat y) (arr:=madeCells p.cells (n.toNat * k)) (ety:=e) K.toRs (fun j e q=>by
   rw[bJ] at q;split at q<;>cases q;exact hk) (by simp[size_madeCells]) (fun j e o B q G=>by
   rw[bJ] at q;split at q;rename_i hj;cases q;obtain⟨u,hu,hr⟩:=h2 o B G;have ho:o<k:=by rw[<- hk];exact(lG.1 G).1
   refine⟨u,?_,hr⟩;have:(j+1) * k<=n.toNat * k:=ak _ hj;rw[aq,bd] at this;have z:p.cells.size=k:=by rw[h1,hk]
   have em:(j * k+o) % k=o:=by rw[aW,Nat.mul_add_mod,Nat.mod_eq_of_lt ho]
   simp only[madeCells,Array.getElem?_map,Array.getElem?_range,z];rw[if_pos (by omega)];simp only[aJ,em];have F:o<p.cells.size:=by omega
   rw[Array.getElem?_eq_getElem F] at hu;simp[getElem!_pos,F,Option.some.inj hu];cases q)
  refine⟨.slice (some ⟨w.heap.size,0,none⟩) n.toNat n.toNat,w.alloc (.cells (madeCells p.cells (n.toNat * k)) e),r7 (cA d) J w.heap.size,by simp[execOp,z7 K G,z7 K hy,l],?_,K.of hA.1 hA.2⟩;refine K0 (k:=k) (es:=br n.toNat y) (b6.get_last _ _) rfl (.inr ⟨w.heap.size,0,n.toNat,_,e,_,by simp[r7],rfl,fun _=>by simp,aK _,by simp only[maxLen];omega,by simp,heap_alloc_new w _,by simp[size_madeCells]⟩)) h
/-! ### A slice of a slice -/
def aa2{P:Program}(w:World){y:Nat}{c:BoundsCode}{kk:IntKind}{i:Int}(h:0<=i/\i<=y):(Instr.sliceBound (.int kk i) y c).run P w=.ok i.toNat w:=by simp[Instr.sliceBound,asIntOf,h]
def AOps.slice{P:Program}{F:b6}{ops:Array Oper}{rest:List Oper}{pos:String}{l r:Od}{t e:Ti}{k bytes:Nat}{X J:IntKind}{q A:Int}{es:List (List I)}[ht:TyD P t (.slice e)][hs:TyS P e k bytes p](K:ev L B=some (.c (.imm (.sl k es))))(hl:ev L l=some (.c (.imm (.val (.int X q)))))(x:ev L r=some (.c (.imm (.val (.int J A)))))(hb:0<=q/\q<=A/\A<=cA es)(hd:h9 a H=true)(h:AOps P d a ops s rest (St.mk (putE L H (.c (.imm (.sl k ((es.take A.toNat).drop q.toNat))))) F)):AOps P d a ops s (⟨H,.slice t B (some l) (some r) none,M,pos,Q,none⟩::rest) (St.mk L F):=
 .value rfl hd _ (fun Γ φ f w z=>by
  have v:=m9 z K;generalize hu:f.eval B=u at v;have key:∀(b:Option Addr) (n g:Nat),u=.slice b n g->A<=g->(execOp f.eval ⟨H,.slice t B (some l) (some r) none,M,pos,Q,none⟩).run P w=.ok (.value (.slice (if g=q.toNat then b else b.map (·.add (q.toNat * k))) (A.toNat - q.toNat) (g - q.toNat))) w:=fun b n g e1 O=>by have aa:=aa2 (P:=P) w (y:=g) (c:=.sliceAcap) (kk:=J) (i:=A) (by omega);have ac:=aa2 (P:=P) w (y:=A.toNat) (c:=.sliceB) (kk:=X) (i:=q) (by omega);simp[execOp,hu,e1,z7 z hl,z7 z x,Instr.sliceAt,Instr.slice,Instr.sliceBounds,run_underlying ht.h,p7 (t:=e),aa,ac]
  have E:((es.take A.toNat).drop q.toNat).length=A.toNat - q.toNat:=by simp;omega
  cases v with|c v=>cases v with|imm v=>cases v with
   |slNil=>
    have h0:A=0:=by simp at hb;omega
    have h1:q=0:=by omega
    subst h0 h1
    refine⟨.slice none 0 0,by rw[key none 0 0 rfl (by omega)];simp,.c (.imm (by simpa using .slNil))⟩
   |@sl _ _ ad g us O ao hk hc x=>
    have al:A<=g:=by omega
    rw[key _ _ _ rfl al]
    refine⟨_,rfl,.c (.imm ?_)⟩
    rw[<- E]
    have get:∀(j:Nat) (e:List I),((es.take A.toNat).drop q.toNat)[j]? =some e->es[q.toNat+j]? =some e/\q.toNat+j<A.toNat:=fun j e D=>by rw[aw,au] at D;split at D;exact⟨D,‹_›⟩;cases D
    have U:∀G:Addr,(q.toNat<g->G=ad.add (q.toNat * k))->RelI w (Al Γ.N φ F) (.sl k ((es.take A.toNat).drop q.toNat)) (.slice (some G) ((es.take A.toNat).drop q.toNat).length (g - q.toNat)):=fun G an=>by refine .sl (fun j o=>us (q.toNat+j) o) (by rw[E];omega) (by omega) (fun j e D=>hk _ _ (get j e D).1) (fun j e o B D K=> ?_) (fun j e o B D K=>x _ _ _ _ (get j e D).1 K);obtain⟨g1,g2⟩:=get j e D;have:=hc _ _ _ _ g1 K;rw[an (by omega),aa5,add_add];rw[aq,bg] at this;exact this
    by_cases V:g=q.toNat
    ·rw[if_pos V];exact U ad (fun h=>by omega)
    ·rw[if_neg V];exact U _ (fun _=>rfl)) h
def AOps.sliceOwn{f:Program}{A:b6}{ops:Array Oper}{rest:List Oper}{l r:Od}{t e:Ti}{k bytes:Nat}{X F:IntKind}{q v:Int}{id:Id}{j n:Nat}[ht:TyD f t (.slice e)][hs:TyS f e k bytes p](hx:ev L B=some (.c (.own id j n)))(E:A[id]? =some (some (.cells k V)))(hl:ev L l=some (.c (.imm (.val (.int X q)))))(hr:ev L r=some (.c (.imm (.val (.int F v)))))(hb:0<=q/\q<=v/\v<=n)(hd:h9 a H=true)(h:AOps f d a ops s rest (St.mk (putE L H (.c (.own id (j+q.toNat) (v.toNat - q.toNat)))) A)):AOps f d a ops s (⟨H,.slice t B (some l) (some r) none,M,P,Q,none⟩::rest) (St.mk L A):=
 .value rfl hd _ (fun Γ φ g w z=>by
  have G:=m9 z hx;have J:id.1<cA A:=b6.lt_of E;have x:=H1 G E;generalize hu:g.eval B=u at x;have key:∀(b:Option Addr) (n o:Nat),u=.slice b n o->v<=o->(execOp g.eval ⟨H,.slice t B (some l) (some r) none,M,P,Q,none⟩).run f w=.ok (.value (.slice (if o=q.toNat then b else b.map (·.add (q.toNat * k))) (v.toNat - q.toNat) (o - q.toNat))) w:=fun b n o e1 K=>by have aa:=aa2 (P:=f) w (y:=o) (c:=.sliceAcap) (kk:=F) (i:=v) (by omega);have ac:=aa2 (P:=f) w (y:=v.toNat) (c:=.sliceB) (kk:=X) (i:=q) (by omega);simp[execOp,hu,e1,z7 z hl,z7 z hr,Instr.sliceAt,Instr.slice,Instr.sliceBounds,run_underlying ht.h,p7 (t:=e),aa,ac]
  rcases x with⟨h1,h2,h3,h4⟩|⟨b,N,o,al,an,ad,hp,x,ao,K,a2,a3,av,ay⟩;subst h3 h4;have h0:v=0:=by omega
  have a0:q=0:=by omega
  subst h0 a0;exact ⟨.slice none 0 0,by rw[key none 0 0 h2 (by omega)];simp,.c (.own J rfl fun k' a1 he=> (.inl ⟨h1,rfl,rfl,rfl⟩))⟩;rw[key _ _ _ x (by omega)];refine⟨_,rfl,.c (.own J rfl fun k' a1 he=> ?_)⟩;rw[E] at he;cases he;have O:∀D:Addr,(q.toNat<o->D=ad.add (q.toNat * k))->ad5 w (φ id) k (cA V) (j+q.toNat) (v.toNat - q.toNat) (.slice (some D) (v.toNat - q.toNat) (o - q.toNat)):=fun D h'=>by refine .inr ⟨b,N,o - q.toNat,al,an,D,hp,rfl,fun hc=> ?_,by omega,by omega,by omega,av,?_⟩;rw[h' (by omega),ao (by omega),H8,aq,bg];rw[show j+q.toNat+(o - q.toNat)=j+o by omega];exact ay
  by_cases U:o=q.toNat;rw[if_pos U];exact O ad (fun h=>by omega);rw[if_neg U];exact O _ (fun _=>rfl)) h
/-! ### Function values -/
def evC(env:Env):List Od->Option (List C)
 |[]=>some []
 |x::r=>match ev env x,evC env r with
  |some (.c c),some cs=>some (c::cs)
  |_,_=>none
def evC_rel{j:Cx}{d:Act}(k:R j a (St.mk L b) q d g):∀{l:List Od} {cs:List C},evC L l=some cs->cA cs=cA l/\∀(i:Nat) (c:C),cs[i]? =some c->∃v,(l.map d.eval)[i]? =some v/\RelC g q b (Al j.N q b) c v
 |[],cs,h=>by cases h;exact⟨rfl,fun i c e=>by simp at e⟩
 |x::r,cs,h=>by
  simp only[evC] at h;split at h;rename_i c0 n o p;cases h;obtain⟨s,t⟩:=evC_rel k p;refine⟨by simp[s],fun i c e=> ?_⟩;match i with
  |0=>
   cases e
   have f:=m9 k o
   generalize y:d.eval x=u at f
   cases f with|c f=>exact⟨u,by simp[y],f⟩
  |i+1=>simpa using t i c (by simpa using e)
  cases h
def AOps.ac{rest:List Oper}{f:FuncId}{l:List Od}(k:evC L l=some y)(n:h9 a H=true)(h:AOps r b a t s rest (St.mk (putE L H (.c (.fn f y))) d)):AOps r b a t s (⟨H,.makeFunc (.func f) #[] l.toArray,M,P,Q,none⟩::rest) (St.mk L d):=
 .value rfl n _ (fun x z e w o=>by
  obtain⟨j,p⟩:=evC_rel o k;refine⟨.func (.func f) #[] ((ai (cA y)).map fun i=>((l.map e.eval)[i]?).getD Go.undef).toArray,?_,.c (.fn _ fun i c g=> ?_)⟩;have:(ai (cA y)).map (fun i=>((l.map e.eval)[i]?).getD Go.undef)=l.map e.eval:=by apply bz;intro i;by_cases g:i<cA l;simp[j,g];simp[j,g]
  rw[this];simp[execOp,Instr.makeFunc];obtain⟨v,q,u⟩:=p i c g;rw[q];exact u) h
/-! ### Conversions of integers -/
def AOps.convInt{f:b6}{rest:List Oper}{src d:Ti}{k g:IntKind}{n:Int}{dd:TypeDesc}[h1:TyD r src dd][h2:TyD r d (.int g)](i:ev L B=some (.c (.imm (.val (.int k n)))))(j:h9 a H=true)(h:AOps r b a t s rest (St.mk (putE L H (.c (.imm (.val (.int g (g.wrap n)))))) f)):AOps r b a t s (⟨H,.convert src d B,M,P,Q,none⟩::rest) (St.mk L f):=
 .value rfl j _ (fun o p e w l=>⟨.int g (g.wrap n),by simp[execOp,z7 l i,convert,run_underlying h1.h,run_underlying h2.h,Conv.intToInt],.c (.imm (.val rfl))⟩) h
section
variable {P:Program}{σ0:b6}{sz:Nat}{Q:Post}{env:Env}{σv:b6}{ops:Array Oper}{rest:List Oper}{dst:Option Nat}{ty:Ti}{pos:String}{after:Array Edge}
def evs_rel{e:Cx}{a:Act}(f:R e sz (St.mk env σv) q a g):∀{l:List Od} {b:List T},evs env l=some b->cA b=cA l/\∀(i:Nat) (t:T) (u:Vl),b[i]? =some t->(l.map a.eval)[i]? =some u->RelT g q σv (Al e.N q σv) t u
 |[],b,h=>by cases h;exact⟨rfl,fun i t u c=>by simp at c⟩
 |x::r,b,h=>by
  simp only[evs] at h;split at h;rename_i t0 j k n;cases h;obtain⟨o,p⟩:=evs_rel f n;refine⟨by simp[o],fun i t u c d=> ?_⟩;match i with
  |0=>
   cases c
   simp at d
   subst d
   exact m9 f k
  |i+1=>exact p i t u (by simpa using c) (by simpa using d)
  cases h
def fn_inv{f:FuncId}(h:RelT g q b l (.c (.fn f y)) p):∃vs:List Vl,p=.func (.func f) #[] vs.toArray/\(cA vs)=cA y/\∀(i:Nat) (c:C) (v:Vl),y[i]? =some c->vs[i]? =some v->RelC g q b l c v:=by
 cases h with|c h=>cases h with|fn n d=>
  refine⟨_,rfl,by simp,fun i c v e a=> ?_⟩
  rw[lM,oM] at a
  obtain⟨j,k,rfl⟩:=a
  obtain⟨_,rfl⟩:=P8 k
  exact d i c e
def av0{o:Cx}{a:Act}(p:R o sz (St.mk env σv) q a g){b:List Od}{ats:Array Ti}{f:FuncId}(v:ev env B=some (.c (.fn f y)))(z:evs env b=some A)(k : ∃ fn, P.funcs[f]? = some fn /\ (fn.name == "runtime.NumGoroutine")=false/\fn.body.isNone=false):
  ∃vs:List Vl,(execOp a.eval ⟨dst,.call ⟨.value B,b.toArray,ats⟩,ty,pos,after,none⟩).run P g=.ok (.enter f vs.toArray) g/\(A++y.map T.c).length=cA vs/\
   ∀(i:Nat) (t:T) (u:Vl),(A++y.map T.c)[i]? =some t->vs[i]? =some u->RelT g q σv (Al o.N q σv) t u:=by
 obtain⟨fn,D,E,r⟩:=k
 obtain⟨F,G,H,J⟩:=fn_inv (m9 p v)
 obtain⟨s,K⟩:=evs_rel p z
 refine⟨b.map a.eval++F,?_,by simp[s,H],fun i t u d h=> ?_⟩
 ·have l:¬ fn.name= "runtime.NumGoroutine" :=by simpa using E
  have n:¬ fn.body=none:=fun e=>by rw[e] at r;cases r
  simp[execOp,resolve,G,Deferred.ofValue,invoke,callFunc,D,l,n]
 ·rw[bl] at d h
  by_cases j:i<cA A
  ·rw[if_pos j] at d
   rw[if_pos (by simp;omega)] at h
   exact K i t u d h
  ·rw[if_neg j] at d
   rw[if_neg (by simp;omega)] at h
   rw[lM,oM] at d
   obtain⟨c,L,rfl⟩:=d
   simp only[bh,<- s] at h
   exact .c (J _ c u L h)
def AOps.callS{g:List Od}{d:Array Ti}{f:FuncId}{l:T->b6->Prop}(q:ev env B=some (.c (.fn f y)))(s:evs env g=some A)(t:h9 sz dst=true)(n:FnOk P f (A++y.map T.c) σv l)(h:∀r b,l r b->AOps P σ0 sz ops Q rest ((St.mk env b).put dst r)):
  AOps P σ0 sz ops Q (⟨dst,.call ⟨.value B,g.toArray,d⟩,ty,pos,after,none⟩::rest) (St.mk env σv):=fun o u a w j i z=>by
  obtain⟨vs,D,E,F⟩:=av0 (P:=P) (dst:=dst) (ty:=ty) (pos:=pos) (after:=after) (ats:=d) i q s n.fn
  refine ad6 rfl (ax3 D ?_)
  refine(n.run ⟨w,o.N,u,σv⟩ vs rfl i.toRs.down E F).mono ?_
  rintro e G ⟨v,r,b,k,rfl,H,J,p⟩
  exact h r b H o k _ G j ((i.of p.kept (i.toRs.up p)).put t J) z
mutual
theorem C.ok_mono{m n:Nat}(h:m<=n):∀c:C,c.ok m=true->c.ok n=true
 | .imm _,_=>rfl
 | .own id _ _,a=>by simp only[C.ok,aC] at a ⊢;omega
 | .ptr id _ _,a=>by simp only[C.ok,aC] at a ⊢;omega
 | .fn _ b,a=>C.okL_mono h b a
 | .ifc _ cs _,a=>C.okL_mono h cs a
 | .map id,a=>by simp only[C.ok,aC] at a ⊢;omega
 | .fnb _ b,a=>C.okL_mono h b a
 | .yld id,a=>by simp only[C.ok,aC] at a ⊢;omega
theorem C.okL_mono{m n:Nat}(h:m<=n):∀l:List C,C.okL m l=true->C.okL n l=true
 |[],_=>rfl
 |c::r,a=>by simp only[C.okL,ap] at a ⊢;exact⟨C.ok_mono h c a.1,C.okL_mono h r a.2⟩
end
mutual
theorem T.ok_mono{m n:Nat}(h:m<=n):∀t:T,t.ok m=true->t.ok n=true
 | .c x,a=>C.ok_mono h x a
 | .agg cs,a=>C.okL_mono h cs a
 | .tup b,a=>T.okL_mono h b a
 | .undef,_=>rfl
theorem T.okL_mono{m n:Nat}(h:m<=n):∀l:List T,T.okL m l=true->T.okL n l=true
 |[],_=>rfl
 |x::r,a=>by simp only[T.okL,ap] at a ⊢;exact⟨T.ok_mono h x a.1,T.okL_mono h r a.2⟩
end
mutual
theorem C.ren_ok{m:Nat}{d:Id->Id}(h:∀i:Id,i.1<m->d i=i):∀c:C,c.ok m=true->c.ren d=c
 | .imm _,_=>rfl
 | .own id _ _,a=>by simp only[C.ok,aC] at a;simp only[C.ren,h id a]
 | .ptr id _ _,a=>by simp only[C.ok,aC] at a;simp only[C.ren,h id a]
 | .fn _ b,a=>by simp only[C.ren,C.renL_ok h b a]
 | .ifc _ cs _,a=>by simp only[C.ren,C.renL_ok h cs a]
 | .map id,a=>by simp only[C.ok,aC] at a;simp only[C.ren,h id a]
 | .fnb _ b,a=>by simp only[C.ren,C.renL_ok h b a]
 | .yld id,a=>by simp only[C.ok,aC] at a;simp only[C.ren,h id a]
theorem C.renL_ok{m:Nat}{b:Id->Id}(h:∀i:Id,i.1<m->b i=i):∀l:List C,C.okL m l=true->C.renL b l=l
 |[],_=>rfl
 |c::r,a=>by simp only[C.okL,ap] at a;simp only[C.renL,C.ren_ok h c a.1,C.renL_ok h r a.2]
end
mutual
theorem T.ren_ok{m:Nat}{b:Id->Id}(h:∀i:Id,i.1<m->b i=i):∀t:T,t.ok m=true->t.ren b=t
 | .c x,a=>by simp only[T.ren,C.ren_ok h x a]
 | .agg cs,a=>by simp only[T.ren,C.renL_ok h cs a]
 | .tup d,a=>by simp only[T.ren,T.renL_ok h d a]
 | .undef,_=>rfl
theorem T.renL_ok{m:Nat}{b:Id->Id}(h:∀i:Id,i.1<m->b i=i):∀l:List T,T.okL m l=true->T.renL b l=l
 |[],_=>rfl
 |x::r,a=>by simp only[T.okL,ap] at a;simp only[T.renL,T.ren_ok h x a.1,T.renL_ok h r a.2]
end
def Blk.ok_mono{m:Nat}(h:m<=a)(b:Blk)(c:b.ok m=true):b.ok a=true:=by
 cases b with
 |cells k e=>simp only[Blk.ok,af] at c ⊢;exact fun l d=>C.okL_mono h l (c l d)
 |obj p cs=>exact C.okL_mono h cs c
def Blk.ren_ok{m:Nat}{c:Id->Id}(h:∀i:Id,i.1<m->c i=i)(b:Blk)(a:b.ok m=true):b.ren c=b:=by
 cases b with
 |cells k d=>
  simp only[Blk.ok,af] at a
  simp only[Blk.ren]
  congr 1
  conv=>rhs;rw[<- List.map_id d]
  exact bn fun l e=>C.renL_ok h l (a l e)
 |obj p cs=>simp only[Blk.ren,C.renL_ok h cs a]
def RelC.ok{c:C}(h:RelC g q b l c p):c.ok (cA b)=true:=by
 induction h with
 |imm h=>rfl
 |own a _ _=>simpa[C.ok] using a
 |ptr a _ _=>simpa[C.ok] using a
 |fn k j d=>
  simp only[C.ok,N7,af]
  intro x e
  obtain⟨i,f⟩:=ar e
  exact d i x f
 |ifcA k j d=>
  simp only[C.ok,N7,af]
  intro x e
  obtain⟨i,f⟩:=ar e
  exact d i x f
 |ifc1 j d=>simp only[C.ok,C.okL,d,Bool.and_self]
 |map a _ _=>simpa[C.ok] using a
 |fnb k j d=>
  simp only[C.ok,N7,af]
  intro x e
  obtain⟨i,f⟩:=ar e
  exact d i x f
 |yld a _ _=>simpa[C.ok] using a
def RelT.ok{t:T}(h:RelT g q b l t p):t.ok (cA b)=true:=by
 induction h with
 |c h=>exact h.ok
 |agg f e=>
  simp only[T.ok,N7,af]
  intro x a
  obtain⟨i,d⟩:=ar a
  exact(e i x d).ok
 |tup f e j=>
  simp only[T.ok,av6,af]
  intro x a
  obtain⟨i,d⟩:=ar a
  exact j i x d
 |undef=>rfl
def StR.okB(h:StR g q d l){b:Blk}(e:d[c]? =some (some b)):b.ok (cA d)=true:=by
 have r:=h.blk c b e;cases b with
 |obj p cs=>
  simp only[Blk.ok,af,N7]
  intro x f
  obtain⟨b,o,G,H,J,K,y⟩:=r
  obtain⟨c,e⟩:=ar f
  obtain⟨u,_,n⟩:=y c x e
  exact n.ok
 |cells k L=>
  simp only[Blk.ok,af,N7]
  intro a s x f
  rcases r with⟨_,t⟩|⟨b,v,z,B,M,t,N,O,D⟩
  ·subst t;simp at s
  ·obtain⟨j,E⟩:=ar s
   obtain⟨o,F⟩:=ar f
   obtain⟨u,_,n⟩:=D j a o x E F
   exact n.ok
def AOps.callK{H:List Od}{E:Array Ti}{f:FuncId}{Qc:T->b6->Prop}(hx:ev env B=some (.c (.fn f y)))(ha:evs env H=some A)(J:T.okL 0 (A++y.map T.c)=true)(hd:h9 sz dst=true)(hf:FnOk P f (A++y.map T.c) [] Qc)(r:T)(o:b6)(V:∀(i:Id) (b:Blk),o[i]? =some (some b)->b.ok (cA σv+o.length)=true)(hq:∀K l,Qc K l->∃(n:Id->Id),(∀i:Id,i.1<cA σv->n i=i)/\(∀(i j:Id) (b X:Blk),(σv++o)[i]? =some (some b)->(σv++o)[j]? =some (some X)->n i=n j->i=j)/\r.ok (cA σv+o.length)=true/\r.ren n=K.ren (sh (cA σv))/\
   ∀(i:Id) (b:Blk),o[i]? =some (some b)->cA σv<=(n (sh (cA σv) i)).1/\(l[unsh (cA σv) (n (sh (cA σv) i))]?).map (bQ (Blk.ren (sh (cA σv))))=some (some (b.ren n)))(h:AOps P σ0 sz ops Q rest (St.mk (putE env dst r) (σv++o))):
  AOps P σ0 sz ops Q (⟨dst,.call ⟨.value B,H.toArray,E⟩,ty,pos,after,none⟩::rest) (St.mk env σv):=fun s F a w x G ro=>by
  obtain⟨vs,h1,h2,h3⟩:=av0 (P:=P) (dst:=dst) (ty:=ty) (pos:=pos) (after:=after) (ats:=E) G hx ha hf.fn
  refine ad6 rfl (ax3 h1 ?_)
  refine(hf.run (s.bare F σv w) vs rfl (good_bare s F σv w) h2 (fun i t u g hu=> ?_)).mono ?_
  ·have p:Back w F (fun _=>none) σv [] (Al s.N F σv) (Al (s.bare F σv w).N (fun _=>none) []) (fun i=>i):=⟨fun b p _=>bare_al p,fun i b g=>by simp at g⟩
   rw[av6,af] at J
   exact(show RelT w F σv (Al s.N F σv) (t.ren fun i=>i) u by rw[T.ren_id];exact h3 i t u g hu).back p (J t (aj g))
  ·rintro e w' ⟨v,K,l,av,rfl,aa,hr,hs⟩
   obtain⟨ac,hF,ad⟩:=G.toRs.upBare hs
   obtain⟨n,U,p2,p4,p5,p6⟩:=hq K l aa
   have al:=(G.of ac ad).put hd (hr.fwd hF)
   have L:Sub s.σ0 (St.put ⟨env,σv++l.mapB (Blk.ren (sh (cA σv)))⟩ dst (K.ren (sh (cA σv)))) ⟨putE env dst r,σv++o⟩:=by
    have M:∀(t:Nat) (v:T),lookup t env=some v->v.ok (cA σv)=true:=fun t v q=>by obtain⟨u,_,hr⟩:=G.env t v q;exact hr.ok
    have z:=G.kept.len;refine Sub.mk n (fun i g=>U i (ag g z)) (by simp;exact aP z (Nat.le_add_right _ _)) (fun i j b X g hj he=>p2 i j b X g hj he) (fun i b g=> ?_) (fun t v q=> ?_);dsimp only at g ⊢;rcases az i.1 (cA σv) with k|k;rw[b6.get_left k] at g;have p:=G.st.okB g;refine⟨Blk.ok_mono (by simp) b p,?_⟩;rw[U i k,Blk.ren_ok U b p];simp only[St.put];rw[b6.get_left k];exact g;rw[b6.get_right k] at g;refine⟨by rw[aL];exact V _ b g,?_⟩;obtain⟨O,hp⟩:=p6 _ b g;have e:sh (cA σv) (i.1 - (cA σv),i.2)=i:=sh_unsh k;rw[e] at O hp;simp only[St.put];rw[b6.get_right O,b6.get_map];exact hp;simp only[St.put];have rest:∀v,lookup t env=some v->v.ok (σv++o).length=true/\lookup t env=some (v.ren n):=fun v hv=>by have p:=M t v hv;exact⟨T.ok_mono (by simp) v p,by rw[T.ren_ok U v p];exact hv⟩
    cases D:dst with
    |none=>rw[D] at q;exact rest v q
    |some d=>
     rw[D] at q
     simp only[putE,lookup] at q ⊢
     split at q
     ·cases q
      exact⟨by simpa using p4,by rw[p5]⟩
     ·exact rest v q
   obtain⟨an,ao⟩:=L s sz _ _ _ rfl al
   exact h s an _ w' x ao ro
def e9(P:Program)(f:FuncId)(args:List T)(r:T):Prop:=FnOk P f args [] fun a _=>a=r
def AOps.z{a:List Od}{e:Array Ti}{f:FuncId}{r:T}(n:ev env B=some (.c (.fn f y)))(o:evs env a=some A)(g:T.okL 0 (A++y.map T.c)=true)(p:h9 sz dst=true)(q:e9 P f (A++y.map T.c) r)(k:r.ok 0=true)(h:AOps P σ0 sz ops Q rest (St.mk (putE env dst r) σv)):
  AOps P σ0 sz ops Q (⟨dst,.call ⟨.value B,a.toArray,e⟩,ty,pos,after,none⟩::rest) (St.mk env σv):=
 .callK n o g p q r [] (fun i b d=>by simp at d) (fun l s t=>by subst t;refine⟨fun i=>i,fun _ _=>rfl,fun i j _ _ _ _ h=>h,T.ok_mono (by simp) l k,?_,fun i b d=>by simp at d⟩;rw[T.ren_id,T.ren_ok (m:=0) (fun i d=>by omega) l k]) (by rw[aZ];exact h)
def Blk.im(k:Nat)(a:List (List I)):Blk:=.cells k (a.map (·.map .imm))
def renL_imm(a:Id->Id)(l:List I):C.renL a (l.map .imm)=l.map .imm:=by
 induction l with
 |nil=>rfl
 |cons x l b=>simp only[bu,C.renL,C.ren,b]
def Blk.im_ren(a:Id->Id)(k:Nat)(b:List (List I)):(Blk.im k b).ren a=Blk.im k b:=by simp only[Blk.im,Blk.ren,List.map_map];congr 1;exact bn fun l _=>renL_imm a l
def okL_imm(m:Nat)(l:List I):C.okL m (l.map .imm)=true:=by
 induction l with
 |nil=>rfl
 |cons x l a=>simp only[bu,C.okL,C.ok,a,Bool.and_self]
def Blk.im_ok(m k:Nat)(a:List (List I)):(Blk.im k a).ok m=true:=by simp only[Blk.im,Blk.ok,List.all_map,af];exact fun l _=>okL_imm m l
def p8(P:Program)(f:FuncId)(args:List T)(k:Nat)(b:List (List I)):Prop:=FnOk P f args [] fun d a=>∃id,d=.c (.own id 0 (cA b))/\a[id]? =some (some (Blk.im k b))
def AOps.fresh{n:List Od}{q:Array Ti}{f:FuncId}{g:List (List I)}(t:ev env B=some (.c (.fn f y)))(u:evs env n=some A)(r:T.okL 0 (A++y.map T.c)=true)(v:h9 sz dst=true)(w:p8 P f (A++y.map T.c) a g)(h:AOps P σ0 sz ops Q rest (St.mk (putE env dst (.c (.own (cA σv,[]) 0 (cA g)))) (σv++[.one (Blk.im a g)]))):
  AOps P σ0 sz ops Q (⟨dst,.call ⟨.value B,n.toArray,q⟩,ty,pos,after,none⟩::rest) (St.mk env σv):=
 .callK t u r v w (.c (.own (cA σv,[]) 0 (cA g))) [.one (Blk.im a g)] (fun i b d=>by rcases b6.get_new (σ:=[]) d with⟨o,_⟩|⟨_,rfl⟩;simp at o;exact Blk.im_ok _ a g) (fun E z o=>by
  obtain⟨id,rfl,s⟩:=o
  refine⟨fun i=>if i.1<cA σv then i else sh (cA σv) id,fun i d=>if_pos d,fun i j b F d D l=> ?_,by simp[T.ok,C.ok],?_,fun i b d=> ?_⟩
  ·dsimp only at l
   rcases b6.get_new d with⟨l1,_⟩|⟨rfl,_⟩<;>rcases b6.get_new D with⟨p,_⟩|⟨rfl,_⟩
   ·rwa [if_pos l1,if_pos p] at l
   ·rw[if_pos l1,if_neg (aO _)] at l
    rw[l] at l1
    simp[sh] at l1
    omega
   ·rw[if_pos p,if_neg (aO _)] at l
    rw[<- l] at p
    simp[sh] at p
    omega
   ·rfl
  ·simp only[T.ren,C.ren]
   rw[if_neg (aO _)]
  ·rcases b6.get_new (σ:=[]) d with⟨o,_⟩|⟨rfl,rfl⟩
   ·simp at o
   ·have e:¬ (sh (cA σv) (([]:b6).length,[])).1<cA σv:=by simp[sh]
    simp only[if_neg e]
    refine⟨by simp[sh],?_⟩
    rw[unsh_sh,s]
    simp only[aJ,Blk.im_ren]) h
/-! ### What is owned ceases to change -/
def lbeq:List Nat->List Nat->Bool
 |[],[]=>true
 |a::l,b::m=>aG a b && lbeq l m
 |_,_=>false
def idb(i j:Id):Bool:=aG i.1 j.1 && lbeq i.2 j.2
def lbeq_iff:∀{l m:List Nat},lbeq l m=true↔l=m
 |[],[]=>by simp[lbeq]
 |[],_::_=>by simp[lbeq]
 |_::_,[]=>by simp[lbeq]
 |a::l,b::m=>by simp[lbeq,lbeq_iff]
def O7{i j:Id}:idb i j=true↔i=j:=by obtain⟨a,l⟩:=i;obtain⟨b,m⟩:=j;simp[idb,lbeq_iff]
def ap7{j:Id}(h:c ≠ j):idb c j=false:=by
 cases a:idb c j with
 |false=>rfl
 |true=>exact absurd (O7.1 a) h
mutual
def C.frz(id:Id)(k:Nat)(c:List (List I)):C->C
 | .imm x=>.imm x
 | .own i j n=>if idb i id=true then .imm (.sl k ((c.drop j).take n)) else .own i j n
 | .ptr i j o=>if idb i id=true then(match c[j]? with|some e=>.imm (.ipt (e.drop o))|none=>.ptr i j o) else .ptr i j o
 | .fn f a=>.fn f (C.frzL id k c a)
 | .ifc t cs b=>.ifc t (C.frzL id k c cs) b
 | .map i=>.map i
 | .fnb f a=>.fnb f (C.frzL id k c a)
 | .yld i=>.yld i
def C.frzL(id:Id)(k:Nat)(a:List (List I)):List C->List C
 |[]=>[]
 |c::r=>C.frz id k a c::C.frzL id k a r
end
mutual
def T.frz(id:Id)(k:Nat)(a:List (List I)):T->T
 | .c x=>.c (x.frz id k a)
 | .agg cs=>.agg (C.frzL id k a cs)
 | .tup b=>.tup (T.frzL id k a b)
 | .undef=>.undef
def T.frzL(id:Id)(k:Nat)(a:List (List I)):List T->List T
 |[]=>[]
 |t::r=>T.frz id k a t::T.frzL id k a r
end
def U8(id:Id)(k:Nat)(a:List (List I)):∀l:List C,C.frzL id k a l=l.map (C.frz id k a)
 |[]=>rfl
 |c::r=>by rw[C.frzL,U8 id k a r];rfl
def TfrzL_eq(id:Id)(k:Nat)(a:List (List I)):∀l:List T,T.frzL id k a l=l.map (T.frz id k a)
 |[]=>rfl
 |c::r=>by rw[T.frzL,TfrzL_eq id k a r];rfl
def RelC.frz{Γ:Cx}{K:Phi}(hs:Rs Γ d K g){id:Id}{E:List (List I)}(H:d[id]? =some (some (Blk.im a E)))(L:Kept g g K K d (d.put id none) (Al Γ.N K d) l)(hA:∀b r,K id=some (b,r)->l b){c:C}(h:RelC g K d (Al Γ.N K d) c p):RelC g K (d.put id none) l (c.frz id a E) p:=by
 induction h with
 |imm h=>exact RelC.mono L (.imm h)
 |@own i j n p y M h=>
  simp only[C.frz]
  split
  ·rename_i e
   have e':=O7.1 e
   subst e'
   have X:=h a _ H
   rcases X with⟨g1,g2,g3,g4⟩|⟨b,r,w,k,a0,ad,O,X,an,ay,v,ao,aa,a1⟩
   ·subst g2 g3 g4
    simpa using RelC.imm (.slNil)
   ·subst X
    rw[bh] at ao
    have hb:=hs.st.blk _ _ H
    rcases hb with⟨F,_⟩|⟨b',U,G,ac,F,h3,h4,h5,h6⟩
    ·rw[O] at F;cases F
    rw[O] at F;cases F
    rw[aa] at h3;cases h3
    have al:((E.drop j).take n).length=n:=by simp;omega
    have get:∀(i:Nat) (e:List I),((E.drop j).take n)[i]? =some e->i<n/\E[j+i]? =some e:=fun i e B=>by rw[au] at B;split at B;rw[aw] at B;exact⟨‹_›,B⟩;cases B
    have cell:∀(i:Nat) (e:List I) (o:Nat) (x:I),((E.drop j).take n)[i]? =some e->e[o]? =some x->∃u,k[r+((j+i) * a+o)]? =some u/\RelI g l x u:=fun i e o x B s=>by obtain⟨J,av⟩:=get i e B;obtain⟨u,D,z⟩:=h6 (j+i) (e.map .imm) o (.imm x) (by simp[av]) (by simp[s]);cases z with|imm z=>exact⟨u,D,z.mono (fun _ _ _=>rfl) L.all⟩
    have:RelI g l (.sl a ((E.drop j).take n)) (.slice (some ad) ((E.drop j).take n).length w):=by
     refine .sl (fun i o=>(k[r+((j+i) * a+o)]?).getD Go.undef) (by omega) v (fun i e B=> ?_) (fun i e o x B s=> ?_) (fun i e o x B s=> ?_);have:=h5 (j+i) (e.map .imm) (by simp[(get i e B).2]);simpa using this;obtain⟨u,D,z⟩:=cell i e o x B s;have hn:0<w:=by have:=(get i e B).1;omega
     rw[an hn,H8,U9 aa,D];refine⟨hA b r O,?_⟩;rw[show r+j * a+(i * a+o)=r+((j+i) * a+o) by rw[aq];omega];exact D;obtain⟨u,D,z⟩:=cell i e o x B s;rw[D];exact z
    rw[al] at this
    exact .imm this
  ·rename_i e
   exact RelC.mono L (.own y M h)
 |@ptr i j o p y M h=>
  simp only[C.frz]
  split
  ·rename_i e
   have e':=O7.1 e
   subst e'
   split
   ·rename_i e B
    obtain⟨b,r,O,X⟩:=h a _ H
    subst X
    have hb:=hs.st.blk _ _ H
    rcases hb with⟨F,_⟩|⟨b',U,G,ac,F,h3,h4,h5,h6⟩
    ·rw[O] at F;cases F
    rw[O] at F;cases F
    have cell:∀(q:Nat) (x:I),(e.drop o)[q]? =some x->∃u,G[r+(j * a+(o+q))]? =some u/\RelI g l x u:=fun q x s=>by rw[aw] at s;obtain⟨u,D,z⟩:=h6 j (e.map .imm) (o+q) (.imm x) (by simp[B]) (by simp[s]);cases z with|imm z=>exact⟨u,D,z.mono (fun _ _ _=>rfl) L.all⟩
    refine .imm (.ipt (fun q=>(G[r+(j * a+(o+q))]?).getD Go.undef) (fun q x s=> ?_) (fun q x s=> ?_))
    ·obtain⟨u,D,z⟩:=cell q x s
     rw[H8,U9 h3,D]
     refine⟨hA b r O,?_⟩
     rw[show r+(j * a+o)+q=r+(j * a+(o+q)) by omega]
     exact D
    ·obtain⟨u,D,z⟩:=cell q x s
     rw[D];exact z
   ·exact RelC.mono L (.ptr y M h)
  ·exact RelC.mono L (.ptr y M h)
 |@fn f A us z V=>
  have e:(C.frzL id a E A).length=cA A:=by rw[U8];simp
  simp only[C.frz]
  rw[<- e]
  refine .fn us fun i c J=> ?_
  rw[U8,lM,oM] at J
  obtain⟨x,s,rfl⟩:=J
  exact V i x s
 |@ifcA t cs us z V=>
  have e:(C.frzL id a E cs).length=cA cs:=by rw[U8];simp
  simp only[C.frz]
  rw[<- e]
  refine .ifcA us fun i c J=> ?_
  rw[U8,lM,oM] at J
  obtain⟨x,s,rfl⟩:=J
  exact V i x s
 |ifc1 z V=>exact .ifc1 V
 |map y M h=>exact RelC.mono L (.map y M h)
 |@fnb f A us z V=>
  have e:(C.frzL id a E A).length=cA A:=by rw[U8];simp
  simp only[C.frz]
  rw[<- e]
  refine .fnb us fun i c J=> ?_
  rw[U8,lM,oM] at J
  obtain⟨x,s,rfl⟩:=J
  exact V i x s
 |yld y M h=>exact RelC.mono L (.yld y M h)
def RelT.frz{r:Cx}(u:Rs r d q g){id:Id}{o:List (List I)}(f:d[id]? =some (some (Blk.im a o)))(y:Kept g g q q d (d.put id none) (Al r.N q d) l)(z:∀b j,q id=some (b,j)->l b){c:T}(h:RelT g q d (Al r.N q d) c p):RelT g q (d.put id none) l (c.frz id a o) p:=by
 induction h with
 |c h=>exact .c (h.frz u f y z)
 |@agg cs s A=>
  have e:(C.frzL id a o cs).length=cA cs:=by rw[U8];simp
  simp only[T.frz]
  rw[<- e]
  refine .agg s fun i c n=> ?_
  rw[U8,lM,oM] at n
  obtain⟨x,t,rfl⟩:=n
  exact(A i x t).frz u f y z
 |@tup B s A D=>
  have e:(T.frzL id a o B).length=cA B:=by rw[TfrzL_eq];simp
  simp only[T.frz]
  rw[<- e]
  refine .tup s fun i c n=> ?_
  rw[TfrzL_eq,lM,oM] at n
  obtain⟨x,t,rfl⟩:=n
  exact D i x t
 |undef=>exact .undef
def Blk.frz(id:Id)(k:Nat)(b:List (List I)):Blk->Blk
 | .cells c a=>.cells c (a.map (C.frzL id k b))
 | .obj p cs=>.obj p (C.frzL id k b cs)
def St.frz(s:St)(id:Id)(k:Nat)(a:List (List I)):St:=⟨s.env.map fun p=>(p.1,p.2.frz id k a),(s.σ.put id none).mapB (Blk.frz id k a)⟩
def ap0(f:T->T)(t:Nat):∀env:Env,lookup t (env.map fun p=>(p.1,f p.2))=(lookup t env).map f
 |[]=>rfl
 |(k,v)::r=>by simp only[bu,lookup];split;rfl;exact ap0 f t r
def Sub.frz{σ0:b6}{s:St}(id:Id)(k:Nat)(M:List (List I))(av:cA σ0<=id.1)(F:s.σ[id]? =some (some (Blk.im k M))):Sub σ0 s (s.frz id k M):=by
 intro G sz n a w an g;subst an;obtain⟨hK,ao⟩:=g.toRs.kill id;generalize r:s.σ.put id none=l at hK ao;have B:(s.frz id k M).σ=l.mapB (Blk.frz id k M):=by rw[<- r];rfl
 generalize O:l.mapB (Blk.frz id k M)=D at B;have z:∀(i:Id) (b:Blk),D[i]? =some (some b)->∃E:Blk,l[i]? =some (some E)/\b=E.frz id k M:=fun i b y=>by rw[<- O] at y;exact b6.get_map_some y
 have f:∀(i:Id) b,l[i]? =some (some b)->i ≠ id/\s.σ[i]? =some (some b):=fun i b h=>by rw[<- r] at h;exact b6.get_kill h
 have A2:∀b,Al G.N n l b->Al G.N n D b:=fun b H=>⟨H.1,fun i blk d y=>by obtain⟨E,A,_⟩:=z i blk y;exact H.2 i E d A⟩;have J:Kept w w n n l D (Al G.N n l) (Al G.N n D):=
  {imm:=fun _ _ _=>rfl,all:=fun b H _=>A2 b H,len:=by rw[<- O];simp,
   cells:=fun i kk ay y K=>by
    obtain⟨E,A,L⟩:=z i _ K;cases E with
    |obj p cs=>cases L
    |cells k0 V=>
     simp only[Blk.frz,Blk.cells.injEq] at L
     obtain⟨rfl,rfl⟩:=L
     exact⟨V,A,by simp,rfl,fun b d X al hp H=>⟨X,H,rfl⟩⟩,
   obj:=fun i p' a0 y K=>by
    obtain⟨E,A,L⟩:=z i _ K;cases E with
    |cells k0 V=>cases L
    |obj p cs=>exact⟨rfl,p,cs,A⟩}
 have hA:∀b d,n id=some (b,d)->Al G.N n l b:=fun b d hp=>by refine⟨fun hN=>g.keep id _ b d F hp ⟨g.good.lt b hN,fun i blk bs y aa=>g.good.own i blk b bs y aa hN⟩,fun i blk bs y aa=> ?_⟩;obtain⟨A,L⟩:=f i blk y;exact A (g.st.inj i id blk _ _ _ L F aa hp rfl)
 have U:Kept w w n n s.σ (s.σ.put id none) (Al G.N n s.σ) (Al G.N n l):=by rw[r];exact hK
 have cv:∀{c:C} {v:Vl},RelC w n s.σ (Al G.N n s.σ) c v->RelC w n D (Al G.N n D) (c.frz id k M) v:=fun h=>by have:=h.frz g.toRs F U hA;rw[r] at this;exact this.mono J
 refine⟨n,{good:=g.good,st:= ?_,keep:= ?_,os:=g.os,tape:=g.tape,drawn:=g.drawn,output:=g.output,size:=g.size,block:=g.block,kept:= ?_,defers:=by rw[B];exact(g.defers.kept hK).kept J,asize:=g.asize,env:=fun t v ht=> ?_}⟩;rw[B];refine⟨fun i b y=> ?_,fun i j bi bj p q y hj=> ?_⟩;obtain⟨E,A,rfl⟩:=z i b y;have H:=g.st.blk i E (f i E A).2;cases E with
 |obj p cs=>
  obtain⟨b,o,us,g1,g2,g3,g4⟩:=H
  refine⟨b,o,us,g1,g2,g3,fun i x hx=> ?_⟩
  rw[U8] at hx
  simp only[lM,oM] at hx
  obtain⟨x0,ac,rfl⟩:=hx
  obtain⟨u,hu,hr⟩:=g4 i x0 ac
  exact⟨u,hu,cv hr⟩
 |cells k0 V=>
  rcases H with⟨g1,g2⟩|⟨b,d,X,al,g1,g2,g3,g4,g5⟩
  ·exact .inl ⟨g1,by subst g2;rfl⟩
  ·refine .inr ⟨b,d,X,al,g1,g2,by simpa using g3,fun j e K=> ?_,fun j e o x K hx=> ?_⟩
   ·simp only[lM,oM] at K
    obtain⟨e0,ad,rfl⟩:=K
    rw[U8];simpa using g4 j e0 ad
   ·simp only[lM,oM] at K
    obtain⟨e0,ad,rfl⟩:=K
    rw[U8] at hx
    simp only[lM,oM] at hx
    obtain⟨x0,ac,rfl⟩:=hx
    obtain⟨u,hu,hr⟩:=g5 j e0 o x0 ad ac
    exact⟨u,hu,cv hr⟩
 obtain⟨b1,A,_⟩:=z i bi y;obtain⟨b2,L,_⟩:=z j bj hj;exact g.st.inj i j b1 b2 p q (f i b1 A).2 (f j b2 L).2;rw[B];intro i blk b d y hp;obtain⟨b1,A,_⟩:=z i blk y;exact g.keep i b1 b d (f i b1 A).2 hp;rw[B];exact Kept.trans g.size g.kept (Kept.trans (aK _) hK J);rw[B];simp only[St.frz] at ht;rw[ap0 (fun v=>v.frz id k M),oM] at ht;obtain⟨v0,A,rfl⟩:=ht;obtain⟨u,hu,hr⟩:=g.env t v0 A;refine⟨u,hu,?_⟩;have:=hr.frz g.toRs F U hA;rw[r] at this;exact this.mono J
def Sub.virt{s:St}(t k:Nat)(j:lookup t s.env=some (.c (.imm (.val (.slice none 0 0))))):Sub b s ⟨(t,.c (.own (s.σ.length,[]) 0 0))::s.env,s.σ++[.one (.cells k [])]⟩:=by intro q sz r a w l g;obtain⟨h,i⟩:=g.toRs.virt k;have d:=g.of h i;refine⟨_,{toRs:=d.toRs,defers:=d.defers,asize:=d.asize,env:=fun n v f=> ?_}⟩;simp only[lookup] at f;split at f;rename_i e;have:=am e;subst this;cases f;obtain⟨u,o,p⟩:=g.env _ _ j;refine⟨u,o,?_⟩;rw[val_inv p];exact K0 (k:=k) (es:=[]) (b6.get_last _ _) rfl (.inl ⟨by simp,rfl,rfl,rfl⟩);exact d.env n v f
end
def b5{K:St->Prop}(h:K (St.mk L b)):thn K s .normal (St.mk L b):=h
def e8{K:St->Prop}(h:s .ret (St.mk L b)):thn K s .ret (St.mk L b):=h
def i7{K:St->Prop}(h:s (.exit a) (St.mk L b)):thn K s (.exit a) (St.mk L b):=h
def d6(h:s .normal (St.mk L b)):inB a s .normal (St.mk L b):=h
def i5(h:s .ret (St.mk L b)):inB a s .ret (St.mk L b):=h
def f9(h:s .normal (St.mk L b)):inB a s (.exit a) (St.mk L b):=by simpa[inB] using h
def ar8(c:aG a x=false)(h:s (.exit a) (St.mk L b)):inB x s (.exit a) (St.mk L b):=by
 have:a ≠ x:=fun e=>by subst e;simp at c
 simpa[inB,this] using h
abbrev intI(n:Int):List I:=[.val (.int .i64 n)]
abbrev ints(l:Li):C:=.imm (.sl 1 (l.map intI))
def AOps.lenL{ops:Array Oper}{rest:List Oper}{g:Type}{f:g->List I}{l:List g}{t e:Ti}{k:Nat}[n:TyD r t (.slice e)](i:ev L B=some (.c (.imm (.sl k (l.map f)))))(j:h9 a H=true)(h:AOps r b a ops s rest (St.mk (putE L H (.c (int (cA l)))) d)):AOps r b a ops s (⟨H,.call ⟨.builtin .len,#[B],#[t]⟩,M,P,Q,none⟩::rest) (St.mk L d):=
 .len i j (by rw[bh];exact h)
def w8{b:Type}:List b->b->Option (List b)
 |[],x=>some [x]
 |a::l,x=>match w8 l x with
  |some r=>some (a::r)
  |none=>none
def v7{b:Type}:∀{l:List b} {x:b} {r:List b},w8 l x=some r->r=l++[x]
 |[],x,r,h=>by cases h;rfl
 |a::l,x,r,h=>by simp only[w8] at h;split at h<;>cases h;rename_i c;rw[v7 c];rfl
def tmpsOf(l:List Od):List Nat:=l.filterMap fun| .tmp t=>some t|_=>none
def A4(ops:List Oper)(j:Nat):Option Nat:=(ops[j]?).bind (·.dst)
def readsOf(ops:List Oper)(o:Oper):List Nat:=tmpsOf o.op.operands.toList++(match o.guard with|some (j,_)=>(A4 ops j).toList|none=>[])
def I5(o:Oper):List Nat:=(o.after.toList.filter (Region.binds .any)).map (·.on)
def ar9(ops:List Oper)(V:List T)(a:Env)(o:Oper)(t:Nat):Option T:=
 match (I5 o).find? (fun j=>A4 ops j==some t) with
 |some j=>V[j]?
 |none=>lookup t a
def w6(ops:List Oper)(V:List T)(a:Env)(o:Oper):Env:=(readsOf ops o).filterMap fun t=>(ar9 ops V a o t).map fun v=>(t,v)
def g9:List Oper->List T->Env->Env
 |o::ops,v::V,a=>match o.dst with
  |some d=>g9 ops V ((d,v)::a)
  |none=>g9 ops V a
 |_,_,a=>a
def T2(ops:List Oper):Bool:=
 ops.zipIdx.all fun(o,i)=>
  (I5 o).all (· <i) &&
  ops.zipIdx.all fun (p, j) => i == j || (match p.dst with
   |none=>true
   |some t=> !(o.dst==some t) && (!(readsOf ops o).contains t||(I5 o).contains j||(I5 p).contains i))
def as6(h:a ≠ x):aG a x=false:=by
 cases b:aG a x with
 |false=>rfl
 |true=>exact absurd (am b) h
def Only(a:St):Post:=fun e s=>e=.normal/\s=a
def AOps.N{ops:Array Oper}:AOps r b a ops (Only (St.mk L d)) [] (St.mk L d):=.nil ⟨rfl,rfl⟩
def b7(P:Program)(σ0:b6)(c:Nat)(ops:List Oper)(a:Env)(σ:b6)(Q:Post):List Oper->List T->Prop
 |[],b=>Q .normal ⟨g9 ops b a,σ⟩
 |o::r,b=>∃v,(∀E:Env,AOps P σ0 c ops.toArray (Only (St.put ⟨w6 ops b a o++E,σ⟩ o.dst v)) [o] ⟨w6 ops b a o++E,σ⟩)/\b7 P σ0 c ops a σ Q r (b++[v])
def K3(t:Nat)(E:Env):∀l:Env,lookup t (l++E)=match lookup t l with|some v=>some v|none=>lookup t E
 |[]=>rfl
 |(k,v)::r=>by simp only[bF,lookup];split;rfl;exact K3 t E r
def am5(f:Nat->Option T)(t:Nat):∀l:List Nat,lookup t (l.filterMap fun t=>(f t).map fun v=>(t,v))=if t ∈ l then f t else none
 |[]=>rfl
 |k::r=>by
  simp only[bo];cases hk:f k with
  |none=>
   simp only[Option.map_none,am5 f t r,aS]
   by_cases a:t=k
   ·subst a;simp[hk]
   ·simp[a]
  |some v=>
   simp only[aJ,lookup,aS]
   by_cases a:k=t
   ·subst a;simp[hk]
   ·have:aG k t=false:=as6 a
    simp only[this,am5 f t r]
    simp[Ne.symm a]
def uponIn_mono{F:Fence}{n:Nat}{P:Program}{o:Oper}{a:Act}{K K':Act->World->Prop}{Q Q':Exit->Act->World->Prop}(hK:∀a w,K a w->K' a w)(hQ:∀e a w,e ≠ .normal->Q e a w->Q' e a w){r:Result Next}(h:o.uponIn F n P a K Q r):o.uponIn F n P a K' Q' r:=by
 cases r with
 |ok n w'=>
  cases n<;>simp only[Oper.uponIn] at h ⊢<;>
   first
    |exact hK _ _ h
    |exact⟨h.1,CallsIn.mono h.2 (fun e w'' he=>by
      cases e with
      |returned v=>exact hK _ _ he
      |panicked c=>exact hQ _ _ _ (by simp) he
      |outgrown=>obtain⟨a0,w0,hq⟩:=he;exact⟨a0,w0,hQ _ _ _ (by simp) hq⟩)⟩
    |exact⟨h.1,RowsIn.mono h.2 fun _ _ he=>hK _ _ he⟩
    |exact⟨h.1,RoundIn.mono h.2 (fun e w'' he=>by
      cases e with
      |returned v=>exact hK _ _ he
      |panicked c=>exact hQ _ _ _ (by simp) he
      |outgrown=>obtain⟨a0,w0,hq⟩:=he;exact⟨a0,w0,hQ _ _ _ (by simp) hq⟩)⟩
 |halt x w'=>cases x<;>simp only[Oper.uponIn] at h ⊢<;>first|exact hQ _ _ _ (by simp) h|exact h
structure DInv(ops:List Oper)(V:List T)(base:Env)(listed:Array Bool)(E:Env):Prop where
 lt:∀j,listed.getD j false=true->j<cA ops
 closed:∀(j:Nat) (o:Oper),ops[j]? =some o->listed.getD j false=true->∀e ∈ I5 o,listed.getD e false=true
 ran:∀j f,listed.getD j false=true->A4 ops j=some f->lookup f E=V[j]?
 rest:∀f,(∀j,listed.getD j false=true->A4 ops j ≠ some f)->lookup f E=lookup f base
def I9(h:T2 X=true){o:Oper}(g:X[a]? =some o):
  (∀e ∈ I5 o,e<a)/\∀(j:Nat) (p:Oper) (t:Nat),X[j]? =some p->a ≠ j->p.dst=some t->o.dst ≠ some t/\(t ∈ readsOf X o->j ∈ I5 o\/a ∈ I5 p):=by
 simp only[T2,af] at h
 have c:=h (o,a) (aD.2 (by simpa using g))
 simp only[ap,af,decide_eq_true_eq] at c
 refine⟨fun e k=>c.1 e k,fun j p t l d n=> ?_⟩
 have f:=c.2 (p,j) (aD.2 (by simpa using l))
 simp only[n,ba,beq_iff_eq,d,false_or,ap,cp,beq_eq_false_iff_ne,ne_eq] at f
 refine⟨f.1,fun q=> ?_⟩
 have b:=f.2
 simp only[List.contains_iff_mem] at b
 rcases b with(b|b)|b
 ·simp[q] at b
 ·exact .inl b
 ·exact .inr b
def b7.spec{P:Program}:∀(r:List Oper) (c:List T),b7 P b a X L d s r c->
  ∃V:List T,cA V=cA r/\s .normal ⟨g9 X (c++V) L,d⟩/\
   ∀(i:Nat) (o:Oper) (v:T),r[i]? =some o->V[i]? =some v->∀E:Env,AOps P b a X.toArray (Only (St.put ⟨w6 X (c++V.take i) L o++E,d⟩ o.dst v)) [o] ⟨w6 X (c++V.take i) L o++E,d⟩
 |[],c,h=>⟨[],rfl,by simpa[b7] using h,fun i o v e=>by simp at e⟩
 |o::r,c,h=>by
  obtain⟨v,g,j⟩:=h;obtain⟨V,k,l,n⟩:=b7.spec r (c++[v]) j;refine⟨v::V,by simp[k],by simpa using l,fun i p q e f E=> ?_⟩;match i with
  |0=>cases e;cases f;simpa using g E
  |i+1=>simpa using n i p q (by simpa using e) (by simpa using f) E
def envAt_take{o:Oper}(b:∀e ∈ I5 o,e<a):w6 X (A.take a) L o=w6 X A L o:=by
 unfold w6;congr 1;funext t;congr 1;unfold ar9;cases c:(I5 o).find? (fun j=>A4 X j==some t) with
 |none=>rfl
 |some j=>simp only[au,if_pos (b j (bE c))]
def DInv.env{base:Env}{V:List T}{b:Array Bool}(g:DInv X V base b L)(l:T2 X=true){o:Oper}(A:X[a]? =some o)(z:b.getD a false=false)(B:∀e ∈ I5 o,b.getD e false=true):
  ∀t v,lookup t (w6 X V base o++L)=some v->lookup t L=some v:=by
 intro t v h
 rw[K3] at h
 simp only[w6] at h
 rw[am5] at h
 by_cases n:t ∈ readsOf X o
 ·rw[if_pos n] at h
  have key:∀x,ar9 X V base o t=some x->lookup t L=some x:=fun x d=>by
   unfold ar9 at d;cases f:(I5 o).find? (fun j=>A4 X j==some t) with
   |some j=>
    rw[f] at d
    have c:=bE f
    have k:A4 X j=some t:=by simpa using List.find?_some f
    exact(g.ran j t (B j c) k).trans d
   |none=>
    rw[f] at d
    rw[g.rest t fun j c k=> ?_]
    ·exact d
    ·have q:=g.lt j c
     obtain⟨p,r⟩:∃p,X[j]? =some p:=⟨_,ae q⟩
     have s:p.dst=some t:=by simpa[A4,r] using k
     have u:a ≠ j:=fun e=>by subst e;rw[z] at c;cases c
     rcases((I9 l A).2 j p t r u s).2 n with w|w
     ·have:=List.find?_eq_none.1 f j w
      simp[k] at this
     ·have:=g.closed j p r c a w
      rw[z] at this;cases this
  cases y:ar9 X V base o t with
  |some x=>rw[y] at h;cases h;exact key _ y
  |none=>rw[y] at h;exact h
 ·rw[if_neg n] at h
  exact h
def count_set:∀{l:List Bool} {i:Nat},l[i]? =some false->(l.filter (fun b=>b)).length+1<=((l.set i true).filter (fun b=>b)).length
 |[],i,h=>by simp at h
 |b::l,0,h=>by simp at h;subst h;simp
 |b::l,i+1,h=>by have:=count_set (l:=l) (i:=i) (by simpa using h);cases b<;>simp at this ⊢<;>omega
def anc(ops:List Oper):Nat->Nat->Nat->Bool
 |0,_,_=>false
 |f+1,e,i=>match ops[i]? with
  |some o=>(I5 o).any fun x=>aG x e||anc ops f e x
  |none=>false
def au8{a:Array Bool}(b:a.size=cA X)(d:∀j p,X[j]? =some p->a.getD j false=true->∀x ∈ I5 p,a.getD x false=true):∀(f e i:Nat) (o:Oper),X[i]? =some o->(∀x ∈ I5 o,a.getD x false=true)->anc X f e i=true->a.getD e false=true
 |0,e,i,o,_,_,h=>by simp[anc] at h
 |f+1,e,i,o,q,k,h=>by
  simp only[anc,q,bG,ba] at h;obtain⟨x,l,h|h⟩:=h;rw[<- am h];exact k x l;have n:=k x l;have c:x<cA X:=by rw[<- b];rcases az x a.size with g|g;exact g;simp[Array.getD,bS.2 g] at n
  exact au8 b d f e x _ (ae c) (d x _ (ae c) n) h
def EOk(ops:List Oper)(V:List T)(a:Env)(i:Nat)(E:Env):Prop:=∀t v,lookup t E=some v->lookup t a=some v\/∃j,j ≠ i/\anc ops (cA ops) i j=false/\V[j]? =some v
theorem draw_anyS{P:Program}{σ0:b6}{sz:Nat}{Q:Post}{ops:List Oper}{base:Env}{ro:Option Nat}{V:List T}{Sg:Array Bool->b6->Prop}(hok:T2 ops=true)(hV:cA V=cA ops)
  (each:∀(listed:Array Bool) (σ:b6) (i:Nat) (o:Oper) (v:T),listed.size=cA ops->Sg listed σ->(∃E:Env,DInv ops V base listed E)->ops[i]? =some o->V[i]? =some v->listed.getD i false=false->(∀x ∈ I5 o,listed.getD x false=true)->
   (∀j p,ops[j]? =some p->listed.getD j false=true->∀x ∈ I5 p,listed.getD x false=true)->∃σ',Sg (listed.setIfInBounds i true) σ'/\∀E:Env,EOk ops V base i E->AOps P σ0 sz ops.toArray (Only (St.put ⟨w6 ops V base o++E,σ'⟩ o.dst v)) [o] ⟨w6 ops V base o++E,σ⟩)
  {Γ:Cx} (hΓ:Γ.σ0=σ0) (hend:∀listed σ E φ a w,Sg listed σ->(∀j,j<cA ops->listed.getD j false=true)->(∀j t,A4 ops j=some t->lookup t E=V[j]?)->(∀t,(∀j,A4 ops j ≠ some t)->lookup t E=lookup t base)->R Γ sz ⟨E,σ⟩ φ a w->lift Γ sz Q .normal a w):
  ∀(fuel:Nat) (listed:Array Bool) (σ:b6) (E:Env) (φ:Phi) (a:Act) (w:World),listed.size=cA ops->Sg listed σ->DInv ops V base listed E->R Γ sz ⟨E,σ⟩ φ a w->(cA ops<=fuel+(listed.toList.filter (fun b=>b)).length)->
   wpAnyIn (fw ro) 0 P .any ops.toArray (lift Γ sz Q) fuel listed a w:=by
 have finish:∀(listed:Array Bool) (σ:b6) (E:Env) (φ:Phi) (a:Act) (w:World),listed.size=cA ops->Sg listed σ->DInv ops V base listed E->R Γ sz ⟨E,σ⟩ φ a w->Region.ready .any ops.toArray listed=[]->lift Γ sz Q .normal a w:=by
  intro listed σ E φ a w hsz hSg hI hR hr
  -- all have run: the least that has not would be ready
  have all:∀n j,j<n->j<cA ops->listed.getD j false=true:=by
   intro n
   induction n with
   |zero=>intro j hj;omega
   |succ n ih=>
    intro j hj hjl
    by_cases hb:listed.getD j false=true
    ·exact hb
    ·have:j ∈ Region.ready .any ops.toArray listed:=by
      rw[mem_ready]
      refine⟨?_,ops[j],by simp[hjl],fun e he hbi=> ?_⟩
      ·have:j<listed.size:=by omega
       simpa[this] using hb
      ·have hw:e.on ∈ I5 ops[j]:=by
        simp only[I5,List.mem_map,List.mem_filter]
        exact⟨e,⟨by simpa using he,hbi⟩,rfl⟩
       have hlt:=(I9 hok (ae hjl)).1 _ hw
       exact ih e.on (by omega) (by omega)
     rw[hr] at this;cases this
  refine hend listed σ E φ a w hSg (fun j hj=>all (j+1) j (by omega) hj) (fun j t hd=> ?_) (fun t ht=>hI.rest t fun j hj=>ht j) hR
  have hjl:j<cA ops:=by
   unfold A4 at hd
   cases ho:ops[j]? with
   |none=>rw[ho] at hd;cases hd
   |some o=>exact(lG.1 ho).1
  exact hI.ran j t (all (j+1) j (by omega) hjl) hd
 intro fuel
 induction fuel with
 |zero=>
  intro listed σ E φ a w hsz hSg hI hR hf
  have hr:Region.ready .any ops.toArray listed=[]:=by
   rw[List.eq_nil_iff_forall_not_mem]
   intro j hj
   rw[mem_ready] at hj
   obtain⟨h0,o,ho,_⟩:=hj
   have hjl:j<cA ops:=by simpa using(aN.1 ho).1
   have hlt:(listed.toList.filter (fun b=>b)).length<cA listed.toList:=by
    apply List.length_filter_lt_length_iff_exists.2
    refine⟨false,?_,by simp⟩
    have:j<listed.size:=by omega
    simp[this] at h0
    rw[<- h0]
    simp
   simp at hlt
   omega
  exact⟨hr,finish listed σ E φ a w hsz hSg hI hR hr⟩
 |succ fuel ih=>
  intro listed σ E φ a w hsz hSg hI hR hf
  refine⟨finish listed σ E φ a w hsz hSg hI hR,fun i hi=> ?_⟩
  rw[mem_ready] at hi
  obtain⟨h0,o,ho,hw⟩:=hi
  have ho':ops[i]? =some o:=by simpa using ho
  have hil:i<cA ops:=(lG.1 ho').1
  have hn:listed.getD i false=false:=by
   have:i<listed.size:=by omega
   simpa[this] using h0
  have hwl:∀e ∈ I5 o,listed.getD e false=true:=fun e he=>by
   simp only[I5,List.mem_map,List.mem_filter] at he
   obtain⟨ed,⟨h1,h2⟩,rfl⟩:=he
   exact hw ed (by simpa using h1) h2
  have hvi:V[i]? =some V[i]:=ae (by omega)
  obtain⟨σ',hSg',hop⟩:=each listed σ i o _ hsz hSg ⟨E,hI⟩ ho' hvi hn hwl hI.closed
  have hop:=hop E fun t v ht=>by
   by_cases hx:∃j,listed.getD j false=true/\A4 ops j=some t
   ·obtain⟨j,hj,hd⟩:=hx
    have hjl:=hI.lt j hj
    refine .inr ⟨j,fun e=>(by subst e;rw[hn] at hj;cases hj),?_,by rw[<- hI.ran j t hj hd];exact ht⟩
    cases hb:anc ops (cA ops) i j with
    |false=>rfl
    |true=>
     have:=au8 hsz hI.closed _ i j _ (ae hjl) (hI.closed j _ (ae hjl) hj) hb
     rw[hn] at this;cases this
   ·exact .inl (by rw[<- hI.rest t fun j hj hd=>hx ⟨j,hj,hd⟩];exact ht)
  have hR':R Γ sz ⟨w6 ops V base o++E,σ⟩ φ a w:={toRs:=hR.toRs,defers:=hR.defers,asize:=hR.asize,env:=fun t v ht=>hR.env t v (hI.env hok ho' hn hwl t v ht)}
  have hrun:=hop Γ φ a w hΓ hR' ro
  have next:∀a' w',lift Γ sz (Only (St.put ⟨w6 ops V base o++E,σ'⟩ o.dst V[i])) .normal a' w'->wpAnyIn (fw ro) 0 P .any ops.toArray (lift Γ sz Q) fuel (listed.setIfInBounds i true) a' w':=by
   rintro a' w' ⟨s',φ',⟨_,rfl⟩,hRn⟩
   have look:∀t,o.dst ≠ some t->∀v,lookup t (St.put ⟨w6 ops V base o++E,σ'⟩ o.dst V[i]).env=some v->lookup t E=some v:=fun t ht v hv=>by
    cases hd:o.dst with
    |none=>rw[hd] at hv;exact hI.env hok ho' hn hwl t v hv
    |some d=>
     rw[hd] at hv ht
     simp only[St.put,putE,lookup] at hv
     have:aG d t=false:=as6 fun e:d=t=>ht (by rw[e])
     rw[this] at hv
     exact hI.env hok ho' hn hwl t v hv
   -- an environment with exactly the lookups wanted
   have hRE:R Γ sz ⟨(St.put ⟨E,σ'⟩ o.dst V[i]).env,σ'⟩ φ' a' w':=by
    refine {toRs:= ?_,defers:= ?_,asize:=hRn.asize,env:=fun t v ht=> ?_}
    ·have:=hRn.toRs
     cases hd:o.dst<;>simpa[hd,St.put,putE] using this
    ·have:=hRn.defers
     cases hd:o.dst<;>simpa[hd,St.put,putE] using this
    ·have hσ:(St.put ⟨w6 ops V base o++E,σ'⟩ o.dst V[i]).σ=σ':=by cases o.dst<;>rfl
     have:=hRn.env t v (by
      cases hd:o.dst with
      |none=>
       rw[hd] at ht
       simp only[St.put,putE] at ht ⊢
       rw[K3]
       cases hx:lookup t (w6 ops V base o) with
       |none=>exact ht
       |some x=>
        have:=hI.env hok ho' hn hwl t x (by rw[K3,hx])
        rw[ht] at this
        exact this.symm
      |some d=>
       rw[hd] at ht
       simp only[St.put,putE,lookup] at ht ⊢
       split at ht
       ·exact ht
       ·rw[K3]
        cases hx:lookup t (w6 ops V base o) with
        |none=>exact ht
        |some x=>
         have:=hI.env hok ho' hn hwl t x (by rw[K3,hx])
         rw[ht] at this
         exact this.symm)
     rw[hσ] at this
     exact this
   have lset:∀j,(listed.setIfInBounds i true).getD j false=true↔j=i\/listed.getD j false=true:=fun j=>by
    by_cases hj:i=j
    ·subst hj
     have:i<listed.size:=by omega
     simp[this]
    ·simp[aR hj,Ne.symm hj]
   refine ih (listed.setIfInBounds i true) σ' _ φ' a' w' (by simpa using hsz) hSg' ⟨fun j hj=> ?_,fun j p hp hj e he=> ?_,fun j t hj hd=> ?_,fun t ht=> ?_⟩ hRE ?_
   ·rcases(lset j).1 hj with rfl|h
    ·exact hil
    ·exact hI.lt j h
   ·rcases(lset j).1 hj with rfl|h
    ·rw[ho'] at hp;cases hp
     exact(lset e).2 (.inr (hwl e he))
    ·exact(lset e).2 (.inr (hI.closed j p hp h e he))
   ·rcases(lset j).1 hj with rfl|h
    ·have hd':o.dst=some t:=by simpa[A4,ho'] using hd
     simp[hd',St.put,putE,lookup,hvi]
    ·have hne:o.dst ≠ some t:=by
      have hlt:=hI.lt j h
      obtain⟨p,hp⟩:∃p,ops[j]? =some p:=⟨_,ae hlt⟩
      have hpd:p.dst=some t:=by simpa[A4,hp] using hd
      by_cases hij:i=j
      ·subst hij;rw[hn] at h;cases h
      ·exact((I9 hok ho').2 j p t hp hij hpd).1
     rw[<- hI.ran j t h hd]
     cases hd2:o.dst with
     |none=>rfl
     |some d=>
      have:aG d t=false:=as6 fun e:d=t=>hne (by rw[hd2,e])
      simp[St.put,putE,lookup,this]
   ·have hne:o.dst ≠ some t:=by
     have:=ht i ((lset i).2 (.inl rfl))
     simpa[A4,ho'] using this
    rw[<- hI.rest t fun j hj=>ht j ((lset j).2 (.inr hj))]
    cases hd2:o.dst with
    |none=>rfl
    |some d=>
     have:aG d t=false:=as6 fun e:d=t=>hne (by rw[hd2,e])
     simp[St.put,putE,lookup,this]
   ·have hcount:(listed.toList.filter (fun b=>b)).length+1<=((listed.setIfInBounds i true).toList.filter (fun b=>b)).length:=by
     rw[Array.toList_setIfInBounds]
     refine count_set ?_
     have:i<listed.size:=by omega
     simp[this] at hn
     simp[this,hn]
    omega
  unfold wpOpIn
  rw[ho]
  simp only
  unfold wpListIn at hrun
  by_cases hwt:Region.wanted o (yielded ops.toArray a.tmps)=true
  ·rw[if_pos hwt] at hrun ⊢
   refine⟨hrun.1,uponIn_mono (fun a' w' h=>next a' w' h) (fun e a' w' hne h=> ?_) hrun.2⟩
   obtain⟨s0,φ0,⟨he,_⟩,_⟩:=h
   exact absurd he hne
  ·rw[if_neg hwt] at hrun ⊢
   exact⟨hrun.1,next _ _ hrun.2⟩
def draw_any{base:Env}{σ:b6}{V:List T}(q:T2 X=true)(z:cA V=cA X)(each:∀(i:Nat) (o:Oper) (v:T),X[i]? =some o->V[i]? =some v->∀E:Env,AOps r d a X.toArray (Only (St.put ⟨w6 X V base o++E,σ⟩ o.dst v)) [o] ⟨w6 X V base o++E,σ⟩){l:Cx}(u:l.σ0=d)(n:∀E k c w,(∀j t,A4 X j=some t->lookup t E=V[j]?)->(∀t,(∀j,A4 X j ≠ some t)->lookup t E=lookup t base)->R l a ⟨E,σ⟩ k c w->lift l a s .normal c w):
  ∀(h:Nat) (g:Array Bool) (E:Env) (k:Phi) (c:Act) (w:World),g.size=cA X->DInv X V base g E->R l a ⟨E,σ⟩ k c w->(∀j,j<cA X->g.getD j false=false->True)->(cA X<=h+(g.toList.filter (fun b=>b)).length)->
   wpAnyIn (fw H) 0 r .any X.toArray (lift l a s) h g c w:=by
 intro h g E k c w x A p _ B
 exact draw_anyS (Sg:=fun _ f=>f=σ) q z (fun _ f i o v _ y _ D F _ _ _=>⟨σ,rfl,fun E _=>by have e:f=σ:=y;rw[e];exact each i o v D F E⟩) u (fun _ f E k c w y _ G J p=>by have e:f=σ:=y;rw[e] at p;exact n E k c w G J p) h g σ E k c w x rfl A p B
def aj3:∀(ops:List Oper) (V:List T) (a:Env),cA V=cA ops->(∀(i j:Nat) (o p:Oper) (t:Nat),ops[i]? =some o->ops[j]? =some p->i ≠ j->p.dst=some t->o.dst ≠ some t)->
  (∀(j t:Nat),A4 ops j=some t->lookup t (g9 ops V a)=V[j]?)/\(∀t,(∀j,A4 ops j ≠ some t)->lookup t (g9 ops V a)=lookup t a)
 |[],V,a,l,_=>⟨fun j t h=>by simp[A4] at h,fun t _=>by cases V<;>rfl⟩
 |o::ops,[],a,l,_=>by simp at l
 |o::ops,v::V,a,l,s=>by
  have g:cA V=cA ops:=by simpa using l
  have k:∀(i j:Nat) (o p:Oper) (t:Nat),ops[i]? =some o->ops[j]? =some p->i ≠ j->p.dst=some t->o.dst ≠ some t:=fun i j o p t u b w=>s (i+1) (j+1) o p t (by simpa using u) (by simpa using b) (by omega);have c:∀t,o.dst=some t->∀j,A4 ops j ≠ some t:=fun t x j b=>by
   unfold A4 at b;cases q:ops[j]? with
   |none=>rw[q] at b;cases b
   |some p=>
    rw[q] at b
    exact s (j+1) 0 p o t (by simpa using q) rfl (by omega) x (by simpa using b)
  cases f:o.dst with
  |none=>
   obtain⟨r,n⟩:=aj3 ops V a g k
   simp only[g9,f]
   refine⟨fun j t h=> ?_,fun t h=>n t fun j b=>h (j+1) (by simpa[A4] using b)⟩
   cases j with
   |zero=>simp[A4,f] at h
   |succ j=>simpa using r j t (by simpa[A4] using h)
  |some d=>
   obtain⟨r,n⟩:=aj3 ops V ((d,v)::a) g k
   simp only[g9,f]
   refine⟨fun j t h=> ?_,fun t h=> ?_⟩
   ·cases j with
    |zero=>
     have:d=t:=by simpa[A4,f] using h
     subst this
     rw[n d (c d f)]
     simp[lookup]
    |succ j=>simpa using r j t (by simpa[A4] using h)
   ·rw[n t fun j b=>h (j+1) (by simpa[A4] using b)]
    have:aG d t=false:=as6 fun e=>h 0 (by simp[A4,f,e])
    simp[lookup,this]
def AWP.draw{c:St}(H:r.follows .mixedOrders=true)(g:T2 X=true)(h:b7 r b a X c.env c.σ s X []):AWP r b a (.region x X.toArray true) s c:=fun P n d w y f Q _=>by obtain⟨V,A,B,each⟩:=b7.spec X [] h;simp only[bM] at B each;have k:∀(i j:Nat) (o p:Oper) (t:Nat),X[i]? =some o->X[j]? =some p->i ≠ j->p.dst=some t->o.dst ≠ some t:=fun i j o p t q e z l=>((I9 g q).2 j p t e z l).1;obtain⟨J,K⟩:=aj3 X V c.env A k;refine wpIn_region_any H ?_;rw[aU];refine draw_any (V:=V) (base:=c.env) (σ:=c.σ) g A (fun i o v q L E=> ?_) y (fun E n d w M N f=> ?_) (cA X) (bL (cA X) false) c.env n d _ (by simp) ⟨fun j e=> ?_,fun j o _ e=> ?_,fun j t e=> ?_,fun t _=>rfl⟩ ?_ (fun _ _ _=>Y) (by simp);have:=each i o v q L E;rwa [envAt_take (I9 g q).1] at this;refine⟨⟨g9 X V c.env,c.σ⟩,n,B,{toRs:=f.toRs,defers:=f.defers,asize:=f.asize,env:=fun t v l=>f.env t v ?_}⟩;rw[<- l];by_cases F:∃j,A4 X j=some t;obtain⟨j,e⟩:=F;exact(M j t e).trans (J j t e).symm;have G:∀j,A4 X j ≠ some t:=fun j e=>F ⟨j,e⟩;exact(N t G).trans (K t G).symm;simp[aB] at e;split at e<;>simp at e;simp[aB] at e;split at e<;>simp at e;simp[aB] at e;split at e<;>simp at e;exact {toRs:=f.toRs.drew,defers:=f.defers,asize:=f.asize,env:=fun t v l=>let ⟨u,O,U⟩:=f.env t v l; ⟨u,O,U.mono (Kept.drew w n c.σ _)⟩}
def AWP.drawI(e:r.follows .mixedOrders=true)(c:T2 X=true)(h:b7 r b a X L d s X []):AWP r b a (.region x X.toArray true) s (St.mk L d):=.draw e c h
def b7.cons{P:Program}{o:Oper}{r:List Oper}{v:T}(c:∀E:Env,AOps P b a X.toArray (Only (St.put ⟨w6 X A L o++E,d⟩ o.dst v)) [o] (St.mk (w6 X A L o++E) d))(e:b7 P b a X L d s r (A++[v])):b7 P b a X L d s (o::r) A:=⟨v,c,e⟩
def envFT(ops:List Oper)(V:List T)(a:Env)(o:Oper):List Nat->Option Env
 |[]=>some []
 |t::b=>match ar9 ops V a o t with
  |some v=>match envFT ops V a o b with
   |some r=>some ((t,v)::r)
   |none=>none
  |none=>envFT ops V a o b
def envF(ops:List Oper)(V:List T)(a:Env)(o:Oper):Option Env:=envFT ops V a o (readsOf ops o)
def ag9{o:Oper}:∀{a:List Nat} {e:Env},envFT X A L o a=some e->a.filterMap (fun t=>(ar9 X A L o t).map fun v=>(t,v))=e
 |[],e,h=>by cases h;rfl
 |t::a,e,h=>by
  simp only[envFT] at h;cases b:ar9 X A L o t with
  |none=>
   rw[b] at h
   rw[bo,b]
   exact ag9 h
  |some v=>
   rw[b] at h
   cases c:envFT X A L o a with
   |none=>simp only[c] at h;cases h
   |some r=>
    simp only[c] at h
    cases h
    rw[bo,b]
    simp only[aJ]
    rw[ag9 c]
def b7.consF{P:Program}{o:Oper}{r:List Oper}{e:Env}{c:List T}{v:T}(g:envF X A L o=some e)(h:∀E:Env,AOps P b a X.toArray (Only (St.mk (putE (e++E) o.dst v) d)) [o] (St.mk (e++E) d))(i:w8 A v=some c)(f:b7 P b a X L d s r c):b7 P b a X L d s (o::r) A:=by have j:w6 X A L o=e:=ag9 g;rw[v7 i] at f;exact⟨v,fun E=>by rw[j];exact h E,f⟩
def b7.done(h:s .normal (St.mk (g9 X A L) d)):b7 r b a X L d s [] A:=h
def memN(n:Nat):List Nat->Bool
 |[]=>false
 |m::r=>match aG m n with
  |true=>true
  |false=>memN n r
def feas(ops:List Oper)(a:List Nat)(i k:Nat):Bool:=
  (match k with
    |0=>true
    |k+1=>match a[k]? with
      |some e=> !anc ops (cA ops) i e
      |none=>true) &&
  (match a[k]? with
    |some e=> !anc ops (cA ops) e i
    |none=>true)
def effOk(ops:List Oper)(a:List Nat):Bool:=
 a.zipIdx.all fun(e,m)=>aM e (cA ops) && a.zipIdx.all fun(b,c)=> !(aM c m)||anc ops (cA ops) b e
def d9(P:Program)(σ0:b6)(d:Nat)(ops:List Oper)(a:Env)(V:List T)(c:List b6)(b:List Nat)(i:Nat)(o:Oper)(v:T):List Nat->Prop
 |[]=>True
 | k :: e => (match feas ops b i k with
  |true=>match c[k]? with
   |some σ=>∀E:Env,AOps P σ0 d ops.toArray (Only (St.put ⟨w6 ops V a o++E,σ⟩ o.dst v)) [o] ⟨w6 ops V a o++E,σ⟩
   |none=>True
  |false=>True)/\d9 P σ0 d ops a V c b i o v e
def d8(P:Program)(σ0:b6)(d:Nat)(ops:List Oper)(b:Env)(V:List T)(c:List b6)(a:List Nat)(e:List Nat):List Oper->Nat->Prop
 |[],_=>True
 | o :: r, i => (match memN i a with
  |true=>True
  |false=>match V[i]? with
   |some v=>d9 P σ0 d ops b V c a i o v e
   |none=>True)/\d8 P σ0 d ops b V c a e r (i+1)
def b8(P:Program)(σ0:b6)(e:Nat)(ops:List Oper)(c:List Nat)(a:Env)(Q:Post):List Oper->Nat->List T->List b6->b6->Prop
 |[],_,b,d,σ=>d8 P σ0 e ops a b (d++[σ]) c (ai (cA c+1)) ops 0/\Q .normal ⟨g9 ops b a,σ⟩
 |o::r,i,b,d,σ=>match memN i c with
  |true=>∃v f,(∀E:Env,AOps P σ0 e ops.toArray (Only (St.put ⟨w6 ops b a o++E,f⟩ o.dst v)) [o] ⟨w6 ops b a o++E,σ⟩)/\b8 P σ0 e ops c a Q r (i+1) (b++[v]) (d++[σ]) f
  |false=>∃v,(∀E:Env,AOps P σ0 e ops.toArray (Only (St.put ⟨w6 ops b a o++E,σ⟩ o.dst v)) [o] ⟨w6 ops b a o++E,σ⟩)/\b8 P σ0 e ops c a Q r (i+1) (b++[v]) d σ
def Stage(b:List Nat)(a:Array Bool)(k:Nat):Prop:=k<=cA b/\∀(m e:Nat),b[m]? =some e->(a.getD e false=true↔m<k)
def effOk_lt{b:List Nat}(h:effOk X b=true)(d:b[a]? =some x):x<cA X:=by simp only[effOk,af] at h;have c:=h (x,a) (aD.2 (by simpa using d));simp only[ap,aC] at c;exact c.1
def effOk_anc{b:List Nat}(h:effOk X b=true){e d:Nat}(j:b[a]? =some e)(f:b[x]? =some d)(g:x<a):anc X (cA X) d e=true:=by
 simp only[effOk,af] at h;have i:=h (e,a) (aD.2 (by simpa using j));simp only[ap,af] at i;have c:=i.2 (d,x) (aD.2 (by simpa using f));simp only[ba,cp] at c;rcases c with c|c;have:aM x a=true:=by simpa using g
 rw[this] at c;cases c;exact c
def anc_lt(a:T2 X=true):∀(f e i:Nat),anc X f e i=true->e<i
 |0,e,i,h=>by simp[anc] at h
 |f+1,e,i,h=>by simp only[anc] at h;split at h;rename_i o b;simp only[bG,ba] at h;obtain⟨x,c,h|h⟩:=h;rw[<- am h];exact(I9 a b).1 x c;exact Nat.lt_trans (anc_lt a f e x h) ((I9 a b).1 x c);cases h
def au7{a:Array Bool}{E:Env}(c:DInv X A L a E):∀(f e i:Nat) (o:Oper),X[i]? =some o->(∀x ∈ I5 o,a.getD x false=true)->anc X f e i=true->a.getD e false=true
 |0,e,i,o,_,_,h=>by simp[anc] at h
 |f+1,e,i,o,k,d,h=>by simp only[anc,k,bG,ba] at h;obtain⟨x,g,h|h⟩:=h;rw[<- am h];exact d x g;have j:=d x g;have b:=c.lt x j;exact au7 c f e x _ (ae b) (c.closed x _ (ae b) j) h
def feas_of{c:List Nat}{b:Array Bool}{E:Env}{i:Nat}{o:Oper}(f:Stage c b a)(h:DInv X A L b E)(p:X[i]? =some o)(q:b.getD i false=false)(r:∀x ∈ I5 o,b.getD x false=true):feas X c i a=true:=by
 have s:∀j,j<a->∀e,c[j]? =some e->anc X (cA X) i e=false:=fun j hk e d=>by
  have n:=(f.2 j e d).2 hk;have g:=h.lt e n;cases l:anc X (cA X) i e with
  |false=>rfl
  |true=>
   have:=au7 h _ i e _ (ae g) (h.closed e _ (ae g) n) l
   rw[q] at this;cases this
 have t:∀e,c[a]? =some e->anc X (cA X) e i=false:=fun e d=>by
  cases l:anc X (cA X) e i with
  |false=>rfl
  |true=>
   have:=(f.2 a e d).1 (au7 h _ e i o p r l)
   omega
 unfold feas;rw[ap];constructor;cases a with
 |zero=>rfl
 |succ a=>
  show(match c[a]? with|some e=> !anc X (cA X) i e|none=>true)=true
  split
  ·rename_i e d;rw[s a (by omega) e d];rfl
  ·rfl
 split;rename_i e d;rw[t e d];rfl;rfl
def stage_next{c:List Nat}{b:Array Bool}{E:Env}{i:Nat}{o:Oper}(_hok:T2 X=true)(d:effOk X c=true)(e:Stage c b a)(l:DInv X A L b E)(n:X[i]? =some o)(p:b.getD i false=false)(q:∀x ∈ I5 o,b.getD x false=true)(f:i ∈ c):c[a]? =some i:=by
 obtain⟨m,g⟩:=ar f;have s:¬ m<a:=fun h=>by have:=(e.2 m i g).2 h;rw[p] at this;cases this
 rcases az a m with j|j;have r:=(lG.1 g).1;have hk:c[a]? =some c[a]:=ae (by omega);have:=(e.2 a _ hk).1 (au7 l _ _ i o n q (effOk_anc d g hk j));omega;rw[show a=m by omega];exact g
def stage_step{c:List Nat}{b:Array Bool}(j:T2 X=true)(f:effOk X c=true)(n:Stage c b a)(d:c[a]? =some x)(q:x<b.size):Stage c (b.setIfInBounds x true) (a+1):=by
 refine⟨(lG.1 d).1,fun m e l=> ?_⟩;by_cases g:x=e;subst g;have o:m=a:=by rcases Nat.lt_trichotomy m a with h|h|h;have:=anc_lt j _ _ _ (effOk_anc f d l h);omega;exact h;have:=anc_lt j _ _ _ (effOk_anc f l d h);omega
 subst o;simp[q];rw[show(b.setIfInBounds x true).getD e false=b.getD e false by simp[aR g]];rw[n.2 m e l];constructor;omega;intro h;rcases az m a with p|p;exact p;have:m=a:=by omega
 subst this;rw[d] at l;cases l;exact absurd rfl g
def stage_keep{c:List Nat}{b:Array Bool}(d:Stage c b a)(f:x ∉ c):Stage c (b.setIfInBounds x true) a:=by refine⟨d.1,fun m e j=> ?_⟩;have g:x ≠ e:=fun h=>f (by rw[h];exact aj j);rw[show(b.setIfInBounds x true).getD e false=b.getD e false by simp[aR g]];exact d.2 m e j
def draw_anyE{base:Env}{V:List T}{effs:List Nat}{σs:List b6}(q:T2 X=true)(l:effOk X effs=true)(hV:cA V=cA X)(each:∀(i:Nat) (o:Oper) (v:T) (k:Nat) (σ:b6),X[i]? =some o->V[i]? =some v->σs[k]? =some σ->feas X effs i k=true->k<=cA effs->
   (effs[k]? =some i->∃p,σs[k+1]? =some p/\∀E:Env,AOps r d a X.toArray (Only (St.put ⟨w6 X V base o++E,p⟩ o.dst v)) [o] ⟨w6 X V base o++E,σ⟩)/\
   (i ∉ effs->∀E:Env,AOps r d a X.toArray (Only (St.put ⟨w6 X V base o++E,σ⟩ o.dst v)) [o] ⟨w6 X V base o++E,σ⟩)){x:Cx}(F:x.σ0=d)(y:∀σ E u c w,σs[cA effs]? =some σ->(∀j t,A4 X j=some t->lookup t E=V[j]?)->(∀t,(∀j,A4 X j ≠ some t)->lookup t E=lookup t base)->R x a ⟨E,σ⟩ u c w->lift x a s .normal c w):
  ∀(h:Nat) (e:Array Bool) (k:Nat) (σ:b6) (E:Env) (u:Phi) (c:Act) (w:World),e.size=cA X->σs[k]? =some σ->Stage effs e k->DInv X V base e E->R x a ⟨E,σ⟩ u c w->(cA X<=h+(e.toList.filter (fun b=>b)).length)->
   wpAnyIn (fw H) 0 r .any X.toArray (lift x a s) h e c w:=by
 intro h e k σ E u c w G g f B J hf
 refine draw_anyS (Sg:=fun e σ=>∃k,σs[k]? =some σ/\Stage effs e k) q hV (fun e σ i o v _ K hD D hv U P _=> ?_) F (fun e σ E u c w K z L M J=> ?_) h e σ E u c w G ⟨k,g,f⟩ B J hf
 ·obtain⟨k,g,f⟩:=K
  obtain⟨E0,B⟩:=hD
  obtain⟨e1,e2⟩:=each i o v k σ D hv g (feas_of f B D U P) f.1
  by_cases n:i ∈ effs
  ·have A:effs[k]? =some i:=stage_next q l f B D U P n
   obtain⟨p,L,M⟩:=e1 A
   exact⟨p,⟨k+1,L,stage_step q l f A (by have:=(lG.1 D).1;omega)⟩,fun E _=>M E⟩
  ·exact⟨σ,⟨k,g,stage_keep f n⟩,fun E _=>e2 n E⟩
 ·obtain⟨k,g,f⟩:=K
  have hk:k=cA effs:=by rcases az k (cA effs) with N|O;have Q:effs[k]? =some effs[k]:=ae N;have:=(f.2 k _ Q).1 (z _ (effOk_lt l Q));omega;exact Nat.le_antisymm f.1 O
  subst hk
  exact y σ E u c w g L M J
def J5(n:Nat):∀l:List Nat,memN n l=true↔n ∈ l
 |[]=>by simp[memN]
 |m::r=>by
  simp only[memN,aS];split;rename_i h;simp[am h];rename_i h;rw[J5 n r];have:n ≠ m:=fun e=>by subst e;simp at h
  simp[this]
def b8.spec{P:Program}{c:List Nat}:∀(r:List Oper) (j:Nat) (e:List T) (k:List b6) (σ:b6),b8 P b a X c L s r j e k σ->
  ∃(V:List T) (d:List b6) (l:b6),cA V=cA r/\d++[l]=[σ]++(d++[l]).drop 1/\d8 P b a X L (e++V) (k++(d++[l])) c (ai (cA c+1)) X 0/\s .normal ⟨g9 X (e++V) L,l⟩/\
   d.length=((cr j (cA r)).filter fun i=>memN i c).length/\
   ∀(i:Nat) (o:Oper) (v:T),r[i]? =some o->V[i]? =some v->∃f g,(d++[l])[((cr j i).filter fun i=>memN i c).length]? =some f/\(d++[l])[((cr j (i+1)).filter fun i=>memN i c).length]? =some g/\
    (memN (j+i) c=false->f=g)/\∀E:Env,AOps P b a X.toArray (Only (St.put ⟨w6 X (e++V.take i) L o++E,g⟩ o.dst v)) [o] ⟨w6 X (e++V.take i) L o++E,f⟩
 |[],j,e,k,σ,h=>⟨[],[],σ,rfl,rfl,by simpa[b8] using h.1,by simpa[b8] using h.2,rfl,fun i o v p=>by simp at p⟩
 |o::r,j,e,k,σ,h=>by
  simp only[b8] at h;split at h;rename_i n;obtain⟨v,q,w,x⟩:=h;obtain⟨V,d,l,y,t,z,A,B,D⟩:=b8.spec r (j+1) (e++[v]) (k++[σ]) q x;refine⟨v::V,σ::d,l,by simp[y],by simp,by simpa using z,by simpa using A,by simp[aQ,n,B],fun i F G p u=> ?_⟩;match i with
  |0=>
   cases p;cases u
   refine⟨σ,q,by simp,?_,fun h=>(by rw[aV,n] at h;cases h),fun E=>by simpa using w E⟩
   simp only[aX,List.range'_one,aF,n,if_true,bb,ax,aT]
   rw[bF,bK,t]
   rfl
  |i+1=>
   obtain⟨f,g,H,J,K,M⟩:=D i F G (by simpa using p) (by simpa using u)
   refine⟨f,g,?_,?_,fun h=>K (by rw[show j+1+i=j+(i+1) by omega];exact h),fun E=>by simpa using M E⟩
   ·simpa[aQ,n] using H
   ·rw[aQ,aF,n]
    simpa using J
  rename_i n;obtain⟨v,w,x⟩:=h;obtain⟨V,d,l,y,t,z,A,B,D⟩:=b8.spec r (j+1) (e++[v]) k σ x;refine⟨v::V,d,l,by simp[y],t,by simpa using z,by simpa using A,by simp[aQ,n,B],fun i F G p u=> ?_⟩;match i with
  |0=>
   cases p;cases u
   refine⟨σ,σ,by rw[t];rfl,?_,fun _=>rfl,fun E=>by simpa using w E⟩
   simp only[aX,List.range'_one,aF,n,bt,if_false,bb,aT]
   rw[t];rfl
  |i+1=>
   obtain⟨f,g,H,J,K,M⟩:=D i F G (by simpa using p) (by simpa using u)
   refine⟨f,g,?_,?_,fun h=>K (by rw[show j+1+i=j+(i+1) by omega];exact h),fun E=>by simpa using M E⟩
   ·simpa[aQ,n] using H
   ·rw[aQ,aF,n]
    simpa using J
def d9.get{d:List b6}{c:List Nat}{i:Nat}{o:Oper}{v:T}:∀{f:List Nat},d9 r b a X L A d c i o v f->∀k ∈ f,∀σ,feas X c i k=true->d[k]? =some σ->∀E:Env,AOps r b a X.toArray (Only (St.put ⟨w6 X A L o++E,σ⟩ o.dst v)) [o] ⟨w6 X A L o++E,σ⟩
 |[],_,k,hk=>by simp at hk
 |j::f,h,k,hk=>fun σ g e=>by rcases aS.1 hk with rfl|hk;have:=h.1;rw[g] at this;simp only[e] at this;exact this;exact d9.get h.2 k hk σ g e
def d8.get{P:Program}{e:List b6}{c:List Nat}{k:List Nat}:∀{r:List Oper} {d:Nat},d8 P b a X L A e c k r d->∀(i:Nat) (o:Oper) (v:T),r[i]? =some o->A[d+i]? =some v->memN (d+i) c=false->d9 P b a X L A e c (d+i) o v k
 |[],_,_,i,o,v,f,_,_=>by simp at f
 |l::r,d,h,i,o,v,f,g,j=>by
  match i with
  |0=>
   cases f
   have:=h.1
   rw[aV] at j g
   rw[j] at this
   simp only[g] at this
   simpa using this
  |i+1=>
   have:=d8.get h.2 i o v (by simpa using f) (by rw[show d+1+i=d+(i+1) by omega];exact g) (by rw[show d+1+i=d+(i+1) by omega];exact j)
   rwa [show d+1+i=d+(i+1) by omega] at this
def rising:List Nat->Bool
 |a::b::r=>aM a b && rising (b::r)
 |_=>true
def count_rising:∀(effs:List Nat) (n:Nat),rising effs=true->(∀e ∈ effs,e<n)->((ai n).filter fun i=>memN i effs).length=cA effs/\∀k e,effs[k]? =some e->((ai e).filter fun i=>memN i effs).length=k:=by
 intro effs;have sorted:∀l:List Nat,rising l=true->l.Pairwise (· < ·):=by
  intro l;induction l with
  |nil=>intro _;exact .nil
  |cons a l ih=>
   intro h
   cases l with
   |nil=>simp
   |cons b l=>
    simp only[rising,ap,aC] at h
    have hp:=ih h.2
    refine bc.2 ⟨fun c hc=> ?_,hp⟩
    rcases aS.1 hc with rfl|hc
    ·exact h.1
    ·exact Nat.lt_trans h.1 ((bc.1 hp).1 c hc)
 have key:∀(l:List Nat),l.Pairwise (· < ·)->∀m,((ai m).filter fun i=>memN i l).length=(l.filter fun e=>decide (e<m)).length:=by
  intro l hl m;induction m with
  |zero=>
   have:l.filter (fun e=>decide (e<0))=[]:=bN.2 fun e _=>by simp
   rw[this]
   rfl
  |succ m ih=>
   rw[List.range_succ,bZ,aL,ih]
   clear ih
   induction l with
   |nil=>simp[memN]
   |cons a l ihl=>
    have hl':=(bc.1 hl)
    have:=ihl hl'.2
    by_cases ham:a=m
    ·subst ham
     have hn:memN a l=false:=by
      cases hb:memN a l with
      |false=>rfl
      |true=>exact absurd (hl'.1 a ((J5 a l).1 hb)) (aO a)
     have hn2:memN a (a::l)=true:=(J5 a _).2 (by simp)
     simp only[aF,bb,hn,hn2,aO,decide_false,Nat.lt_succ_self,decide_true,if_true,bt,if_false,aT,ax,aV] at this ⊢
     omega
    ·have hn2:memN m (a::l)=memN m l:=by
      cases hb:memN m l with
      |true=>exact(J5 m _).2 (bR _ ((J5 m l).1 hb))
      |false=>
       cases hb2:memN m (a::l) with
       |false=>rfl
       |true=>
        rcases aS.1 ((J5 m _).1 hb2) with h|h
        ·exact absurd h.symm ham
        ·rw[(J5 m l).2 h] at hb;cases hb
     simp only[aF,bb,hn2] at this ⊢
     by_cases h1:a<m
     ·have h2:a<m+1:=by omega
      simp only[h1,h2,decide_true,if_true,ax]
      omega
     ·have h2:¬ a<m+1:=by omega
      simp only[h1,h2,decide_false,bt,if_false]
      exact this
 intro n hr hn;have hp:=sorted effs hr;refine⟨?_,fun k e he=> ?_⟩;rw[key effs hp n,List.filter_eq_self.2 fun e he=>by simpa using hn e he];rw[key effs hp e];clear hn key sorted hr;induction effs generalizing k with
 |nil=>simp at he
 |cons a l ih=>
  have hp':=bc.1 hp
  cases k with
  |zero=>
   simp only[bH,Option.some.injEq] at he
   subst he
   rw[List.length_eq_zero_iff,bN]
   intro x hx
   rcases aS.1 hx with rfl|hx
   ·simp
   ·have:=hp'.1 x hx
    simp;omega
  |succ k=>
   simp only[bK] at he
   have:=ih hp'.2 k he
   have hlt:=hp'.1 e (aj he)
   simp only[aF,hlt,decide_true,if_true,ax,this]
def AWP.drawE{c:St}(f:List Nat)(J:r.follows .mixedOrders=true)(y:T2 X=true)(l:effOk X f=true)(D:rising f=true)(h:b8 r b a X f c.env s X 0 [] [] c.σ):AWP r b a (.region x X.toArray true) s c:=fun Γ H d w K q ro _=>by
 obtain⟨V,L,Q,hV,g2,g3,hQ,g5,each⟩:=b8.spec X 0 [] [] c.σ h;simp only[bM] at hQ each g3;obtain⟨c1,c2⟩:=count_rising f (cA X) D (fun e M=>by obtain⟨m,J⟩:=ar M;exact effOk_lt l J);rw[<- bm,c1] at g5;have z:∀(i j:Nat) (o p:Oper) (t:Nat),X[i]? =some o->X[j]? =some p->i ≠ j->p.dst=some t->o.dst ≠ some t:=fun i j o p t F g N G=>((I9 y F).2 j p t g N G).1;obtain⟨e1,e2⟩:=aj3 X V c.env hV z;refine wpIn_region_any J ?_;rw[aU];refine draw_anyE (V:=V) (base:=c.env) (effs:=f) (σs:=L++[Q]) y l hV (fun i o v k σ F hv n hf hk=>⟨fun A=> ?_,fun O E=> ?_⟩) K (fun σ E H d w n h1 h2 q=> ?_) (cA X) (bL (cA X) false) 0 c.σ c.env H d _ (by simp) (by rw[g2];rfl) ⟨bO _,fun m e M=> ?_⟩ ⟨fun j g=> ?_,fun j o _ g=> ?_,fun j t g=> ?_,fun t _=>rfl⟩ ?_ (by simp);obtain⟨ad,U,k1,P,_,k4⟩:=each i o v F hv;rw[<- bm,c2 k i A,n] at k1;cases k1;have B:memN i f=true:=(J5 i f).2 (aj A);rw[<- bm,List.range_succ,bZ,aL,c2 k i A] at P;simp only[aF,B,if_true,bb,ax,aT] at P;refine⟨U,P,fun E=> ?_⟩;have:=k4 E;rwa [envAt_take (I9 y F).1] at this;have B:memN i f=false:=by
  cases hb:memN i f with
  |false=>rfl
  |true=>exact absurd ((J5 i f).1 hb) O
 have:=d8.get g3 i o v F (by simpa using hv) (by simpa using B);rw[aX] at this;exact this.get k (by simp;omega) σ hf n E;have:σ=Q:=by rw[<- g5] at n;simpa using n.symm
 subst this;refine⟨⟨g9 X V c.env,σ⟩,H,hQ,{toRs:=q.toRs,defers:=q.defers,asize:=q.asize,env:=fun t v G=>q.env t v ?_}⟩;rw[<- G];by_cases hx:∃j,A4 X j=some t;obtain⟨j,g⟩:=hx;exact(h1 j t g).trans (e1 j t g).symm;have hn:∀j,A4 X j ≠ some t:=fun j g=>hx ⟨j,g⟩;exact(h2 t hn).trans (e2 t hn).symm;have:e<cA X:=effOk_lt l M;simp[this];simp[aB] at g;split at g<;>simp at g;simp[aB] at g;split at g<;>simp at g;simp[aB] at g;split at g<;>simp at g;exact {toRs:=q.toRs.drew,defers:=q.defers,asize:=q.asize,env:=fun t v G=>let ⟨u,hu,hr⟩:=q.env t v G; ⟨u,hu,hr.mono (Kept.drew w H c.σ _)⟩}
def AWP.drawEI(c:List Nat)(i:r.follows .mixedOrders=true)(g:T2 X=true)(e:effOk X c=true)(f:rising c=true)(h:b8 r b a X c L s X 0 [] [] d):AWP r b a (.region x X.toArray true) s (St.mk L d):=.drawE c i g e f h
def b8.consN{P:Program}{c:List Nat}{o:Oper}{r:List Oper}{e:Env}{f:List T}{g:List b6}{v:T}(j:memN x c=false)(k:envF X A L o=some e)(l:∀E:Env,AOps P b a X.toArray (Only (St.mk (putE (e++E) o.dst v) d)) [o] (St.mk (e++E) d))(n:w8 A v=some f)(h:b8 P b a X c L s r (x+1) f g d):b8 P b a X c L s (o::r) x A g d:=by
 have p:w6 X A L o=e:=ag9 k
 rw[v7 n] at h
 simp only[b8,j]
 exact⟨v,fun E=>by rw[p];exact l E,h⟩
def b8.consE{P:Program}{c:List Nat}{o:Oper}{r:List Oper}{e:Env}{f:List T}{j g:List b6}{h:b6}{v:T}(l:memN x c=true)(n:envF X A L o=some e)(p:∀E:Env,AOps P b a X.toArray (Only (St.mk (putE (e++E) o.dst v) h)) [o] (St.mk (e++E) d))(q:w8 A v=some f)(t:w8 j d=some g)(k:b8 P b a X c L s r (x+1) f g h):b8 P b a X c L s (o::r) x A j d:=by
 have u:w6 X A L o=e:=ag9 n
 rw[v7 q,v7 t] at k
 simp only[b8,l]
 exact⟨v,h,fun E=>by rw[u];exact p E,k⟩
def b8.done{c:List Nat}{f e:List b6}(j:w8 f d=some e)(g:d8 r b a X L A e c (ai (cA c+1)) X 0)(h:s .normal (St.mk (g9 X A L) d)):b8 r b a X c L s [] x A f d:=by rw[v7 j] at g;exact⟨g,h⟩
def d8.nil{c e:List Nat}{d:List b6}:d8 r b a X L A d c e [] x:=trivial
def d8.skip{P:Program}{c e:List Nat}{d:List b6}{o:Oper}{r:List Oper}(f:memN x c=true)(h:d8 P b a X L A d c e r (x+1)):d8 P b a X L A d c e (o::r) x:=by
 simp only[d8,f];exact⟨trivial,h⟩
def d8.cons{P:Program}{c e:List Nat}{d:List b6}{o:Oper}{r:List Oper}{v:T}(f:memN x c=false)(g:A[x]? =some v)(j:d9 P b a X L A d c x o v e)(h:d8 P b a X L A d c e r (x+1)):d8 P b a X L A d c e (o::r) x:=by
 simp only[d8,f,g];exact⟨j,h⟩
def d9.nil{c:List Nat}{d:List b6}{o:Oper}{v:T}:d9 r b a X L A d c x o v []:=trivial
def d9.skip{c:List Nat}{d:List b6}{o:Oper}{v:T}{k:Nat}{e:List Nat}(f:feas X c x k=false)(h:d9 r b a X L A d c x o v e):d9 r b a X L A d c x o v (k::e):=by
 simp only[d9,f];exact⟨trivial,h⟩
def d9.go{c:List Nat}{e:Env}{f:List b6}{o:Oper}{v:T}{k:Nat}{g:List Nat}(j:f[k]? =some d)(l:envF X A L o=some e)(n:∀E:Env,AOps r b a X.toArray (Only (St.mk (putE (e++E) o.dst v) d)) [o] (St.mk (e++E) d))(h:d9 r b a X L A f c x o v g):d9 r b a X L A f c x o v (k::g):=by
 have p:w6 X A L o=e:=ag9 l;simp only[d9,j];refine⟨?_,h⟩;split;exact fun E=>by rw[p];exact n E
 trivial
class PlacesC (P:Program) (fs:List Field) (places:outParam (List (Nat×Nat))):Prop where
 h:∀(i:Nat) (f:Field),fs[i]? =some f->∃n j,places[i]? =some (f.offset,n)/\P.info? f.type=some j/\j.size=n
 len:cA places=cA fs
instance (P:Program):PlacesC P [] []:=⟨fun i f h=>by simp at h,rfl⟩
instance (P:Program)(f:Field)(fs:List Field)(n b:Nat)(z:Vl)(r:List (Nat×Nat))[h:TyS P f.type n b z][k:PlacesC P fs r]:PlacesC P (f::fs) ((f.offset,n)::r):=
 ⟨fun i g a=>by
  obtain⟨j,c,d,_⟩:=h.h;match i with
  |0=>cases a;exact⟨n,j,rfl,c,d⟩
  |i+1=>simpa using k.h i g (by simpa using a),by simp[k.len]⟩
def evP(env:Env):List (Nat×Od)->Option (List (Nat×T))
 |[]=>some []
 |(i,x)::r=>match ev env x,evP env r with
  |some t,some a=>some ((i,t)::a)
  |_,_=>none
def fillC(a:Nat->Option (Nat×Nat)):List C->List (Nat×T)->Option (List C)
 |cs,[]=>some cs
 |cs,(i,v)::r=>match a i,ac7 v with
  |some (b,size),some vs=>match aG (cA vs) size && aY (b+cA vs) (cA cs) with
   |true=>fillC a (cs.take b++vs++cs.drop (b+cA vs)) r
   |false=>none
  |_,_=>none
def foldl_set:∀(l:List Vl) (p a:Nat) (b:Array Vl),a+p+cA l<=b.size->((l.zipIdx p).foldl (fun cs (c,j)=>cs.setIfInBounds (a+j) c) b).size=b.size/\
  ∀i,((l.zipIdx p).foldl (fun cs (c,j)=>cs.setIfInBounds (a+j) c) b)[i]? =if a+p<=i/\i<a+p+cA l then l[i - (a+p)]? else b[i]? :=by
 intro l
 induction l with
 |nil=>intro p a b _;exact⟨rfl,fun i=>by simp;omega⟩
 |cons c l f=>
  intro p a b g
  simp only[ax] at g
  simp only[cy,List.foldl_cons]
  obtain⟨h,k⟩:=f (p+1) a (b.setIfInBounds (a+p) c) (by simp;omega)
  refine⟨by rw[h];simp,fun i=> ?_⟩
  rw[k]
  by_cases e:a+(p+1)<=i/\i<a+(p+1)+cA l
  ·rw[if_pos e,if_pos (by simp;omega)]
   rw[show i - (a+p)=(i - (a+(p+1)))+1 by omega]
   simp
  ·rw[if_neg e]
   by_cases d:i=a+p
   ·subst d
    rw[if_pos (by simp)]
    have n:a+p<b.size:=by omega
    simp[n]
   ·rw[if_neg (by simp;omega)]
    simp[bq];omega
def RelL(w:World)(b:Phi)(σ:b6)(A:Nat->Prop)(cs:List C)(a:Array Vl):Prop:=a.size=cA cs/\∀(i:Nat) (c:C),cs[i]? =some c->∃v,a[i]? =some v/\RelC w b σ A c v
def aA5{w:World}{z:Phi}{place:Nat->Option (Nat×Nat)}:∀{parts:List (Nat×T)} {vs:List (Nat×Vl)} {cs g:List C} {d:Array Vl},cA parts=cA vs->
  (∀(i:Nat) (p:Nat×T) (q:Nat×Vl),parts[i]? =some p->vs[i]? =some q->p.1=q.1/\RelT w z b l p.2 q.2)->RelL w z b l cs d->fillC place cs parts=some g->
  ∃e,Instr.fill place d vs=some e/\RelL w z b l g e
 |[],[],cs,g,d,_,_,o,h=>by cases h;exact⟨d,rfl,o⟩
 |(i,t)::parts,(i',v)::vs,cs,g,d,r,H,o,h=>by
  obtain⟨J,K⟩:=H 0 _ _ rfl rfl;dsimp only at J K;subst J;simp only[fillC] at h;split at h<;>try cases h
  rename_i a size k M N;split at h<;>try cases h
  rename_i B;simp only[ap] at B;have n:cA k=size:=am B.1;have s:a+cA k<=cA cs:=aA B.2;obtain⟨D,O⟩:=W3 K N;have P:=foldl_set v.cells.toList 0 a d (by simp[D,o.1];omega);obtain⟨f1,f2⟩:=P;have f:v.cells.zipIdx.foldl (fun cs (c,j)=>cs.setIfInBounds (a+j) c) d=(v.cells.toList.zipIdx 0).foldl (fun cs (c,j)=>cs.setIfInBounds (a+j) c) d:=by rw[<- bY,bW]
  generalize (v.cells.toList.zipIdx 0).foldl (fun cs (c,j)=>cs.setIfInBounds (a+j) c) d=x at f1 f2 f;have E:RelL w z b l (cs.take a++k++cs.drop (a+cA k)) x:=by
   refine⟨by rw[f1,o.1];simp;omega,fun q c y=> ?_⟩;rw[D3 cs k a q s] at y;rw[f2];have Q:cA v.cells.toList=cA k:=by simp[D]
   by_cases L:a<=q/\q<a+cA k;rw[if_pos L] at y;rw[if_pos (by omega)];obtain⟨u,U,F⟩:=O _ c y;exact⟨u,by simpa using U,F⟩;rw[if_neg L] at y;rw[if_neg (by omega)];exact o.2 q c y
  obtain⟨e,V,X⟩:=aA5 (parts:=parts) (vs:=vs) (by simpa using r) (fun j p q A G=>H (j+1) p q (by simpa using A) (by simpa using G)) E h;refine⟨e,?_,X⟩;simp only[Instr.fill,M];rw[if_neg (by simp[D,n,o.1];omega)];rw[f];exact V
 |[],_::_,_,_,_,r,_,_,_=>by simp at r
 |_::_,[],_,_,_,r,_,_,_=>by simp at r
def evP_rel{j:Cx}{f:Phi}{c:Act}(k:R j a (St.mk L b) f c g):∀{l:List (Nat×Od)} {d:List (Nat×T)},evP L l=some d->cA d=(l.map fun p=>(p.1,c.eval p.2)).length/\
  ∀(i:Nat) (p:Nat×T) (q:Nat×Vl),d[i]? =some p->(l.map fun p=>(p.1,c.eval p.2))[i]? =some q->p.1=q.1/\RelT g f b (Al j.N f b) p.2 q.2
 |[],d,h=>by cases h;exact⟨rfl,fun i p q e=>by simp at e⟩
 |(y,x)::r,d,h=>by
  simp only[evP] at h;split at h<;>cases h;rename_i t0 o s t;obtain⟨u,v⟩:=evP_rel k t;refine⟨by simpa using u,fun i p q e n=> ?_⟩;match i with
  |0=>cases e;cases n;exact⟨rfl,m9 k s⟩
  |i+1=>exact v i p q (by simpa using e) (by simpa using n)
def zero_rel{w:World}(a:aj2 p=some (.agg y)):RelL w q b l y p.cells:=by have:=W3 (ai1 (w:=w) (φ:=q) (σ:=b) (A:=l) a) rfl;exact⟨this.1,this.2⟩
def relL_agg{d:Array Vl}(h:RelL g q b l y d):RelT g q b l (.agg y) (.agg d):=by
 obtain⟨a⟩:=d;refine RelT.agg' (by simpa using h.1.symm) fun i c v e f=> ?_;obtain⟨u,j,k⟩:=h.2 i c e;have:u=v:=by simpa[f] using j.symm
 subst this;exact k
def AOps.build{q:b6}{ops:Array Oper}{rest:List Oper}{t:Ti}{A:Array Field}{parts:List (Nat×Od)}{E:List (Nat×T)}{b:Nat}{cs:List C}{g:List (Nat×Nat)}[ht:TyD r t (.struct A)][hs:TyS r t x b p][hp:PlacesC r A.toList g](hz:aj2 p=some (.agg y))(D:evP L parts=some E)(hf:fillC (fun i=>g[i]?) y E=some cs)(G:h9 a H=true)(h:AOps r d a ops s rest (St.mk (putE L H (.agg cs)) q)):AOps r d a ops s (⟨H,.build t parts.toArray,M,P,Q,none⟩::rest) (St.mk L q):=
 .value rfl G _ (fun Γ φ c w J=>by
  obtain⟨K,N⟩:=evP_rel J D;obtain⟨o,O,U⟩:=aA5 (w:=w) K N (zero_rel hz) hf;refine⟨.agg o,?_,relL_agg U⟩;have V:∀(l:List Field) (k:List (Nat×Nat)),cA k=cA l->(∀(i:Nat) (f:Field),l[i]? =some f->∃x j,k[i]? =some (f.offset,x)/\r.info? f.type=some j/\j.size=x)->
    (l.mapM (fun f=>Functor.map (Prod.mk f.offset) (Go.sizeOf f.type):Field->Sem (Nat×Nat))).run r w=.ok k w:=by
   intro l
   induction l with
   |nil=>intro k B _;cases k with|nil=>rfl|cons=>simp at B
   |cons f l X=>
    intro k B F
    cases k with
    |nil=>simp at B
    |cons e k=>
     obtain⟨x,j,n,z,h3⟩:=F 0 f rfl
     cases n
     have:=X k (by simpa using B) (fun i f hi=>by simpa using F (i+1) f (by simpa using hi))
     simp[List.mapM_cons,Go.sizeOf,typeInfo,z,h3] at this ⊢
     simp[this]
  have u:=V A.toList g hp.len hp.h;have e1:(execOp c.eval ⟨H,.build t parts.toArray,M,P,Q,none⟩).run r w=((Instr.build t (parts.map fun e=>(e.1,c.eval e.2)).toArray).run r w).andThen fun v w=>.ok (.value v) w:=by simp[execOp]
  rw[e1];have e2:(Instr.build t (parts.map fun e=>(e.1,c.eval e.2)).toArray).run r w=.ok (.agg o) w:=by obtain⟨fl⟩:=A;simp only[Instr.build];rw[Sem.run_bind,am6 (t:=t)];simp only[Result.andThen,Sem.run_bind,run_underlying ht.h,cq];simp at u;simp[u,O]
  rw[e2];rfl) h
/-! ### Comparisons -/
class EqT (P:Program) (t:Ti):Prop where
 held:P.stoodInHeld t=false
 guard:P.eqGuardType P.depth t=false
def ax8{op:BinOp}[h:EqT r M](x y:Od)(a b:Array Vl)(w:World):(eqGuard op M x y (.agg a) (.agg b)).run r w=.ok () w:=by
 cases op<;>simp[eqGuard,h.guard]
def aA2{P:Program}(d:Nat){t:Ti}{k:IntKind}[h:TyD P t (.int k)](a b:Int)(w:World):(Op.equalIn (d+1) t (.int k a) (.int k b)).run P w=.ok (a==b) w:=by
 simp[Op.equalIn,run_underlying h.h]
def run_equal_pair'(d : Nat){f0 f1:Field}{f g:IntKind}[q : TyD r M (.struct #[f0, f1])][s : TyD r f0.type (.int f)][u : TyD r f1.type (.int g)][v : EqT r M](i : (f0.name == "_")=false)(j:(f1.name== "_")=false)(l:f0.offset=0)(n:f1.offset=1)(a0 a1 o p:Int)(w:World):(Op.equalIn (d+2) M (.agg #[.int f a0,.int g a1]) (.agg #[.int f o,.int g p])).run r w=.ok (decide (a0=o) && decide (a1=p)) w:=by
 have c:¬ f0.name= "_" :=by simpa using i
 have e:¬ f1.name= "_" :=by simpa using j
 have x:=fun a b=>aA2 (P:=r) d (t:=f0.type) (k:=f) a b w
 have y:=fun a b=>aA2 (P:=r) d (t:=f1.type) (k:=g) a b w
 rw[Op.equalIn]
 by_cases h:a0=o<;>by_cases z:a1=p<;>simp[run_underlying q.h,v.held,c,e,part,ag8 s.h,ag8 u.h,D8,l,n,x,y,h,z]
def aA3{P:Program}{t : Ti}{f0 f1 : Field}{k0 k1 : IntKind}[g : TyD P t (.struct #[f0, f1])][h : TyD P f0.type (.int k0)][i : TyD P f1.type (.int k1)][j : EqT P t](a : (f0.name == "_")=false)(b:(f1.name== "_")=false)(c:f0.offset=0)(d:f1.offset=1)
  (a0 a1 e f:Int) (w:World):(Op.equal t (.agg #[.int k0 a0,.int k1 a1]) (.agg #[.int k0 e,.int k1 f])).run P w=.ok (decide (a0=e) && decide (a1=f)) w:=
 run_equal_pair' 9998 a b c d a0 a1 e f w
def run_equal_bool[c:TyD r M .bool](d:Nat)(a b:Bool)(w:World):(Op.equalIn (d+1) M (.bool a) (.bool b)).run r w=.ok (a==b) w:=by
 simp[Op.equalIn,run_underlying c.h]
def aA9{j:Phi}{v x:Vl}(h:RelT g j b l (.agg [.imm (.val p),.imm (.val v)]) x):x=.agg #[p,v]:=by
 obtain⟨vs,k,n,i⟩:=RelT.agg_inv h;obtain⟨a,c,d⟩:=i 0 _ rfl;obtain⟨q,e,f⟩:=i 1 _ rfl;cases d with|imm d=>cases f with|imm f=>
  cases d
  cases f
  match vs,n,c,e with
  |[o,r],_,c,e=>cases c;cases e;exact k
def AOps.eqlP{ops:Array Oper}{rest:List Oper}{t q:Ti}{f0 f1:Field}{f g:IntKind}{y:Od}{a0 a1 i j:Int}[F : TyD r t (.struct #[f0, f1])][G : TyD r f0.type (.int f)][J : TyD r f1.type (.int g)][K : EqT r t](k : (f0.name == "_")=false)(l:(f1.name== "_")=false)(n:f0.offset=0)(o:f1.offset=1)(u:ev L B=some (.agg [.imm (.val (.int f a0)),.imm (.val (.int g a1))]))(v:ev L y=some (.agg [.imm (.val (.int f i)),.imm (.val (.int g j))]))(z:h9 a H=true)(h:AOps r b a ops s rest (St.mk (putE L H (.c (bool (decide (a0=i) && decide (a1=j))))) d)):AOps r b a ops s (⟨H,.binOp .eql t B y q,M,P,Q,none⟩::rest) (St.mk L d):=
 .value rfl z _ (fun N O e w p=>⟨.bool (decide (a0=i) && decide (a1=j)),by have A:=aA9 (m9 p u);have D:=aA9 (m9 p v);have E:=aA3 (P:=r) (t:=t) (f0:=f0) (f1:=f1) (k0:=f) (k1:=g) k l n o a0 a1 i j w;simp[execOp,A,D,ax8,binOp,E],.bool _⟩) h
def AOps.neqP{ops:Array Oper}{rest:List Oper}{t q:Ti}{f0 f1:Field}{f g:IntKind}{y:Od}{a0 a1 i j:Int}[F : TyD r t (.struct #[f0, f1])][G : TyD r f0.type (.int f)][J : TyD r f1.type (.int g)][K : EqT r t](k : (f0.name == "_")=false)(l:(f1.name== "_")=false)(n:f0.offset=0)(o:f1.offset=1)(u:ev L B=some (.agg [.imm (.val (.int f a0)),.imm (.val (.int g a1))]))(v:ev L y=some (.agg [.imm (.val (.int f i)),.imm (.val (.int g j))]))(z:h9 a H=true)(h:AOps r b a ops s rest (St.mk (putE L H (.c (bool (!(decide (a0=i) && decide (a1=j)))))) d)):AOps r b a ops s (⟨H,.binOp .neq t B y q,M,P,Q,none⟩::rest) (St.mk L d):=
 .value rfl z _ (fun N O e w p=>⟨.bool (!(decide (a0=i) && decide (a1=j))),by have A:=aA9 (m9 p u);have D:=aA9 (m9 p v);have E:=aA3 (P:=r) (t:=t) (f0:=f0) (f1:=f1) (k0:=f) (k1:=g) k l n o a0 a1 i j w;simp[execOp,A,D,ax8,binOp,E],.bool _⟩) h
def binOp_eqlB[c:TyD r M .bool](a b:Bool)(w:World):(binOp .eql M (.bool a) (.bool b)).run r w=.ok (.bool (decide (a=b))) w:=by have:(Op.equal M (.bool a) (.bool b)).run r w=.ok (a==b) w:=run_equal_bool 9999 a b w;simp[binOp,this];cases a<;>cases b<;>rfl
theorem AOps.eqlB{P:Program}{σ0:b6}{sz:Nat}{Q:Post}{env:Env}{σv:b6}{ops:Array Oper}{rest:List Oper}{dst:Option Nat}{ty:Ti}{pos:String}{after:Array Edge}{t t':Ti}{x y:Od}{a b:Bool}[ht:TyD P t .bool](hx:ev env x=some (.c (bool a)))(hy:ev env y=some (.c (bool b)))(hd:h9 sz dst=true)
  (h:AOps P σ0 sz ops Q rest (St.mk (putE env dst (.c (bool (decide (a=b))))) σv)):AOps P σ0 sz ops Q (⟨dst,.binOp .eql t x y t',ty,pos,after,none⟩::rest) (St.mk env σv):=
 .bin hx hy hd rfl (fun w=>by simp[go_sem]) (fun w=>binOp_eqlB a b w) h
/-! ### An array as' a slice -/
def AOps.sliceArrI{k:b6}{ops:Array Oper}{rest:List Oper}{t e:Ti}{len b:Nat}{cs:List I}[A:TyD r t (.array len e)][U:TyS r e 1 b p](l:ev L B=some (.c (.imm (.ipt cs))))(V:len<=cA cs)(q:aY len 1000000=true)(D:h9 a H=true)(h:AOps r d a ops s rest (St.mk (putE L H (.c (.imm (.sl 1 ((cs.take len).map fun c=>[c]))))) k)):AOps r d a ops s (⟨H,.slice t B none none none,M,P,Q,none⟩::rest) (St.mk L k):=
 .value rfl D _ (fun E F f w G=>by
  obtain⟨u,J,K,v⟩:=ipt_inv (m9 G l);have y:len<=1000000:=aA q;have n:((cs.take len).map fun c=>[c]).length=len:=by simp;omega
  refine⟨.slice (some u) len len,?_,.c (.imm ?_)⟩;simp[execOp,K,Instr.sliceAt,Instr.sureAddr,run_underlying A.h,Instr.sliceBounds,p7 (t:=e)];exact fun _=>Addr.add_zero' u;have:RelI w (Al E.N F k) (.sl 1 ((cs.take len).map fun c=>[c])) (.slice (some u) ((cs.take len).map fun c=>[c]).length len):=by
   have get:∀(j:Nat) (e:List I),((cs.take len).map fun c=>[c])[j]? =some e->∃c,cs[j]? =some c/\e=[c]:=fun j e i=>by rw[lM,oM] at i;obtain⟨c,g,O⟩:=i;rw[au] at g;split at g;exact⟨c,g,O.symm⟩;cases g
   refine .sl (fun j o=>J (j * 1+o)) (by omega) (by simp only[maxLen];omega) (fun j e i=> ?_) (fun j e o B i l=> ?_) (fun j e o B i l=> ?_);obtain⟨c,_,rfl⟩:=get j e i;rfl;obtain⟨c,g,rfl⟩:=get j e i;match o with
   |0=>cases l;exact⟨(v _ _ g).1,by simpa using(v _ _ g).2.1⟩
   |o+1=>simp at l
   obtain⟨c,g,rfl⟩:=get j e i;match o with
   |0=>cases l;simpa using(v _ _ g).2.2
   |o+1=>simp at l
  rwa [n] at this) h
def AWP.condT{e:b6}{c d:Code}(f:ev L B=some (.c (bool true)))(h:AWP r b a c s (St.mk L e)):AWP r b a (.cond B c d) s (St.mk L e):=.cond f (fun _=>h) (fun h=>by cases h)
def AWP.condF{e:b6}{c d:Code}(f:ev L B=some (.c (bool false)))(h:AWP r b a d s (St.mk L e)):AWP r b a (.cond B c d) s (St.mk L e):=.cond f (fun h=>by cases h) (fun _=>h)
def AWP.condD{e:b6}{c d:Code}{p:Prop}[Decidable p](f:ev L B=some (.c (bool (decide p))))(g:p->AWP r b a c s (St.mk L e))(i:¬ p->AWP r b a d s (St.mk L e)):AWP r b a (.cond B c d) s (St.mk L e):=
 .cond f (fun h=>g (of_decide_eq_true h)) (fun h=>i (of_decide_eq_false h))
def AWP.condN{e:b6}{c d:Code}{p:Prop}[Decidable p](f:ev L B=some (.c (bool (!decide p))))(g:¬ p->AWP r b a c s (St.mk L e))(i:p->AWP r b a d s (St.mk L e)):AWP r b a (.cond B c d) s (St.mk L e):=
 .cond f (fun h=>g (of_decide_eq_false (by simpa using h))) (fun h=>i (of_decide_eq_true (by simpa using h)))
def AWP.condB{σ0:b6}{e:b6}{c d:Code}{b:Bool}(f:ev L B=some (.c (bool (!b))))(g:b=false->AWP r σ0 a c s (St.mk L e))(i:b=true->AWP r σ0 a d s (St.mk L e)):AWP r σ0 a (.cond B c d) s (St.mk L e):=
 .cond f (fun h=>g (by simpa using h)) (fun h=>i (by simpa using h))
def AWP.condE{e:b6}{c d:Code}{p q:Prop}[Decidable p][Decidable q](f:ev L B=some (.c (bool (!(decide p && decide q)))))(g:¬ (p/\q)->AWP r b a c s (St.mk L e))(i:p->q->AWP r b a d s (St.mk L e)):AWP r b a (.cond B c d) s (St.mk L e):=
 .cond f (fun h=>g (fun⟨j,k⟩=>by simp[j,k] at h)) (fun h=>by
  have:p/\q:=by simpa using h
  exact i this.1 this.2)
def AOps.J{e:b6}{ops:Array Oper}{rest:List Oper}{op:Op}{t:Nat}{b f:Bool}(g:(ops[x]?).bind (·.dst)=some t)(i:lookup t L=some (.c (bool f)))(k:h9 a H=true)(l:f=b)(h:AOps r d a ops s (⟨H,op,M,P,Q,none⟩::rest) (St.mk L e)):
  AOps r d a ops s (⟨H,op,M,P,Q,some (x,b)⟩::rest) (St.mk L e):=.guard g i k (fun _=>h) (fun n=>by subst l;cases f<;>cases n)
def AOps.guardF{e:b6}{ops:Array Oper}{rest:List Oper}{op:Op}{t:Nat}{b f:Bool}(g:(ops[x]?).bind (·.dst)=some t)(i:lookup t L=some (.c (bool f)))(k:h9 a H=true)(l:f= !b)(h:AOps r d a ops s rest (St.mk (putE L H .undef) e)):
  AOps r d a ops s (⟨H,op,M,P,Q,some (x,b)⟩::rest) (St.mk L e):=.guard g i k (fun n=>by subst n;cases f<;>cases l) (fun _=>h)
def AOps.lenB{ops:Array Oper}{rest:List Oper}{p:Type}{f:p->List I}{l:List p}{t e:Ti}{k:Nat}[G:TyD r t (.slice e)](q:ev L B=some (.c (.imm (.sl k (l.map f)))))(z:h9 a H=true)(h:cA l<=9223372036854775807->AOps r b a ops s rest (St.mk (putE L H (.c (int (cA l)))) d)):AOps r b a ops s (⟨H,.call ⟨.builtin .len,#[B],#[t]⟩,M,P,Q,none⟩::rest) (St.mk L d):=fun A D g w n v=>by
 have E:cA l<=9223372036854775807:=by
  have i:=m9 v q;generalize g.eval B=u at i;cases i with|c i=>cases i with|imm i=>
   generalize o:l.map f=F at i
   have:cA l=cA F:=by rw[<- o];simp
   cases i with
   |slNil=>rw[this];exact bO _
   |sl J y j hk K i=>simp only[maxLen] at j;omega
 exact AOps.lenL q z (h E) A D g w n v
def AOps.lenOwnB{g:b6}{ops:Array Oper}{rest:List Oper}{t e:Ti}{j n k:Nat}[K:TyD r t (.slice e)](p:ev L B=some (.c (.own c j n)))(i:g[c]? =some (some (.cells k V)))(y:h9 a H=true)(h:n<=9223372036854775807->AOps r d a ops s rest (St.mk (putE L H (.c (int n))) g)):AOps r d a ops s (⟨H,.call ⟨.builtin .len,#[B],#[t]⟩,M,P,Q,none⟩::rest) (St.mk L g):=fun z A f w o q=>by
 have D:n<=9223372036854775807:=by rcases H1 (m9 q p) i with⟨_,_,_,N⟩|⟨b,u,E,F,G,O,U,X,J,v,l,_,_,_⟩;omega;simp only[maxLen] at l;omega
 exact AOps.lenOwn p i y (h D) z A f w o q
def AWP.frz{σ0:b6}{c:Code}{d e:Env}{σ2:b6}(id:Id)(k:Nat)(f:List (List I))(j:K7 L d)(g:aY (cA σ0) id.1=true)(i:b[id]? =some (some (Blk.im k f)))(l:K7 (St.frz ⟨d,b⟩ id k f).env e)(n:(St.frz ⟨d,b⟩ id k f).σ=σ2)(h:AWP r σ0 a c s (St.mk e σ2)):AWP r σ0 a c s (St.mk L b):=
 AWP.sub (Sub.env j) (AWP.sub (Sub.frz id k f (aA g) i) (AWP.sub (s':=⟨e,σ2⟩) (by subst n;exact Sub.env l) h))
def AOps.frz{σ0:b6}{rest:List Oper}{c d:Env}{σ2:b6}(id:Id)(k:Nat)(e:List (List I))(i:K7 L c)(f:aY (cA σ0) id.1=true)(g:b[id]? =some (some (Blk.im k e)))(j:K7 (St.frz ⟨c,b⟩ id k e).env d)(l:(St.frz ⟨c,b⟩ id k e).σ=σ2)(h:AOps r σ0 a t s rest (St.mk d σ2)):AOps r σ0 a t s rest (St.mk L b):=
 AOps.sub (Sub.env i) (AOps.sub (Sub.frz id k e (aA f) g) (AOps.sub (s':=⟨d,σ2⟩) (by subst l;exact Sub.env j) h))
def idF{a:Type}:List a->Option Nat
 |[]=>some 0
 |_::l=>match idF l with
  |some 0=>some 1
  |some 1=>some 2
  |some 2=>some 3
  |some 3=>some 4
  |some 4=>some 5
  |some 5=>some 6
  |some 6=>some 7
  |some 7=>some 8
  |some 8=>some 9
  |some 9=>some 10
  |some 10=>some 11
  |some 11=>some 12
  |some 12=>some 13
  |some 13=>some 14
  |some 14=>some 15
  |some 15=>some 16
  |some 16=>some 17
  |some 17=>some 18
  |some 18=>some 19
  |some 19=>some 20
  |some 20=>some 21
  |some 21=>some 22
  |some 22=>some 23
  |some 23=>some 24
  |some 24=>some 25
  |some 25=>some 26
  |some 26=>some 27
  |some 27=>some 28
  |some 28=>some 29
  |some 29=>some 30
  |some 30=>some 31
  |some 31=>some 32
  |some 32=>some 33
  |some 33=>some 34
  |_=>none
def ag1{b:Type}:∀{l:List b} {n:Nat},idF l=some n->n=cA l
 |[],n,h=>by cases h;rfl
 |a::l,n,h=>by
  simp only[idF] at h;split at h<;>first
   |(cases h;done)
   |(rename_i c;have:=ag1 c;cases h;simp only[ax];omega)
def setF{b:Type}:List b->Nat->b->Option (List b)
 |[],_,_=>none
 |_::l,0,x=>some (x::l)
 |a::l,n+1,x=>match setF l n x with
  |some r=>some (a::r)
  |none=>none
def Q7{b:Type}:∀{l:List b} {n:Nat} {x:b} {r:List b},setF l n x=some r->r=l.set n x/\n<cA l
 |[],n,x,r,h=>by cases h
 |a::l,0,x,r,h=>by cases h;exact⟨rfl,by simp⟩
 |a::l,n+1,x,r,h=>by simp only[setF] at h;split at h<;>cases h;rename_i c;have:=Q7 c;exact⟨by rw[this.1];rfl,by simp[this.2]⟩
def newF(σ:b6):Option Id:=match idF σ with
 |some n=>some (n,[])
 |none=>none
def D6(h:newF b=some c):c=(cA b,[]):=by unfold newF at h;split at h;rename_i n a;cases h;rw[ag1 a];cases h
def putEnt:Ent->List Nat->Option Blk->Option Ent
 | .one _,[],some b=>some (.one b)
 | .one _,[],none=>some .dead
 | .node _ s,[],b=>some (.node b s)
 |_,_,_=>none
def putEnt_eq{e a:Ent}{p:List Nat}{b:Option Blk}(h:putEnt e p b=some a):a=e.put p b:=by unfold putEnt at h;split at h<;>first|(cases h;rfl)|(cases h)
def putFn:b6->Nat->List Nat->Option Blk->Option b6
 |[],_,_,_=>none
 |e::l,0,p,b=>match putEnt e p b with
  |some a=>some (a::l)
  |none=>none
 |e::l,n+1,p,b=>match putFn l n p b with
  |some r=>some (e::r)
  |none=>none
def putF(σ:b6)(i:Id)(b:Option Blk):Option b6:=putFn σ i.1 i.2 b
def putFn_eq:∀{σ r:b6} {n:Nat} {p:List Nat} {b:Option Blk},putFn σ n p b=some r->r=σ.put (n,p) b
 |[],r,n,p,b,h=>by cases h
 |e::l,r,0,p,b,h=>by simp only[putFn] at h;split at h;rename_i d a;cases h;rw[putEnt_eq a];simp[b6.put];cases h
 |e::l,r,n+1,p,b,h=>by simp only[putFn] at h;split at h;rename_i f c;cases h;rw[putFn_eq c];simp[b6.put];cases h
def putF_eq{r:b6}{b:Option Blk}(h:putF d c b=some r):r=d.put c b:=putFn_eq h
def dropF{a:Type}:Nat->List a->Option (List a)
 |0,l=>some l
 |n+1,_::l=>dropF n l
 |_+1,[]=>none
def ax2{b:Type}:∀{n:Nat} {l r:List b},dropF n l=some r->r=l.drop n/\n<=cA l
 |0,l,r,h=>by cases h;exact⟨rfl,bO _⟩
 |n+1,a::l,r,h=>by have:=ax2 (n:=n) (l:=l) h;exact⟨this.1,by simp;exact this.2⟩
 |n+1,[],r,h=>by cases h
def takeF{b:Type}:Nat->List b->Option (List b)
 |0,_=>some []
 |n+1,a::l=>match takeF n l with
  |some r=>some (a::r)
  |none=>none
 |_+1,[]=>none
def takeF_eq{b:Type}:∀{n:Nat} {l r:List b},takeF n l=some r->r=l.take n/\n<=cA l
 |0,l,r,h=>by cases h;exact⟨rfl,bO _⟩
 |n+1,a::l,r,h=>by simp only[takeF] at h;split at h<;>cases h;rename_i c;have:=takeF_eq c;exact⟨by rw[this.1];rfl,by simp;exact this.2⟩
 |n+1,[],r,h=>by cases h
def immF:List I->Option (List C)
 |[]=>some []
 |x::l=>match immF l with
  |some r=>some (.imm x::r)
  |none=>none
def immF_eq:∀{l:List I} {r:List C},immF l=some r->r=l.map .imm
 |[],r,h=>by cases h;rfl
 |x::l,r,h=>by simp only[immF] at h;split at h<;>cases h;rename_i a;rw[immF_eq a];rfl
def Y7{b:Type}(e:List b)(o:Nat)(cs:List b):Option (List b):=match e,o,cs with
 |e,_,[]=>some e
 |[],_,_::_=>none
 |_::e,0,c::cs=>match Y7 e 0 cs with
  |some r=>some (c::r)
  |none=>none
 |a::e,o+1,c::cs=>match Y7 e o (c::cs) with
  |some r=>some (a::r)
  |none=>none
def spliceF_eq{g:Type}:∀{e:List g} {o:Nat} {cs r:List g},cs ≠ []->Y7 e o cs=some r->r=e.take o++cs++e.drop (o+cA cs)/\o+cA cs<=cA e:=by
 have zero:∀(e cs r:List g),Y7 e 0 cs=some r->r=cs++e.drop (cA cs)/\(cA cs)<=cA e:=by
  intro e;induction e with
  |nil=>intro cs r h;cases cs with|nil=>cases h;exact⟨rfl,by simp⟩|cons=>simp[Y7] at h
  |cons a e i=>
   intro cs r h
   cases cs with
   |nil=>simp[Y7] at h;subst h;exact⟨rfl,by simp⟩
   |cons c cs=>
    simp only[Y7] at h
    split at h<;>cases h
    rename_i k j
    obtain⟨d,f⟩:=i cs k j
    exact⟨by rw[d];rfl,by simp;exact f⟩
 intro e;induction e with
 |nil=>intro o cs r b h;cases cs with|nil=>exact absurd rfl b|cons=>simp[Y7] at h
 |cons a e i=>
  intro o cs r b h
  cases cs with
  |nil=>exact absurd rfl b
  |cons c cs=>
   cases o with
   |zero=>
    obtain⟨d,f⟩:=zero _ _ _ h
    exact⟨by rw[d];simp,by simpa using f⟩
   |succ o=>
    simp only[Y7] at h
    split at h<;>cases h
    rename_i k j
    obtain⟨d,f⟩:=i (by simp) j
    refine⟨?_,?_⟩
    ·rw[d]
     simp only[List.take_succ_cons,bF,ax]
     rw[show o+1+(cA cs+1)=(o+(cA cs+1))+1 by omega,List.drop_succ_cons]
    ·simp only[ax] at f ⊢;omega
class TyZ (P:Program) (t:Ti) (zc:outParam (List C)):Prop where
 h:∃size bytes z v,TyS P t size bytes z/\aj2 z=some v/\ac7 v=some zc
theorem TyZ.of{bytes:Nat}[h:TyS r a x bytes p](b:(aj2 p).bind ac7=some y):TyZ r a y:=by
 cases c:aj2 p with
 |none=>rw[c] at b;cases b
 |some v=>rw[c] at b;exact⟨x,bytes,p,v,h,c,b⟩
class FieldC (P:Program) (t f:Nat) (off ft:outParam Nat):Prop where
 h:∃(fs:Array Field) (fd:Field),P.underlying t=some (.struct fs)/\fs[f]? =some fd/\fd.offset=off/\fd.type=ft
theorem FieldC.of{b e:Nat}{d:Array Field}[g:TyD r a (.struct d)]{c:Field}(i:d[x]? =some c)(j:c.offset=b)(k:c.type=e):FieldC r a x b e:=⟨d,c,g.h,i,j,k⟩
class FlatC (P:Program) (t n:Nat):Prop where
 h:∃(fs:Array Field),P.underlying t=some (.struct fs)/\fs.size=n/\∀(i:Nat) (f:Field),fs[i]? =some f->f.offset=i/\∃j,P.info? f.type=some j/\j.size=1
def ones(l:List (Nat×Nat))(i:Nat):Bool:=match l with
 |[]=>true
 |(o,n)::r=>aG o i && aG n 1 && ones r (i+1)
def ones_get:∀{l:List (Nat×Nat)} {i:Nat},ones l i=true->∀(j:Nat) (p:Nat×Nat),l[j]? =some p->p=(i+j,1)
 |[],_,_,j,p,h=>by simp at h
 |(o,n)::r,i,a,j,p,h=>by
  simp only[ones,ap] at a;match j with
  |0=>cases h;rw[am a.1.1,am a.1.2];rfl
  |j+1=>
   have:=ones_get a.2 j p (by simpa using h)
   rw[this]
   congr 1
   omega
theorem FlatC.of{c:Array Field}{b:List (Nat×Nat)}[d:TyD r a (.struct c)][e:PlacesC r c.toList b](g:c.size=x)(k:ones b 0=true):FlatC r a x:=
 ⟨c,d.h,g,fun i f l=>by obtain⟨m,j,o,p,q⟩:=e.h i f (by simpa using l);have:=ones_get k i _ o;simp only[aX,Prod.mk.injEq] at this;exact⟨this.1,j,p,by rw[q];exact this.2⟩⟩
def fillF:List C->List (Nat×T)->Option (List C)
 |cs,[]=>some cs
 |cs,(i,.c c)::r=>match setF cs i c with
  |some a=>fillF a r
  |none=>none
 |_,_=>none
def fillF_eq{b:Nat->Option (Nat×Nat)}(hp:∀i,i<a->b i=some (i,1)):∀{cs:List C} {g:List (Nat×T)} {d:List C},cA cs=a->fillF cs g=some d->fillC b cs g=some d
 |cs,[],d,_,h=>h
 |cs,(i,.c c)::r,d,k,h=>by
  simp only[fillF] at h;split at h<;>try cases h
  rename_i f l;obtain⟨j,o⟩:=Q7 l;simp only[fillC,hp i (by omega),ac7];rw[show(aG [c].length 1 && aY (i+[c].length) (cA cs))=true by simp only[ax,aT,ap];exact⟨rfl,Nat.ble_eq_true_of_le (by omega)⟩];have e:cs.take i++[c]++cs.drop (i+[c].length)=f:=by rw[j,bf,if_pos o,bA];rfl
  simp only[e];exact fillF_eq hp (by rw[j];simpa using k) h
 |_,(_,.agg _)::_,_,_,h=>by cases h
 |_,(_,.tup _)::_,_,_,h=>by cases h
 |_,(_,.undef)::_,_,_,h=>by cases h
def W.box{e:b6}{ops:Array Oper}{rest:List Oper}{t:Ti}{v:T}{k:Nat}(i:ev L B=some v)(j:ac7 v=some y)(hk:idF y=some k)(f:newF d=some c)(g:w8 d (.one (.cells k [y]))=some e)(l:h9 a H=true)(h:AOps r b a ops s rest ⟨putE L H (.c (.ptr c 0 0)),e⟩):AOps r b a ops s (⟨H,.box t B,M,P,Q,none⟩::rest) ⟨L,d⟩:=by
 have n:=ag1 hk;have o:=D6 f;have p:=v7 g
 subst n o p
 exact .box i j l h
def W.alloc{e:b6}{ops:Array Oper}{rest:List Oper}{t:Ti}{k:Nat}[hz:TyZ r t y](hk:idF y=some k)(f:newF d=some c)(g:w8 d (.one (.cells k [y]))=some e)(j:h9 a H=true)(h:AOps r b a ops s rest ⟨putE L H (.c (.ptr c 0 0)),e⟩):AOps r b a ops s (⟨H,.alloc t,M,P,Q,none⟩::rest) ⟨L,d⟩:=by
 have l:=ag1 hk;have n:=D6 f;have o:=v7 g
 subst l n o
 obtain⟨size,bytes,z,v,i,p,q⟩:=hz.h
 exact AOps.alloc (hs:=i) p q j h
def W.store{g:b6}{ops:Array Oper}{rest:List Oper}{f:Od}{t:Ti}{bytes:Nat}{id:Id}{o k:Nat}{e:List C}{c:C}[hs:TyS r t 1 bytes p](n:ev L B=some (.c (.ptr id 0 o)))(q:ev L f=some (.c c))(j:d[id]? =some (some (.cells k [e])))(u:setF e o c=some y)(i:putF d id (some (.cells k [y]))=some g)(h:AOps r b a ops s rest ⟨L,g⟩):AOps r b a ops s (⟨none,.store t B f,M,P,Q,none⟩::rest) ⟨L,d⟩:=by
 have l:=Q7 u;have v:=putF_eq i
 obtain⟨l,w⟩:=l
 subst l v
 exact .store n q j rfl w h
def W.storeAgg{g:b6}{ops:Array Oper}{rest:List Oper}{f:Od}{t:Ti}{size bytes:Nat}{o k:Nat}{q cs:List C}[hs:TyS r t size bytes p](u:ev L B=some (.c (.ptr c 0 o)))(v:ev L f=some (.agg cs))(j:d[c]? =some (some (.cells k [y])))(w:idF cs=some size)(A:aM 0 size=true)(D:Y7 y o cs=some q)(i:putF d c (some (.cells k [q]))=some g)(h:AOps r b a ops s rest ⟨L,g⟩):AOps r b a ops s (⟨none,.store t B f,M,P,Q,none⟩::rest) ⟨L,d⟩:=by
 have l:=ag1 w
 have n:cs ≠ []:=fun E=>by subst E;simp at l;subst l;cases A
 obtain⟨F,H⟩:=spliceF_eq n D
 have G:=putF_eq i
 subst F G
 exact .storeAgg u v j rfl (by omega) l.symm h
def W.loadAgg{f:b6}{ops:Array Oper}{rest:List Oper}{t:Ti}{d:TypeDesc}{size bytes:Nat}{j o k:Nat}{n cs:List C}[ht:TyD r t d][hs:TyS r t size bytes p](q:D8 d=true)(u:ev L B=some (.c (.ptr c j o)))(g:f[c]? =some (some (.cells k V)))(v:V[j]? =some y)(i:dropF o y=some n)(l:takeF size n=some cs)(w:h9 a H=true)(h:AOps r b a ops s rest ⟨putE L H (.agg cs),f⟩):AOps r b a ops s (⟨H,.load t B,M,P,Q,none⟩::rest) ⟨L,f⟩:=by
 obtain⟨i,D⟩:=ax2 i
 obtain⟨l,A⟩:=takeF_eq l
 subst i l
 exact .loadAgg q u g v (by simp at A;omega) w h
def W.loadIAgg{e:b6}{ops:Array Oper}{rest:List Oper}{t:Ti}{d:TypeDesc}{size bytes:Nat}{cs f:List I}[ht:TyD r t d][hs:TyS r t size bytes p](j:D8 d=true)(k:ev L B=some (.c (.imm (.ipt cs))))(g:takeF size cs=some f)(i:immF f=some y)(l:h9 a H=true)(h:AOps r b a ops s rest ⟨putE L H (.agg y),e⟩):AOps r b a ops s (⟨H,.load t B,M,P,Q,none⟩::rest) ⟨L,e⟩:=by
 obtain⟨g,n⟩:=takeF_eq g
 have i:=immF_eq i
 subst g i
 exact .loadIAgg j k n l h
def W.fieldAddr{ops:Array Oper}{rest:List Oper}{t:Ti}{f j k e i size bytes:Nat}[l:FieldC r t f e i][hs:TyS r i size bytes p](o:aG size 0=false)(q:ev L B=some (.c (.ptr c j 0)))(g:d[c]? =some (some (.cells k V)))(u:h9 a H=true)(h:AOps r b a ops s rest ⟨putE L H (.c (.ptr c j e)),d⟩):AOps r b a ops s (⟨H,.fieldAddr t B f,M,P,Q,none⟩::rest) ⟨L,d⟩:=by
 obtain⟨D,E,v,w,y,A⟩:=l.h
 subst y A
 exact AOps.fieldAddr (ht:=⟨v⟩) w (by cases size with|zero=>cases o|succ n=>rfl) q g u (by rw[aX];exact h)
def W.build{ops:Array Oper}{rest:List Oper}{t n:Ti}{parts:List (Nat×Od)}{ps:List (Nat×T)}{cs:List C}[hf:FlatC r t n][hz:TyZ r t y](u:idF y=some n)(B:evP L parts=some ps)(D:fillF y ps=some cs)(hd:h9 a H=true)(h:AOps r b a ops s rest ⟨putE L H (.agg cs),d⟩):AOps r b a ops s (⟨H,.build t parts.toArray,M,P,Q,none⟩::rest) ⟨L,d⟩:=by
 obtain⟨E,U,V,X⟩:=hf.h
 obtain⟨size,bytes,z,v,hs,g1,F⟩:=hz.h
 have k:=ag1 u
 have o:PlacesC r E.toList ((ai n).map fun i=>(i,1)):=⟨fun i f q=>by
  have G:E[i]? =some f:=by simpa using q
  obtain⟨k1,j,k2,k3⟩:=X i f G;have:i<n:=by rw[<- V];exact(aN.1 G).1
  exact⟨1,j,by simp[this,k1],k2,k3⟩,by simp[V]⟩
 have hv:v=.agg y\/(∃x,v=.c x/\y=[x]):=by
  cases v with
  |c x=>cases F;exact .inr ⟨x,rfl,rfl⟩
  |agg cs=>cases F;exact .inl rfl
  |tup _=>cases F
  |undef=>cases F
 have ad:D8 (.struct E)=true:=rfl
 rcases hv with rfl|⟨x,rfl,rfl⟩
 ·exact AOps.build (ht:=⟨U⟩) (hs:=hs) (hp:=o) g1 B (fillF_eq (fun i q=>by simp[q]) k.symm D) hd h
 · -- a struct whose zero is one cell: read as' a list of one cell all the same
  refine AOps.value rfl hd _ (fun Γ J e w hR=> ?_) h
  obtain⟨k1,k2⟩:=evP_rel hR B
  have aa:RelL w J d (Al Γ.N J d) [x] z.cells:=by have:=W3 (ai1 (w:=w) (φ:=J) (σ:=d) (A:=Al Γ.N J d) g1) F;exact⟨this.1,this.2⟩
  obtain⟨K,e1,e2⟩:=aA5 (w:=w) (place:=fun i=>((ai n).map fun i=>(i,1))[i]?) k1 k2 aa (fillF_eq (fun i q=>by simp[q]) k.symm D)
  refine⟨.agg K,?_,relL_agg e2⟩
  have hm:∀(l:List Field) (g:List (Nat×Nat)),cA g=cA l->(∀(i:Nat) (f:Field),l[i]? =some f->∃n j,g[i]? =some (f.offset,n)/\r.info? f.type=some j/\j.size=n)->
    (l.mapM (fun f=>Functor.map (Prod.mk f.offset) (Go.sizeOf f.type):Field->Sem (Nat×Nat))).run r w=.ok g w:=by
   intro l
   induction l with
   |nil=>intro g u _;cases g with|nil=>rfl|cons=>simp at u
   |cons f l ih=>
    intro g u hh
    cases g with
    |nil=>simp at u
    |cons p g=>
     obtain⟨n,j,U,V,X⟩:=hh 0 f rfl
     cases U
     have:=ih g (by simpa using u) (fun i f q=>by simpa using hh (i+1) f (by simpa using q))
     simp[List.mapM_cons,Go.sizeOf,typeInfo,V,X] at this ⊢
     simp[this]
  have O:=hm E.toList _ o.len o.h
  obtain⟨fl⟩:=E
  have e3:(execOp e.eval ⟨H,.build t parts.toArray,M,P,Q,none⟩).run r w=((Instr.build t (parts.map fun p=>(p.1,e.eval p.2)).toArray).run r w).andThen fun v w=>.ok (.value v) w:=by simp[execOp]
  rw[e3]
  simp only[Instr.build]
  rw[Sem.run_bind,am6 (t:=t)]
  simp only[Result.andThen,Sem.run_bind,run_underlying U,cq]
  simp at O e1
  simp[O,e1]
def W.lit1{σ':b6}{ops:Array Oper}{rest:List Oper}{t e:Ti}{k bytes:Nat}{v:T}[E:TyD r t (.slice e)][F:TyS r e k bytes p](f:(p.cells.size==k)=true)(g:aY k 16777216=true)(i:aM 0 k=true)(n:ev L B=some v)(o:ac7 v=some y)(q:idF y=some k)(j:newF d=some c)(l:w8 d (.one (.cells k [y]))=some σ')(u:h9 a H=true)(h:AOps r b a ops s rest ⟨putE L H (.c (.own c 0 1)),σ'⟩):AOps r b a ops s (⟨H,.buildSlice t 1 #[(0,B)],M,P,Q,none⟩::rest) ⟨L,d⟩:=by
 have w:=ag1 q;have A:=D6 j;have D:=v7 l
 subst A D
 exact .lit1 f g i n o w.symm u h
def W.make{g:b6}{ops:Array Oper}{rest:List Oper}{f:Od}{t e:Ti}{k bytes:Nat}{n:Nat}[ht:TyD r t (.slice e)][E:TyZ r e y][hs:TyS r e k bytes p](hk:idF y=some k)(F:ev L B=some (.c (int (n:Int))))(G:ev L f=some (.c (int (n:Int))))(D:n<=9223372036854775807)(hb:bytes * n<=281474976710656)(q:newF d=some c)(u:w8 d (.one (.cells k (br n y)))=some g)(J:h9 a H=true)(h:AOps r b a ops s rest ⟨putE L H (.c (.own c 0 n)),g⟩):AOps r b a ops s (⟨H,.makeSlice t B f,M,P,Q,none⟩::rest) ⟨L,d⟩:=by
 have K:=ag1 hk;have N:=D6 q;have O:=v7 u
 subst N O
 obtain⟨w,o,z',v,A,U,V⟩:=E.h
 obtain⟨i,X,e2,e3,x⟩:=hs.h
 obtain⟨i',j,z,aa,l⟩:=A.h
 rw[X] at j;cases j
 rw[x] at l;cases l
 refine AOps.make (hs:=hs) U V (by rw[K];simp) F G (Int.natCast_nonneg n) (by omega) (by
  have:((bytes * n:Nat):Int)<=281474976710656:=by omega
  rwa [Int.natCast_mul] at this) J ?_
 rw[Int.toNat_natCast]
 exact h
end Ab
