/-
  Texts that the proof stands on.
-/
import Derived.WalkKit
import Derived.Sort.LoopGhostIn
import Derived.CallsIn
import Derived.TacticsIn
import Derived.RangeFuncNested
import Derived.RangeFuncLeaves
import Derived.RegionTactic
import Derived.OrdersIn
set_option linter.all false
open List renaming getElem?_eq_getElem->ae,all_eq_true->af,eq_nil_of_length_eq_zero->ah,range->ai,mem_of_getElem?->aj,getElem?_of_mem->ar,getElem?_take->au,getElem?_drop->aw,length_cons->ax,mem_zipIdx_iff_getElem?->aD,getElem?_append_right->aE,filter_cons->aF,getElem?_append_left->aH,getElem?_modify->aI,length_append->aL,range'_succ->aQ,mem_cons->aS,length_nil->aT,size_toArray->aU,append_nil->aZ,filter_nil->bc,pairwise_cons->bd,set_eq_take_append_cons_drop->bg,length_map->bl,getElem?_append->bm,range_eq_range'->bn,map_congr_left->bo,filterMap_cons->bp,take_zero->bq,replicate->bt,map_cons->bw,ext_getElem?->bA,append_assoc->bE,mem_of_find?_eq_some->bF,cons_append->bG,any_eq_true->bH,getElem?_cons_zero->bI,getElem?_replicate->bK,getElem?_cons_succ->bL,nil_append->bN,filter_eq_nil_iff->bO,getElem?_toArray->bQ,mem_cons_of_mem->bS,mem_iff_getElem->bU,filter_append->cp,getElem?_set->cq,mapM_toArray->cu,range'->cw,length_take->cy,length_drop->cA,zipIdx_cons->cC,length->cD
open Nat renaming lt_of_lt_of_le->ag,mul_le_mul_right->ak,eq_of_beq_eq_true->am,add_mul->aq,lt_or_ge->az,le_of_ble_eq_true->aA,blt_eq->aC,beq->aG,le_refl->aK,blt->aM,lt_irrefl->aO,le_trans->aP,add_zero->aV,mul_comm->aW,zero_add->aX,ble->aY,one_mul->bf,add_assoc->bh,le_mul_of_pos_right->bJ,zero_le->bP,not_lt->bT,div_lt_of_lt_mul->bV,pos_of_ne_zero->bY
open Bool renaming and_eq_true->ap,or_eq_true->ba,false_eq_true->bu,not_eq_true'->cr
open Array renaming getElem?_replicate->aB,getElem?_eq_some_iff->aN,getElem?_setIfInBounds_ne->aR,getElem?_setIfInBounds->br,replicate->bM,length_toList->bW,toList_zipIdx->bX,foldl_toList->bZ
open Option renaming map_some->aJ,map_eq_map->bz,map->bR
namespace Ab
open Go
variable{d H:Nat}{g:World}{l:Nat->Prop}{r:Program}{B:Option Nat}{P:String}{Q:Array Edge}{X:List Nat}
abbrev Od:=Go.Operand
variable{A:Od}
abbrev Ti:=Go.TypeId
variable{M:Ti}
abbrev Vl:=Go.Value
variable{p:Vl}
def lS{b:Type}{l:List b}{i:Nat}{a:b}:(l.set i a).length=cD l:=List.length_set
def lG{b:Type}{l:List b}{i:Nat}{a:b}:l[i]?=some a↔∃h:i<cD l,l[i]=a:=List.getElem?_eq_some_iff
def lM{a b:Type}{f:a->b}{l:List a}{i:Nat}:(l.map f)[i]?=bR f l[i]?:=List.getElem?_map
def oM{c d:Type}{f:c->d}{x:Option c}{b:d}:x.map f=some b↔∃a,x=some a/\f a=b:=Option.map_eq_some_iff
abbrev LL:=List (List Int)
abbrev Li:=List Int
def Z.{u}{α:Sort u}{a:α}:a=a:=rfl
def Y:True:=trivial
def oB{b c:Type}(a:b)(f:b->Option c):(some a).bind f=f a:=rfl
def bft(b:Bool):b=true\/b=false:=Bool.eq_false_or_eq_true b
def oi{c:Type}{a b:c}(h:some a=some b):a=b:=Option.some.inj h
def o2{e f:Type}{a c:e}{b d:f}(h:some (a,b)=some (c,d)):a=c/\b=d:=by cases h;exact⟨rfl,rfl⟩
def o4{i j l n:Type}{a c:i}{b d:j}{e f:l}{g h:n}(k:some (a,b,e,g)=some (c,d,f,h)):a=c/\b=d/\e=f/\g=h:=by cases k;exact⟨rfl,rfl,rfl,rfl⟩
def o5{l n o p q:Type}{a c:l}{b d:n}{e f:o}{g h:p}{i j:q}(k:some (a,b,e,g,i)=some (c,d,f,h,j)):a=c/\b=d/\e=f/\g=h/\i=j:=by cases k;exact⟨rfl,rfl,rfl,rfl,rfl⟩
def o6{n o p q r s:Type}{a c:n}{b d:o}{e f:p}{g h:q}{i j:r}{l m:s}(k:some (a,b,e,g,i,l)=some (c,d,f,h,j,m)):a=c/\b=d/\e=f/\g=h/\i=j/\l=m:=by cases k;exact⟨rfl,rfl,rfl,rfl,rfl,rfl⟩
def o3{g i j:Type}{a c:g}{b d:i}{e f:j}(h:some (a,b,e)=some (c,d,f)):a=c/\b=d/\e=f:=by cases h;exact⟨rfl,rfl,rfl⟩
inductive I where
 |val (v:Vl)
 |sl (k:Nat) (es:List (List I))
 |ipt (cs:List I)
 |fn (f:FuncId) (caps:List I)
abbrev Id:=Nat×List Nat
variable{b:Id}
instance (n:Nat):OfNat Id n:=⟨(n,[])⟩
inductive C where
 |imm (x:I)
 |own (id:Id) (j n:Nat)
 |ptr (id:Id) (j o:Nat)
 |fn (f:FuncId) (caps:List C)
 |ifc (t:Ti) (cs:List C) (agg:Bool)
 |map (id:Id)
 |fnb (f:FuncId) (caps:List C)
 |yld (id:Id)
variable{t:List C}{V:List (List C)}
inductive T where
 |c (x:C)
 |agg (cs:List C)
 |tup (ts:List T)
 |undef
variable{y:List T}
inductive Blk where
 |cells (k:Nat) (es:List (List C))
 |obj (p:Obj->List Vl->Prop) (cs:List C)
inductive Ent where
 |dead
 |one (b:Blk)
 |node (main:Option Blk) (subs:List Ent)
abbrev b6:=List Ent
variable{a c:b6}
abbrev Env:=List (Nat×T)
variable{L:Env}
abbrev Phi:=Id->Option (Nat×Nat)
variable{q:Phi}
def Ent.sub:Ent->List Nat->Option Blk
 | .dead,_=>none
 | .one b,[]=>some b
 | .one _,_::_=>none
 | .node m _,[]=>m
 | .node _ s,i::p=>match s[i]? with
  |some e=>e.sub p
  |none=>none
def Ent.opt:Option Blk->Ent
 |none=>.dead
 |some b=>.one b
def Ent.put:Ent->List Nat->Option Blk->Ent
 | .dead,[],b=>.opt b
 | .one _,[],b=>.opt b
 | .node _ s,[],b=>.node b s
 | .node m s,i::p,b=>.node m (s.modify i fun e=>e.put p b)
 | .dead,_::_,_=>.dead
 | .one c,_::_,_=>.one c
def b6.at(σ:b6)(i:Id):Option (Option Blk):=match σ[i.1]? with
 |some e=>some (e.sub i.2)
 |none=>none
instance:GetElem? (List Ent) Id (Option Blk) (fun σ i=>i.1<cD σ) where
 getElem σ i h:=(σ[i.1]'h).sub i.2
 getElem? σ i:=b6.at σ i
def b6.put(σ:b6)(i:Id)(b:Option Blk):b6:=σ.modify i.1 fun e=>e.put i.2 b
def b6.at_eq(σ:b6)(i:Id):σ[i]? =b6.at σ i:=rfl
@[simp] theorem b6.get_nil (i:Id):([]:b6)[i]? =none:=rfl
def b6.lt_of{x:Option Blk}(h:a[b]? =some x):b.1<cD a:=by rw[b6.at_eq,b6.at] at h;split at h;rename_i e;exact(lG.1 e).1;cases h
def b6.get_left(h:b.1<cD a):(a++c)[b]? =a[b]? :=by
 rw[b6.at_eq,b6.at_eq,b6.at,b6.at,aH h]
def b6.get_right(h:cD a<=b.1):(a++c)[b]? =c[((b.1 - (cD a),b.2):Id)]? :=by
 rw[b6.at_eq,b6.at_eq,b6.at,b6.at,aE h]
def b6.get_new{σ:b6}{b:Blk}{i:Id}{x:Blk}(h:(σ++[.one b])[i]? =some (some x)):(i.1<cD σ/\σ[i]? =some (some x))\/(i=(cD σ,[])/\x=b):=by
 rcases az i.1 (cD σ) with c|c;exact .inl ⟨c,by rwa [b6.get_left c] at h⟩;rw[b6.get_right c] at h;have d:=b6.lt_of h;simp only[ax,aT] at d;obtain⟨r,p⟩:=i;have e:r - (cD σ)=0:=by simp only at d;omega
 have f:r=cD σ:=by simp only at c;omega
 simp only[e] at h;cases p with
 |nil=>
  rw[b6.at_eq] at h
  simp only[b6.at,bI,Ent.sub,Option.some.injEq] at h
  exact .inr ⟨by rw[f],h.symm⟩
 |cons a p=>
  rw[b6.at_eq] at h
  simp[b6.at,Ent.sub] at h
def b6.get_last(σ:b6)(b:Blk):(σ++[.one b])[((cD σ,[]):Id)]? =some (some b):=by rw[b6.get_right (aK _)];simp[b6.at_eq,b6.at,Ent.sub]
@[simp] theorem b6.length_put (σ:b6) (i:Id) (b:Option Blk):(σ.put i b).length=cD σ:=by simp[b6.put]
def Ent.sub_opt(b:Option Blk)(p:List Nat):(Ent.opt b).sub p=match p with|[]=>b|_::_=>none:=by
 cases b<;>cases p<;>rfl
def Ent.sub_put_ne:∀(p q:List Nat) (e:Ent) (b:Option Blk),q ≠ p->(e.put p b).sub q=e.sub q
 |[],q,e,b,h=>by
  cases q with
  |nil=>exact absurd rfl h
  |cons a q=>cases e<;>simp[Ent.put,Ent.sub,Ent.sub_opt]
 |i::p,q,e,b,h=>by
  cases e with
  |dead=>rfl
  |one c=>rfl
  |node m s=>
   cases q with
   |nil=>rfl
   |cons a q=>
    simp only[Ent.put,Ent.sub,aI]
    by_cases d:i=a
    ·subst d
     simp only[if_true]
     cases j:s[i]? with
     |none=>rfl
     |some f=>exact Ent.sub_put_ne p q f b (fun g=>h (by rw[g]))
    ·simp[d]
def Ent.sub_put_eq:∀(p:List Nat) (e:Ent) (b:Option Blk) {a:Blk},e.sub p=some a->(e.put p b).sub p=b
 |[],e,b,_,h=>by cases e<;>simp[Ent.put,Ent.sub,Ent.sub_opt]
 |i::p,e,b,a,h=>by
  cases e with
  |dead=>cases h
  |one c=>cases h
  |node m s=>
   simp only[Ent.put,Ent.sub,aI] at h ⊢
   cases d:s[i]? with
   |none=>rw[d] at h;cases h
   |some f=>
    rw[d] at h
    simpa using Ent.sub_put_eq p f b h
def b6.get_put_ne{i j:Id}{b:Option Blk}(h:j ≠ i):(a.put i b)[j]? =a[j]? :=by
 rw[b6.at_eq,b6.at_eq,b6.at,b6.at,b6.put,aI];by_cases c:i.1=j.1;simp only[if_pos c];cases d:a[j.1]? with
 |none=>rfl
 |some e=>
  simp only[bz,aJ]
  rw[Ent.sub_put_ne _ _ _ _ (fun hp=>h (Prod.ext c.symm hp))]
 simp[if_neg c]
def b6.get_put_eq{i:Id}{b:Option Blk}{d:Blk}(h:a[i]? =some (some d)):(a.put i b)[i]? =some b:=by
 rw[b6.at_eq,b6.at] at h ⊢;rw[b6.put,aI];cases c:a[i.1]? with
 |none=>rw[c] at h;cases h
 |some e=>
  rw[c] at h
  simp only[Option.some.injEq] at h
  simp only[if_true,bz,aJ,Option.some.injEq]
  exact Ent.sub_put_eq _ _ _ h
def b6.get_put{i j:Id}{b:Option Blk}{d x:Blk}(h:a[i]? =some (some d))(c:(a.put i b)[j]? =some (some x)):(j=i/\b=some x)\/(j ≠ i/\a[j]? =some (some x)):=by by_cases e:j=i;subst e;rw[b6.get_put_eq h] at c;exact .inl ⟨rfl,Option.some.inj c⟩;rw[b6.get_put_ne e] at c;exact .inr ⟨e,c⟩
def Ent.dead_put:∀(p:List Nat) (e:Ent) {x:Blk},e.sub p=none->(e.put p none).sub p=some x->False
 |[],e,x,h,a=>by cases e<;>simp[Ent.put,Ent.sub,Ent.sub_opt] at a
 |i::p,e,x,h,a=>by
  cases e with
  |dead=>cases a
  |one c=>cases a
  |node m s=>
   simp only[Ent.put,Ent.sub,aI] at h a
   cases b:s[i]? with
   |none=>rw[b] at a;cases a
   |some d=>
    rw[b] at h a
    exact Ent.dead_put p d h (by simpa using a)
def b6.get_kill{j:Id}{x:Blk}(c:(a.put b none)[j]? =some (some x)):j ≠ b/\a[j]? =some (some x):=by
 by_cases e:j=b;subst e;cases h:a[j]? with
 |none=>
  have:=b6.lt_of c
  rw[b6.length_put] at this
  rw[b6.at_eq,b6.at,ae this] at h
  cases h
 |some o=>
  cases o with
  |none=>
   exfalso
   rw[b6.at_eq,b6.at,b6.put,aI] at c
   rw[b6.at_eq,b6.at] at h
   cases d:a[j.1]? with
   |none=>rw[d] at h;cases h
   |some e=>
    rw[d] at h c
    simp only[if_true,bz,aJ,Option.some.injEq] at h c
    exact Ent.dead_put _ _ h c
  |some f=>rw[b6.get_put_eq h] at c;cases c
 exact⟨e,by rwa [b6.get_put_ne e] at c⟩
def lookup(t:Nat):Env->Option T
 |[]=>none
 |(k,v)::r=>match aG k t with
  |true=>some v
  |false=>lookup t r
structure St where
 env:Env
 σ:b6
def ag4(a:Addr)(n:Nat):(a.add n).block=a.block:=by unfold Addr.add;split<;>rfl
def b6.put_last(b a:Blk):∀σ:b6,b6.put (σ++[.one b]) (cD σ,[]) (some a)=σ++[.one a]
 |[]=>rfl
 |e::σ=>by have:=b6.put_last b a σ;simp only[b6.put] at this ⊢;simpa using this
mutual
def Ent.map(f:Blk->Blk):Ent->Ent
 | .dead=>.dead
 | .one b=>.one (f b)
 | .node m s=>.node (m.map f) (Ent.mapL f s)
def Ent.mapL(f:Blk->Blk):List Ent->List Ent
 |[]=>[]
 |e::r=>Ent.map f e::Ent.mapL f r
end
def b6.mapB(f:Blk->Blk)(σ:b6):b6:=Ent.mapL f σ
def mapL_eq(f:Blk->Blk):∀l:List Ent,Ent.mapL f l=List.map (Ent.map f) l
 |[]=>rfl
 |e::r=>by rw[Ent.mapL,mapL_eq f r];rfl
def Ent.sub_map(f:Blk->Blk):∀(p:List Nat) (e:Ent),(e.map f).sub p=(e.sub p).map f
 |[],e=>by cases e<;>simp[Ent.map,Ent.sub]
 |i::p,e=>by
  cases e with
  |dead=>rfl
  |one c=>rfl
  |node m s=>
   simp only[Ent.map,Ent.sub,mapL_eq,lM]
   cases b:s[i]? with
   |none=>rfl
   |some a=>simpa using Ent.sub_map f p a
def b6.get_map(f:Blk->Blk)(σ:b6)(i:Id):(σ.mapB f)[i]? =(σ[i]?).map (bR f):=by
 rw[b6.at_eq,b6.at_eq,b6.at,b6.at,b6.mapB,mapL_eq,lM];cases σ[i.1]? with
 |none=>rfl
 |some e=>simp[Ent.sub_map]
@[simp] theorem b6.length_map (f:Blk->Blk) (σ:b6):(σ.mapB f).length=cD σ:=by simp[b6.mapB,mapL_eq]
def b6.get_map_some{f:Blk->Blk}{i:Id}{b:Blk}(h:(a.mapB f)[i]? =some (some b)):∃c,a[i]? =some (some c)/\b=f c:=by
 rw[b6.get_map] at h;cases d:a[i]? with
 |none=>rw[d] at h;cases h
 |some o=>
  rw[d] at h
  cases o with
  |none=>cases h
  |some c=>cases h;exact⟨c,rfl,rfl⟩
def sh(n:Nat):Id->Id:=fun i=>(i.1+n,i.2)
def unsh(n:Nat):Id->Id:=fun i=>(i.1 - n,i.2)
def unsh_sh(n:Nat)(i:Id):unsh n (sh n i)=i:=by simp[sh,unsh]
def sh_unsh(h:d<=b.1):sh d (unsh d b)=b:=by obtain⟨r,p⟩:=b;simp only[sh,unsh] at h ⊢;rw[show r - d+d=r by omega]
inductive RelI(w:World)(A:Nat->Prop):I->Vl->Prop
 |val {v} (h:v.oneCell'=true):RelI w A (.val v) v
 |sl {k es n cap} (us:Nat->Nat->Vl) (hcap:cD es<=cap) (hmax:cap<=maxLen)
   (hk:∀(j:Nat) (e:List I),es[j]? =some e->cD e=k)
   (hc:∀(j:Nat) (e:List I) (o:Nat) (x:I),es[j]? =some e->e[o]? =some x->A n.block/\w.cell? (n.add (j * k+o))=some (us j o))
   (hr:∀(j:Nat) (e:List I) (o:Nat) (x:I),es[j]? =some e->e[o]? =some x->RelI w A x (us j o)):RelI w A (.sl k es) (.slice (some n) (cD es) cap)
 |slNil {k}:RelI w A (.sl k []) (.slice none 0 0)
 |ipt {cs n} (us:Nat->Vl)
   (hc:∀(o:Nat) (x:I),cs[o]? =some x->A n.block/\w.cell? (n.add o)=some (us o))
   (hr:∀(o:Nat) (x:I),cs[o]? =some x->RelI w A x (us o)):RelI w A (.ipt cs) (.pointer (some n))
 |fn {f caps} (us:Nat->Vl) (hr:∀(i:Nat) (c:I),caps[i]? =some c->RelI w A c (us i)):
   RelI w A (.fn f caps) (.func (.func f) #[] ((ai (cD caps)).map us).toArray)
def RelI.one{x:I}{v:Vl}(h:RelI g l x v):v.oneCell'=true:=by cases h<;>first|assumption|rfl
def RelI.mono{s:World}{t:Nat->Prop}{x:I}(u:∀b,l b->b<g.heap.size->s.heap[b]? =g.heap[b]?)(y:∀b,l b->b<g.heap.size->t b)(h:RelI g l x p):RelI s t x p:=by
 induction h with
 |val h=>exact .val h
 |sl d f i hk q _ k=>
  refine .sl d f i hk (fun j e o x z r=> ?_) k
  obtain⟨n,a⟩:=q j e o x z r
  have c:=World.block_lt_of_cell? _ _ a
  rw[ag4] at c
  exact⟨y _ n c,(World.cell?_of_block (by rw[ag4];exact u _ n c)).trans a⟩
 |slNil=>exact .slNil
 |ipt d q _ k=>
  refine .ipt d (fun o x r=> ?_) k
  obtain⟨n,a⟩:=q o x r
  have c:=World.block_lt_of_cell? _ _ a
  rw[ag4] at c
  exact⟨y _ n c,(World.cell?_of_block (by rw[ag4];exact u _ n c)).trans a⟩
 |fn d _ k=>exact .fn d k
def ac9(w:World)(p:Option (Nat×Nat))(k len:Nat)(j n:Nat)(v:Vl):Prop:=
 (p=none/\v=.slice none 0 0/\j=0/\n=0)\/
 ∃b c d e f a,p=some (b,c)/\v=.slice (some a) n d/\(0<d->a=⟨b,c+j * k,none⟩)/\n<=d/\d<=maxLen/\j+n<=len/\
  w.heap[b]? =some (.cells e f (0,0))/\c+(j+d) * k<=e.size
inductive RelC(w:World)(φ:Phi)(σ:b6)(A:Nat->Prop):C->Vl->Prop
 |imm {x v} (h:RelI w A x v):RelC w φ σ A (.imm x) v
 |own {id j n v} (hid:id.1<cD σ) (h1:v.oneCell'=true)
   (h:∀(k:Nat) (es:List (List C)),σ[id]? =some (some (.cells k es))->ac9 w (φ id) k (cD es) j n v):RelC w φ σ A (.own id j n) v
 |ptr {id j o v} (hid:id.1<cD σ) (h1:v.oneCell'=true)
   (h:∀(k:Nat) (es:List (List C)),σ[id]? =some (some (.cells k es))->∃z base,φ id=some (z,base)/\v=.pointer (some ⟨z,base+(j * k+o),none⟩)):RelC w φ σ A (.ptr id j o) v
 |fn {f caps} (us:Nat->Vl) (hr:∀(i:Nat) (D:C),caps[i]? =some D->RelC w φ σ A D (us i)):
   RelC w φ σ A (.fn f caps) (.func (.func f) #[] ((ai (cD caps)).map us).toArray)
 |ifcA {e cs} (us:Nat->Vl) (hr:∀(i:Nat) (D:C),cs[i]? =some D->RelC w φ σ A D (us i)):
   RelC w φ σ A (.ifc e cs true) (.iface e (.agg ((ai (cD cs)).map us).toArray))
 |ifc1 {e D u} (hr:RelC w φ σ A D u):RelC w φ σ A (.ifc e [D] false) (.iface e u)
 |map {id v} (hid:id.1<cD σ) (h1:v.oneCell'=true)
   (h:∀s cs,σ[id]? =some (some (.obj s cs))->∃z base,φ id=some (z,base)/\v=.map (some z)):RelC w φ σ A (.map id) v
 |fnb {f caps} (us:Nat->Vl) (hr:∀(i:Nat) (D:C),caps[i]? =some D->RelC w φ σ A D (us i)):
   RelC w φ σ A (.fnb f caps) (.func (.func f) ((ai (cD caps)).map us).toArray #[])
 |yld {id v} (hid:id.1<cD σ) (h1:v.oneCell'=true)
   (h:∀s cs,σ[id]? =some (some (.obj s cs))->∃z base,φ id=some (z,base)/\v=.func (.yield z) #[] #[]):RelC w φ σ A (.yld id) v
def RelC.one{c:C}{v:Vl}(h:RelC g q a l c v):v.oneCell'=true:=by
 cases h<;>first|assumption|rfl|(exact RelI.one ‹_›)
inductive RelT(w:World)(φ:Phi)(σ:b6)(A:Nat->Prop):T->Vl->Prop
 |c {x v} (h:RelC w φ σ A x v):RelT w φ σ A (.c x) v
 |agg {cs} (us:Nat->Vl) (hr:∀(i:Nat) (c:C),cs[i]? =some c->RelC w φ σ A c (us i)):RelT w φ σ A (.agg cs) (.agg ((ai (cD cs)).map us).toArray)
 |tup {ts} (us:Nat->Vl) (hr:∀(i:Nat) (t:T),ts[i]? =some t->RelT w φ σ A t (us i)):RelT w φ σ A (.tup ts) (.tuple ((ai (cD ts)).map us).toArray)
 |undef:RelT w φ σ A .undef undef
def Al(N:Nat->Prop)(φ:Phi)(σ:b6)(b:Nat):Prop:=¬ N b/\∀(i:Id) (blk:Blk) (a:Nat),σ[i]? =some (some blk)->φ i ≠ some (b,a)
def BlkR(w:World)(g:Phi)(σ:b6)(A:Nat->Prop)(p:Option (Nat×Nat)):Blk->Prop
 | .cells k d=>(p=none/\d=[])\/∃(b a:Nat) (c:Array Vl) (f:Ti),p=some (b,a)/\w.heap[b]? =some (.cells c f (0,0))/\a+cD d * k<=c.size/\
   (∀(j:Nat) (e:List C),d[j]? =some e->cD e=k)/\(∀(j:Nat) (e:List C) (o:Nat) (x:C),d[j]? =some e->e[o]? =some x->∃u,c[a+(j * k+o)]? =some u/\RelC w g σ A x u)
 | .obj q cs=>∃b o h,p=some (b,0)/\w.heap[b]? =some o/\q o h/\∀(i:Nat) (x:C),cs[i]? =some x->∃u,h[i]? =some u/\RelC w g σ A x u
structure StR(w:World)(φ:Phi)(σ:b6)(A:Nat->Prop):Prop where
 blk:∀(i:Id) e,σ[i]? =some (some e)->BlkR w φ σ A (φ i) e
 inj:∀(i j:Id) bi bj p q,σ[i]? =some (some bi)->σ[j]? =some (some bj)->φ i=some p->φ j=some q->p.1=q.1->i=j
structure Kept(w w':World)(φ φ':Phi)(σ σ':b6)(A A':Nat->Prop):Prop where
 imm:∀b,A b->b<w.heap.size->w'.heap[b]? =w.heap[b]?
 all:∀b,A b->b<w.heap.size->A' b
 len:cD σ<=cD σ'
 cells:∀(i:Id) k es',i.1<cD σ->σ'[i]? =some (some (.cells k es'))->∃es,σ[i]? =some (some (.cells k es))/\(cD es)=cD es'/\φ' i=φ i/\
  ∀b base arr ety,φ i=some (b,base)->w.heap[b]? =some (.cells arr ety (0,0))->∃arr',w'.heap[b]? =some (.cells arr' ety (0,0))/\arr'.size=arr.size
 obj:∀(i:Id) p' cs',i.1<cD σ->σ'[i]? =some (some (.obj p' cs'))->φ' i=φ i/\∃e cs,σ[i]? =some (some (.obj e cs))
def RelC.mono{J:World}{t:Phi}{u:b6}{K:Nat->Prop}{c:C}(H:Kept g J q t a u l K)(h:RelC g q a l c p):RelC J t u K c p:=by
 induction h with
 |imm h=>exact .imm (h.mono H.imm H.all)
 |own e j h=>
  refine .own (ag e H.len) j fun k n o=> ?_
  obtain⟨B,f,N,hp,L⟩:=H.cells _ k n e o
  rw[hp]
  rcases h k B f with h|⟨b,i,D,E,x,O,M,P,F,Q,U,w,V,A⟩
  ·exact .inl h
  ·obtain⟨y,X,v⟩:=L b i E x M V
   exact .inr ⟨b,i,D,y,x,O,M,P,F,Q,U,by omega,X,by omega⟩
 |ptr e j h=>
  refine .ptr (ag e H.len) j fun k n o=> ?_
  obtain⟨B,f,N,hp,L⟩:=H.cells _ k n e o
  rw[hp]
  exact h k B f
 |fn z _ r=>exact .fn z r
 |ifcA z _ r=>exact .ifcA z r
 |ifc1 _ r=>exact .ifc1 r
 |map e j h=>
  refine .map (ag e H.len) j fun G s o=> ?_
  obtain⟨hp,d,cs,f⟩:=H.obj _ G s e o
  rw[hp]
  exact h d cs f
 |fnb z _ r=>exact .fnb z r
 |yld e j h=>
  refine .yld (ag e H.len) j fun G s o=> ?_
  obtain⟨hp,d,cs,f⟩:=H.obj _ G s e o
  rw[hp]
  exact h d cs f
def RelT.mono{f:World}{b:Phi}{d:b6}{j:Nat->Prop}{t:T}(H:Kept g f q b a d l j)(h:RelT g q a l t p):RelT f b d j t p:=by
 induction h with
 |c h=>exact .c (h.mono H)
 |agg e k=>exact .agg e fun i c hi=>(k i c hi).mono H
 |tup e _ n=>exact .tup e n
 |undef=>exact .undef
def Kept.refl(w:World)(b:Phi)(σ:b6)(A:Nat->Prop):Kept w w b b σ σ A A:=
 ⟨fun _ _ _=>rfl,fun _ h _=>h,aK _,fun _ _ c _ h=>⟨c,h,rfl,rfl,fun _ _ a _ _ d=>⟨a,d,rfl⟩⟩,fun _ p cs _ h=>⟨rfl,p,cs,h⟩⟩
def Kept.trans{w o:World}{r d:Phi}{σ':b6}{H s:Nat->Prop}(J:w.heap.size<=g.heap.size)(h:Kept w g q r a σ' l H)(k:Kept g o r d σ' c H s):Kept w o q d a c l s where
 imm b j n:=(k.imm b (h.all b j n) (ag n J)).trans (h.imm b j n)
 all b j n:=k.all b (h.all b j n) (ag n J)
 len:=aP h.len k.len
 cells i K t hi y:=by obtain⟨z,B,L,O,P⟩:=k.cells i K t (ag hi h.len) y;obtain⟨Q,D,M,N,U⟩:=h.cells i K z hi B;refine⟨Q,D,by omega,O.trans N,fun b e E u hp j=> ?_⟩;obtain⟨v,V,X⟩:=U b e E u hp j;obtain⟨f,A,e4⟩:=P b e v u (N.trans hp) V;exact⟨f,A,e4.trans X⟩
 obj i F x hi y:=by obtain⟨B,p',G,L⟩:=k.obj i F x (ag hi h.len) y;obtain⟨D,p,cs,M⟩:=h.obj i p' G hi L;exact⟨B.trans D,p,cs,M⟩
def BlkR.mono{s:World}{G n:Phi}{J:Nat->Prop}(H:Kept g s G n a c l J){p:Option (Nat×Nat)}{b:Blk}(K:∀d f,p=some (d,f)->s.heap[d]? =g.heap[d]?)(h:BlkR g G a l p b):BlkR s n c J p b:=by
 cases b with
 |cells k O=>
  rcases h with h|⟨b,f,t,v,r,y,z,B,L⟩
  ·exact .inl h
  ·refine .inr ⟨b,f,t,v,r,(K b f r).trans y,z,B,fun j e o x M D=> ?_⟩
   obtain⟨u,E,F⟩:=L j e o x M D
   exact⟨u,E,F.mono H⟩
 |obj q cs=>
  obtain⟨b,o,N,r,y,z,B⟩:=h
  exact⟨b,o,N,r,(K b 0 r).trans y,z,fun i x D=>let ⟨u,E,F⟩:=B i x D; ⟨u,E,F.mono H⟩⟩
structure Cx where
 w0:World
 N:Nat->Prop
 φ0:Phi
 σ0:b6
def Cx.K(c:Cx)(b:Nat):Prop:=b<c.w0.heap.size/\∀(i:Id) (blk:Blk) (a:Nat),c.σ0[i]? =some (some blk)->c.φ0 i ≠ some (b,a)
structure Good(Γ:Cx):Prop where
 st:StR Γ.w0 Γ.φ0 Γ.σ0 (Al Γ.N Γ.φ0 Γ.σ0)
 lt:∀b,Γ.N b->b<Γ.w0.heap.size
 own:∀(i:Id) (blk:Blk) (b base:Nat),Γ.σ0[i]? =some (some blk)->Γ.φ0 i=some (b,base)->¬ Γ.N b
structure Rs(Γ:Cx)(σ:b6)(φ:Phi)(w:World):Prop where
 good:Good Γ
 st:StR w φ σ (Al Γ.N φ σ)
 keep:∀(i:Id) (blk:Blk) (b base:Nat),σ[i]? =some (some blk)->φ i=some (b,base)->¬ Γ.K b
 os:w.os=Γ.w0.os
 tape:w.tape=Γ.w0.tape
 drawn:Γ.w0.drawn<=w.drawn
 output:w.output=Γ.w0.output
 size:Γ.w0.heap.size<=w.heap.size
 block:∀b,Γ.K b->w.heap[b]? =Γ.w0.heap[b]?
 kept:Kept Γ.w0 w Γ.φ0 φ Γ.σ0 σ (Al Γ.N Γ.φ0 Γ.σ0) (Al Γ.N φ σ)
def Marks(a:Cx)(c:Phi)(σ:b6)(w:World)(b:List Deferred):Prop:=
 b.Nodup/\∀d ∈ b,∃D,d={target:=.collected D,args:=#[]}/\w.heap[D]? =some (.deferred (some []))/\a.w0.heap.size<=D/\Al a.N c σ D
def Marks.nil{b:Cx}:Marks b q a g []:=⟨.nil,nofun⟩
def Marks.kept{e:Cx}{b:Phi}{f:World}{i:List Deferred}(h:Marks e q a g i)(hk:Kept g f q b a c (Al e.N q a) (Al e.N b c)):Marks e b c f i:=
 ⟨h.1,fun d n=>by obtain⟨D,o,j,p,k⟩:=h.2 d n;have l:=(aN.1 j).1;exact⟨D,o,(hk.imm D k l).trans j,p,hk.all D k l⟩⟩
def Marks.al{e:Cx}{c:Phi}{σ':b6}{f:List Deferred}(h:Marks e q a g f)(i:∀b,Al e.N q a b->Al e.N c σ' b):Marks e c σ' g f:=
 ⟨h.1,fun d j=>let ⟨D,k,l,n,o⟩:=h.2 d j; ⟨D,k,l,n,i D o⟩⟩
structure R(Γ:Cx)(sz:Nat)(s:St)(φ:Phi)(a:Act)(w:World):Prop extends Rs Γ s.σ φ w where
 defers:Marks Γ φ s.σ w a.defers
 asize:a.tmps.size=sz
 env:∀t v,lookup t s.env=some v->∃u,a.tmps[t]? =some u/\RelT w φ s.σ (Al Γ.N φ s.σ) v u
abbrev Post:=Exit->St->Prop
variable{s:Post}
def lift(b:Cx)(c:Nat)(Q:Post):Exit->Act->World->Prop:=fun e a w=>∃s d,Q e s/\R b c s d a w
abbrev fw(a:Option Nat):Fence:={fn:=fun _=>True,depth:=none,alive:=false,round:=a}
def R6:Code->Bool
 | .seq a b| .cond _ a b=>R6 a||R6 b
 | .block _ c| .loop c| .scope c=>R6 c
 | .rangeFunc ..=>true
 |_=>false
def AWP(P:Program)(σ0:b6)(d:Nat)(c:Code)(Q:Post)(s:St):Prop:=
 ∀b f a w,b.σ0=σ0->R b d s f a w->∀e,(R6 c=true->e=none)->c.wpIn (fw e) 0 P (lift b d Q) a w
def AOps(P:Program)(σ0:b6)(c:Nat)(ops:Array Oper)(Q:Post)(rest:List Oper)(s:St):Prop:=
 ∀b d a w,b.σ0=σ0->R b c s d a w->∀e,wpListIn (fw e) 0 P ops (lift b c Q) rest a w
def thn(K:St->Prop)(Q:Post):Post
 | .normal,s=>K s
 |e,s=>Q e s
def inB(id:Nat)(Q:Post):Post
 | .exit i,s=>if i=id then Q .normal s else Q (.exit i) s
 |e,s=>Q e s
def Sub(σ0:b6)(s s':St):Prop:=∀b d e a w,b.σ0=σ0->R b d s e a w->∃c,R b d s' c a w
def Sub.refl(σ0:b6)(s:St):Sub σ0 s s:=fun _ _ a _ _ _ h=>⟨a,h⟩
def Sub.trans{s f c:St}(h:Sub a s f)(k:Sub a f c):Sub a s c:=fun g i j b w d l=>
 let ⟨e,n⟩:=h g i j b w d l
 k g i e b w d n
def AWP.sub{b:St}{c:Code}{s':St}(hs:Sub a b s')(h:AWP r a d c s s'):AWP r a d c s b:=fun i j e w f k=>
 let ⟨g,l⟩:=hs i d j e w f k
 h i g e w f l
def AOps.sub{b:St}{ops:Array Oper}{rest:List Oper}{s':St}(hs:Sub a b s')(h:AOps r a d ops s rest s'):AOps r a d ops s rest b:=fun g i c w e j=>
 let ⟨f,k⟩:=hs g d i c w e j
 h g f c w e k
def AWP.mono{b:St}{c:Code}{l:Post}(n:∀e b,s e b->l e b)(h:AWP r a d c s b):AWP r a d c l b:=fun o g f w i j p k=>
 wpIn_mono (h o g f w i j p k) fun _ _ _ ⟨b,g,q,j⟩=>⟨b,g,n _ _ q,j⟩
def AWP.j{P:Program}{Q:Post}{s:St}{c d:Code}(h:AWP P a H c (thn (fun l=>AWP P a H d Q l) Q) s):AWP P a H (.seq c d) Q s:=fun n q b w f r o g=>
 wpIn_seq (wpIn_mono (h n q b w f r o (fun e=>g (by simp[R6,e]))) fun e t u ⟨l,i,p,k⟩=>by
  cases e with
  |normal=>exact p n i t u f k o (fun e=>g (by simp[R6,e]))
  |_=>exact⟨l,i,p,k⟩)
def AWP.skip{Q:Post}{s:St}(h:Q .normal s):AWP r a d .skip Q s:=fun _ b _ _ _ c _ _=>wpIn_skip ⟨s,b,h,c⟩
def AWP.exit{P:Program}{σ0:b6}{sz:Nat}{Q:Post}{s:St}{id:Nat}(h:Q (.exit id) s):AWP P σ0 sz (.exit id) Q s:=fun _ a _ _ _ b _ _=>wpIn_exit ⟨s,a,h,b⟩
def AWP.ret{b:St}(h:s .ret b):AWP r a d .ret s b:=fun _ c _ _ _ e _ _=>wpIn_ret ⟨b,c,h,e⟩
def AWP.u{P:Program}{Q:Post}{s:St}{id:Nat}{c:Code}(h:AWP P a d c (inB id Q) s):AWP P a d (.block id c) Q s:=fun p q b w k r t l=>
 wpIn_block (wpIn_mono (h p q b w k r t l) fun e v x ⟨n,f,j,g⟩=>by
  cases e with
  |exit i=>
   simp only[Exit.inBlock]
   simp only[inB] at j
   split at j
   ·rename_i o;rw[if_pos o];exact⟨n,f,j,g⟩
   ·rename_i o;rw[if_neg o];exact⟨n,f,j,g⟩
  |_=>exact⟨n,f,j,g⟩)
def AWP.loop{b:St}{X:Type}{c:Code}(S:X->St)(Iv:X->Prop)(μ:X->Nat)(p:X)(D:Sub a b (S p))(E:Iv p)(round:∀x,Iv x->AWP r a d c (thn (fun t=>∃h,Sub a t (S h)/\Iv h/\μ h<μ x) s) (S x)):AWP r a d (.loop c) s b:=fun q i f w g u F v=>by
 obtain⟨φ0,y⟩:=D q d i f w g u
 refine wpIn_loop_ghost (fun n f w=>∃x i,μ x=n/\Iv x/\R q d (S x) i f w) (μ p) ⟨p,φ0,rfl,E,y⟩ ?_
 rintro n f w ⟨x,i,rfl,hi,u⟩
 refine wpIn_mono (round x hi q i f w g u F v) ?_
 rintro e G H ⟨t,j,B,k⟩
 cases e with
 |normal=>
  obtain⟨h,J,z,A⟩:=B
  obtain⟨l,o⟩:=J q d j G H g k
  exact⟨μ h,A,h,l,rfl,z,o⟩
 |_=>exact⟨t,j,B,k⟩
/-! ## Operands -/
abbrev int(n:Int):C:=.imm (.val (.int .i64 n))
abbrev bool(b:Bool):C:=.imm (.val (.bool b))
def ag2:Vl->Option T
 | .agg cs=>if cs.toList.all (·.oneCell') then some (.agg (cs.toList.map fun v=>.imm (.val v))) else none
 | .tuple _=>none
 |v=>some (.c (.imm (.val v)))
def ev(env:Env):Od->Option T
 | .tmp t=>lookup t env
 | .const v=>ag2 v
 | .global g=>some (.c (.imm (.val (.pointer (some ⟨g,0,none⟩)))))
 | .func f=>some (.c (.fn f []))
def RelC.val{w:World}{φ:Phi}{σ:b6}{A:Nat->Prop}{v:Vl}(h:v.oneCell'=true):RelC w φ σ A (.imm (.val v)) v:=.imm (.val h)
def RelT.int(n:Int):RelT g q a l (.c (int n)) (.int .i64 n):=.c (.imm (.val rfl))
def RelT.bool(b:Bool):RelT g q a l (.c (bool b)) (.bool b):=.c (.imm (.val rfl))
def RelT.agg'{vs:List Vl}(b:cD t=cD vs)(h:∀(i:Nat) (c:C) (v:Vl),t[i]? =some c->vs[i]? =some v->RelC g q a l c v):RelT g q a l (.agg t) (.agg vs.toArray):=by
 have e:vs=(ai (cD t)).map fun i=>vs.getD i Go.undef:=by apply bA;intro i;by_cases hi:i<cD vs;simp[hi,b];simp[b,hi]
 rw[e];refine .agg _ fun i c d=> ?_;have hi:i<cD vs:=by rw[<- b];exact(lG.1 d).1
 exact h i c _ d (by simp[hi])
def RelT.agg_inv(h:RelT g q a l (.agg t) p):∃vs:List Vl,p=.agg vs.toArray/\(cD vs)=cD t/\∀(i:Nat) (c:C),t[i]? =some c->∃u,vs[i]? =some u/\RelC g q a l c u:=by
 cases h with
 |agg d e=>exact⟨_,rfl,by simp,fun i c b=>⟨d i,by simp[(lG.1 b).1],e i c b⟩⟩
def RelT.tup'{vs:List Vl}(b:cD y=cD vs)(h:∀(i:Nat) (c:T) (v:Vl),y[i]? =some c->vs[i]? =some v->RelT g q a l c v):RelT g q a l (.tup y) (.tuple vs.toArray):=by
 have e:vs=(ai (cD y)).map fun i=>vs.getD i Go.undef:=by apply bA;intro i;by_cases hi:i<cD vs;simp[hi,b];simp[b,hi]
 rw[e];refine .tup _ fun i c d=> ?_;have hi:i<cD vs:=by rw[<- b];exact(lG.1 d).1
 exact h i c _ d (by simp[hi])
def RelT.tup_inv(h:RelT g q a l (.tup y) p):∃vs:List Vl,p=.tuple vs.toArray/\(cD vs)=cD y/\∀(i:Nat) (c:T),y[i]? =some c->∃u,vs[i]? =some u/\RelT g q a l c u:=by
 cases h with
 |tup d e=>exact⟨_,rfl,by simp,fun i c b=>⟨d i,by simp[(lG.1 b).1],e i c b⟩⟩
def ai2{w:World}{φ:Phi}{σ:b6}{A:Nat->Prop}{t:T}(h:ag2 p=some t):RelT w φ σ A t p:=by
 cases p with
 |agg cs=>
  simp only[ag2] at h
  split at h
  ·rename_i a
   cases h
   obtain⟨l⟩:=cs
   refine RelT.agg' (by simp) fun i c p b d=> ?_
   simp only[lM,d,aJ,Option.some.injEq] at b
   subst b
   exact .val (by have:=af.1 a p (aj d);exact this)
  ·cases h
 |tuple _=>cases h
 |_=>cases h;exact .c (.imm (.val rfl))
def i5{j:Cx}{s:St}{a:Act}(l:R j d s q a g){t:T}(h:ev s.env A=some t):RelT g q s.σ (Al j.N q s.σ) t (a.eval A):=by
 cases A with
 |tmp k=>
  obtain⟨u,n,o⟩:=l.env k t h
  have e:a.eval (.tmp k)=u:=by simp[Act.eval,n]
  rw[e];exact o
 |const v=>exact ai2 h
 |global b=>cases h;exact .c (.imm (.val rfl))
 |func f=>cases h;exact .c (.fn (fun _=>Go.undef) fun i c hi=>by simp at hi)
def putE(env:Env)(a:Option Nat)(v:T):Env:=
 match a with
 |some d=>(d,v)::env
 |none=>env
def St.put(s:St)(a:Option Nat)(v:T):St:=⟨putE s.env a v,s.σ⟩
def f7(a:Nat):Option Nat->Bool
 |some d=>aM d a
 |none=>true
def R.put{f:Cx}{s:St}{a:Act}(b:R f H s q a g){v:T}{u:Vl}(l:f7 H B=true)(h:RelT g q s.σ (Al f.N q s.σ) v u):R f H (s.put B v) q (a.put B u) g:=by
 cases B with
 |none=>exact b
 |some B=>
  have i:B<a.tmps.size:=by rw[b.asize];simpa[f7] using l
  refine {toRs:=b.toRs,defers:=b.defers,asize:=by simp[Act.put,b.asize],env:=fun t x c=> ?_}
  simp only[St.put,putE,lookup] at c
  split at c
  ·rename_i j
   cases c
   have:B=t:=am j
   subst this
   exact⟨u,by simp[Act.put,i],h⟩
  ·rename_i j
   obtain⟨y,n,o⟩:=b.env t x c
   have k:B ≠ t:=fun e=>by subst e;simp at j
   exact⟨y,by simp[Act.put,k,n],o⟩
mutual
def C.ren(c:Id->Id):C->C
 | .imm x=>.imm x
 | .own id j n=>.own (c id) j n
 | .ptr id j o=>.ptr (c id) j o
 | .fn f a=>.fn f (C.renL c a)
 | .ifc t cs b=>.ifc t (C.renL c cs) b
 | .map id=>.map (c id)
 | .fnb f a=>.fnb f (C.renL c a)
 | .yld id=>.yld (c id)
def C.renL(a:Id->Id):List C->List C
 |[]=>[]
 |c::r=>C.ren a c::C.renL a r
end
mutual
def C.ok(m:Nat):C->Bool
 | .imm _=>true
 | .own id _ _=>aM id.1 m
 | .ptr id _ _=>aM id.1 m
 | .fn _ a=>C.okL m a
 | .ifc _ cs _=>C.okL m cs
 | .map id=>aM id.1 m
 | .fnb _ a=>C.okL m a
 | .yld id=>aM id.1 m
def C.okL(m:Nat):List C->Bool
 |[]=>true
 |c::r=>C.ok m c && C.okL m r
end
mutual
def T.ren(a:Id->Id):T->T
 | .c x=>.c (x.ren a)
 | .agg cs=>.agg (C.renL a cs)
 | .tup b=>.tup (T.renL a b)
 | .undef=>.undef
def T.renL(a:Id->Id):List T->List T
 |[]=>[]
 |t::r=>T.ren a t::T.renL a r
end
mutual
def T.ok(m:Nat):T->Bool
 | .c x=>x.ok m
 | .agg cs=>C.okL m cs
 | .tup a=>T.okL m a
 | .undef=>true
def T.okL(m:Nat):List T->Bool
 |[]=>true
 |t::r=>T.ok m t && T.okL m r
end
def Blk.ren(a:Id->Id):Blk->Blk
 | .cells k b=>.cells k (b.map (C.renL a))
 | .obj p cs=>.obj p (C.renL a cs)
def Blk.ok(m:Nat):Blk->Bool
 | .cells _ a=>a.all (C.okL m)
 | .obj _ cs=>C.okL m cs
def y7(a:Id->Id):∀l:List C,C.renL a l=l.map (C.ren a)
 |[]=>rfl
 |c::r=>by rw[C.renL,y7 a r];rfl
def M8(m:Nat):∀l:List C,C.okL m l=l.all (C.ok m)
 |[]=>rfl
 |c::r=>by rw[C.okL,M8 m r];rfl
def al6(a:Id->Id):∀l:List T,T.renL a l=l.map (T.ren a)
 |[]=>rfl
 |c::r=>by rw[T.renL,al6 a r];rfl
def av6(m:Nat):∀l:List T,T.okL m l=l.all (T.ok m)
 |[]=>rfl
 |c::r=>by rw[T.okL,av6 m r];rfl
mutual
theorem C.ren_id:∀c:C,c.ren (fun i=>i)=c
 | .imm _=>rfl
 | .own _ _ _=>rfl
 | .ptr _ _ _=>rfl
 | .fn f a=>by rw[C.ren,C.renL_id a]
 | .ifc t cs b=>by rw[C.ren,C.renL_id cs]
 | .map _=>rfl
 | .fnb f a=>by rw[C.ren,C.renL_id a]
 | .yld _=>rfl
theorem C.renL_id:∀l:List C,C.renL (fun i=>i) l=l
 |[]=>rfl
 |c::r=>by rw[C.renL,C.ren_id c,C.renL_id r]
end
mutual
theorem T.ren_id:∀c:T,c.ren (fun i=>i)=c
 | .c x=>by rw[T.ren,C.ren_id]
 | .agg cs=>by rw[T.ren,C.renL_id]
 | .tup a=>by rw[T.ren,T.renL_id a]
 | .undef=>rfl
theorem T.renL_id:∀l:List T,T.renL (fun i=>i) l=l
 |[]=>rfl
 |x::r=>by rw[T.renL,T.ren_id x,T.renL_id r]
end
def Blk.ren_id(b:Blk):b.ren (fun i=>i)=b:=by
 cases b with
 |cells k a=>
  simp only[Blk.ren]
  congr 1
  conv=>rhs;rw[<- List.map_id a]
  exact bo fun l _=>C.renL_id l
 |obj p cs=>simp only[Blk.ren,C.renL_id]
structure Back(w:World)(φ φ':Phi)(σ σ':b6)(A A':Nat->Prop)(π:Id->Id):Prop where
 all:∀e,A e->e<w.heap.size->A' e
 blk:∀(i:Id) e,i.1<cD σ'->σ'[i]? =some (some e)->σ[π i]? =some (some (e.ren π))/\φ' i=φ (π i)
def RelC.back{w:World}{φ φ':Phi}{σ σ':b6}{A A':Nat->Prop}{π:Id->Id}(H:Back w φ φ' σ σ' A A' π){c:C}{v:Vl}(hok:c.ok (cD σ')=true)(h:RelC w φ σ A (c.ren π) v):RelC w φ' σ' A' c v:=by
 generalize hc:c.ren π=c' at h;induction h generalizing c with
 |imm h=>
  cases c<;>simp only[C.ren] at hc<;>cases hc
  exact .imm (h.mono (fun _ _ _=>rfl) H.all)
 |own hid h1 h=>
  cases c<;>simp only[C.ren] at hc<;>cases hc
  simp only[C.ok,aC] at hok
  refine .own hok h1 fun k es he=> ?_
  obtain⟨hb,hp⟩:=H.blk _ _ hok he
  have:=h k _ hb
  rw[hp]
  simpa using this
 |ptr hid h1 h=>
  cases c<;>simp only[C.ren] at hc<;>cases hc
  simp only[C.ok,aC] at hok
  refine .ptr hok h1 fun k es he=> ?_
  obtain⟨hb,hp⟩:=H.blk _ _ hok he
  have:=h k _ hb
  rw[hp]
  exact this
 |fn us hr ih=>
  cases c<;>simp only[C.ren] at hc<;>cases hc
  rename_i caps
  simp only[C.ok,M8,af] at hok
  have e:(C.renL π caps).length=cD caps:=by rw[y7];simp
  rw[e]
  refine .fn us fun i c hi=> ?_
  refine ih i (c.ren π) (by rw[y7];simp[hi]) (hok c (aj hi)) rfl
 |ifcA us hr ih=>
  cases c<;>simp only[C.ren] at hc<;>cases hc
  rename_i caps
  simp only[C.ok,M8,af] at hok
  have e:(C.renL π caps).length=cD caps:=by rw[y7];simp
  rw[e]
  refine .ifcA us fun i c hi=> ?_
  refine ih i (c.ren π) (by rw[y7];simp[hi]) (hok c (aj hi)) rfl
 |@ifc1 t c' u hr ih=>
  cases c with
  |ifc t2 cs b=>
   simp only[C.ren,C.ifc.injEq] at hc
   obtain⟨rfl,h2,rfl⟩:=hc
   rw[y7] at h2
   cases cs with
   |nil=>simp at h2
   |cons x r=>
    cases r with
    |cons y r=>simp at h2
    |nil=>
     simp only[bw,List.map_nil,List.cons.injEq,and_true] at h2
     simp only[C.ok,C.okL,Bool.and_true] at hok
     exact .ifc1 (ih hok h2)
  |_=>simp[C.ren] at hc
 |map hid h1 h=>
  cases c<;>simp only[C.ren] at hc<;>cases hc
  simp only[C.ok,aC] at hok
  refine .map hok h1 fun p cs he=> ?_
  obtain⟨hb,hp⟩:=H.blk _ _ hok he
  rw[hp]
  exact h p _ hb
 |fnb us hr ih=>
  cases c<;>simp only[C.ren] at hc<;>cases hc
  rename_i caps
  simp only[C.ok,M8,af] at hok
  have e:(C.renL π caps).length=cD caps:=by rw[y7];simp
  rw[e]
  refine .fnb us fun i c hi=> ?_
  refine ih i (c.ren π) (by rw[y7];simp[hi]) (hok c (aj hi)) rfl
 |yld hid h1 h=>
  cases c<;>simp only[C.ren] at hc<;>cases hc
  simp only[C.ok,aC] at hok
  refine .yld hok h1 fun p cs he=> ?_
  obtain⟨hb,hp⟩:=H.blk _ _ hok he
  rw[hp]
  exact h p _ hb
def RelT.back{w:World}{φ φ':Phi}{σ σ':b6}{A A':Nat->Prop}{π:Id->Id}(H:Back w φ φ' σ σ' A A' π){c:T}{v:Vl}(hok:c.ok (cD σ')=true)(h:RelT w φ σ A (c.ren π) v):RelT w φ' σ' A' c v:=by
 generalize hc:c.ren π=c' at h;induction h generalizing c with
 |c h=>
  cases c<;>simp only[T.ren] at hc<;>cases hc
  exact .c (h.back H hok)
 |agg us hr=>
  cases c<;>simp only[T.ren] at hc<;>cases hc
  rename_i cs
  simp only[T.ok,M8,af] at hok
  have e:(C.renL π cs).length=cD cs:=by rw[y7];simp
  rw[e]
  exact .agg us fun i c hi=>(hr i (c.ren π) (by rw[y7];simp[hi])).back H (hok c (aj hi))
 |tup us hr ih=>
  cases c<;>simp only[T.ren] at hc<;>cases hc
  rename_i ts
  simp only[T.ok,av6,af] at hok
  have e:(T.renL π ts).length=cD ts:=by rw[al6];simp
  rw[e]
  exact .tup us fun i c hi=>ih i (c.ren π) (by rw[al6];simp[hi]) (hok c (aj hi)) rfl
 |undef=>
  cases c<;>simp only[T.ren] at hc<;>cases hc
  exact .undef
structure Fwd(w:World)(φ φ':Phi)(σ σ':b6)(A A':Nat->Prop)(π:Id->Id):Prop where
 all:∀e,A e->e<w.heap.size->A' e
 blk:∀(i:Id),i.1<cD σ->(π i).1<cD σ'/\φ' (π i)=φ i/\∀b',σ'[π i]? =some (some b')->∃e,σ[i]? =some (some e)/\b'=e.ren π
def RelC.fwd{O D:Phi}{E:b6}{P:Nat->Prop}{F:Id->Id}(H:Fwd g O D a E l P F){c:C}(h:RelC g O a l c p):RelC g D E P (c.ren F) p:=by
 induction h with
 |imm h=>exact .imm (h.mono (fun _ _ _=>rfl) H.all)
 |own n o h=>
  obtain⟨r,s,t⟩:=H.blk _ n
  refine .own r o fun k L u=> ?_
  obtain⟨b,y,e⟩:=t _ u
  cases b with
  |obj d cs=>simp[Blk.ren] at e
  |cells M G=>
   simp only[Blk.ren,Blk.cells.injEq] at e
   obtain⟨rfl,rfl⟩:=e
   rw[s]
   simpa using h k G y
 |ptr n o h=>
  obtain⟨r,s,t⟩:=H.blk _ n
  refine .ptr r o fun k L u=> ?_
  obtain⟨b,y,e⟩:=t _ u
  cases b with
  |obj d cs=>simp[Blk.ren] at e
  |cells M G=>
   simp only[Blk.ren,Blk.cells.injEq] at e
   obtain⟨rfl,rfl⟩:=e
   rw[s]
   exact h k G y
 |@fn f j J N z=>
  have e:(C.renL F j).length=cD j:=by rw[y7];simp
  simp only[C.ren]
  rw[<- e]
  refine .fn J fun i c hi=> ?_
  rw[y7,lM,oM] at hi
  obtain⟨x,K,rfl⟩:=hi
  exact z i x K
 |@ifcA f j J N z=>
  have e:(C.renL F j).length=cD j:=by rw[y7];simp
  simp only[C.ren]
  rw[<- e]
  refine .ifcA J fun i c hi=> ?_
  rw[y7,lM,oM] at hi
  obtain⟨x,K,rfl⟩:=hi
  exact z i x K
 |ifc1 N z=>exact .ifc1 z
 |map n o h=>
  obtain⟨r,s,t⟩:=H.blk _ n
  refine .map r o fun d cs u=> ?_
  obtain⟨b,y,e⟩:=t _ u
  cases b with
  |cells M G=>simp[Blk.ren] at e
  |obj q B=>
   rw[s]
   exact h q B y
 |@fnb f j J N z=>
  have e:(C.renL F j).length=cD j:=by rw[y7];simp
  simp only[C.ren]
  rw[<- e]
  refine .fnb J fun i c hi=> ?_
  rw[y7,lM,oM] at hi
  obtain⟨x,K,rfl⟩:=hi
  exact z i x K
 |yld n o h=>
  obtain⟨r,s,t⟩:=H.blk _ n
  refine .yld r o fun d cs u=> ?_
  obtain⟨b,y,e⟩:=t _ u
  cases b with
  |cells M G=>simp[Blk.ren] at e
  |obj q B=>
   rw[s]
   exact h q B y
def RelT.fwd{b:Phi}{d:b6}{n:Nat->Prop}{f:Id->Id}(H:Fwd g q b a d l n f){c:T}(h:RelT g q a l c p):RelT g b d n (c.ren f) p:=by
 induction h with
 |c h=>exact .c (h.fwd H)
 |@agg cs j o=>
  have e:(C.renL f cs).length=cD cs:=by rw[y7];simp
  simp only[T.ren]
  rw[<- e]
  refine .agg j fun i c hi=> ?_
  rw[y7,lM,oM] at hi
  obtain⟨x,k,rfl⟩:=hi
  exact(o i x k).fwd H
 |@tup r j o s=>
  have e:(T.renL f r).length=cD r:=by rw[al6];simp
  simp only[T.ren]
  rw[<- e]
  refine .tup j fun i c hi=> ?_
  rw[al6,lM,oM] at hi
  obtain⟨x,k,rfl⟩:=hi
  exact s i x k
 |undef=>exact .undef
/-! ## Weakening -/
def Al.own_lt(h:StR g q a l){i:Id}{blk:Blk}(hi:a[i]? =some (some blk))(hp:q i=some (d,H)):d<g.heap.size:=by
 have j:=h.blk i blk hi;have lt:∀{o:Obj},g.heap[d]? =some o->d<g.heap.size:=fun h=>(aN.1 h).1;cases blk with
 |cells k t=>
  rcases j with⟨c,_⟩|⟨n,e,r,s,c,f,_⟩
  ·rw[hp] at c;cases c
  ·rw[hp] at c;cases c;exact lt f
 |obj p cs=>
  obtain⟨n,o,u,c,f,_⟩:=j
  rw[hp] at c;cases c;exact lt f
def Sub.mk{s s':St}(d:Id->Id)(O:∀i,i.1<cD a->d i=i)(D:cD a<=s'.σ.length)(E:∀(i j:Id) b b',s'.σ[i]? =some (some b)->s'.σ[j]? =some (some b')->d i=d j->i=j)(f:∀(i:Id) b,s'.σ[i]? =some (some b)->b.ok s'.σ.length=true/\s.σ[d i]? =some (some (b.ren d)))(F:∀t v,lookup t s'.env=some v->v.ok s'.σ.length=true/\lookup t s.env=some (v.ren d)):Sub a s s':=by
 intro P sz z c w Q n
 subst Q
 have U:∀b,Al P.N z s.σ b->Al P.N (fun i=>z (d i)) s'.σ b:=fun b ⟨l,y⟩=>⟨l,fun i blk g hi=>y (d i) _ g (f i blk hi).2⟩
 have H:Back w z (fun i=>z (d i)) s.σ s'.σ (Al P.N z s.σ) (Al P.N (fun i=>z (d i)) s'.σ) d:=⟨fun b h _=>U b h,fun i b _ hi=>⟨(f i b hi).2,rfl⟩⟩
 have V:∀{m k:Nat} {A:List (List C)} {j o:Nat} {e:List C} {x:C},(Blk.cells k A).ok m=true->A[j]? =some e->e[o]? =some x->x.ok m=true:=by intro m k A j o e x l y G;simp only[Blk.ok,af] at l;have:=l e (aj y);rw[M8,af] at this;exact this x (aj G)
 refine⟨fun i=>z (d i),{good:=n.good,st:=⟨fun i b hi=> ?_,fun i j bi bj p q hi hj hp hq r=> ?_⟩,keep:=fun i blk b g hi hp=>n.keep (d i) _ b g (f i blk hi).2 hp,os:=n.os,tape:=n.tape,drawn:=n.drawn,output:=n.output,size:=n.size,block:=n.block,kept:= ?_,defers:=n.defers.al U,asize:=n.asize,env:=fun t v ht=> ?_}⟩
 ·obtain⟨J,X⟩:=f i b hi
  have B:=n.st.blk _ _ X
  cases b with
  |cells k A=>
   simp only[Blk.ren] at B X
   rcases B with⟨l,y⟩|⟨b,g,aa,ac,l,y,G,h4,h5⟩
   ·exact .inl ⟨l,by simpa using y⟩
   ·refine .inr ⟨b,g,aa,ac,l,y,by simpa using G,fun j e r=> ?_,fun j e o x r K=> ?_⟩
    ·have:=h4 j (C.renL d e) (by simp[r])
     rw[y7] at this;simpa using this
    ·obtain⟨u,L,M⟩:=h5 j (C.renL d e) o (x.ren d) (by simp[r]) (by rw[y7];simp[K])
     exact⟨u,L,M.back H (V (k:=k) J r K)⟩
  |obj p cs=>
   simp only[Blk.ren] at B X
   obtain⟨b,o,us,l,y,G,h4⟩:=B
   refine⟨b,o,us,l,y,G,fun i x K=> ?_⟩
   obtain⟨u,L,M⟩:=h4 i (x.ren d) (by rw[y7];simp[K])
   have ad:x.ok s'.σ.length=true:=by simp only[Blk.ok,M8,af] at J;exact J x (aj K)
   exact⟨u,L,M.back H ad⟩
 ·exact E i j bi bj hi hj (n.st.inj _ _ _ _ p q (f i bi hi).2 (f j bj hj).2 hp hq r)
 ·have hk:=n.kept
  refine⟨hk.imm,fun b B hl=>U b (hk.all b B hl),D,fun i k an hi r=> ?_,fun i p' ao hi r=> ?_⟩
  ·have l:=(f i _ r).2
   rw[O i hi] at l
   obtain⟨A,g1,g2,g3,g4⟩:=hk.cells i k _ hi l
   exact⟨A,g1,by simpa using g2,by simpa[O i hi] using g3,g4⟩
  ·have l:=(f i _ r).2
   rw[O i hi] at l
   obtain⟨g1,g2⟩:=hk.obj i _ _ hi l
   exact⟨by simpa[O i hi] using g1,g2⟩
 ·obtain⟨J,hl⟩:=F t v ht
  obtain⟨u,L,M⟩:=n.env t _ hl
  exact⟨u,L,M.back H J⟩
def S7(env:Env):Env->Prop
 |[]=>True
 |(t,v)::r=>lookup t env=some v/\S7 env r
def S7.get:∀{a:Env},S7 L a->∀t v,lookup t a=some v->lookup t L=some v
 |[],_,t,v,h=>by simp[lookup] at h
 |(k,x)::r,⟨b,c⟩,t,v,h=>by simp only[lookup] at h;split at h;rename_i d;cases h;rw[<- am d];exact b;exact S7.get c t v h
def Sub.env{σ0:b6}{env env':Env}{σ:b6}(h:S7 env env'):Sub σ0 ⟨env,σ⟩ ⟨env',σ⟩:=fun _ _ b _ _ _ a=>
 ⟨b,{toRs:=a.toRs,defers:=a.defers,asize:=a.asize,env:=fun t v c=>a.env t v (h.get t v c)}⟩
def X8(n:Nat):Env->Bool
 |[]=>true
 |(_,v)::r=>v.ok n && X8 n r
def am7:∀{env:Env},X8 d env=true->∀t v,lookup t env=some v->v.ok d=true
 |[],_,t,v,h=>by simp[lookup] at h
 |(k,x)::r,h,t,v,a=>by simp only[X8,ap] at h;simp only[lookup] at a;split at a;cases a;exact h.1;exact am7 h.2 t v a
structure FnOk(P:Program)(f:FuncId)(args:List T)(σ:b6)(Q:T->b6->Prop):Prop where
 fn : ∃ fn, P.funcs[f]? = some fn /\ (fn.name == "runtime.NumGoroutine")=false/\fn.body.isNone=false
 run:∀(Γ:Cx) (vs:List Vl),Γ.σ0=σ->Good Γ->cD args=cD vs->
  (∀(i:Nat) (t:T) (u:Vl),args[i]? =some t->vs[i]? =some u->RelT Γ.w0 Γ.φ0 σ (Al Γ.N Γ.φ0 σ) t u)->
  Calls P f vs.toArray Γ.w0 fun e w'=>∃v r σ' φ',e=.returned v/\Q r σ'/\RelT w' φ' σ' (Al Γ.N φ' σ') r v/\Rs Γ σ' φ' w'
def FnOk.mono{P:Program}{f:FuncId}{Q i:T->b6->Prop}(h:FnOk P f y a Q)(j:∀r e,Q r e->i r e):FnOk P f y a i:=
 ⟨h.fn,fun k vs l n o p=>(h.run k vs l n o p).mono fun _ _ ⟨v,r,e,g,d,b,c⟩=>⟨v,r,e,g,d,j _ _ b,c⟩⟩
def argEnv(i:Nat):List T->Env
 |[]=>[]
 |t::a=>(i,t)::argEnv (i+1) a
def aF1:∀(a:List T) (i t:Nat) (v:T),lookup t (argEnv i a)=some v->i<=t/\a[t - i]? =some v
 |[],_,_,_,h=>by simp[argEnv,lookup] at h
 |x::a,i,t,v,h=>by simp only[argEnv,lookup] at h;split at h;rename_i b;have:=am b;subst this;simpa using h;obtain⟨d,c⟩:=aF1 a (i+1) t v h;refine⟨by omega,?_⟩;rw[show t - i=(t - (i+1))+1 by omega];simpa using c
inductive RV where
 |t (n:Nat)
 |cell (a:Nat) (ty:Ti) (size:Nat)
 |one (a:Nat) (ty:Ti)
def RV.var:RV->ResultVar
 | .t n=>.tmp n
 | .cell a b _=>.cell a b
 | .one a b=>.cell a b
def B5:TypeDesc->Bool
 | .struct _| .array _ _=>true
 |_=>false
def RV.ok(P:Program):RV->Prop
 | .t _=>True
 | .cell _ a size=>∃d i,P.underlying a=some d/\B5 d=true/\P.info? a=some i/\i.size=size
 | .one _ a=>∃d,P.underlying a=some d/\B5 d=false
def RV.oks(P:Program):List RV->Prop
 |[]=>True
 |r::a=>r.ok P/\RV.oks P a
def ret1(s:St):RV->Option T
 | .t n=>lookup n s.env
 | .cell a _ size=>match lookup a s.env with
  |some (.c (.ptr id j o))=>match s.σ[id]? with
   |some (some (.cells _ b))=>match b[j]? with
    |some e=>if aY (o+size) (cD e) then some (.agg ((e.drop o).take size)) else none
    |none=>none
   |_=>none
  |_=>none
 | .one a _=>match lookup a s.env with
  |some (.c (.ptr id j o))=>match s.σ[id]? with
   |some (some (.cells _ b))=>match b[j]? with
    |some e=>match e[o]? with
     |some c=>some (.c c)
     |none=>none
    |none=>none
   |_=>none
  |_=>none
def retL(s:St):List RV->Option (List T)
 |[]=>some []
 |r::a=>match ret1 s r,retL s a with
  |some x,some xs=>some (x::xs)
  |_,_=>none
def retT(s:St)(a:List RV):Option T:=match retL s a with
 |some [x]=>some x
 |some xs=>some (.tup xs)
 |none=>none
def resF(tmps:Array Vl):ResultVar->Sem Vl
 | .tmp t=>pure (tmps.getD t Go.undef)
 | .cell a t=>do loadVar t (<- asAddr (tmps.getD a Go.undef))
def results_eq(fn : Func)(tmps : Array Vl) : results fn tmps = (do
 let vs <- fn.results.mapM (resF tmps)
 pure (if h:vs.size=1 then vs[0] else .tuple vs)):=rfl
def ah2{d:TypeDesc}(h:r.underlying M=some d)(w:World):(isAgg M).run r w=.ok (B5 d) w:=by
 cases d<;>simp[isAgg,run_underlying h,B5]
def U1{a:Array Vl}{c:Nat×Nat}(h:g.heap[d]? =some (.cells a M c)):g.cell? ⟨d,H,none⟩=a[H]? :=by simp[World.cell?,h]
def J7(b o n:Nat):(⟨b,o,none⟩:Addr).add n=⟨b,o+n,none⟩:=by unfold Addr.add;split;subst_vars;rfl;rfl
def T4{j:Nat}(h:(ai d)[H]? =some j):H<d/\H=j:=by obtain⟨b,a⟩:=lG.1 h;rw[List.getElem_range] at a;exact⟨by simpa using b,a⟩
def ret1_run{V:Cx}{sz:Nat}{s:St}{G:Phi}{a:Act}{w:World}(H:R V sz s G a w){P:Program}{rv:RV}(J:rv.ok P){r:T}(h:ret1 s rv=some r):
  ∃v,(resF a.tmps rv.var).run P w=.ok v w/\RelT w G s.σ (Al V.N G s.σ) r v:=by
 cases rv with
 |t n=>
  obtain⟨u,x,p⟩:=H.env n r h
  exact⟨u,by simp[RV.var,resF,x],p⟩
 |cell X ty size=>
  obtain⟨d,i,D,E,aa,ac⟩:=J
  simp only[ret1] at h
  split at h<;>try cases h
  rename_i id j o hl
  split at h<;>try cases h
  rename_i k es y
  split at h<;>try cases h
  rename_i e he
  split at h<;>cases h
  rename_i K
  have al:o+size<=cD e:=aA K
  obtain⟨u,x,p⟩:=H.env X _ hl
  cases p with|c p=>cases p with|ptr an _ hp=>
   obtain⟨b,f,z,rfl⟩:=hp k es y
   rcases H.st.blk _ _ y with⟨A,L⟩|⟨b',F,B,ao,A,L,h3,h4,h5⟩
   ·rw[z] at A;cases A
   rw[z] at A;cases A
   have g:∀q,q<size->∃u,B[f+(j * k+(o+q))]? =some u/\RelC w G s.σ (Al V.N G s.σ) (e[o+q]?.getD (.imm (.val (.bool true)))) u:=fun q Q=>by
    have l:o+q<cD e:=by omega
    obtain⟨u,x,p⟩:=h5 j e (o+q) _ he (ae l);exact⟨u,x,by simpa[l] using p⟩
   have M:=run_loadCells_list (P:=P) w ⟨b,f+(j * k+o),none⟩ ((ai size).map fun q=>(B[f+(j * k+(o+q))]?).getD Go.undef) (fun q v O=>by rw[lM,oM] at O;obtain⟨q',Q,rfl⟩:=O;obtain⟨l,rfl⟩:=T4 Q;obtain⟨u,x,_⟩:=g q l;rw[J7,U1 L,show f+(j * k+o)+q=f+(j * k+(o+q)) by omega,x];rfl)
   simp only[bl,List.length_range] at M
   refine⟨.agg ((ai size).map fun q=>(B[f+(j * k+(o+q))]?).getD Go.undef).toArray,?_,RelT.agg' (by simp;omega) fun q c v U O=> ?_⟩
   ·simp[RV.var,resF,x,asAddr,loadVar,ah2 D,E,Go.sizeOf,typeInfo,aa,ac,M]
   ·rw[lM,oM] at O
    obtain⟨q',Q,rfl⟩:=O
    obtain⟨l,rfl⟩:=T4 Q
    rw[au,if_pos l,aw] at U
    obtain⟨u,x,p⟩:=g q l
    rw[x]
    rw[U] at p
    exact p
 |one X ty=>
  obtain⟨d,D,E⟩:=J
  simp only[ret1] at h
  split at h<;>try cases h
  rename_i id j o hl
  split at h<;>try cases h
  rename_i k es y
  split at h<;>try cases h
  rename_i e he
  split at h<;>cases h
  rename_i c U
  obtain⟨u,x,p⟩:=H.env X _ hl
  cases p with|c p=>cases p with|ptr an _ hp=>
   obtain⟨b,f,z,rfl⟩:=hp k es y
   rcases H.st.blk _ _ y with⟨A,L⟩|⟨b',F,B,ao,A,L,h3,h4,h5⟩
   ·rw[z] at A;cases A
   rw[z] at A;cases A
   obtain⟨u',av,ay⟩:=h5 j e o c he U
   refine⟨u',?_,.c ay⟩
   have g:w.cell? ⟨b,f+(j * k+o),none⟩=some u':=by rw[U1 L];exact av
   simp[RV.var,resF,x,asAddr,loadVar,ah2 D,E,g]
def retL_run{j:Cx}{s:St}{a:Act}(k:R j d s q a g){P:Program}:∀{b:List RV} {c:List T},RV.oks P b->retL s b=some c->
  ∃vs:List Vl,cD vs=cD b/\(cD c)=cD b/\(∀(i:Nat) (rv:RV) (v:Vl),b[i]? =some rv->vs[i]? =some v->(resF a.tmps rv.var).run P g=.ok v g)/\∀(i:Nat) (t:T) (v:Vl),c[i]? =some t->vs[i]? =some v->RelT g q s.σ (Al j.N q s.σ) t v
 |[],c,_,h=>by cases h;exact⟨[],rfl,rfl,fun i rv v hi=>by simp at hi,fun i t v hi=>by simp at hi⟩
 |r::b,c,e,h=>by
  simp only[retL] at h;split at h<;>cases h;rename_i x xs l n;obtain⟨v,o,p⟩:=ret1_run k e.1 l;obtain⟨vs,y,z,A,B⟩:=retL_run k e.2 n;refine⟨v::vs,by simp[y],by simp[z],fun i rv u hi f=> ?_,fun i t u hi f=> ?_⟩;match i with
  |0=>cases hi;cases f;exact o
  |i+1=>exact A i rv u (by simpa using hi) (by simpa using f)
  match i with
  |0=>cases hi;cases f;exact p
  |i+1=>exact B i t u (by simpa using hi) (by simpa using f)
def retT_run{J:Cx}{L:Nat}{s:St}{u:Phi}{a:Act}{w:World}(M:R J L s u a w){fn:Func}{g:List RV}(x:fn.results=(g.map RV.var).toArray)(l:aY (cD g) 5=true){P:Program}(y:RV.oks P g){r:T}(h:retT s g=some r):
  ∃v,(results fn a.tmps).run P w=.ok v w/\RelT w u s.σ (Al J.N u s.σ) r v:=by
 unfold retT at h
 cases d:retL s g with
 |none=>rw[d] at h;cases h
 |some A=>
  rw[d] at h
  obtain⟨vs,O,V,b,e⟩:=retL_run M y d
  have B:cD g<=5:=aA l
  have n:(results fn a.tmps).run P w=.ok (if h:cD vs=1 then vs[0]'(by rw[h];exact Nat.one_pos) else .tuple vs.toArray) w:=by
   rw[results_eq,x];match g,vs,O,b,B with
   |[],[],_,_,_=>simp
   |[f],[v0],_,b,_=>simp[b 0 f v0 rfl rfl]
   |[f,j],[v0,k],_,b,_=>simp[b 0 f v0 rfl rfl,b 1 j k rfl rfl]
   |[f,j,o],[v0,k,p],_,b,_=>simp[b 0 f v0 rfl rfl,b 1 j k rfl rfl,b 2 o p rfl rfl]
   |[f,j,o,D],[v0,k,p,E],_,b,_=>simp[b 0 f v0 rfl rfl,b 1 j k rfl rfl,b 2 o p rfl rfl,b 3 D E rfl rfl]
   |[f,j,o,D,Q],[v0,k,p,E,U],_,b,_=>simp[b 0 f v0 rfl rfl,b 1 j k rfl rfl,b 2 o p rfl rfl,b 3 D E rfl rfl,b 4 Q U rfl rfl]
  have K:cD A=cD vs:=by omega
  refine⟨_,n,?_⟩
  by_cases q:cD vs=1
  ·rw[dif_pos q]
   match A,vs,q,K,h,e with
   |[t],[v],_,_,h,e=>cases h;exact e 0 _ _ rfl rfl
   |[],[v],_,F,_,_=>simp at F
   |_::_::_,[v],_,F,_,_=>simp at F
  ·rw[dif_neg q]
   match A,h,K,e with
   |[],h,d,e=>cases h;exact RelT.tup' d fun i c z G H=>e i c z G H
   |[t],h,d,e=>exact absurd d.symm q
   |t::X::r',h,d,e=>cases h;exact RelT.tup' d fun i c z G H=>e i c z G H
def Done(rs:List RV)(Q:T->b6->Prop):Post:=fun e s=>(e=.normal\/e=.ret)/\∃r,retT s rs=some r/\Q r s.σ
def Done.ret{rs:List RV}{Q:T->b6->Prop}{s:St}{r:T}(h:retT s rs=some r)(a:Q r s.σ):Done rs Q .ret s:=⟨.inr rfl,r,h,a⟩
def Done.normal{rs:List RV}{Q:T->b6->Prop}{s:St}{r:T}(h:retT s rs=some r)(a:Q r s.σ):Done rs Q .normal s:=⟨.inl rfl,r,h,a⟩
def Good.rs{a:Cx}(h:Good a):Rs a a.σ0 a.φ0 a.w0:=
 {good:=h,st:=h.st,keep:=fun i blk _ b hi hp c=>c.2 i blk b hi hp,os:=rfl,tape:=rfl,drawn:=aK _,output:=rfl,size:=aK _,block:=fun _ _=>rfl,kept:=Kept.refl _ _ _ _}
def ad3{D:Nat}{a:Obj}(h:d ≠ D):(g.putObj D a).heap[d]? =g.heap[d]? :=World.putObj_heap_other h
def cell_putD{D:Nat}{d:Obj}(f:g.heap[D]? =some (.deferred (some []))){a:Addr}(h:g.cell? a=some p):(g.putObj D d).cell? a=some p:=by
 have b:a.block ≠ D:=fun e=>by obtain⟨o,c,i⟩:=cells_of_cell h;rw[e,f] at c;cases c;cases i
 exact(World.cell?_of_block (ad3 b)).trans h
def RelI.putD{D:Nat}{q:Obj}(k:g.heap[D]? =some (.deferred (some []))){x:I}(h:RelI g l x p):RelI (g.putObj D q) l x p:=by
 induction h with
 |val h=>exact .val h
 |sl a b c hk d _ f=>exact .sl a b c hk (fun j e o x n i=>⟨(d j e o x n i).1,cell_putD k (d j e o x n i).2⟩) f
 |slNil=>exact .slNil
 |ipt a d _ f=>exact .ipt a (fun o x i=>⟨(d o x i).1,cell_putD k (d o x i).2⟩) f
 |fn a _ f=>exact .fn a f
def cells_ne{D:Nat}(c:g.heap[D]? =some (.deferred (some []))){a:Array Vl}{f:Nat×Nat}(h:g.heap[d]? =some (.cells a M f)):d ≠ D:=fun e=>by rw[e,c] at h;cases h
def RelC.putD{D:Nat}{x:Obj}(t:g.heap[D]? =some (.deferred (some []))){c:C}(h:RelC g q a l c p):RelC (g.putObj D x) q a l c p:=by
 induction h with
 |imm h=>exact .imm (h.putD t)
 |own d e h=>
  refine .own d e fun k y z=> ?_
  rcases h k y z with h|⟨b,i,n,o,r,B,E,F,s,G,H,J,u,K⟩
  ·exact .inl h
  ·exact .inr ⟨b,i,n,o,r,B,E,F,s,G,H,J,(ad3 (cells_ne t u)).trans u,K⟩
 |ptr d e h=>exact .ptr d e h
 |fn j _ f=>exact .fn j f
 |ifcA j _ f=>exact .ifcA j f
 |ifc1 _ f=>exact .ifc1 f
 |map d e h=>exact .map d e h
 |fnb j _ f=>exact .fnb j f
 |yld d e h=>exact .yld d e h
def RelT.putD{D:Nat}{e:Obj}(d:g.heap[D]? =some (.deferred (some []))){t:T}(h:RelT g q a l t p):RelT (g.putObj D e) q a l t p:=by
 induction h with
 |c h=>exact .c (h.putD d)
 |agg b f=>exact .agg b fun i c hi=>(f i c hi).putD d
 |tup b _ j=>exact .tup b j
 |undef=>exact .undef
def Rs.putD{B:Phi}{D:Nat}{P:Obj}{z:Cx}(h:Rs z a B g)(A:g.heap[D]? =some (.deferred (some [])))(K:z.w0.heap.size<=D)(Q:Al z.N B a D):Rs z a B (g.putObj D P):=
 {good:=h.good
  st:=⟨fun i b hi=>by
   have n:=h.st.blk i b hi;cases b with
   |cells k L=>
    rcases n with c|⟨b,d,f,l,p,r,s,t,U⟩
    ·exact .inl c
    ·exact .inr ⟨b,d,f,l,p,(ad3 (cells_ne A r)).trans r,s,t,fun j e o x E F=>let ⟨u,G,H⟩:=U j e o x E F; ⟨u,G,H.putD A⟩⟩
   |obj q cs=>
    obtain⟨b,o,V,p,r,s,t⟩:=n
    exact⟨b,o,V,p,(ad3 (fun e=>Q.2 i _ 0 hi (by rw[p,e]))).trans r,s,fun i x F=>let ⟨u,G,H⟩:=t i x F; ⟨u,G,H.putD A⟩⟩,h.st.inj⟩
  keep:=h.keep,os:=h.os,tape:=h.tape,drawn:=h.drawn,output:=h.output
  size:=by rw[World.putObj_size];exact h.size
  block:=fun b M=>(ad3 (Nat.ne_of_lt (ag M.1 K))).trans (h.block b M)
  kept:=⟨fun b n v=>(ad3 (Nat.ne_of_lt (ag v K))).trans (h.kept.imm b n v),h.kept.all,h.kept.len,fun i k J hi E=>by obtain⟨L,p,r,s,t⟩:=h.kept.cells i k J hi E;exact⟨L,p,r,s,fun b d f l hp n=>let ⟨y,O,X⟩:=t b d f l hp n; ⟨y,(ad3 (cells_ne A O)).trans O,X⟩⟩,h.kept.obj⟩}
def aG8{g:Cx}{s:St}{fn:Func}{tmps:Array Vl}{i:Ending->World->Prop}(a:∀w,R g H s q ⟨tmps,[]⟩ w->LeavesIn Fence.wide 0 r fn tmps i [] .returning w):
  ∀(c:List Deferred) (w:World),R g H s q ⟨tmps,c⟩ w->LeavesInM Fence.wide 0 r fn tmps i c .returning w
 |[],w,h=>a w h
 |d::c,w,h=>by obtain⟨j,k⟩:=h.defers;obtain⟨D,rfl,f,l,n⟩:=k d (by simp);refine⟨by simp,.inl ⟨D,_,rfl,run_takeDeferred f,aG8 a c _ ?_⟩⟩;refine {toRs:=h.toRs.putD f l n,defers:=⟨(List.nodup_cons.1 j).2,fun o b=> ?_⟩,asize:=h.asize,env:=fun t v p=>let ⟨u,x,y⟩:=h.env t v p; ⟨u,x,y.putD f⟩};obtain⟨z,rfl,A,B,E⟩:=k o (bS _ b);refine⟨z,rfl,(ad3 fun e=> ?_).trans A,B,E⟩;subst e;exact(List.nodup_cons.1 j).1 b
def FnOk.enter{P:Program}{f:FuncId}{fn:Func}{c:Code}{rs:List RV}{Q:T->b6->Prop}(G : P.funcs[f]? = some fn)(H : fn.body = some c)(x : fn.ntmps = d)(z : fn.results = (rs.map RV.var).toArray)(o : aY (cD rs) 5 = true)(A : RV.oks P rs)(j : (fn.name == "runtime.NumGoroutine")=false)(L:aY (cD y) d=true)(h:AWP P a d c (Done rs Q) ⟨argEnv 0 y,a⟩):FnOk P f y a Q:=by
 refine⟨⟨fn,G,j,by rw[H];rfl⟩,fun i vs B M O U=> ?_⟩
 subst B
 have V:cD y<=d:=aA L
 refine(callsIn_wide (n:=0)).1 (callsIn_of_wp_marks G H Y ?_)
 rw[x]
 have X:R i d ⟨argEnv 0 y,i.σ0⟩ i.φ0 {tmps:=vs.toArray++bM (d - vs.toArray.size) Go.undef,defers:=[]} i.w0:=
  {toRs:=M.rs,defers:=.nil,asize:=by simp;omega,env:=fun t v ht=>by
    obtain⟨_,D⟩:=aF1 y 0 t v ht;simp only[Nat.sub_zero] at D;have p:t<cD vs:=by rw[<- O];exact(lG.1 D).1
    refine⟨vs[t],by simp[Array.getElem?_append,p],U t v _ D (by simp[p])⟩}
 refine wpIn_mono (h i _ _ _ rfl X none (fun _=>rfl)) ?_
 rintro e b w ⟨s,J,⟨he,r,q,hq⟩,E⟩
 have F:∀l,R i d s J ⟨b.tmps,[]⟩ l->LeavesIn Fence.wide 0 P fn b.tmps (fun e l=>∃v r g k,e=.returned v/\Q r g/\RelT l k g (Al i.N k g) r v/\Rs i g k l) [] .returning l:=fun l K=>by obtain⟨v,hv,u⟩:=retT_run K z o A q;exact⟨v,hv,v,r,s.σ,J,rfl,hq,u,K.toRs⟩
 have:=aG8 F b.defers w E
 rcases he with rfl|rfl<;>exact this
/-! ## Calls -/
def Rs.down{k:Cx}(h:Rs k a q g):Good ⟨g,k.N,q,a⟩:=
 {st:=h.st,lt:=fun b n=>ag (h.good.lt b n) h.size,
  own:=fun i blk b d hi hp l=>h.keep i blk b d hi hp ⟨h.good.lt b l,fun o e c f j=>h.good.own o e b c f j l⟩}
def Rs.up{p:Cx}{n:Phi}{s:World}(h:Rs p a q g)(k:Rs ⟨g,p.N,q,a⟩ c n s):Rs p c n s where
 good:=h.good
 st:=k.st
 keep i blk b o hi hp l:=k.keep i blk b o hi hp ⟨ag l.1 h.size,fun r e d f j=>h.keep r e b d f j l⟩
 os:=k.os.trans h.os
 tape:=k.tape.trans h.tape
 drawn:=aP h.drawn k.drawn
 output:=k.output.trans h.output
 size:=aP h.size k.size
 block b l:=(k.block b ⟨ag l.1 h.size,fun r e d f j=>h.keep r e b d f j l⟩).trans (h.block b l)
 kept:=Kept.trans h.size h.kept k.kept
def Cx.bare(a:Cx)(c:Phi)(σ:b6)(w:World):Cx:=⟨w,fun b=>b<w.heap.size/\¬ Al a.N c σ b,fun _=>none,[]⟩
def good_bare(c:Cx)(d:Phi)(σ:b6)(w:World):Good (c.bare d σ w):=
 {st:=⟨fun i b hi=>by simp[Cx.bare] at hi,fun i j e f p q hi=>by simp[Cx.bare] at hi⟩,lt:=fun _ h=>h.1,own:=fun i blk b a hi=>by simp[Cx.bare] at hi}
def bare_al{c:Cx}(h:Al c.N q a d):Al (c.bare q a g).N (fun _=>none) [] d:=
 ⟨fun f=>f.2 h,fun i blk e hi=>by simp at hi⟩
def V1(n:Nat)(b a:Phi):Phi:=fun i=>if i.1<n then b i else a (unsh n i)
theorem Rs.upBare{Γ:Cx}{σ σ':b6}{φ φ':Phi}{w w':World}(h:Rs Γ σ φ w)(k:Rs (Γ.bare φ σ w) σ' φ' w'):
  Kept w w' φ (V1 (cD σ) φ φ') σ (σ++σ'.mapB (Blk.ren (sh (cD σ)))) (Al Γ.N φ σ) (Al Γ.N (V1 (cD σ) φ φ') (σ++σ'.mapB (Blk.ren (sh (cD σ)))))/\
  Fwd w' φ' (V1 (cD σ) φ φ') σ' (σ++σ'.mapB (Blk.ren (sh (cD σ)))) (Al (Γ.bare φ σ w).N φ' σ') (Al Γ.N (V1 (cD σ) φ φ') (σ++σ'.mapB (Blk.ren (sh (cD σ))))) (sh (cD σ))/\
  Rs Γ (σ++σ'.mapB (Blk.ren (sh (cD σ)))) (V1 (cD σ) φ φ') w':=by
 generalize hn:cD σ=n
 generalize hσ:σ++σ'.mapB (Blk.ren (sh n))=σ2
 have lo:∀i:Id,i.1<n->σ2[i]? =σ[i]? :=fun i hi=>by rw[<- hσ];exact b6.get_left (by rw[hn];exact hi)
 have hi':∀i:Id,n<=i.1->σ2[i]? =(σ'[unsh n i]?).map (bR (Blk.ren (sh n))):=fun i hi=>by rw[<- hσ,b6.get_right (by rw[hn];exact hi),b6.get_map,hn];rfl
 have plo:∀i:Id,i.1<n->V1 n φ φ' i=φ i:=fun i hi=>by simp[V1,hi]
 have phi:∀i:Id,n<=i.1->V1 n φ φ' i=φ' (unsh n i):=fun i hi=>by simp[V1,bT.2 hi]
 have hlen:n<=cD σ2:=by rw[<- hσ];simp[hn]
 have old:∀b,b<w.heap.size->(Γ.bare φ σ w).K b:=fun b hb=>⟨hb,fun i blk base hi=>by simp[Cx.bare] at hi⟩
 have ownlt:∀(i:Id) blk b base,σ[i]? =some (some blk)->φ i=some (b,base)->b<w.heap.size:=fun i blk b base hi hp=>Al.own_lt h.st hi hp
 have newge:∀(i:Id) blk b base,σ'[i]? =some (some blk)->φ' i=some (b,base)->w.heap.size<=b:=fun i blk b base hi hp=>by
  rcases az b w.heap.size with hb|hb
  ·exact absurd (old b hb) (k.keep i blk b base hi hp)
  ·exact hb
 have hnew:∀(i:Id) blk,n<=i.1->σ2[i]? =some (some blk)->∃b0,σ'[unsh n i]? =some (some b0)/\blk=b0.ren (sh n):=fun i blk hge h2=>by
  rw[hi' i hge] at h2
  cases hx:σ'[unsh n i]? with
  |none=>rw[hx] at h2;cases h2
  |some o=>
   rw[hx] at h2
   cases o with
   |none=>cases h2
   |some b0=>cases h2;exact⟨b0,rfl,rfl⟩
 have A1:∀b,Al Γ.N φ σ b->b<w.heap.size->Al Γ.N (V1 n φ φ') σ2 b:=fun b hb hlt=>⟨hb.1,fun i blk base hib hp=>by
  rcases az i.1 n with hin|hin
  ·exact hb.2 i blk base (by rw[<- lo i hin];exact hib) (by rw[<- plo i hin];exact hp)
  ·obtain⟨b0,h1,_⟩:=hnew i blk hin hib
   rw[phi i hin] at hp
   have:=newge _ _ _ _ h1 hp
   omega⟩
 have A2:∀b,Al (Γ.bare φ σ w).N φ' σ' b->b<w'.heap.size->Al Γ.N (V1 n φ φ') σ2 b:=fun b hb _=>by
  have key:b<w.heap.size->Al Γ.N φ σ b:=fun hlt=>Classical.byContradiction fun hx=>hb.1 ⟨hlt,hx⟩
  refine⟨fun hN=> ?_,fun i blk base hib hp=> ?_⟩
  ·have hlt:b<w.heap.size:=ag (h.good.lt b hN) h.size
   exact(key hlt).1 hN
  ·rcases az i.1 n with hin|hin
   ·rw[lo i hin] at hib;rw[plo i hin] at hp
    have hlt:=ownlt i blk b base hib hp
    exact(key hlt).2 i blk base hib hp
   ·obtain⟨b0,h1,_⟩:=hnew i blk hin hib
    rw[phi i hin] at hp
    exact hb.2 _ b0 base h1 hp
 have hK:Kept w w' φ (V1 n φ φ') σ σ2 (Al Γ.N φ σ) (Al Γ.N (V1 n φ φ') σ2):=
  {imm:=fun b _ hl=>k.block b (old b hl),all:=A1,len:=by omega,
   cells:=fun i kk es' hi he=>by
    rw[hn] at hi
    rw[lo i hi] at he
    refine⟨es',he,rfl,plo i hi,fun b base arr ety hp hb=>⟨arr,?_,rfl⟩⟩
    exact(k.block b (old b (ownlt i _ b base he hp))).trans hb,
   obj:=fun i p' cs' hi he=>by
    rw[hn] at hi
    rw[lo i hi] at he
    exact⟨plo i hi,p',cs',he⟩}
 have hF:Fwd w' φ' (V1 n φ φ') σ' σ2 (Al (Γ.bare φ σ w).N φ' σ') (Al Γ.N (V1 n φ φ') σ2) (sh n):=
  {all:=A2,blk:=fun i hi=>by
    have hge:n<=(sh n i).1:=by simp[sh]
    refine⟨by rw[<- hσ];simp[hn,sh];omega,by rw[phi _ hge,unsh_sh],fun b' hb'=> ?_⟩
    obtain⟨b0,h1,h2⟩:=hnew (sh n i) b' hge hb'
    exact⟨b0,by rwa [unsh_sh] at h1,h2⟩}
 refine⟨hK,hF,?_⟩
 exact {
  good:=h.good
  st:=⟨fun i b hib=>by
    rcases az i.1 n with hin|hin
    ·rw[lo i hin] at hib
     rw[plo i hin]
     exact(h.st.blk i b hib).mono hK fun g base hp=>k.block g (old g (ownlt i b g base hib hp))
    ·obtain⟨b0,h1,rfl⟩:=hnew i b hin hib
     rw[phi i hin]
     have hb:=k.st.blk _ _ h1
     cases b0 with
     |cells kk es=>
      rcases hb with⟨g1,g2⟩|⟨b,base,arr,ety,g1,g2,g3,g4,g5⟩
      ·exact .inl ⟨g1,by subst g2;rfl⟩
      ·refine .inr ⟨b,base,arr,ety,g1,g2,by simpa using g3,fun j e he=> ?_,fun j e o x he hx=> ?_⟩
       ·simp only[lM,oM] at he
        obtain⟨e0,he0,rfl⟩:=he
        rw[y7];simpa using g4 j e0 he0
       ·simp only[lM,oM] at he
        obtain⟨e0,he0,rfl⟩:=he
        rw[y7] at hx
        simp only[lM,oM] at hx
        obtain⟨x0,hx0,rfl⟩:=hx
        obtain⟨u,hu,hr⟩:=g5 j e0 o x0 he0 hx0
        exact⟨u,hu,hr.fwd hF⟩
     |obj p cs=>
      obtain⟨b,o,us,g1,g2,g3,g4⟩:=hb
      refine⟨b,o,us,g1,g2,g3,fun i x hx=> ?_⟩
      rw[y7] at hx
      simp only[lM,oM] at hx
      obtain⟨x0,hx0,rfl⟩:=hx
      obtain⟨u,hu,hr⟩:=g4 i x0 hx0
      exact⟨u,hu,hr.fwd hF⟩,
   fun i j bi bj p q hib hjb hp hq he=>by
    obtain⟨pb,po⟩:=p
    obtain⟨qb,qo⟩:=q
    dsimp only at he
    subst he
    rcases az i.1 n with hin|hin<;>rcases az j.1 n with hjn|hjn
    ·rw[lo i hin] at hib;rw[lo j hjn] at hjb;rw[plo i hin] at hp;rw[plo j hjn] at hq
     exact h.st.inj i j bi bj _ _ hib hjb hp hq rfl
    ·rw[lo i hin] at hib;rw[plo i hin] at hp
     obtain⟨b0,h1,_⟩:=hnew j bj hjn hjb
     rw[phi j hjn] at hq
     have:=newge _ _ _ _ h1 hq
     have:=ownlt i bi _ _ hib hp
     omega
    ·rw[lo j hjn] at hjb;rw[plo j hjn] at hq
     obtain⟨b0,h1,_⟩:=hnew i bi hin hib
     rw[phi i hin] at hp
     have:=newge _ _ _ _ h1 hp
     have:=ownlt j bj _ _ hjb hq
     omega
    ·obtain⟨b0,h1,_⟩:=hnew i bi hin hib
     obtain⟨b1,h2,_⟩:=hnew j bj hjn hjb
     rw[phi i hin] at hp
     rw[phi j hjn] at hq
     have:=k.st.inj _ _ _ _ _ _ h1 h2 hp hq rfl
     rw[<- sh_unsh hin,this,sh_unsh hjn]⟩
  keep:=fun i blk b base hib hp hKb=>by
   rcases az i.1 n with hin|hin
   ·rw[lo i hin] at hib;rw[plo i hin] at hp
    exact h.keep i blk b base hib hp hKb
   ·obtain⟨b0,h1,_⟩:=hnew i blk hin hib
    rw[phi i hin] at hp
    have:=newge _ _ _ _ h1 hp
    have:=hKb.1
    have:=h.size
    omega
  os:=k.os.trans h.os
  tape:=k.tape.trans h.tape
  drawn:=aP h.drawn k.drawn
  output:=k.output.trans h.output
  size:=aP h.size k.size
  block:=fun b hKb=>(k.block b (old b (ag hKb.1 h.size))).trans (h.block b hKb)
  kept:=Kept.trans h.size h.kept hK}
class TyD (P:Program) (t:Ti) (d:outParam TypeDesc):Prop where
 h:P.underlying t=some d
class TyS (P:Program) (t:Ti) (size bytes:outParam Nat) (zero:outParam Vl):Prop where
 h:∃i,P.info? t=some i/\i.size=size/\i.bytes=bytes/\i.zero=some zero
def evs(env:Env):List Od->Option (List T)
 |[]=>some []
 |x::r=>match ev env x,evs env r with
  |some t,some a=>some (t::a)
  |_,_=>none
def sem_ro{P:Program}{a:Act}{w w':World}{o:Oper}{ro:Option Nat}{x:Next}(h:(execOp a.eval o).run P w=.ok x w')(hx:∀d,x ≠ .defer d):(o.semAt ro a.eval).run P w=.ok x w':=by
 by_cases hd:∃c,o.op=.defer c;obtain⟨c,hc⟩:=hd;exfalso;unfold execOp at h;simp only[hc,Sem.run_bind] at h;cases hr:(resolve a.eval c o.type).run P w with
 |ok d w1=>rw[hr] at h;simp only[Result.andThen,Sem.run_pure] at h;cases h;exact hx _ rfl
 |halt x w1=>rw[hr] at h;simp[Result.andThen] at h
 rw[Oper.semAt_eq ro _ o fun c hc=>hd ⟨c,hc⟩];exact h
def W9{Q:Exit->Act->World->Prop}{ops:Array Oper}{rest:List Oper}{a:Act}{o:Oper}(b:o.guard=none)(h:o.wpIn (fw B) 0 r a g (wpListIn (fw B) 0 r ops Q rest) Q):wpListIn (fw B) 0 r ops Q (o::rest) a g:=by unfold wpListIn;rw[if_pos (by simp[Region.wanted,b])];exact h
def val_in{Q:Exit->Act->World->Prop}{a:Act}{b:World}{o:Oper}{K:Act->World->Prop}(c:(execOp a.eval o).run r g=.ok (.value p) b)(h:K (a.put o.dst p) b):o.wpIn (fw B) 0 r a g K Q:=
 ⟨fun _ _=>trivial,by rw[sem_ro c (fun d=>nofun),Oper.uponIn_value];exact h⟩
def skip_in{Q:Exit->Act->World->Prop}{a:Act}{b:World}{o:Oper}{K:Act->World->Prop}(c:(execOp a.eval o).run r g=.ok .skip b)(h:K (a.put o.dst undef) b):o.wpIn (fw B) 0 r a g K Q:=
 ⟨fun _ _=>trivial,by rw[sem_ro c (fun d=>nofun),Oper.uponIn_skip];exact h⟩
def ar0{Q:Exit->Act->World->Prop}{a:Act}{e:World}{o:Oper}{f:FuncId}{vs:Array Vl}{K:Act -> World -> Prop}(i : (execOp a.eval o).run r g = .ok (.enter f vs) e)(h : Calls r f vs e fun
   | .returned v,b=>K (a.put o.dst v) b
   | .panicked c,b=>Q (.panic c) a b
   | .outgrown,_=>LetsOut Q):o.wpIn (fw B) 0 r a g K Q:=
 ⟨fun _ _=>trivial,by rw[sem_ro i (fun d=>nofun),Oper.uponIn_enter];exact⟨fun h=>by simp at h,(callsIn_wide (n:=0 - 1)).2 h⟩⟩
section
variable {P:Program}{σ0:b6}{sz:Nat}{Q:Post}{env:Env}{σv:b6}{ops:Array Oper}{rest:List Oper}
def AWP.aa{id:Nat}{l:List Oper}(h:AOps P σ0 sz l.toArray Q l (St.mk env σv)):AWP P σ0 sz (.region id l.toArray false) Q (St.mk env σv):=fun c d a w b e f _=>wpIn_region_lit (h c d a w b e f)
def AOps.nil(h:Q .normal (St.mk env σv)):AOps P σ0 sz ops Q [] (St.mk env σv):=fun _ a _ _ _ b _=>⟨(St.mk env σv),a,h,b⟩
def AWP.cond{c d:Code}{b:Bool}(o:ev env A=some (.c (bool b)))(p:b=true->AWP P σ0 sz c Q (St.mk env σv))(q:b=false->AWP P σ0 sz d Q (St.mk env σv)):AWP P σ0 sz (.cond A c d) Q (St.mk env σv):=fun k l a w f i n g=>by
 have h:=i5 i o;have e:a.eval A=.bool b:=by generalize a.eval A=v at h;cases h with|c h=>cases h with|imm h=>cases h;rfl
 exact wpIn_cond_split e (fun j=>p j k l a w f i n (fun e=>g (by simp[R6,e]))) (fun j=>q j k l a w f i n (fun e=>g (by simp[R6,e])))
def AOps.value{o:Oper}(f:o.guard=none)(g:f7 sz o.dst=true)(v:T)
  (h:∀c b a w,R c sz (St.mk env σv) b a w->∃u,(execOp a.eval o).run P w=.ok (.value u) w/\RelT w b σv (Al c.N b σv) v u)
  (i:AOps P σ0 sz ops Q rest (St.mk (putE env o.dst v) σv)):AOps P σ0 sz ops Q (o::rest) (St.mk env σv):=fun c b a w d e j=>by
 obtain⟨u,k,l⟩:=h c b a w e
 exact W9 f (val_in k (i c b _ w d (e.put g l) j))
def AOps.valueW{o:Oper}(j:o.guard=none)(k:f7 sz o.dst=true)(v:T)(c:b6)
  (h:∀d f a w,R d sz (St.mk env σv) f a w->∃u e b,(execOp a.eval o).run P w=.ok (.value u) e/\RelT e b c (Al d.N b c) v u/\R d sz ⟨env,c⟩ b a e)
  (l:AOps P σ0 sz ops Q rest ((St.mk env c).put o.dst v)):AOps P σ0 sz ops Q (o::rest) (St.mk env σv):=fun d f a w g n p=>by
 obtain⟨u,e,b,q,r,i⟩:=h d f a w n
 exact W9 j (val_in q (l d b _ e g (i.put k r) p))
def AOps.skipW{o:Oper}(j:o.guard=none)(k:o.dst=none)(c:b6)
  (h:∀d f a w,R d sz (St.mk env σv) f a w->∃e b,(execOp a.eval o).run P w=.ok .skip e/\R d sz ⟨env,c⟩ b a e)
  (l:AOps P σ0 sz ops Q rest ⟨env,c⟩):AOps P σ0 sz ops Q (o::rest) (St.mk env σv):=fun d f a w g n p=>by
 obtain⟨e,b,q,i⟩:=h d f a w n
 refine W9 j (skip_in q ?_)
 rw[k]
 exact l d b _ e g i p
def AOps.guard{op:Op}{pos:String}{f:Array Edge}{b g:Bool}(r:(ops[d]?).bind (·.dst)=some H)(s:lookup H env=some (.c (bool g)))(v:f7 sz B=true)(x:g=b->AOps P σ0 sz ops Q (⟨B,op,M,pos,f,none⟩::rest) (St.mk env σv))(y:g= !b->AOps P σ0 sz ops Q rest (St.mk (putE env B .undef) σv)):AOps P σ0 sz ops Q (⟨B,op,M,pos,f,some (d,b)⟩::rest) (St.mk env σv):=fun n o a w i k p=>by
 obtain⟨u,z,A⟩:=k.env H _ s
 have e:u=.bool g:=by cases A with|c h=>cases h with|imm h=>cases h;rfl
 subst e
 have q:yielded ops a.tmps d=some g:=by simp[yielded,r,z]
 unfold wpListIn
 by_cases l:g=b
 ·rw[if_pos (by simp[Region.wanted,q,l])]
  have:=x l n o a w i k p
  unfold wpListIn at this
  rw[if_pos (by simp[Region.wanted])] at this
  exact this
 ·rw[if_neg (by simp[Region.wanted,q,l])]
  exact⟨fun _ _=>Y,y (by cases g<;>cases b<;>simp_all) n o _ w i (k.put v .undef) p⟩
def AOps.guardSkip{op:Op}{pos:String}{c:Array Edge}{b:Bool}(h:(ops[d]?).bind (·.dst)=some H)(i:lookup H env=some .undef)(k:f7 sz B=true)(l:AOps P σ0 sz ops Q rest (St.mk (putE env B .undef) σv)):AOps P σ0 sz ops Q (⟨B,op,M,pos,c,some (d,b)⟩::rest) (St.mk env σv):=fun n o a w f g p=>by
 obtain⟨u,q,r⟩:=g.env H _ i
 have e:u=Go.undef:=by cases r;rfl
 subst e
 have s:yielded ops a.tmps d=none:=by simp[yielded,h,q,Go.undef]
 unfold wpListIn
 rw[if_neg (by simp[Region.wanted,s])]
 exact⟨fun _ _=>Y,l n o _ w f (g.put k .undef) p⟩
section
variable {dst:Option Nat}{ty:Ti}{pos:String}{after:Array Edge}
def AOps.z{x:Od}{v:T}(b:ev env x=some v)(c:f7 sz dst=true)(h:AOps P σ0 sz ops Q rest (St.mk (putE env dst v) σv)):AOps P σ0 sz ops Q (⟨dst,.move x,ty,pos,after,none⟩::rest) (St.mk env σv):=
 .value rfl c v (fun _ _ a _ d=>⟨a.eval x,rfl,i5 d b⟩) h
def AOps.J{v:T}(b:ev env A=some v)(c:f7 sz dst=true)(h:AOps P σ0 sz ops Q rest (St.mk (putE env dst v) σv)):AOps P σ0 sz ops Q (⟨dst,.assign A,ty,pos,after,none⟩::rest) (St.mk env σv):=
 .value rfl c v (fun _ _ a _ d=>⟨a.eval A,rfl,i5 d b⟩) h
def val_inv{u:Vl}(h:RelT g q a l (.c (.imm (.val p))) u):u=p:=by cases h with|c h=>cases h with|imm h=>cases h;rfl
def A6{b:Cx}{a:Act}(d:R b sz (St.mk env σv) q a g)(h:ev env A=some (.c (.imm (.val p)))):a.eval A=p:=val_inv (i5 d h)
def AOps.pick{x y:Od}{b:Bool}{v:T}(g:ev env A=some (.c (bool b)))(i:(b=true/\ev env x=some v)\/(b=false/\ev env y=some v))(j:f7 sz dst=true)(h:AOps P σ0 sz ops Q rest (St.mk (putE env dst v) σv)):AOps P σ0 sz ops Q (⟨dst,.pick A x y,ty,pos,after,none⟩::rest) (St.mk env σv):=
 .value rfl j v (fun _ _ a _ d=>by have e:=A6 d g;rcases i with⟨rfl,f⟩|⟨rfl,f⟩;exact⟨a.eval x,by simp[execOp,e,asBool],i5 d f⟩;exact⟨a.eval y,by simp[execOp,e,asBool],i5 d f⟩) h
def AOps.pickT{x y:Od}{b:Bool}{v:T}(a:ev env A=some (.c (bool b)))(d:b=true)(e:ev env x=some v)(f:f7 sz dst=true)(h:AOps P σ0 sz ops Q rest (St.mk (putE env dst v) σv)):AOps P σ0 sz ops Q (⟨dst,.pick A x y,ty,pos,after,none⟩::rest) (St.mk env σv):=.pick a (.inl ⟨d,e⟩) f h
def AOps.pickF{x y:Od}{b:Bool}{v:T}(a:ev env A=some (.c (bool b)))(d:b=false)(e:ev env y=some v)(f:f7 sz dst=true)(h:AOps P σ0 sz ops Q rest (St.mk (putE env dst v) σv)):AOps P σ0 sz ops Q (⟨dst,.pick A x y,ty,pos,after,none⟩::rest) (St.mk env σv):=.pick a (.inr ⟨d,e⟩) f h
def AOps.bin{op:BinOp}{d:Ti}{y:Od}{v r:Vl}(e:ev env A=some (.c (.imm (.val p))))(f:ev env y=some (.c (.imm (.val v))))(g:f7 sz dst=true)(i:r.oneCell'=true)(j:∀w,(eqGuard op M A y p v).run P w=.ok () w)(k:∀w,(binOp op M p v).run P w=.ok r w)(h:AOps P σ0 sz ops Q rest (St.mk (putE env dst (.c (.imm (.val r)))) σv)):AOps P σ0 sz ops Q (⟨dst,.binOp op M A y d,ty,pos,after,none⟩::rest) (St.mk env σv):=
 .value rfl g _ (fun _ _ a w b=>⟨r,by simp[execOp,A6 b e,A6 b f,j,k],.c (.imm (.val i))⟩) h
section
variable {t t':Ti}{x y:Od}{k:IntKind}{a b:Int}(hx:ev env x=some (.c (.imm (.val (.int k a)))))(hy:ev env y=some (.c (.imm (.val (.int k b)))))(hd:f7 sz dst=true)
include hx hy hd
theorem AOps.lss(h:AOps P σ0 sz ops Q rest (St.mk (putE env dst (.c (bool (decide (a<b))))) σv)):AOps P σ0 sz ops Q (⟨dst,.binOp .lss t x y t',ty,pos,after,none⟩::rest) (St.mk env σv):=.bin hx hy hd rfl (fun w=>by simp[go_sem]) (fun w=>by simp[go_sem]) h
theorem AOps.leq(h:AOps P σ0 sz ops Q rest (St.mk (putE env dst (.c (bool (decide (a<=b))))) σv)):AOps P σ0 sz ops Q (⟨dst,.binOp .leq t x y t',ty,pos,after,none⟩::rest) (St.mk env σv):=.bin hx hy hd rfl (fun w=>by simp[go_sem]) (fun w=>by simp[go_sem]) h
theorem AOps.gtr(h:AOps P σ0 sz ops Q rest (St.mk (putE env dst (.c (bool (decide (b<a))))) σv)):AOps P σ0 sz ops Q (⟨dst,.binOp .gtr t x y t',ty,pos,after,none⟩::rest) (St.mk env σv):=.bin hx hy hd rfl (fun w=>by simp[go_sem]) (fun w=>by simp[go_sem]) h
theorem AOps.geq(h:AOps P σ0 sz ops Q rest (St.mk (putE env dst (.c (bool (decide (b<=a))))) σv)):AOps P σ0 sz ops Q (⟨dst,.binOp .geq t x y t',ty,pos,after,none⟩::rest) (St.mk env σv):=.bin hx hy hd rfl (fun w=>by simp[go_sem]) (fun w=>by simp[go_sem]) h
theorem AOps.eql(h:AOps P σ0 sz ops Q rest (St.mk (putE env dst (.c (bool (decide (a=b))))) σv)):AOps P σ0 sz ops Q (⟨dst,.binOp .eql t x y t',ty,pos,after,none⟩::rest) (St.mk env σv):=.bin hx hy hd rfl (fun w=>by simp[go_sem]) (fun w=>by simp[go_sem];rfl) h
theorem AOps.neq(h:AOps P σ0 sz ops Q rest (St.mk (putE env dst (.c (bool (!decide (a=b))))) σv)):AOps P σ0 sz ops Q (⟨dst,.binOp .neq t x y t',ty,pos,after,none⟩::rest) (St.mk env σv):=.bin hx hy hd rfl (fun w=>by simp[go_sem]) (fun w=>by simp[go_sem];rfl) h
theorem AOps.addW(h:AOps P σ0 sz ops Q rest (St.mk (putE env dst (.c (.imm (.val (.int k (k.wrap (a+b))))))) σv)):AOps P σ0 sz ops Q (⟨dst,.binOp .add t x y t',ty,pos,after,none⟩::rest) (St.mk env σv):=.bin hx hy hd rfl (fun w=>by simp[go_sem]) (fun w=>by simp[binOp_add,Op.intArith]) h
theorem AOps.subW(h:AOps P σ0 sz ops Q rest (St.mk (putE env dst (.c (.imm (.val (.int k (k.wrap (a - b))))))) σv)):AOps P σ0 sz ops Q (⟨dst,.binOp .sub t x y t',ty,pos,after,none⟩::rest) (St.mk env σv):=.bin hx hy hd rfl (fun w=>by simp[go_sem]) (fun w=>by simp[binOp_sub,Op.intArith]) h
theorem AOps.mulW(h:AOps P σ0 sz ops Q rest (St.mk (putE env dst (.c (.imm (.val (.int k (k.wrap (a * b))))))) σv)):AOps P σ0 sz ops Q (⟨dst,.binOp .mul t x y t',ty,pos,after,none⟩::rest) (St.mk env σv):=.bin hx hy hd rfl (fun w=>by simp[go_sem]) (fun w=>by simp[binOp_mul,Op.intArith]) h
theorem AOps.quoW(hb:b ≠ 0)(h:AOps P σ0 sz ops Q rest (St.mk (putE env dst (.c (.imm (.val (.int k (k.wrap (a.tdiv b))))))) σv)):AOps P σ0 sz ops Q (⟨dst,.binOp .quo t x y t',ty,pos,after,none⟩::rest) (St.mk env σv):=.bin hx hy hd rfl (fun w=>by simp[go_sem]) (fun w=>by simp[binOp_quo,Op.intDiv,hb]) h
theorem AOps.remW(hb:b ≠ 0)(h:AOps P σ0 sz ops Q rest (St.mk (putE env dst (.c (.imm (.val (.int k (a.tmod b)))))) σv)):AOps P σ0 sz ops Q (⟨dst,.binOp .rem t x y t',ty,pos,after,none⟩::rest) (St.mk env σv):=.bin hx hy hd rfl (fun w=>by simp[go_sem]) (fun w=>by simp[binOp_rem,Op.intDiv,hb]) h
theorem AOps.bits{op:BinOp}(ho:op=.and\/op=.or\/op=.xor\/op=.andNot)(h:AOps P σ0 sz ops Q rest (St.mk (putE env dst (.c (.imm (.val (.int k (Go.bits op k a b)))))) σv)):AOps P σ0 sz ops Q (⟨dst,.binOp op t x y t',ty,pos,after,none⟩::rest) (St.mk env σv):=by
 rcases ho with rfl|rfl|rfl|rfl<;>exact .bin hx hy hd rfl (fun w=>by simp[go_sem]) (fun w=>by simp[go_sem]) h
end
def wrap_i64{n:Int}(h: -9223372036854775808<=n/\n<=9223372036854775807):IntKind.i64.wrap n=n:=by rw[IntKind.wrap_i64];omega
section
variable {t t':Ti}{x y:Od}{a b:Int}(hx:ev env x=some (.c (int a)))(hy:ev env y=some (.c (int b)))(hd:f7 sz dst=true)
include hx hy hd
def AOps.add(d: -9223372036854775808<=a+b/\a+b<=9223372036854775807)(h:AOps P σ0 sz ops Q rest (St.mk (putE env dst (.c (int (a+b)))) σv)):AOps P σ0 sz ops Q (⟨dst,.binOp .add t x y t',ty,pos,after,none⟩::rest) (St.mk env σv):=.addW hx hy hd (by rw[wrap_i64 d];exact h)
def AOps.sub'(d: -9223372036854775808<=a - b/\a - b<=9223372036854775807)(h:AOps P σ0 sz ops Q rest (St.mk (putE env dst (.c (int (a - b)))) σv)):AOps P σ0 sz ops Q (⟨dst,.binOp .sub t x y t',ty,pos,after,none⟩::rest) (St.mk env σv):=.subW hx hy hd (by rw[wrap_i64 d];exact h)
def AOps.mul(d: -9223372036854775808<=a * b/\a * b<=9223372036854775807)(h:AOps P σ0 sz ops Q rest (St.mk (putE env dst (.c (int (a * b)))) σv)):AOps P σ0 sz ops Q (⟨dst,.binOp .mul t x y t',ty,pos,after,none⟩::rest) (St.mk env σv):=.mulW hx hy hd (by rw[wrap_i64 d];exact h)
end
def AOps.not{b:Bool}(d:ev env A=some (.c (bool b)))(e:f7 sz dst=true)(h:AOps P σ0 sz ops Q rest (St.mk (putE env dst (.c (bool (!b)))) σv)):AOps P σ0 sz ops Q (⟨dst,.unOp .not M A,ty,pos,after,none⟩::rest) (St.mk env σv):=
 .value rfl e _ (fun _ _ a w f=>⟨.bool (!b),by simp[execOp,A6 f d,Op.unary],.c (.imm (.val rfl))⟩) h
def AOps.neg{k:IntKind}{n:Int}(b:ev env A=some (.c (.imm (.val (.int k n)))))(d:f7 sz dst=true)(h:AOps P σ0 sz ops Q rest (St.mk (putE env dst (.c (.imm (.val (.int k (k.wrap (0 - n))))))) σv)):AOps P σ0 sz ops Q (⟨dst,.unOp .neg M A,ty,pos,after,none⟩::rest) (St.mk env σv):=
 .value rfl d _ (fun _ _ a w e=>⟨.int k (k.wrap (0 - n)),by simp[execOp,A6 e b,Op.unary,Op.intArith],.c (.imm (.val rfl))⟩) h
def sl_inv{f:List (List I)}(h:RelT g q a l (.c (.imm (.sl d f))) p):∃b e,p=.slice b (cD f) e:=by
 cases h with|c h=>cases h with|imm h=>cases h<;>exact⟨_,_,rfl⟩
def H1{k:Nat}(h:RelT g q a l (.c (.own b d H)) p)(e:a[b]? =some (some (.cells k V))):ac9 g (q b) k (cD V) d H p:=by
 cases h with|c h=>cases h with|own _ _ h=>exact h k V e
def ac9.len{w:World}{p:Option (Nat×Nat)}{k l n:Nat}{u:Vl}(h:ac9 w p k l d n u):∃b a,u=.slice b n a:=by rcases h with⟨_,c,_,f⟩|⟨b,e,a,g,i,o,_,c,_⟩;exact⟨none,0,by rw[c,f]⟩;exact⟨_,a,c⟩
/-! ### Length -/
def AOps.len{t e:Ti}{k:Nat}{es:List (List I)}[d:TyD P t (.slice e)](f:ev env A=some (.c (.imm (.sl k es))))(g:f7 sz dst=true)(h:AOps P σ0 sz ops Q rest (St.mk (putE env dst (.c (int (cD es)))) σv)):AOps P σ0 sz ops Q (⟨dst,.call ⟨.builtin .len,#[A],#[t]⟩,ty,pos,after,none⟩::rest) (St.mk env σv):=
 .value rfl g _ (fun _ _ a w i=>⟨.int .i64 (cD es),by obtain⟨b,j,e⟩:=sl_inv (i5 i f);simp[execOp,resolve,invoke,builtin,e,Builtin.len_,run_underlying d.h,goInt],.int _⟩) h
def AOps.lenOwn{e:Ti}{id:Id}{k:Nat}[g:TyD P M (.slice e)](i:ev env A=some (.c (.own id d H)))(f:σv[id]? =some (some (.cells k V)))(l:f7 sz dst=true)(h:AOps P σ0 sz ops Q rest (St.mk (putE env dst (.c (int H))) σv)):AOps P σ0 sz ops Q (⟨dst,.call ⟨.builtin .len,#[A],#[M]⟩,ty,pos,after,none⟩::rest) (St.mk env σv):=
 .value rfl l _ (fun _ _ a w o=>⟨.int .i64 H,by obtain⟨b,p,e⟩:=(H1 (i5 o i) f).len;simp[execOp,resolve,invoke,builtin,e,Builtin.len_,run_underlying g.h,goInt],.int _⟩) h
def AOps.lenNil{e:Ti}{b:Option Addr}[f:TyD P M (.slice e)](g:ev env A=some (.c (.imm (.val (.slice b d H)))))(i:f7 sz dst=true)(h:AOps P σ0 sz ops Q rest (St.mk (putE env dst (.c (int d))) σv)):AOps P σ0 sz ops Q (⟨dst,.call ⟨.builtin .len,#[A],#[M]⟩,ty,pos,after,none⟩::rest) (St.mk env σv):=
 .value rfl i _ (fun _ _ a w j=>⟨.int .i64 d,by simp[execOp,A6 j g,resolve,invoke,builtin,Builtin.len_,run_underlying f.h,goInt],.int _⟩) h
/-! ### min, max -/
def AOps.min2{x y:Od}{ts:Array Ti}{k:IntKind}{m n:Int}(hx:ev env x=some (.c (.imm (.val (.int k m)))))(hy:ev env y=some (.c (.imm (.val (.int k n)))))(hd:f7 sz dst=true)
  (h:AOps P σ0 sz ops Q rest (St.mk (putE env dst (.c (.imm (.val (.int k (min m n)))))) σv)):AOps P σ0 sz ops Q (⟨dst,.call ⟨.builtin .min,#[x,y],ts⟩,ty,pos,after,none⟩::rest) (St.mk env σv):=
 .value rfl hd _ (fun _ _ a w hR=>⟨.int k (min m n),by simp[execOp,A6 hR hx,A6 hR hy,resolve,invoke,builtin,Builtin.min_,Builtin.min2];split<;>omega,.c (.imm (.val rfl))⟩) h
def AOps.max2{x y:Od}{ts:Array Ti}{k:IntKind}{m n:Int}(hx:ev env x=some (.c (.imm (.val (.int k m)))))(hy:ev env y=some (.c (.imm (.val (.int k n)))))(hd:f7 sz dst=true)
  (h:AOps P σ0 sz ops Q rest (St.mk (putE env dst (.c (.imm (.val (.int k (max m n)))))) σv)):AOps P σ0 sz ops Q (⟨dst,.call ⟨.builtin .max,#[x,y],ts⟩,ty,pos,after,none⟩::rest) (St.mk env σv):=
 .value rfl hd _ (fun _ _ a w hR=>⟨.int k (max m n),by simp[execOp,A6 hR hx,A6 hR hy,resolve,invoke,builtin,Builtin.max_,Builtin.max2];split<;>omega,.c (.imm (.val rfl))⟩) h
def AOps.extract{v:T}(b:ev env A=some (.tup y))(hi:y[d]? =some v)(c:f7 sz dst=true)(h:AOps P σ0 sz ops Q rest (St.mk (putE env dst v) σv)):AOps P σ0 sz ops Q (⟨dst,.extract A d,ty,pos,after,none⟩::rest) (St.mk env σv):=
 .value rfl c _ (fun _ _ a w e=>by obtain⟨vs,f,l,g⟩:=RelT.tup_inv (i5 e b);obtain⟨u,j,k⟩:=g d v hi;exact⟨u,by simp[execOp,f,Instr.extract,j],k⟩) h
end
end
def Kept.drew(w:World)(b:Phi)(σ:b6)(A:Nat->Prop):Kept w w.drew b b σ σ A A:=
 ⟨fun _ _ _=>rfl,fun _ h _=>h,aK _,fun _ _ c _ h=>⟨c,h,rfl,rfl,fun _ _ a _ _ d=>⟨a,d,rfl⟩⟩,fun _ p cs _ h=>⟨rfl,p,cs,h⟩⟩
def Rs.drew{c:Cx}(h:Rs c a q g):Rs c a q g.drew:=
 {good:=h.good,st:=⟨fun i b hi=>(h.st.blk i b hi).mono (Kept.drew g q a _) (fun _ _ _=>rfl),h.st.inj⟩,
  keep:=h.keep,os:=h.os,tape:=h.tape,drawn:=aP h.drawn (Nat.le_succ _),output:=h.output,size:=h.size,block:=h.block,
  kept:=Kept.trans h.size h.kept (Kept.drew g q a _)}
def R.of{e:Cx}{s:St}{c:Phi}{b:Act}{f:World}(h:R e d s q b g)(hk:Kept g f q c s.σ a (Al e.N q s.σ) (Al e.N c a))(i:Rs e a c f):R e d ⟨s.env,a⟩ c b f:=
 {toRs:=i,defers:=h.defers.kept hk,asize:=h.asize,env:=fun t v j=>let ⟨u,k,l⟩:=h.env t v j; ⟨u,k,l.mono hk⟩}
def s8(n:Nat)(a:Phi)(b:Nat):Phi:=fun i=>if i=(n,[]) then some (b,0) else a i
def Rs.alloc{v:Cx}{l:Phi}(h:Rs v a l g){k:Nat}{es:List (List C)}{arr:Array Vl}{ety:Ti}(hk:∀(j:Nat) (e:List C),es[j]? =some e->cD e=k)(M:cD es * k<=arr.size)(O:∀(j:Nat) (e:List C) (o:Nat) (x:C),es[j]? =some e->e[o]? =some x->∃u,arr[j * k+o]? =some u/\RelC g l a (Al v.N l a) x u):
  Kept g (g.alloc (.cells arr ety)) l (s8 (cD a) l g.heap.size) a (a++[.one (.cells k es)]) (Al v.N l a) (Al v.N (s8 (cD a) l g.heap.size) (a++[.one (.cells k es)]))/\
  Rs v (a++[.one (.cells k es)]) (s8 (cD a) l g.heap.size) (g.alloc (.cells arr ety)):=by
 have old:∀b,b<g.heap.size->(g.alloc (.cells arr ety)).heap[b]? =g.heap[b]? :=fun b A=>by first|exact heap_alloc_old g _ A|exact heap_alloc_old g _ _ A
 have new:(g.alloc (.cells arr ety)).heap[g.heap.size]? =some (.cells arr ety (0,0)):=heap_alloc_new g _
 have f:∀i:Id,i.1<cD a->s8 (cD a) l g.heap.size i=l i:=fun i hi=>by
  have:i ≠ (cD a,[]):=fun e=>by rw[e] at hi;exact aO _ hi
  simp[s8,this]
 have n:s8 (cD a) l g.heap.size (cD a,[])=some (g.heap.size,0):=by simp[s8]
 have d:∀(i:Id) blk,(a++[.one (.cells k es)])[i]? =some (some blk)->(i.1<cD a/\a[i]? =some (some blk))\/(i=(cD a,[])/\blk=.cells k es):=fun i blk hi=>b6.get_new hi
 have P:∀b,Al v.N l a b->b<g.heap.size->Al v.N (s8 (cD a) l g.heap.size) (a++[.one (.cells k es)]) b:=fun b A G=>⟨A.1,fun i blk r hi hp=>by rcases d i blk hi with⟨z,y⟩|⟨rfl,rfl⟩;rw[f i z] at hp;exact A.2 i blk r y hp;rw[n] at hp;cases hp;omega⟩
 have D:Kept g (g.alloc (.cells arr ety)) l (s8 (cD a) l g.heap.size) a (a++[.one (.cells k es)]) (Al v.N l a) (Al v.N (s8 (cD a) l g.heap.size) (a++[.one (.cells k es)])):=
  {imm:=fun b _ G=>old b G,all:=P,len:=by simp,
   cells:=fun i kk E hi s=>by rw[b6.get_left hi] at s;exact⟨E,s,rfl,f i hi,fun b r arr ety hp A=>⟨arr,(old b (Al.own_lt h.st s hp)).trans A,rfl⟩⟩,
   obj:=fun i Q F hi s=>by rw[b6.get_left hi] at s;exact⟨f i hi,Q,F,s⟩}
 refine⟨D,?_⟩
 exact {
  good:=h.good
  st:=⟨fun i b hi=>by rcases d i b hi with⟨z,y⟩|⟨rfl,rfl⟩;rw[f i z];exact(h.st.blk i b y).mono D fun c r hp=>old c (Al.own_lt h.st y hp);rw[n];refine .inr ⟨g.heap.size,0,arr,ety,rfl,new,by omega,hk,fun j e o x s U=> ?_⟩;obtain⟨u,V,X⟩:=O j e o x s U;exact⟨u,by simpa using V,X.mono D⟩,
   fun i j H J p q hi w hp B s=>by obtain⟨pb,po⟩:=p;obtain⟨qb,qo⟩:=q;dsimp only at s;subst s;rcases d i H hi with⟨z,y⟩|⟨rfl,rfl⟩<;>rcases d j J w with⟨K,L⟩|⟨rfl,rfl⟩;rw[f i z] at hp;rw[f j K] at B;exact h.st.inj i j H J _ _ y L hp B rfl;rw[f i z] at hp;rw[n] at B;cases B;have:=Al.own_lt h.st y hp;omega;rw[f j K] at B;rw[n] at hp;cases hp;have:=Al.own_lt h.st L B;omega;rfl⟩
  keep:=fun i blk b r hi hp t=>by rcases d i blk hi with⟨z,y⟩|⟨rfl,rfl⟩;rw[f i z] at hp;exact h.keep i blk b r y hp t;rw[n] at hp;cases hp;have:=t.1;have:=h.size;omega
  os:=h.os
  tape:=h.tape
  drawn:=h.drawn
  output:=h.output
  size:=aP h.size (by simp)
  block:=fun b t=>(old b (ag t.1 h.size)).trans (h.block b t)
  kept:=Kept.trans h.size h.kept D}
theorem Rs.write{Γ:Cx}{σ:b6}{φ:Phi}{w:World}(h:Rs Γ σ φ w){id:Id}{k b base:Nat}{es es':List (List C)}{arr arr':Array Vl}{ety:Ti}(hid:σ[id]? =some (some (.cells k es)))(hp:φ id=some (b,base))
  (hb:w.heap[b]? =some (.cells arr ety (0,0))) (hl:cD es'=cD es) (hsz:arr'.size=arr.size) (hk:∀(j:Nat) (e:List C),es'[j]? =some e->cD e=k) (hsz':base+cD es * k<=arr.size)
  (hc:∀(j:Nat) (e:List C) (o:Nat) (x:C),es'[j]? =some e->e[o]? =some x->∃u,arr'[base+(j * k+o)]? =some u/\RelC w φ σ (Al Γ.N φ σ) x u):
  Kept w (w.setRow b arr') φ φ σ (σ.put id (some (.cells k es'))) (Al Γ.N φ σ) (Al Γ.N φ (σ.put id (some (.cells k es'))))/\Rs Γ (σ.put id (some (.cells k es'))) φ (w.setRow b arr'):=by
 have new:(w.setRow b arr').heap[b]? =some (.cells arr' ety (0,0)):=setRow_heap w b arr arr' ety (0,0) hb
 have old:∀g,g ≠ b->(w.setRow b arr').heap[g]? =w.heap[g]? :=fun g hg=>setRow_other w b g arr' hg
 have hsize:(w.setRow b arr').heap.size=w.heap.size:=by simp[World.setRow]
 have at_:∀(i:Id) x,(σ.put id (some (.cells k es')))[i]? =some (some x)->(i=id/\x=.cells k es')\/(i ≠ id/\σ[i]? =some (some x)):=fun i x hi=>by
  rcases b6.get_put hid hi with⟨h1,h2⟩|h
  ·cases h2;exact .inl ⟨h1,rfl⟩
  ·exact .inr h
 have other:∀(i:Id) blk g bs,i ≠ id->σ[i]? =some (some blk)->φ i=some (g,bs)->g ≠ b:=fun i blk g bs hne hi hpi e=>by
  subst e
  exact hne (h.st.inj i id _ _ _ _ hi hid hpi hp rfl)
 have A1:∀g,Al Γ.N φ σ g->Al Γ.N φ (σ.put id (some (.cells k es'))) g:=fun g hg=>⟨hg.1,fun i blk bs hi hpi=>by
  rcases at_ i blk hi with⟨rfl,_⟩|⟨_,hi⟩
  ·exact hg.2 i _ bs hid hpi
  ·exact hg.2 i blk bs hi hpi⟩
 have hK:Kept w (w.setRow b arr') φ φ σ (σ.put id (some (.cells k es'))) (Al Γ.N φ σ) (Al Γ.N φ (σ.put id (some (.cells k es')))):=
  {imm:=fun g hg _=>old g (fun e=>by subst e;exact hg.2 id _ base hid hp),all:=fun g hg _=>A1 g hg,len:=by simp,
   cells:=fun i kk es2 hi he=>by
    rcases at_ i _ he with⟨rfl,e⟩|⟨hne,he⟩
    ·cases e
     refine⟨es,hid,hl.symm,rfl,fun b2 base2 arr2 ety2 hp2 hb2=> ?_⟩
     rw[hp] at hp2;cases hp2
     rw[hb] at hb2;cases hb2
     exact⟨arr',new,hsz⟩
    ·refine⟨es2,he,rfl,rfl,fun b2 base2 arr2 ety2 hp2 hb2=>⟨arr2,?_,rfl⟩⟩
     exact(old b2 (other i _ b2 base2 hne he hp2)).trans hb2,
   obj:=fun i p' cs' hi he=>by
    rcases at_ i _ he with⟨_,e⟩|⟨_,he⟩
    ·cases e
    ·exact⟨rfl,p',cs',he⟩}
 refine⟨hK,?_⟩
 exact {
  good:=h.good
  st:=⟨fun i bk hi=>by
    rcases at_ i _ hi with⟨rfl,e⟩|⟨hne,hi⟩
    ·cases e
     rw[hp]
     refine .inr ⟨b,base,arr',ety,rfl,new,by rw[hl,hsz];exact hsz',hk,fun j e o x he hx=> ?_⟩
     obtain⟨u,hu,hr⟩:=hc j e o x he hx
     exact⟨u,hu,hr.mono hK⟩
    ·exact(h.st.blk i bk hi).mono hK fun g bs hpi=>old g (other i bk g bs hne hi hpi),
   fun i j bi bj p q hi hj hpi hqj he=>by
    have alive:∀(i:Id) bi,(σ.put id (some (.cells k es')))[i]? =some (some bi)->∃b0,σ[i]? =some (some b0):=fun i bi hi=>by
     rcases at_ i _ hi with⟨rfl,_⟩|⟨_,hi⟩
     ·exact⟨_,hid⟩
     ·exact⟨_,hi⟩
    obtain⟨b1,h1⟩:=alive i bi hi
    obtain⟨b2,h2⟩:=alive j bj hj
    exact h.st.inj i j b1 b2 p q h1 h2 hpi hqj he⟩
  keep:=fun i blk g bs hi hpi hKb=>by
   rcases at_ i _ hi with⟨rfl,_⟩|⟨_,hi⟩
   ·exact h.keep i _ g bs hid hpi hKb
   ·exact h.keep i blk g bs hi hpi hKb
  os:=h.os
  tape:=h.tape
  drawn:=h.drawn
  output:=h.output
  size:=by rw[hsize];exact h.size
  block:=fun g hKb=>(old g (fun e=>by subst e;exact h.keep id _ g base hid hp hKb)).trans (h.block g hKb)
  kept:=Kept.trans h.size h.kept hK}
def Rs.kill{f:Cx}{e:Phi}(h:Rs f a e g)(id:Id):
  Kept g g e e a (a.put id none) (Al f.N e a) (Al f.N e (a.put id none))/\Rs f (a.put id none) e g:=by
 have c:∀(i:Id) b,(a.put id none)[i]? =some (some b)->a[i]? =some (some b):=fun i b hi=>(b6.get_kill hi).2
 have l:Kept g g e e a (a.put id none) (Al f.N e a) (Al f.N e (a.put id none)):=
  {imm:=fun _ _ _=>rfl,all:=fun b r _=>⟨r.1,fun i blk d hi=>r.2 i blk d (c i blk hi)⟩,len:=by simp,
   cells:=fun i k s hi n=>⟨s,c _ _ n,rfl,rfl,fun _ _ o _ _ t=>⟨o,t,rfl⟩⟩,
   obj:=fun i p cs hi n=>⟨rfl,p,cs,c _ _ n⟩}
 refine⟨l,?_⟩
 exact
 {good:=h.good,st:=⟨fun i b hi=>(h.st.blk i b (c _ _ hi)).mono l (fun _ _ _=>rfl),fun i j u v p q hi x=>h.st.inj i j u v p q (c _ _ hi) (c _ _ x)⟩,
  keep:=fun i blk b d hi=>h.keep i blk b d (c _ _ hi),os:=h.os,tape:=h.tape,drawn:=h.drawn,output:=h.output,size:=h.size,block:=h.block,kept:=Kept.trans h.size h.kept l}
/-! ## Addresses -/
def add_add(a:Addr)(m n:Nat):(a.add m).add n=a.add (m+n):=by unfold Addr.add;by_cases b:m=0;subst b;simp;by_cases c:n=0;subst c;simp;simp[b,c];omega
def u3{P:Program}{t:Ti}{bytes:Nat}[h:TyS P t d bytes p](w:World):(Go.sizeOf t).run P w=.ok d w:=by obtain⟨i,a,b,_⟩:=h.h;simp[Go.sizeOf,typeInfo,a,b]
def R5{P:Program}{t:Ti}{bytes:Nat}[h:TyS P t d bytes p](w:World):(zeroValue t).run P w=.ok p w:=by obtain⟨i,a,_,_,b⟩:=h.h;simp[zeroValue,typeInfo,a,b]
def az7{P:Program}{t:Ti}{d:TypeDesc}{bytes:Nat}[b:TyD P t d][f:TyS P t H bytes p](c:B5 d=true){w:World}{a:Addr}{us:List Vl}(e:cD us=H)(h:∀(j:Nat) (v:Vl),us[j]? =some v->w.cell? (a.add j)=some v):(loadVar t a).run P w=.ok (.agg us.toArray) w:=by
 have:=run_loadCells_list (P:=P) w a us h
 subst e
 simp[loadVar,ah2 b.h,c,u3,this]
def ap4{d:TypeDesc}[b:TyD r M d](c:B5 d=false){a:Addr}(h:g.cell? a=some p):(loadVar M a).run r g=.ok p g:=by
 simp[loadVar,ah2 b.h,c,h]
def ipt_inv{cs:List I}(h:RelT g q a l (.c (.imm (.ipt cs))) p):
  ∃(b:Addr) (d:Nat->Vl),p=.pointer (some b)/\(∀(o:Nat) (x:I),cs[o]? =some x->l b.block/\g.cell? (b.add o)=some (d o)/\RelI g l x (d o)):=by
 cases h with|c h=>cases h with|imm h=>cases h with|ipt d f i=>exact⟨_,d,rfl,fun o x e=>⟨(f o x e).1,(f o x e).2,i o x e⟩⟩
def an2{id:Id}{k:Nat}(h:RelT g q a l (.c (.ptr id d H)) p)(f:a[id]? =some (some (.cells k V))):
  id.1<cD a/\∃b e,q id=some (b,e)/\p=.pointer (some ⟨b,e+(d * k+H),none⟩):=by
 cases h with|c h=>cases h with|ptr i _ h=>exact⟨i,h k V f⟩
def AOps.indexAddr{g:b6}{ops:Array Oper}{rest:List Oper}{y:Od}{t e:Ti}{bytes:Nat}{G:IntKind}{i:Int}{j:List (List I)}{l:List I}[J:TyD r t (.slice e)][hs:TyS r e H bytes p](K:ev L A=some (.c (.imm (.sl H j))))(N:ev L y=some (.c (.imm (.val (.int G i)))))(hi:0<=i)(n:j[i.toNat]? =some l)(O:f7 d B=true)(h:AOps r a d ops s rest (St.mk (putE L B (.c (.imm (.ipt l)))) g)):AOps r a d ops s (⟨B,.indexAddr t A y,M,P,Q,none⟩::rest) (St.mk L g):=
 .value rfl O _ (fun Γ φ b w D=>by
  have f:=i5 D K;have q:i.toNat<cD j:=(lG.1 n).1;generalize U:b.eval A=u at f;cases f with|c f=>cases f with|imm f=>cases f with
   |slNil=>simp at q
   |@sl _ _ V X x E F hk k f=>
    have z:0<=i/\i<cD j:=by omega
    refine⟨.pointer (some (V.add (i.toNat * H))),by simp[execOp,U,A6 D N,Instr.indexAt,asIntOf,run_underlying J.h,u3,z],.c (.imm (.ipt (fun o=>x i.toNat o) (fun o A v=> ?_) (fun o A v=>f _ l o A n v)))⟩
    have:=k _ l o A n v
    rw[ag4,add_add]
    exact this) h
def AOps.indexAddrOwn{ops:Array Oper}{rest:List Oper}{y:Od}{t e:Ti}{bytes:Nat}{E:IntKind}{i:Int}{id:Id}{j n:Nat}[F:TyD r t (.slice e)][z:TyS r e H bytes p](G:ev L A=some (.c (.own id j n)))(l:c[id]? =some (some (.cells H V)))(J:ev L y=some (.c (.imm (.val (.int E i)))))(hi:0<=i/\i<n)(K:f7 d B=true)(h:AOps r a d ops s rest (St.mk (putE L B (.c (.ptr id (j+i.toNat) 0))) c)):AOps r a d ops s (⟨B,.indexAddr t A y,M,P,Q,none⟩::rest) (St.mk L c):=
 .value rfl K _ (fun Γ φ f w u=>by have N:=i5 u G;have o:id.1<cD c:=b6.lt_of l;rcases H1 N l with⟨_,_,_,h0⟩|⟨b,g,O,U,X,ad,hp,x,q,v,_,_,_,_⟩;omega;have:=q (by omega);subst this;refine⟨.pointer (some ⟨b,g+j * H+i.toNat * H,none⟩),by simp[execOp,x,A6 u J,Instr.indexAt,asIntOf,run_underlying F.h,u3,hi,J7],.c (.ptr o rfl fun k' k D=> ?_)⟩;rw[l] at D;cases D;refine⟨b,g,hp,?_⟩;rw[aq,bh,aV]) h
/-! ### Fields -/
def AOps.fieldAddr{ops:Array Oper}{rest:List Oper}{t:Ti}{u:Array Field}{l:Field}{id:Id}{j o k size bytes:Nat}[ht:TyD r t (.struct u)](y:u[H]? =some l)[hs:TyS r l.type size bytes p](D:(size==0)=false)(E:ev L A=some (.c (.ptr id j o)))(i:c[id]? =some (some (.cells k V)))(F:f7 d B=true)(h:AOps r a d ops s rest (St.mk (putE L B (.c (.ptr id j (o+l.offset)))) c)):AOps r a d ops s (⟨B,.fieldAddr t A H,M,P,Q,none⟩::rest) (St.mk L c):=
 .value rfl F _ (fun N O e w G=>by
  obtain⟨n,b,g,hp,J⟩:=an2 (i5 G E) i;have q:size ≠ 0:=by simpa using D
  refine⟨.pointer (some ⟨b,g+(j * k+o)+l.offset,none⟩),by simp[execOp,J,Instr.fieldAt,Instr.sureAddr,run_underlying ht.h,y,fieldPlace,u3,q,J7],.c (.ptr n rfl fun U K v=> ?_)⟩;rw[i] at v;cases v;exact⟨b,g,hp,by rw[bh,bh]⟩) h
def AOps.fieldAddrI{ops:Array Oper}{rest:List Oper}{t:Ti}{j:Array Field}{e:Field}{size bytes:Nat}{cs:List I}[ht:TyD r t (.struct j)](l:j[H]? =some e)[hs:TyS r e.type size bytes p](n:(size==0)=false)(q:ev L A=some (.c (.imm (.ipt cs))))(u:f7 d B=true)(h:AOps r a d ops s rest (St.mk (putE L B (.c (.imm (.ipt (cs.drop e.offset))))) c)):AOps r a d ops s (⟨B,.fieldAddr t A H,M,P,Q,none⟩::rest) (St.mk L c):=
 .value rfl u _ (fun F G b w v=>by
  obtain⟨y,D,E,k⟩:=ipt_inv (i5 v q);have i:size ≠ 0:=by simpa using n
  refine⟨.pointer (some (y.add e.offset)),by simp[execOp,E,Instr.fieldAt,Instr.sureAddr,run_underlying ht.h,l,fieldPlace,u3,i],.c (.imm (.ipt (fun o=>D (e.offset+o)) (fun o A g=> ?_) (fun o A g=> ?_)))⟩;rw[aw] at g;have:=k _ A g;rw[ag4,add_add];exact⟨this.1,this.2.1⟩;rw[aw] at g;exact(k _ A g).2.2) h
def AOps.field{e:b6}{ops:Array Oper}{rest:List Oper}{t:Ti}{j:Array Field}{f:Nat}{g:Field}{d:TypeDesc}{cs:List C}{c:C}[k:TyD r t (.struct j)](l:j[f]? =some g)[i:TyD r g.type d](n:B5 d=false)(o:ev L A=some (.agg cs))(p:cs[g.offset]? =some c)(q:f7 H B=true)(h:AOps r a H ops s rest (St.mk (putE L B (.c c)) e)):AOps r a H ops s (⟨B,.field t A f,M,P,Q,none⟩::rest) (St.mk L e):=
 .value rfl q _ (fun F G b w v=>by obtain⟨vs,y,J,z⟩:=RelT.agg_inv (i5 v o);obtain⟨u,D,E⟩:=z _ c p;exact⟨u,by simp[execOp,y,Instr.field,run_underlying k.h,l,asAgg,part,ah2 i.h,n,D],.c E⟩) h
/-! ### Loads -/
def AOps.loadI{e:b6}{ops:Array Oper}{rest:List Oper}{t:Ti}{d:TypeDesc}{cs:List I}{c:I}[ht:TyD r t d](g:B5 d=false)(i:ev L A=some (.c (.imm (.ipt cs))))(j:cs[0]? =some c)(k:f7 H B=true)(h:AOps r a H ops s rest (St.mk (putE L B (.c (.imm c))) e)):AOps r a H ops s (⟨B,.load t A,M,P,Q,none⟩::rest) (St.mk L e):=
 .value rfl k _ (fun p q b w l=>by obtain⟨u,n,o,f⟩:=ipt_inv (i5 l i);have:=f 0 c j;rw[Addr.add_zero'] at this;exact⟨n 0,by simp[execOp,o,Instr.loadAt,Instr.sureAddr,ap4 g this.2.1],.c (.imm this.2.2)⟩) h
def AOps.loadIAgg{f:b6}{ops:Array Oper}{rest:List Oper}{t:Ti}{d:TypeDesc}{size bytes:Nat}{cs:List I}[ht:TyD r t d][hs:TyS r t size bytes p](y:B5 d=true)(l:ev L A=some (.c (.imm (.ipt cs))))(G:size<=cD cs)(D:f7 H B=true)(h:AOps r a H ops s rest (St.mk (putE L B (.agg ((cs.take size).map .imm))) f)):AOps r a H ops s (⟨B,.load t A,M,P,Q,none⟩::rest) (St.mk L f):=
 .value rfl D _ (fun J K b w E=>by obtain⟨q,o,n,g⟩:=ipt_inv (i5 E l);refine⟨.agg ((ai size).map o).toArray,?_,RelT.agg' (by simp;omega) fun i c v u n=> ?_⟩;rw[show(execOp b.eval ⟨B,.load t A,M,P,Q,none⟩).run r w=((loadVar t q).run r w).andThen fun v w=>.ok (.value v) w by simp[execOp,n,Instr.loadAt,Instr.sureAddr]];rw[az7 (P:=r) (t:=t) y (w:=w) (a:=q) (us:=(ai size).map o) (by simp) (fun j v e=>by simp only[lM,oM] at e;obtain⟨F,e,rfl⟩:=e;obtain⟨k,rfl⟩:=T4 e;exact(g j _ (ae (by omega))).2.1)];rfl;simp only[lM,oM] at u n;obtain⟨A,l,rfl⟩:=u;obtain⟨F,e,rfl⟩:=n;obtain⟨k,rfl⟩:=T4 e;rw[au,if_pos k] at l;exact .imm (g _ A l).2.2) h
def J8{r:Cx}{c:Act}(t:R r d (St.mk L a) q c g){id:Id}{b f:Nat}(n:a[id]? =some (some (.cells H V)))(hp:q id=some (b,f)):
  ∃h i,g.heap[b]? =some (.cells h i (0,0))/\f+cD V * H<=h.size/\(∀(j:Nat) (e:List C),V[j]? =some e->cD e=H)/\
   ∀(j:Nat) (e:List C) (o:Nat) (x:C),V[j]? =some e->e[o]? =some x->∃u,h[f+(j * H+o)]? =some u/\RelC g q a (Al r.N q a) x u:=by
 rcases t.st.blk _ _ n with⟨l,s⟩|⟨A,p,h,i,l,s,v,y,z⟩
 ·rw[hp] at l;cases l
 ·rw[hp] at l;cases l;exact⟨h,i,s,v,y,z⟩
def AOps.load{g:b6}{ops:Array Oper}{rest:List Oper}{t:Ti}{d:TypeDesc}{id:Id}{j o k:Nat}{e:List C}{c:C}[ht:TyD r t d](q:B5 d=false)(v:ev L A=some (.c (.ptr id j o)))(i:g[id]? =some (some (.cells k V)))(y:V[j]? =some e)(z:e[o]? =some c)(D:f7 H B=true)(h:AOps r a H ops s rest (St.mk (putE L B (.c c)) g)):AOps r a H ops s (⟨B,.load t A,M,P,Q,none⟩::rest) (St.mk L g):=
 .value rfl D _ (fun U X f w n=>by obtain⟨E,b,p,hp,F⟩:=an2 (i5 n v) i;obtain⟨G,J,K,_,_,l⟩:=J8 n i hp;obtain⟨u,N,O⟩:=l j e o c y z;exact⟨u,by simp[execOp,F,Instr.loadAt,Instr.sureAddr,ap4 q ((U1 K).trans N)],.c O⟩) h
def AOps.loadAgg{l:b6}{ops:Array Oper}{rest:List Oper}{t:Ti}{d:TypeDesc}{size bytes:Nat}{id:Id}{j o k:Nat}{e:List C}[ht:TyD r t d][hs:TyS r t size bytes p](O:B5 d=true)(U:ev L A=some (.c (.ptr id j o)))(n:l[id]? =some (some (.cells k V)))(J:V[j]? =some e)(hl:o+size<=cD e)(X:f7 H B=true)(h:AOps r a H ops s rest (St.mk (putE L B (.agg ((e.drop o).take size))) l)):AOps r a H ops s (⟨B,.load t A,M,P,Q,none⟩::rest) (St.mk L l):=
 .value rfl X _ (fun Γ φ f w K=>by obtain⟨x,b,g,hp,E⟩:=an2 (i5 K U) n;obtain⟨q,z,hb,_,_,y⟩:=J8 K n hp;refine⟨.agg ((ai size).map fun i=>(q[g+(j * k+(o+i))]?).getD Go.undef).toArray,?_,RelT.agg' (by simp;omega) fun i c v N E=> ?_⟩;rw[show(execOp f.eval ⟨B,.load t A,M,P,Q,none⟩).run r w=((loadVar t ⟨b,g+(j * k+o),none⟩).run r w).andThen fun v w=>.ok (.value v) w by simp[execOp,E,Instr.loadAt,Instr.sureAddr]];rw[az7 (P:=r) (t:=t) O (w:=w) (a:=⟨b,g+(j * k+o),none⟩) (us:=(ai size).map fun i=>(q[g+(j * k+(o+i))]?).getD Go.undef) (by simp) (fun i v hi=>by simp only[lM,oM] at hi;obtain⟨j',F,rfl⟩:=hi;obtain⟨D,rfl⟩:=T4 F;obtain⟨u,G,_⟩:=y j e (o+i) _ J (ae (by omega));rw[J7,U1 hb,show g+(j * k+o)+i=g+(j * k+(o+i)) by omega,G];rfl)];rfl;simp only[lM,oM] at E;obtain⟨j',F,rfl⟩:=E;obtain⟨D,rfl⟩:=T4 F;rw[au,if_pos D,aw] at N;obtain⟨u,G,hr⟩:=y j e (o+i) c J N;rw[G];exact hr) h
/-! ### Stores -/
def D4{a:Type}(l m:List a)(p i:Nat)(hp:p+cD m<=cD l):(l.take p++m++l.drop (p+cD m))[i]? =if p<=i/\i<p+cD m then m[i - p]? else l[i]? :=by by_cases b:i<p;rw[bE,aH (by simp;omega),au,if_pos b,if_neg (by omega)];by_cases c:i<p+cD m;rw[aH (by simp;omega),aE (by simp;omega),if_pos (by omega)];congr 1;simp;omega;rw[aE (by simp;omega),aw,if_neg (by omega)];congr 1;simp;omega
theorem own_store{P:Program}{sz:Nat}{env:Env}{σv:b6}{Γ:Cx}{φ:Phi}{a:Act}{w:World}(hR:R Γ sz (St.mk env σv) φ a w){id:Id}{j o k b base:Nat}{es:List (List C)}{e:List C}(hσ:σv[id]? =some (some (.cells k es)))(hp:φ id=some (b,base))(he:es[j]? =some e)
    {cs:List C} {us:List Vl} (hl:cD us=cD cs) (hfit:o+cD cs<=cD e) (hr:∀(i:Nat) (c:C) (v:Vl),cs[i]? =some c->us[i]? =some v->RelC w φ σv (Al Γ.N φ σv) c v):
    ∃w',(storeCells ⟨b,base+(j * k+o),none⟩ us).run P w=.ok () w'/\R Γ sz ⟨env,σv.put id (some (.cells k (es.set j (e.take o++cs++e.drop (o+cD cs)))))⟩ φ a w':=by
  obtain⟨arr,ety,hb,hsz,hk,hcs⟩:=J8 hR hσ hp
  have hj:j<cD es:=(lG.1 he).1
  have hek:=hk j e he
  have hjk:(j+1) * k<=cD es * k:=ak _ hj
  rw[aq,bf] at hjk
  have h1:∀v ∈ us,v.oneCell'=true:=fun v hv=>by
    obtain⟨i,hi,rfl⟩:=bU.1 hv
    exact(hr i _ _ (ae (by omega)) (ae hi)).one
  have hst:=run_storeCells_at P b (base+(j * k+o)) ety us 0 arr w hb (by omega) h1
  refine⟨_,hst,?_⟩
  have hw:=Rs.write (arr':=(arr.toList.take (base+(j * k+o)+0)++us++arr.toList.drop (base+(j * k+o)+0+cD us)).toArray) (es':=es.set j (e.take o++cs++e.drop (o+cD cs))) hR.toRs hσ hp hb (by simp) (by simp;omega) (fun i e' hi=> ?_) hsz (fun i e' q x hi hx=> ?_)
  · exact hR.of hw.1 hw.2
  · rw[cq] at hi
    split at hi
    · first
        | (split at hi
           · cases hi
             simp;omega
           · cases hi)
        | (cases hi
           simp;omega)
    · exact hk i e' hi
  · have hsp:=D4 arr.toList us (base+(j * k+o)) (base+(i * k+q)) (by simp;omega)
    simp only[aV,bQ]
    rw[hsp]
    rw[cq] at hi
    by_cases hij:j=i
    · subst hij
      rw[if_pos rfl,if_pos hj] at hi
      cases hi
      have hsp2:=D4 e cs o q (by omega)
      rw[hsp2] at hx
      by_cases hq:o<=q/\q<o+cD cs
      · rw[if_pos hq] at hx
        rw[if_pos (by omega)]
        refine⟨us[q - o]'(by omega),?_,hr _ x _ hx (ae (by omega))⟩
        rw[show base+(j * k+q) - (base+(j * k+o))=q - o by omega]
        exact ae (by omega)
      · rw[if_neg hq] at hx
        rw[if_neg (by omega)]
        obtain⟨u,hu,hr'⟩:=hcs j e q x he hx
        exact⟨u,by simpa using hu,hr'⟩
    · rw[if_neg hij] at hi
      obtain⟨u,hu,hr'⟩:=hcs i e' q x hi hx
      have hqk:q<k:=by rw[<- hk i e' hi];exact(lG.1 hx).1
      have:¬ (base+(j * k+o)<=base+(i * k+q)/\base+(i * k+q)<base+(j * k+o)+cD us):=by
        rcases Nat.lt_or_gt_of_ne hij with hlt|hlt
        · have:(j+1) * k<=i * k:=ak _ hlt
          rw[aq,bf] at this
          omega
        · have:(i+1) * k<=j * k:=ak _ hlt
          rw[aq,bf] at this
          omega
      rw[if_neg this]
      exact⟨u,by simpa using hu,hr'⟩
def AOps.store{g:b6}{ops:Array Oper}{rest:List Oper}{y:Od}{t:Ti}{bytes:Nat}{id:Id}{o k:Nat}{e:List C}{c:C}[hs:TyS r t 1 bytes p](F:ev L A=some (.c (.ptr id H o)))(G:ev L y=some (.c c))(l:g[id]? =some (some (.cells k V)))(J:V[H]? =some e)(K:o<cD e)(h:AOps r a d ops s rest ⟨L,g.put id (some (.cells k (V.set H (e.set o c))))⟩):AOps r a d ops s (⟨none,.store t A y,M,P,Q,none⟩::rest) (St.mk L g):=
 .skipW rfl rfl _ (fun Γ N f w q=>by
  obtain⟨O,b,D,hp,B⟩:=an2 (i5 q F) l;have n:=i5 q G;generalize U:f.eval y=u at n;cases n with|c n=>
   obtain⟨X,x,z⟩:=own_store (P:=r) q l hp J (o:=o) (cs:=[c]) (us:=[u]) rfl (by simp;omega) (fun i c' v E B=>by
    match i with
    |0=>cases E;cases B;exact n
    |i+1=>simp at E)
   refine⟨X,N,?_,?_⟩
   ·have j:u.cells=#[u]:=by have:=n.one;cases u<;>first|rfl|simp[Value.oneCell'] at this
    simp[execOp,B,U,Instr.storeAt,Instr.sureAddr,storeVar,u3,j,x]
   ·have e2:e.set o c=e.take o++[c]++e.drop (o+[c].length):=by rw[bg,if_pos K,bE];rfl
    rw[e2]
    exact z) h
def AOps.storeAgg{g:b6}{ops:Array Oper}{rest:List Oper}{y:Od}{t:Ti}{bytes:Nat}{z:Vl}{id:Id}{j o k:Nat}{e cs:List C}[hs:TyS r t H bytes z](F:ev L A=some (.c (.ptr id j o)))(G:ev L y=some (.agg cs))(l:g[id]? =some (some (.cells k V)))(J:V[j]? =some e)(hl:o+H<=cD e)(n:cD cs=H)(h:AOps r a d ops s rest ⟨L,g.put id (some (.cells k (V.set j (e.take o++cs++e.drop (o+cD cs)))))⟩):AOps r a d ops s (⟨none,.store t A y,M,P,Q,none⟩::rest) (St.mk L g):=
 .skipW rfl rfl _ (fun Γ K f w p=>by obtain⟨N,b,B,hp,q⟩:=an2 (i5 p F) l;obtain⟨vs,O,D,U⟩:=RelT.agg_inv (i5 p G);obtain⟨X,x,g2⟩:=own_store (P:=r) p l hp J (o:=o) (cs:=cs) (us:=vs) D (by omega) (fun i c v hc q=>by obtain⟨u,E,hr⟩:=U i c hc;rw[q] at E;cases E;exact hr);refine⟨X,K,?_,g2⟩;simp[execOp,q,O,Instr.storeAt,Instr.sureAddr,storeVar,u3,Value.cells,D,n,x]) h
/-! ### New blocks -/
def ae6:T->Option (List C)
 | .c x=>some [x]
 | .agg cs=>some cs
 |_=>none
def Y3{w:World}{φ:Phi}{σ:b6}{A:Nat->Prop}{t:T}(h:RelT w φ σ A t p){cs:List C}(a:ae6 t=some cs):p.cells.size=cD cs/\∀(i:Nat) (c:C),cs[i]? =some c->∃v,p.cells[i]? =some v/\RelC w φ σ A c v:=by
 cases h with
 |c h=>
  cases a
  have e:p.cells=#[p]:=by have:=h.one;cases p<;>first|rfl|simp[Value.oneCell'] at this
  rw[e]
  refine⟨rfl,fun i c hi=> ?_⟩
  match i with
  |0=>cases hi;exact⟨p,rfl,h⟩
  |i+1=>simp at hi
 |agg b d=>
  cases a
  refine⟨by simp[Value.cells],fun i c hi=>⟨b i,?_,d i c hi⟩⟩
  simp[Value.cells,(lG.1 hi).1]
 |tup b d=>cases a
 |undef=>cases a
def new_one{l:Cx}{b:Act}(n:R l d (St.mk L a) q b g){f:Array Vl}{ety:Ti}(r:f.size=cD t)(s:∀(i:Nat) (c:C),t[i]? =some c->∃v,f[i]? =some v/\RelC g q a (Al l.N q a) c v):
  RelT (g.alloc (.cells f ety)) (s8 (cD a) q g.heap.size) (a++[.one (.cells (cD t) [t])]) (Al l.N (s8 (cD a) q g.heap.size) (a++[.one (.cells (cD t) [t])])) (.c (.ptr (cD a,[]) 0 0)) (.pointer (some ⟨g.heap.size,0,none⟩))/\
  R l d ⟨L,a++[.one (.cells (cD t) [t])]⟩ (s8 (cD a) q g.heap.size) b (g.alloc (.cells f ety)):=by
 have p:=Rs.alloc (k:=cD t) (es:=[t]) (arr:=f) (ety:=ety) n.toRs (fun j e h=>by
  match j with
  |0=>cases h;rfl
  |j+1=>simp at h) (by simp;omega) (fun j e o x h y=>by
  match j with
  |0=>cases h;simpa using s o x y
  |j+1=>simp at h)
 refine⟨.c (.ptr (by simp) rfl fun k u h=> ?_),n.of p.1 p.2⟩
 rw[b6.get_last] at h
 cases h
 exact⟨g.heap.size,0,by simp[s8],by simp⟩
def AOps.box{ops:Array Oper}{rest:List Oper}{t:Ti}{v:T}{cs:List C}(f:ev L A=some v)(g:ae6 v=some cs)(i:f7 d B=true)(h:AOps r a d ops s rest (St.mk (putE L B (.c (.ptr (cD c,[]) 0 0))) (c++[.one (.cells (cD cs) [cs])]))):AOps r a d ops s (⟨B,.box t A,M,P,Q,none⟩::rest) (St.mk L c):=
 .valueW rfl i _ _ (fun n o b w e=>by obtain⟨j,k⟩:=Y3 (i5 e f) g;have:=new_one (ety:=t) e j k;exact⟨_,_,_,by simp[execOp,Instr.box,newVar,newRow],this⟩) h
def AOps.alloc{ops:Array Oper}{rest:List Oper}{t:Ti}{bytes:Nat}{v:T}{cs:List C}[hs:TyS r t H bytes p](hz:ag2 p=some v)(f:ae6 v=some cs)(g:f7 d B=true)(h:AOps r a d ops s rest (St.mk (putE L B (.c (.ptr (cD c,[]) 0 0))) (c++[.one (.cells (cD cs) [cs])]))):AOps r a d ops s (⟨B,.alloc t,M,P,Q,none⟩::rest) (St.mk L c):=
 .valueW rfl g _ _ (fun i e b w j=>by obtain⟨k,l⟩:=Y3 (w:=w) (φ:=e) (σ:=c) (A:=Al i.N e c) (ai2 hz) f;have:=new_one (ety:=t) j k l;exact⟨_,_,_,by simp[execOp,Instr.alloc,R5 (t:=t),newVar,newRow],this⟩) h
def Rs.reown{G:Cx}{A:Phi}(h:Rs G a A g){id:Id}{k y base':Nat}{es':List (List C)}{Q arr':Array Vl}(B:a[id]? =some (some (.cells d V)))(hp:A id=some (H,y))(hb:g.heap[H]? =some (.cells Q M (0,0)))(hk:∀(j:Nat) (e:List C),es'[j]? =some e->cD e=k)(U:base'+cD es' * k<=arr'.size)(hc:∀(j:Nat) (e:List C) (o:Nat) (x:C),es'[j]? =some e->e[o]? =some x->∃u,arr'[base'+(j * k+o)]? =some u/\RelC g A a (Al G.N A a) x u):
  Kept g (g.setRow H arr') A (fun i=>if i=(cD a,[]) then some (H,base') else A i) a (a.put id none++[.one (.cells k es')]) (Al G.N A a) (Al G.N (fun i=>if i=(cD a,[]) then some (H,base') else A i) (a.put id none++[.one (.cells k es')]))/\
  Rs G (a.put id none++[.one (.cells k es')]) (fun i=>if i=(cD a,[]) then some (H,base') else A i) (g.setRow H arr'):=by
 generalize X:(fun i=>if i=(cD a,[]) then some (H,base') else A i)=E
 have ao:id.1<cD a:=b6.lt_of B
 have new:(g.setRow H arr').heap[H]? =some (.cells arr' M (0,0)):=setRow_heap g H Q arr' M (0,0) hb
 have old:∀c,c ≠ H->(g.setRow H arr').heap[c]? =g.heap[c]? :=fun c J=>setRow_other g H c arr' J
 have O:(g.setRow H arr').heap.size=g.heap.size:=by simp[World.setRow]
 have n:∀i:Id,i.1<cD a->E i=A i:=fun i hi=>by
  have:i ≠ (cD a,[]):=fun e=>by rw[e] at hi;exact aO _ hi
  rw[<- X];simp[this]
 have z:E (cD a,[])=some (H,base'):=by rw[<- X];simp
 have l:∀(i:Id) blk,(a.put id none++[.one (.cells k es')])[i]? =some (some blk)->(i.1<cD a/\i ≠ id/\a[i]? =some (some blk))\/(i=(cD a,[])/\blk=.cells k es'):=fun i blk hi=>by rcases b6.get_new hi with⟨t,v⟩|⟨t,v⟩;rw[b6.length_put] at t;exact .inl ⟨t,b6.get_kill v⟩;rw[b6.length_put] at t;exact .inr ⟨t,v⟩
 have r:∀(i:Id) blk c K,i ≠ id->a[i]? =some (some blk)->A i=some (c,K)->c ≠ H:=fun i blk c K s hi f e=>by subst e;exact s (h.st.inj i id _ _ _ _ hi B f hp rfl)
 have A1:∀c,Al G.N A a c->Al G.N E (a.put id none++[.one (.cells k es')]) c:=fun c J=>⟨J.1,fun i blk K hi f=>by rcases l i blk hi with⟨t,_,v⟩|⟨rfl,rfl⟩;rw[n i t] at f;exact J.2 i blk K v f;rw[z] at f;cases f;exact J.2 id _ y B hp⟩
 have b:Kept g (g.setRow H arr') A E a (a.put id none++[.one (.cells k es')]) (Al G.N A a) (Al G.N E (a.put id none++[.one (.cells k es')])):=
  {imm:=fun c J _=>old c (fun e=>by subst e;exact J.2 id _ y B hp),all:=fun c J _=>A1 c J,len:=by simp,
   cells:=fun i kk aa hi L=>by rcases l i _ L with⟨t,s,v⟩|⟨rfl,_⟩;exact⟨aa,v,rfl,n i t,fun b2 P w av ac ad=>⟨w,(old b2 (r i _ b2 P s v ac)).trans ad,rfl⟩⟩;omega,
   obj:=fun i p' al hi L=>by rcases l i _ L with⟨t,s,v⟩|⟨rfl,_⟩;exact⟨n i t,p',al,v⟩;omega}
 refine⟨b,?_⟩
 exact {
  good:=h.good
  st:=⟨fun i bk hi=>by rcases l i bk hi with⟨t,s,v⟩|⟨rfl,rfl⟩;rw[n i t];exact(h.st.blk i bk v).mono b fun c K f=>old c (r i bk c K s v f);rw[z];refine .inr ⟨H,base',arr',M,rfl,new,U,hk,fun j e o x L hx=> ?_⟩;obtain⟨u,hu,hr⟩:=hc j e o x L hx;exact⟨u,hu,hr.mono b⟩,
   fun i j bi bj p q hi hj f D L=>by obtain⟨pb,po⟩:=p;obtain⟨qb,qo⟩:=q;dsimp only at L;subst L;rcases l i bi hi with⟨t,s,v⟩|⟨rfl,rfl⟩<;>rcases l j bj hj with⟨g1,an,g2⟩|⟨rfl,rfl⟩;rw[n i t] at f;rw[n j g1] at D;exact h.st.inj i j bi bj _ _ v g2 f D rfl;rw[n i t] at f;rw[z] at D;cases D;exact absurd rfl (r i bi _ _ s v f);rw[n j g1] at D;rw[z] at f;cases f;exact absurd rfl (r j bj _ _ an g2 D);rfl⟩
  keep:=fun i blk c K hi f F=>by rcases l i blk hi with⟨t,s,v⟩|⟨rfl,rfl⟩;rw[n i t] at f;exact h.keep i blk c K v f F;rw[z] at f;cases f;exact h.keep id _ H y B hp F
  os:=h.os
  tape:=h.tape
  drawn:=h.drawn
  output:=h.output
  size:=by rw[O];exact h.size
  block:=fun c F=>(old c (fun e=>by subst e;exact h.keep id _ c y B hp F)).trans (h.block c F)
  kept:=Kept.trans h.size h.kept b}
def Rs.virt{r:Cx}{n:Phi}(h:Rs r a n g)(k:Nat):
  Kept g g n (fun i=>if i=(cD a,[]) then none else n i) a (a++[.one (.cells k [])]) (Al r.N n a) (Al r.N (fun i=>if i=(cD a,[]) then none else n i) (a++[.one (.cells k [])]))/\
  Rs r (a++[.one (.cells k [])]) (fun i=>if i=(cD a,[]) then none else n i) g:=by
 generalize x:(fun i=>if i=(cD a,[]) then none else n i)=o
 have f:∀i:Id,i.1<cD a->o i=n i:=fun i hi=>by
  have:i ≠ (cD a,[]):=fun e=>by rw[e] at hi;exact aO _ hi
  rw[<- x];simp[this]
 have d:o (cD a,[])=none:=by rw[<- x];simp
 have c:∀(i:Id) blk,(a++[.one (.cells k [])])[i]? =some (some blk)->(i.1<cD a/\a[i]? =some (some blk))\/(i=(cD a,[])/\blk=.cells k []):=fun i blk hi=>b6.get_new hi
 have H:∀b,Al r.N n a b->Al r.N o (a++[.one (.cells k [])]) b:=fun b v=>⟨v.1,fun i blk l hi hp=>by rcases c i blk hi with⟨s,t⟩|⟨rfl,rfl⟩;rw[f i s] at hp;exact v.2 i blk l t hp;rw[d] at hp;cases hp⟩
 have z:Kept g g n o a (a++[.one (.cells k [])]) (Al r.N n a) (Al r.N o (a++[.one (.cells k [])])):=
  {imm:=fun _ _ _=>rfl,all:=fun b v _=>H b v,len:=by simp,
   cells:=fun i P A hi u=>by rw[b6.get_left hi] at u;exact⟨A,u,rfl,f i hi,fun b l B J hp v=>⟨B,v,rfl⟩⟩,
   obj:=fun i K D hi u=>by rw[b6.get_left hi] at u;exact⟨f i hi,K,D,u⟩}
 refine⟨z,?_⟩
 exact {
  good:=h.good
  st:=⟨fun i b hi=>by rcases c i b hi with⟨s,t⟩|⟨rfl,rfl⟩;rw[f i s];exact(h.st.blk i b t).mono z fun _ _ _=>rfl;rw[d];exact .inl ⟨rfl,rfl⟩,
   fun i j F G p q hi L hp y u=>by rcases c i F hi with⟨s,t⟩|⟨rfl,rfl⟩<;>rcases c j G L with⟨M,O⟩|⟨rfl,rfl⟩;rw[f i s] at hp;rw[f j M] at y;exact h.st.inj i j F G _ _ t O hp y u;rw[d] at y;cases y;rw[d] at hp;cases hp;rfl⟩
  keep:=fun i blk b l hi hp E=>by rcases c i blk hi with⟨s,t⟩|⟨rfl,rfl⟩;rw[f i s] at hp;exact h.keep i blk b l t hp E;rw[d] at hp;cases hp
  os:=h.os
  tape:=h.tape
  drawn:=h.drawn
  output:=h.output
  size:=h.size
  block:=h.block
  kept:=Kept.trans h.size h.kept z}
structure ak4(w:World)(φ:Phi)(σ:b6)(A:Nat->Prop)(k:Nat)(es:List (List C))(b:Option Addr)(us:List Vl):Prop where
 len:cD us=cD es * k
 none:b=.none->es=[]
 cell:∀ad,b=some ad->∀(j:Nat) (u:Vl),us[j]? =some u->w.cell? (ad.add j)=some u
 hk:∀(j:Nat) (e:List C),es[j]? =some e->cD e=k
 rel:∀(j:Nat) (e:List C) (o:Nat) (x:C),es[j]? =some e->e[o]? =some x->∃u,us[j * k+o]? =some u/\RelC w φ σ A x u
def ak4.one{k:Nat}{es:List (List C)}{b:Option Addr}{d:List Vl}(h:ak4 g q a l k es b d):∀u ∈ d,u.oneCell'=true:=by
 intro u j;obtain⟨i,hi,rfl⟩:=bU.1 j;rw[h.len] at hi;have hk:0<k:=bY fun n=>by subst n;simp at hi
 have f:i / k<cD es:=bV (by rw[aW];exact hi);have o:=h.hk _ _ (ae f);have p:i % k<(es[i / k]).length:=by rw[o];exact Nat.mod_lt _ hk
 obtain⟨v,c,r⟩:=h.rel _ _ _ _ (ae f) (ae p);rw[show i / k * k+i % k=i by rw[aW];exact Nat.div_add_mod i k] at c;rw[ae (by rw[h.len];exact hi)] at c;have e:=Option.some.inj c;rw[e];exact r.one
def app_rel{new:List (List C)}{b t:Option Addr}{n vs:List Vl}(h:ak4 g q a l d V b n)(c:ak4 g q a l d new t vs):
  (∀(j:Nat) (e:List C),(V++new)[j]? =some e->cD e=d)/\∀(j:Nat) (e:List C) (o:Nat) (x:C),(V++new)[j]? =some e->e[o]? =some x->∃u,(n++vs)[j * d+o]? =some u/\RelC g q a l x u:=by
 refine⟨fun j e f=> ?_,fun j e o x f s=> ?_⟩
 ·rw[bm] at f
  split at f
  ·exact h.hk _ _ f
  ·exact c.hk _ _ f
 ·rw[bm] at f
  split at f
  ·rename_i p
   obtain⟨u,i,r⟩:=h.rel j e o x f s
   exact⟨u,by rw[aH (lG.1 i).1];exact i,r⟩
  ·rename_i p
   obtain⟨u,i,r⟩:=c.rel _ e o x f s
   refine⟨u,?_,r⟩
   have:cD n<=j * d+o:=by rw[h.len];have:=ak d (bT.1 p);omega
   rw[aE this,h.len]
   rw[Nat.sub_mul] at i
   have:=ak d (bT.1 p)
   rw[show j * d+o - (cD V) * d=j * d - (cD V) * d+o by omega]
   exact i
inductive Src(σ:b6)(k:Nat):T->List (List C)->Prop
 |own {id:Id} {j n:Nat} {es:List (List C)} (h:σ[id]? =some (some (.cells k es))):Src σ k (.c (.own id j n)) ((es.drop j).take n)
 |imm {es:List (List I)}:Src σ k (.c (.imm (.sl k es))) (es.map (·.map .imm))
 |nil:Src σ k (.c (.imm (.val (.slice none 0 0)))) []
def Y6{s:St}{L:Cx}{a:Act}(j:R L d s q a g){id:Id}{n k:Nat}(B:s.σ[id]? =some (some (.cells k V)))(D:ac9 g (q id) k (cD V) H n p):
  ∃b t v,p=.slice b n t/\((V.drop H).take n).length=n/\ak4 g q s.σ (Al L.N q s.σ) k ((V.drop H).take n) b v:=by
 rcases D with⟨h1,h2,h3,h4⟩|⟨b,c,t,y,aa,ad,hp,D,E,M,O,F,P,ac⟩
 ·subst h3 h4
  exact⟨none,0,[],h2,by simp,⟨by simp,fun _=>by simp,fun _ h=>by simp at h,fun H e h=>by simp at h,fun H e o x h=>by simp at h⟩⟩
 ·obtain⟨Q,U,z,X,hk,G⟩:=J8 j B hp
  rw[P] at z;cases z
  have l:((V.drop H).take n).length=n:=by simp;omega
  have get:∀(i:Nat) (e:List C),((V.drop H).take n)[i]? =some e->i<n/\V[H+i]? =some e:=fun i e f=>by rw[au] at f;split at f;rw[aw] at f;exact⟨‹_›,f⟩;cases f
  have J:c+(H+n) * k<=y.size:=by have:(H+n) * k<=cD V * k:=ak _ F;omega
  rw[aq] at J
  refine⟨some ad,t,(y.toList.drop (c+H * k)).take (n * k),D,l,⟨?_,fun h=>(by cases h),fun al h i u r=> ?_,fun i e f=>hk _ _ (get i e f).2,fun i e o x f w=> ?_⟩⟩
  ·rw[l];simp;omega
  ·cases h
   rw[au] at r
   split at r
   ·rename_i hi
    rw[aw] at r
    have hn:0<n:=by rcases Nat.eq_zero_or_pos n with h|h;subst h;simp at hi;exact h
    rw[E (by omega),J7,U1 P]
    simpa using r
   ·cases r
  ·obtain⟨hi,A⟩:=get i e f
   obtain⟨u,r,hr⟩:=G _ e o x A w
   have K:=hk _ _ A
   have an:o<k:=by rw[<- K];exact(lG.1 w).1
   have:(i+1) * k<=n * k:=ak _ hi
   rw[aq,bf] at this
   refine⟨u,?_,hr⟩
   rw[au,if_pos (by omega),aw]
   rw[aq] at r
   rw[show c+H * k+(i * k+o)=c+(H * k+i * k+o) by omega]
   simpa using r
def Src.shows{s:St}{M:Cx}{a:Act}(O:R M d s q a g){t:T}(G:ev s.env A=some t)(w:Src s.σ H t V):
  ∃b f y,a.eval A=.slice b (cD V) f/\ak4 g q s.σ (Al M.N q s.σ) H V b y:=by
 have l:=i5 O G
 cases w with
 |own B=>
  obtain⟨b,f,y,n,J,x⟩:=Y6 O B (H1 l B)
  exact⟨b,f,y,by rw[n,J],x⟩
 |@imm V=>
  generalize a.eval A=v at l
  cases l with|c l=>cases l with|imm l=>cases l with
   |slNil=>exact⟨none,0,[],rfl,⟨by simp,fun _=>rfl,fun _ h=>by simp at h,fun j e h=>by simp at h,fun j e o A h=>by simp at h⟩⟩
   |@sl _ _ k f y P Q hk hc l=>
    have get:∀(i:Nat) (e:List C),(V.map (·.map C.imm))[i]? =some e->∃p,V[i]? =some p/\e=p.map C.imm:=fun i e z=>by rw[lM,oM] at z;obtain⟨p,n,J⟩:=z;exact⟨p,n,J.symm⟩
    refine⟨some k,f,(ai (cD V * H)).map fun i=>y (i / H) (i % H),by simp,⟨by simp,fun h=>(by cases h),fun aa h i u U=> ?_,fun i e z=> ?_,fun i e o A z G=> ?_⟩⟩
    ·cases h
     rw[lM,oM] at U
     obtain⟨i',hi,rfl⟩:=U
     obtain⟨D,rfl⟩:=T4 hi
     have K:0<H:=bY fun h0=>by subst h0;simp at D
     have X:i / H<cD V:=bV (by rw[aW];exact D)
     have r:=hk _ _ (ae X)
     have ho:i % H<(V[i / H]).length:=by rw[r];exact Nat.mod_lt _ K
     have:=(hc _ _ _ _ (ae X) (ae ho)).2
     rwa [show i / H * H+i % H=i by rw[aW];exact Nat.div_add_mod i H] at this
    ·obtain⟨p,n,rfl⟩:=get i e z
     simpa using hk _ _ n
    ·obtain⟨p,n,rfl⟩:=get i e z
     rw[lM,oM] at G
     obtain⟨x0,E,rfl⟩:=G
     have r:=hk _ _ n
     have F:o<H:=by rw[<- r];exact(lG.1 E).1
     have L:i<cD V:=(lG.1 n).1
     have:(i+1) * H<=cD V * H:=ak _ L
     rw[aq,bf] at this
     refine⟨y i o,?_,.imm (l i p o x0 n E)⟩
     rw[lM,List.getElem?_range (by omega)]
     have e1:(i * H+o) / H=i:=by rw[aW,Nat.mul_add_div (by omega),Nat.div_eq_of_lt F,aV]
     have e2:(i * H+o) % H=o:=by rw[aW,Nat.mul_add_mod,Nat.mod_eq_of_lt F]
     simp[e1,e2]
 |nil=>exact⟨none,0,[],val_inv l,⟨by simp,fun _=>rfl,fun _ h=>by simp at h,fun j e h=>by simp at h,fun j e o A h=>by simp at h⟩⟩
section
variable {P:Program}(w:World)
def ag8{size n cap:Nat}{b:Option Addr}{us:List Vl}(c:cD us=n * size)(d:b=none->us=[])(e:∀a,b=some a->∀(j:Nat) (u:Vl),us[j]? =some u->w.cell? (a.add j)=some u):
  (Builtin.firstCells size n (.slice b n cap)).run P w=.ok us.toArray w:=by
 cases b with
 |none=>rw[d rfl];simp[Builtin.firstCells]
 |some a=>exact run_firstCells_some w size n a n cap us c (e a rfl)
def aJ3{t ty:Ti}{bytes:Nat}[x:TyD P t (.slice M)][J:TyS P M d bytes p]{a sLen sCap:Nat}{f:Array Vl}{n:Ti}(y:w.heap[H]? =some (.cells f n (0,0))){b:Option Addr}{m c:Nat}{l:List Vl}(A:cD l=m * d)(B:b=none->l=[])(D:∀s,b=some s->∀(j:Nat) (u:Vl),l[j]? =some u->w.cell? (s.add j)=some u)(E:∀u ∈ l,u.oneCell'=true)(i:sLen+m<=sCap)(v:a+sCap * d<=f.size):
  (Builtin.append_ #[t,t] ty #[.slice (some ⟨H,a,none⟩) sLen sCap,.slice b m c]).run P w=
   .ok (.slice (some ⟨H,a,none⟩) (sLen+m) sCap) (w.setRow H (f.toList.take (a+sLen * d)++l++f.toList.drop (a+sLen * d+cD l)).toArray):=by
 have F:=ag8 (P:=P) w (size:=d) (cap:=c) A B D
 have q:(sLen+m) * d<=sCap * d:=ak _ i
 rw[aq] at q
 have o:=run_storeCells_at P H (a+sLen * d) n l 0 f w y (by omega) E
 simp only[aV] at o
 have r:=u3 (P:=P) (t:=M) w
 simp[Builtin.append_,run_underlying x.h,r,Builtin.lenOf,i,F,J7,o]
def aJ1{t ty:Ti}{bytes:Nat}[L:TyD P t (.slice M)][N:TyS P M d bytes p]{n:Option Addr}{a:Nat}{f:List Vl}(o:cD f=H * d)(q:n=none->f=[])(r:∀g,n=some g->∀(j:Nat) (u:Vl),f[j]? =some u->w.cell? (g.add j)=some u){b:Option Addr}{m c:Nat}{l:List Vl}(O:cD l=m * d)(Q:b=none->l=[])(U:∀g,b=some g->∀(j:Nat) (u:Vl),l[j]? =some u->w.cell? (g.add j)=some u)(V:a<H+m)(X:(H+m) * bytes<=140737488355328)(J:H+m<=9223372036854775807):
  (Builtin.append_ #[t,t] ty #[.slice n H a,.slice b m c]).run P w=
   .ok (.slice (some ⟨w.heap.size,0,none⟩) (H+m) (grownCap w (H+m) a M)) (w.drew.alloc (.cells (f.toArray++l.toArray++Builtin.zeroCells p.cells (grownCap w (H+m) a M - (H+m))) M)):=by
 obtain⟨i,s,v,x,y⟩:=N.h
 subst v x
 have K:=growslice_fits V X
 have A:¬ (281474976710656<Builtin.nextslicecap (H+m) a * i.bytes):=by omega
 have B:¬ (9223372036854775807<((H:Int)+(m:Int))):=by omega
 have D:¬ (H+m<=a):=by omega
 have e:=ag8 (P:=P) w.drew (size:=i.size) (cap:=c) O Q (fun g h j u F=>by simpa using U g h j u F)
 have G:=ag8 (P:=P) w.drew (size:=i.size) (cap:=a) o q (fun g h j u F=>by simpa using r g h j u F)
 simp[Builtin.append_,run_underlying L.h,Go.sizeOf,typeInfo,zeroValue,s,y,Builtin.lenOf,D,B,A,Question.forced,e,G,newRow,grownCap]
 rw[<- Array.append_assoc,List.append_toArray f l]
end
def M9{k:Nat}{es:List (List C)}(e:a[b]? =some (some (.cells k es)))(i:p.oneCell'=true)(h:ac9 g (q b) k (cD es) 0 d p):RelT g q a l (.c (.own b 0 d)) p:=
 .c (.own (b6.lt_of e) i fun o j f=>by rw[e] at f;cases f;exact h)
def append_new{P:Program}{r:Cx}{f:Act}(hR:R r d (St.mk L a) q f g){t ty' e:Ti}{bytes:Nat}[ht:TyD P t (.slice e)][hs:TyS P e H bytes p](Q:(p.cells.size==H)=true){b0:Option Addr}{n cap0:Nat}{old:List (List C)}{us0:List Vl}(B:ak4 g q a (Al r.N q a) H old b0 us0)(s:cD old=n){b:Option Addr}{c:Nat}{U:List Vl}(D:ak4 g q a (Al r.N q a) H V b U)(hg:cap0<n+cD V)(hb:(n+cD V) * bytes<=140737488355328)(y:n+cD V<=maxLen)(i:b6)(E:∀(q:Phi) (g:World),Rs r a q g->Kept g g q q a i (Al r.N q a) (Al r.N q i)/\Rs r i q g)(J:cD i=cD a):
  ∃v' X F,(Builtin.append_ #[t,t] ty' #[.slice b0 n cap0,.slice b (cD V) c]).run P g=.ok v' X/\
   RelT X F (i++[.one (.cells H (old++V))]) (Al r.N F (i++[.one (.cells H (old++V))])) (.c (.own (cD a,[]) 0 (n+cD V))) v'/\R r d ⟨L,i++[.one (.cells H (old++V))]⟩ F f X:=by
 have G:n+cD V<=9223372036854775807:=by simpa[maxLen] using y
 have K:=aJ1 (P:=P) (t:=t) (ty:=ty') g (by rw[B.len,s]) (fun h=>by rw[B.none h] at B;exact ah (by simpa using B.len)) B.cell (c:=c) D.len (fun h=>by rw[D.none h] at D;exact ah (by simpa using D.len)) D.cell hg hb G
 have M:=grownCap_ge g (n+cD V) cap0 e
 have w:grownCap g (n+cD V) cap0 e<=maxLen:=grownCap_le_maxLen g (n+cD V) cap0 e y
 obtain⟨k,z⟩:=E q g.drew hR.toRs.drew
 have aa:=Kept.drew g q a (Al r.N q a)
 have A:=Kept.trans (show g.heap.size<=g.drew.heap.size from aK _) aa k
 have O:=app_rel B D
 have hz:p.cells.size=H:=by simpa using Q
 generalize ac:grownCap g (n+cD V) cap0 e=v at *
 have l:(us0.toArray++U.toArray++Builtin.zeroCells p.cells (v - (n+cD V))).size=v * H:=by simp only[Array.size_append,aU,size_zeroCells,hz,B.len,D.len,s,<- aq];congr 1;omega
 have hA:=Rs.alloc (k:=H) (es:=old++V) (arr:=us0.toArray++U.toArray++Builtin.zeroCells p.cells (v - (n+cD V))) (ety:=e) z O.1 (by
   rw[l,aL,s];exact ak _ M) (fun j e' o x he hx=>by
   obtain⟨u,hu,hr⟩:=O.2 j e' o x he hx;refine⟨u,?_,hr.mono A⟩;rw[Array.getElem?_append_left (by have:=(lG.1 hu).1;simpa using this)];simpa using hu)
 rw[J] at hA
 refine⟨_,_,s8 (cD a) q g.heap.size,K,M9 (k:=H) (es:=old++V) (by rw[<- J];exact b6.get_last _ _) rfl (.inr ⟨g.heap.size,0,v,_,e,_,by simp[s8],rfl,fun _=>by simp,M,w,by simp[s],heap_alloc_new g.drew _,by rw[l];simp⟩),?_⟩
 exact hR.of (Kept.trans (show g.heap.size<=g.drew.heap.size from aK _) A hA.1) hA.2
def append_R{P:Program}{ty:Ti}{x y:Od}{t e:Ti}{bytes:Nat}{id:Id}{j n:Nat}{new:List (List C)}{v:T}[ht:TyD P t (.slice e)][hs:TyS P e H bytes p](a4:(p.cells.size==H)=true)(a5:aM 0 bytes=true)(hx:ev L x=some (.c (.own id j n)))(U:a[id]? =some (some (.cells H V)))(hy:ev L y=some v)(al:Src a H v new)(hb:(n+cD new) * bytes<=140737488355328){Γ:Cx}{f:Act}(Q:R Γ d (St.mk L a) q f g):
  ∃v' w' J,(Builtin.append_ #[t,t] ty #[f.eval x,f.eval y]).run P g=.ok v' w'/\RelT w' J (a.put id none++[.one (.cells H ((V.drop j).take n++new))]) (Al Γ.N J (a.put id none++[.one (.cells H ((V.drop j).take n++new))])) (.c (.own (cD a,[]) 0 (n+cD new))) v'/\
   R Γ d ⟨L,a.put id none++[.one (.cells H ((V.drop j).take n++new))]⟩ J f w':=by
  obtain⟨b',A,F,a6,r⟩:=al.shows Q hy
  have hv:=H1 (i5 Q hx) U
  obtain⟨b0,s,an,w,X,k⟩:=Y6 Q U hv
  rw[w,a6]
  by_cases B:n+cD new<=s
  ·rcases hv with⟨h1,h2,h3,h4⟩|⟨b,l,ao,D,z,ad,hp,hv,a7,bx,K,cc,G,aa⟩
   · -- nil, and nothing is appended
    rw[w] at h2
    cases h2
    have M:new=[]:=ah (by omega)
    subst M
    subst h3
    obtain⟨a8,a9⟩:=Q.toRs.kill id
    obtain⟨av,ay⟩:=a9.virt H
    have E:(Builtin.append_ #[t,t] ty #[.slice none 0 0,.slice b' 0 A]).run P g=.ok (.slice none 0 0) g:=by have hf:=ag8 (P:=P) g (size:=H) (cap:=A) (b:=b') (n:=0) (us:=F) r.len (fun h=>ah (by simpa using r.len)) r.cell;simp[Builtin.append_,run_underlying ht.h,u3 (t:=e),Builtin.lenOf,hf]
    refine⟨.slice none 0 0,g,(fun i=>if i=(cD a,[]) then none else q i),by rw[show([]:List (List C)).length=0 from rfl,E],?_,?_⟩
    ·simp only[bq,aZ]
     exact M9 (k:=H) (es:=[]) (by rw[<- b6.length_put a id none];exact b6.get_last _ _) rfl (.inl ⟨by simp,rfl,rfl,rfl⟩)
    ·simp only[bq,aZ]
     rw[b6.length_put] at av ay
     exact Q.of (Kept.trans (aK _) a8 av) ay
   ·rw[w] at hv
    cases hv
    have b1:0<n+cD new\/n+cD new=0:=by omega
    by_cases bb:0<s
    ·have:=a7 bb
     subst this
     have a0:l+j * H+s * H<=D.size:=by rw[aq] at aa;omega
     have E:=aJ3 (P:=P) (t:=t) (ty:=ty) g (sLen:=n) (sCap:=s) G (c:=A) r.len (fun h=>by rw[r.none h] at r;exact ah (by simpa using r.len)) r.cell r.one B a0
     have a1:=app_rel k r
     have be:(n+cD new) * H<=s * H:=ak _ B
     rw[aq] at be
     have a2:cD F=cD new * H:=r.len
     have cb:cD an=n * H:=by rw[k.len,X]
     have hA:=Rs.reown (k:=H) (base':=l+j * H) (es':=(V.drop j).take n++new) (arr':=(D.toList.take (l+j * H+n * H)++F++D.toList.drop (l+j * H+n * H+cD F)).toArray) Q.toRs U hp G a1.1 (by simp only[aL,X,aU,cy,cA,bW,aq];omega) (fun i e' o x' he bj=>by
      obtain⟨u,hu,hr⟩:=a1.2 i e' o x' he bj;refine⟨u,?_,hr⟩;have bk:=D4 D.toList F (l+j * H+n * H) (l+j * H+(i * H+o)) (by simp;omega);simp only[bQ];rw[bk];by_cases cd:i * H+o<n * H;rw[if_neg (by omega)];rw[aH (by omega)] at hu; -- what stood there;obtain⟨arr2,ety2,hb2,_,hkk,hcs⟩:=J8 hR hσ hp;rw[hbk] at hb2;cases hb2;have hi:i<n:=by rcases az i n with h|h;exact h;have:=ak k h;omega
      have O:=k.cell _ rfl _ u hu;rw[J7,U1 G] at O;simpa using O;rw[aE (by omega)] at hu;have ce:=(lG.1 hu).1;rw[if_pos (by omega),show l+j * H+(i * H+o) - (l+j * H+n * H)=i * H+o - (cD an) by omega];exact hu)
     refine⟨_,_,_,by rw[E],?_,Q.of hA.1 hA.2⟩
     refine M9 (k:=H) (es:=(V.drop j).take n++new) (by rw[<- b6.length_put a id none];exact b6.get_last _ _) rfl (.inr ⟨b,l+j * H,s,_,z,_,by simp,rfl,fun _=>by simp,B,K,by simp[X],setRow_heap g b D _ z (0,0) G,?_⟩)
     simp only[aU,aL,cy,cA,bW,aX]
     omega
    · -- no room at all, and nothing is appended
     have h0:s=0:=by omega
     subst h0
     have bs:n=0:=by omega
     have M:new=[]:=ah (by omega)
     subst M
     subst bs
     have E:(Builtin.append_ #[t,t] ty #[.slice (some ad) 0 0,.slice b' 0 A]).run P g=.ok (.slice (some ad) 0 0) g:=by have hf:=ag8 (P:=P) g (size:=H) (cap:=A) (b:=b') (n:=0) (us:=F) r.len (fun h=>ah (by simpa using r.len)) r.cell;have a2:F=[]:=ah (by simpa using r.len);subst a2;simp[Builtin.append_,run_underlying ht.h,u3 (t:=e),Builtin.lenOf,hf,storeCells]
     have hA:=Rs.reown (k:=H) (base':=l+j * H) (es':=[]) (arr':=D) Q.toRs U hp G (fun i e' he=>by simp at he) (by simp;rw[aq] at aa;omega) (fun i e' o x' he=>by simp at he)
     rw[setRow_self g b D z (0,0) G] at hA
     refine⟨.slice (some ad) 0 0,g,(fun i=>if i=(cD a,[]) then some (b,l+j * H) else q i),by rw[show([]:List (List C)).length=0 from rfl,E],?_,?_⟩
     ·simp only[bq,aZ]
      exact M9 (k:=H) (es:=[]) (by rw[<- b6.length_put a id none];exact b6.get_last _ _) rfl (.inr ⟨b,l+j * H,0,D,z,ad,by simp,rfl,fun h=>by omega,by simp,by simp[maxLen],by simp,G,by simp;rw[aq] at aa;omega⟩)
     ·simp only[bq,aZ]
      exact Q.of hA.1 hA.2
  ·have K:n+cD new<=maxLen:=by
    have bv:0<bytes:=by simpa using a5
    have:n+cD new<=(n+cD new) * bytes:=bJ _ bv;simp only[maxLen];omega
   obtain⟨v',w',J,g1,g2,g3⟩:=append_new (P:=P) (t:=t) (e:=e) (ty':=ty) Q a4 (cap0:=s) k X (c:=A) r (Nat.not_le.1 B) hb K (a.put id none) (fun q g h=>h.kill id) (by simp)
   exact⟨v',w',J,by rw[g1],g2,g3⟩
def AOps.append{ops:Array Oper}{rest:List Oper}{y:Od}{t e:Ti}{k bytes:Nat}{z:Vl}{id:Id}{n:Nat}{new:List (List C)}{v:T}[O:TyD r t (.slice e)][U:TyS r e k bytes z](g:(z.cells.size==k)=true)(i:aM 0 bytes=true)(p:ev L A=some (.c (.own id H n)))(l:c[id]? =some (some (.cells k V)))(q:ev L y=some v)(f:Src c k v new)(u:(n+cD new) * bytes<=140737488355328)(D:f7 d B=true)(h:AOps r a d ops s rest ((St.mk L (c.put id none++[.one (.cells k ((V.drop H).take n++new))])).put B (.c (.own (cD c,[]) 0 (n+cD new))))):
  AOps r a d ops s (⟨B,.call ⟨.builtin .append,#[A,y],#[t,t]⟩,M,P,Q,none⟩::rest) (St.mk L c):=
 .valueW rfl D _ _ (fun X x b w E=>by obtain⟨F,G,o,J,K,N⟩:=append_R (P:=r) (t:=t) (e:=e) (ty:=M) g i p l q f u E;refine⟨F,G,o,?_,K,N⟩;simp[execOp,resolve,invoke,builtin,J]) h
def AOps.appendNil{l:b6}{ops:Array Oper}{rest:List Oper}{y:Od}{t e:Ti}{bytes:Nat}{new:List (List C)}{v:T}[ht:TyD r t (.slice e)][hs:TyS r e H bytes p](G:(p.cells.size==H)=true)(J:aM 0 bytes=true)(hx:ev L A=some (.c (.imm (.val (.slice none 0 0)))))(hy:ev L y=some v)(u:Src l H v new)(hb:cD new * bytes<=140737488355328)(hd:f7 d B=true)(h:AOps r a d ops s rest (St.mk (putE L B (.c (.own (cD l,[]) 0 (cD new)))) (l++[.one (.cells H new)]))):
  AOps r a d ops s (⟨B,.call ⟨.builtin .append,#[A,y],#[t,t]⟩,M,P,Q,none⟩::rest) (St.mk L l):=
 .valueW rfl hd _ _ (fun Γ z f w D=>by
  obtain⟨K,g,N,O,q⟩:=u.shows D hy;have U:=A6 D hx;have ex:(execOp f.eval ⟨B,.call ⟨.builtin .append,#[A,y],#[t,t]⟩,M,P,Q,none⟩).run r w=((Builtin.append_ #[t,t] M #[.slice none 0 0,.slice K (cD new) g]).run r w).andThen fun v w=>.ok (.value v) w:=by simp[execOp,resolve,invoke,builtin,U,O]
  rw[ex];by_cases hn:new=[];subst hn;obtain⟨V,X⟩:=D.toRs.virt H;have E:(Builtin.append_ #[t,t] M #[.slice none 0 0,.slice K 0 g]).run r w=.ok (.slice none 0 0) w:=by have hf:=ag8 (P:=r) w (size:=H) (cap:=g) (b:=K) (n:=0) (us:=N) q.len (fun h=>ah (by simpa using q.len)) q.cell;simp[Builtin.append_,run_underlying ht.h,u3 (t:=e),Builtin.lenOf,hf]
  exact⟨.slice none 0 0,w,(fun i=>if i=(cD l,[]) then none else z i),by rw[show([]:List (List C)).length=0 from rfl,E];rfl,M9 (k:=H) (es:=[]) (b6.get_last _ _) rfl (.inl ⟨by simp,rfl,rfl,rfl⟩),D.of V X⟩;have aa:0<cD new:=List.length_pos_iff.2 hn;have F:0+cD new<=maxLen:=by
   have x:0<bytes:=by simpa using J
   have:cD new<=cD new * bytes:=bJ _ x;simp only[maxLen];omega
  obtain⟨v',w',k,g1,g2,g3⟩:=append_new (P:=r) (t:=t) (e:=e) (ty':=M) D G (n:=0) (cap0:=0) (old:=[]) (us0:=[]) (b0:=none) ⟨by simp,fun _=>rfl,fun _ h=>by simp at h,fun j e h=>by simp at h,fun j e o A h=>by simp at h⟩ rfl (c:=g) q (by omega) (by simpa using hb) F l (fun z w h=>⟨Kept.refl _ _ _ _,h⟩) rfl;simp only[aX,bN] at g2 g3;exact⟨v',w',k,by rw[g1];rfl,g2,g3⟩) h
def AOps.lit1{P:Program}{σ0:b6}{sz:Nat}{Q:Post}{env:Env}{σv:b6}{ops:Array Oper}{rest:List Oper}{dst:Option Nat}{ty:Ti}{pos:String}{after:Array Edge} {x : Od} {t e : Ti} {k bytes : Nat} {z : Vl} {v : T} {cs : List C} [ht : TyD P t (.slice e)] [hs : TyS P e k bytes z] (hzk : (z.cells.size == k) = true) (hks : aY k 16777216 = true) (hkp : aM 0 k = true) (hx : ev env x = some v) (hc : ae6 v = some cs) (hl : (cD cs) = k) (hd : f7 sz dst = true)
    (h : AOps P σ0 sz ops Q rest (St.mk (putE env dst (.c (.own (cD σv, []) 0 1))) (σv ++ [.one (.cells k [cs])]))) :
    AOps P σ0 sz ops Q (⟨dst, .buildSlice t 1 #[(0, x)], ty, pos, after, none⟩ :: rest) (St.mk env σv) :=
  .valueW rfl hd _ _ (fun Γ φ a w hR => by
    obtain ⟨h1, h2⟩ := Y3 (i5 hR hx) hc;have hz : z.cells.size = k := by simpa using hzk
    have hk0 : k ≠ 0 := by have : 0 < k := by simpa using hkp
                           omega
    have hk1 : ¬ (16777216 < k) := by have : k <= 16777216 := aA hks
                                      omega
    have hfold : ∀ (l : List Vl) (p : Nat) (base : Array Vl), p + (cD l) <= base.size -> ((l.zipIdx p).foldl (fun cs (c, j) => cs.setIfInBounds (0 + j) c) base).size = base.size /\
        ∀ i, ((l.zipIdx p).foldl (fun cs (c, j) => cs.setIfInBounds (0 + j) c) base)[i]? = if p <= i /\ i < p + (cD l) then l[i - p]? else base[i]? := by
      intro l
      induction l with
      | nil => intro p base _; exact ⟨rfl, fun i => by simp; omega⟩
      | cons c l ih =>
        intro p base hp
        simp only [ax] at hp
        simp only [cC, List.foldl_cons]
        obtain ⟨g1, g2⟩ := ih (p + 1) (base.setIfInBounds (0 + p) c) (by simp; omega)
        refine ⟨by rw [g1]; simp, fun i => ?_⟩
        rw [g2]
        by_cases hi : p + 1 <= i /\ i < p + 1 + (cD l)
        · rw [if_pos hi, if_pos (by simp; omega)]
          rw [show i - p = (i - (p + 1)) + 1 by omega]
          simp
        · rw [if_neg hi]
          by_cases hp' : i = p
          · subst hp'
            rw [if_pos (by simp)]
            have hb : i < base.size := by omega
            simp [hb]
          · rw [if_neg (by simp; omega)]
            simp [br]; omega
    generalize hu : a.eval x = u at h1 h2;generalize hbase : (Array.range k).map (fun i => z.cells[i % z.cells.size]!) = base;have hbs : base.size = k := by rw [<- hbase]; simp
    have hsz : (cD u.cells.toList) = k := by simp [h1, hl]
    obtain ⟨f1, f2⟩ := hfold u.cells.toList 0 base (by omega);generalize hfin : (u.cells.toList.zipIdx 0).foldl (fun cs (c, j) => cs.setIfInBounds (0 + j) c) base = fin at f1 f2;have hfin' : u.cells.zipIdx.foldl (fun cs (c, j) => cs.setIfInBounds (0 + j) c) base = fin := by rw [<- hfin, <- bZ, bX]
    have hA := Rs.alloc (k := k) (es := [cs]) (arr := fin) (ety := e) hR.toRs (fun j e he => by
      match j with
      | 0 => cases he; exact hl
      | j + 1 => simp at he) (by simp; omega) (fun j e o x he hx => by
      match j with
      | 0 =>
        cases he
        obtain ⟨v, hv, hr⟩ := h2 o x hx
        have ho := (lG.1 hx).1
        refine ⟨v, ?_, hr⟩
        rw [f2, if_pos (by omega)]
        simpa using hv
      | j + 1 => simp at he)
    refine ⟨.slice (some ⟨w.heap.size, 0, none⟩) 1 1, _, _, ?_, M9 (k := k) (es := [cs]) (b6.get_last _ _) rfl (.inr ⟨w.heap.size, 0, 1, fin, e, _, by simp [s8], rfl, fun _ => by simp, by simp, by simp [maxLen], by simp, heap_alloc_new w _, by simp; omega⟩), hR.of hA.1 hA.2⟩;have hfill : Instr.fill (fun i => some (i * k, k)) base [(0, u)] = some fin := by simp only [Instr.fill];rw [if_neg (by simp [h1, hl, hbs])];simp only [Nat.zero_mul];rw [hfin']
    simp [execOp, Instr.buildSlice, run_underlying ht.h, u3 (t := e), R5 (t := e), hk0, hk1, hu, hbase, hfill, newRow]) h
def AOps.make{ops:Array Oper}{rest:List Oper}{y:Od}{t e:Ti}{k bytes:Nat}{x q:IntKind}{n:Int}{v:T}{cs:List C}[ht:TyD r t (.slice e)][hs:TyS r e k bytes p](hz:ag2 p=some v)(hc:ae6 v=some cs)(J:(cD cs==k)=true)(F:ev L A=some (.c (.imm (.val (.int x n)))))(hy:ev L y=some (.c (.imm (.val (.int q n)))))(hn:0<=n)(D:n<=9223372036854775807)(hb:(bytes:Int) * n<=281474976710656)(hd:f7 d B=true)(h:AOps r a d ops s rest (St.mk (putE L B (.c (.own (cD c,[]) 0 n.toNat))) (c++[.one (.cells k (bt n.toNat cs))]))):
  AOps r a d ops s (⟨B,.makeSlice t A y,M,P,Q,none⟩::rest) (St.mk L c):=
 .valueW rfl hd _ _ (fun Γ G b w H=>by
  obtain⟨i,K,O,U,V⟩:=hs.h;have g:=run_make (P:=r) w t e i p ht.h K V x q n n hn (Int.le_refl _) (by rw[U];exact hb) D;obtain⟨h1,h2⟩:=Y3 (w:=w) (φ:=G) (σ:=c) (A:=Al Γ.N G c) (ai2 hz) hc;have hk:cD cs=k:=by simpa using J
  rw[O] at g;have z:=Rs.alloc (k:=k) (es:=bt n.toNat cs) (arr:=madeCells p.cells (n.toNat * k)) (ety:=e) H.toRs (fun j e l=>by
   rw[bK] at l;split at l<;>cases l;exact hk) (by simp[size_madeCells]) (fun j e o A l F=>by
   rw[bK] at l;split at l;rename_i hj;cases l;obtain⟨u,hu,hr⟩:=h2 o A F;have ho:o<k:=by rw[<- hk];exact(lG.1 F).1
   refine⟨u,?_,hr⟩;have:(j+1) * k<=n.toNat * k:=ak _ hj;rw[aq,bf] at this;have X:p.cells.size=k:=by rw[h1,hk]
   have em:(j * k+o) % k=o:=by rw[aW,Nat.mul_add_mod,Nat.mod_eq_of_lt ho]
   simp only[madeCells,Array.getElem?_map,Array.getElem?_range,X];rw[if_pos (by omega)];simp only[aJ,em];have E:o<p.cells.size:=by omega
   rw[Array.getElem?_eq_getElem E] at hu;simp[getElem!_pos,E,Option.some.inj hu];cases l)
  refine⟨.slice (some ⟨w.heap.size,0,none⟩) n.toNat n.toNat,w.alloc (.cells (madeCells p.cells (n.toNat * k)) e),s8 (cD c) G w.heap.size,by simp[execOp,A6 H F,A6 H hy,g],?_,H.of z.1 z.2⟩;refine M9 (k:=k) (es:=bt n.toNat cs) (b6.get_last _ _) rfl (.inr ⟨w.heap.size,0,n.toNat,_,e,_,by simp[s8],rfl,fun _=>by simp,aK _,by simp only[maxLen];omega,by simp,heap_alloc_new w _,by simp[size_madeCells]⟩)) h
/-! ### A slice of a slice -/
def am5{P:Program}(w:World){y:Nat}{c:BoundsCode}{kk:IntKind}{i:Int}(h:0<=i/\i<=y):(Instr.sliceBound (.int kk i) y c).run P w=.ok i.toNat w:=by simp[Instr.sliceBound,asIntOf,h]
def AOps.slice{P:Program}{F:b6}{ops:Array Oper}{rest:List Oper}{pos:String}{l r:Od}{t e:Ti}{k bytes:Nat}{V H:IntKind}{q hi:Int}{es:List (List I)}[ht:TyD P t (.slice e)][hs:TyS P e k bytes p](J:ev L A=some (.c (.imm (.sl k es))))(hl:ev L l=some (.c (.imm (.val (.int V q)))))(X:ev L r=some (.c (.imm (.val (.int H hi)))))(hb:0<=q/\q<=hi/\hi<=cD es)(hd:f7 d B=true)(h:AOps P a d ops s rest (St.mk (putE L B (.c (.imm (.sl k ((es.take hi.toNat).drop q.toNat))))) F)):AOps P a d ops s (⟨B,.slice t A (some l) (some r) none,M,pos,Q,none⟩::rest) (St.mk L F):=
 .value rfl hd _ (fun Γ φ f w x=>by
  have v:=i5 x J;generalize hu:f.eval A=u at v;have key:∀(b:Option Addr) (n g:Nat),u=.slice b n g->hi<=g->(execOp f.eval ⟨B,.slice t A (some l) (some r) none,M,pos,Q,none⟩).run P w=.ok (.value (.slice (if g=q.toNat then b else b.map (·.add (q.toNat * k))) (hi.toNat - q.toNat) (g - q.toNat))) w:=fun b n g e1 K=>by have z:=am5 (P:=P) w (y:=g) (c:=.sliceAcap) (kk:=H) (i:=hi) (by omega);have aa:=am5 (P:=P) w (y:=hi.toNat) (c:=.sliceB) (kk:=V) (i:=q) (by omega);simp[execOp,hu,e1,A6 x hl,A6 x X,Instr.sliceAt,Instr.slice,Instr.sliceBounds,run_underlying ht.h,u3 (t:=e),z,aa]
  have E:((es.take hi.toNat).drop q.toNat).length=hi.toNat - q.toNat:=by simp;omega
  cases v with|c v=>cases v with|imm v=>cases v with
   |slNil=>
    have h0:hi=0:=by simp at hb;omega
    have h1:q=0:=by omega
    subst h0 h1
    refine⟨.slice none 0 0,by rw[key none 0 0 rfl (by omega)];simp,.c (.imm (by simpa using .slNil))⟩
   |@sl _ _ ad g us K an hk hc X=>
    have ac:hi<=g:=by omega
    rw[key _ _ _ rfl ac]
    refine⟨_,rfl,.c (.imm ?_)⟩
    rw[<- E]
    have get:∀(j:Nat) (e:List I),((es.take hi.toNat).drop q.toNat)[j]? =some e->es[q.toNat+j]? =some e/\q.toNat+j<hi.toNat:=fun j e D=>by rw[aw,au] at D;split at D;exact⟨D,‹_›⟩;cases D
    have O:∀G:Addr,(q.toNat<g->G=ad.add (q.toNat * k))->RelI w (Al Γ.N φ F) (.sl k ((es.take hi.toNat).drop q.toNat)) (.slice (some G) ((es.take hi.toNat).drop q.toNat).length (g - q.toNat)):=fun G al=>by refine .sl (fun j o=>us (q.toNat+j) o) (by rw[E];omega) (by omega) (fun j e D=>hk _ _ (get j e D).1) (fun j e o A D J=> ?_) (fun j e o A D J=>X _ _ _ _ (get j e D).1 J);obtain⟨g1,g2⟩:=get j e D;have:=hc _ _ _ _ g1 J;rw[al (by omega),ag4,add_add];rw[aq,bh] at this;exact this
    by_cases U:g=q.toNat
    ·rw[if_pos U];exact O ad (fun h=>by omega)
    ·rw[if_neg U];exact O _ (fun _=>rfl)) h
def AOps.sliceOwn{f:Program}{v:b6}{ops:Array Oper}{rest:List Oper}{l r:Od}{t e:Ti}{bytes:Nat}{X F:IntKind}{q hi:Int}{id:Id}{j n:Nat}[ht:TyD f t (.slice e)][hs:TyS f e H bytes p](hx:ev L A=some (.c (.own id j n)))(E:v[id]? =some (some (.cells H V)))(hl:ev L l=some (.c (.imm (.val (.int X q)))))(hr:ev L r=some (.c (.imm (.val (.int F hi)))))(hb:0<=q/\q<=hi/\hi<=n)(hd:f7 d B=true)(h:AOps f a d ops s rest (St.mk (putE L B (.c (.own id (j+q.toNat) (hi.toNat - q.toNat)))) v)):AOps f a d ops s (⟨B,.slice t A (some l) (some r) none,M,P,Q,none⟩::rest) (St.mk L v):=
 .value rfl hd _ (fun Γ φ g w k=>by
  have G:=i5 k hx;have J:id.1<cD v:=b6.lt_of E;have x:=H1 G E;generalize hu:g.eval A=u at x;have key:∀(b:Option Addr) (n o:Nat),u=.slice b n o->hi<=o->(execOp g.eval ⟨B,.slice t A (some l) (some r) none,M,P,Q,none⟩).run f w=.ok (.value (.slice (if o=q.toNat then b else b.map (·.add (q.toNat * H))) (hi.toNat - q.toNat) (o - q.toNat))) w:=fun b n o e1 K=>by have z:=am5 (P:=f) w (y:=o) (c:=.sliceAcap) (kk:=F) (i:=hi) (by omega);have aa:=am5 (P:=f) w (y:=hi.toNat) (c:=.sliceB) (kk:=X) (i:=q) (by omega);simp[execOp,hu,e1,A6 k hl,A6 k hr,Instr.sliceAt,Instr.slice,Instr.sliceBounds,run_underlying ht.h,u3 (t:=e),z,aa]
  rcases x with⟨h1,h2,h3,h4⟩|⟨b,N,o,ac,al,ad,hp,x,an,K,a1,a2,ao,av⟩;subst h3 h4;have h0:hi=0:=by omega
  have ay:q=0:=by omega
  subst h0 ay;exact ⟨.slice none 0 0,by rw[key none 0 0 h2 (by omega)];simp,.c (.own J rfl fun k' a0 he=> (.inl ⟨h1,rfl,rfl,rfl⟩))⟩;rw[key _ _ _ x (by omega)];refine⟨_,rfl,.c (.own J rfl fun k' a0 he=> ?_)⟩;rw[E] at he;cases he;have O:∀D:Addr,(q.toNat<o->D=ad.add (q.toNat * H))->ac9 w (φ id) H (cD V) (j+q.toNat) (hi.toNat - q.toNat) (.slice (some D) (hi.toNat - q.toNat) (o - q.toNat)):=fun D h'=>by refine .inr ⟨b,N,o - q.toNat,ac,al,D,hp,rfl,fun hc=> ?_,by omega,by omega,by omega,ao,?_⟩;rw[h' (by omega),an (by omega),J7,aq,bh];rw[show j+q.toNat+(o - q.toNat)=j+o by omega];exact av
  by_cases U:o=q.toNat;rw[if_pos U];exact O ad (fun h=>by omega);rw[if_neg U];exact O _ (fun _=>rfl)) h
/-! ### Function values -/
def evC(env:Env):List Od->Option (List C)
 |[]=>some []
 |x::r=>match ev env x,evC env r with
  |some (.c c),some cs=>some (c::cs)
  |_,_=>none
def evC_rel{f:Cx}{b:Act}(j:R f d (St.mk L a) q b g):∀{l:List Od} {cs:List C},evC L l=some cs->cD cs=cD l/\∀(i:Nat) (c:C),cs[i]? =some c->∃v,(l.map b.eval)[i]? =some v/\RelC g q a (Al f.N q a) c v
 |[],cs,h=>by cases h;exact⟨rfl,fun i c hi=>by simp at hi⟩
 |x::r,cs,h=>by
  simp only[evC] at h;split at h;rename_i c0 k n o;cases h;obtain⟨p,s⟩:=evC_rel j o;refine⟨by simp[p],fun i c hi=> ?_⟩;match i with
  |0=>
   cases hi
   have e:=i5 j n
   generalize t:b.eval x=u at e
   cases e with|c e=>exact⟨u,by simp[t],e⟩
  |i+1=>simpa using s i c (by simpa using hi)
  cases h
def AOps.ad{P:Program}{e:b6}{ops:Array Oper}{rest:List Oper}{pos:String}{f:FuncId}{l:List Od}(j:evC L l=some t)(k:f7 d B=true)(h:AOps P a d ops s rest (St.mk (putE L B (.c (.fn f t))) e)):AOps P a d ops s (⟨B,.makeFunc (.func f) #[] l.toArray,M,pos,Q,none⟩::rest) (St.mk L e):=
 .value rfl k _ (fun r u b w n=>by
  obtain⟨g,o⟩:=evC_rel n j;refine⟨.func (.func f) #[] ((ai (cD t)).map fun i=>((l.map b.eval)[i]?).getD Go.undef).toArray,?_,.c (.fn _ fun i c hi=> ?_)⟩;have:(ai (cD t)).map (fun i=>((l.map b.eval)[i]?).getD Go.undef)=l.map b.eval:=by apply bA;intro i;by_cases hi:i<cD l;simp[g,hi];simp[g,hi]
  rw[this];simp[execOp,Instr.makeFunc];obtain⟨v,p,q⟩:=o i c hi;rw[p];exact q) h
/-! ### Conversions of integers -/
def AOps.convInt{ops:Array Oper}{rest:List Oper}{src d:Ti}{k e:IntKind}{n:Int}{dd:TypeDesc}[h1:TyD r src dd][h2:TyD r d (.int e)](f:ev L A=some (.c (.imm (.val (.int k n)))))(g:f7 H B=true)(h:AOps r a H ops s rest (St.mk (putE L B (.c (.imm (.val (.int e (e.wrap n)))))) c)):AOps r a H ops s (⟨B,.convert src d A,M,P,Q,none⟩::rest) (St.mk L c):=
 .value rfl g _ (fun j l b w i=>⟨.int e (e.wrap n),by simp[execOp,A6 i f,convert,run_underlying h1.h,run_underlying h2.h,Conv.intToInt],.c (.imm (.val rfl))⟩) h
section
variable {P:Program}{σ0:b6}{sz:Nat}{Q:Post}{env:Env}{σv:b6}{ops:Array Oper}{rest:List Oper}{dst:Option Nat}{ty:Ti}{pos:String}{after:Array Edge}
def evs_rel{d:Cx}{a:Act}(e:R d sz (St.mk env σv) q a g):∀{l:List Od} {b:List T},evs env l=some b->cD b=cD l/\∀(i:Nat) (t:T) (u:Vl),b[i]? =some t->(l.map a.eval)[i]? =some u->RelT g q σv (Al d.N q σv) t u
 |[],b,h=>by cases h;exact⟨rfl,fun i t u hi=>by simp at hi⟩
 |x::r,b,h=>by
  simp only[evs] at h;split at h;rename_i t0 f j k;cases h;obtain⟨n,o⟩:=evs_rel e k;refine⟨by simp[n],fun i t u hi c=> ?_⟩;match i with
  |0=>
   cases hi
   simp at c
   subst c
   exact i5 e j
  |i+1=>exact o i t u (by simpa using hi) (by simpa using c)
  cases h
def fn_inv{f:FuncId}(h:RelT g q a l (.c (.fn f t)) p):∃vs:List Vl,p=.func (.func f) #[] vs.toArray/\(cD vs)=cD t/\∀(i:Nat) (c:C) (v:Vl),t[i]? =some c->vs[i]? =some v->RelC g q a l c v:=by
 cases h with|c h=>cases h with|fn k d=>
  refine⟨_,rfl,by simp,fun i c v hi b=> ?_⟩
  rw[lM,oM] at b
  obtain⟨j,e,rfl⟩:=b
  obtain⟨_,rfl⟩:=T4 e
  exact d i c hi
def av2{o:Cx}{a:Act}(p:R o sz (St.mk env σv) q a g){d:List Od}{ats:Array Ti}{f:FuncId}{b:List C}(v:ev env A=some (.c (.fn f b)))(z:evs env d=some y)(k : ∃ fn, P.funcs[f]? = some fn /\ (fn.name == "runtime.NumGoroutine")=false/\fn.body.isNone=false):
  ∃vs:List Vl,(execOp a.eval ⟨dst,.call ⟨.value A,d.toArray,ats⟩,ty,pos,after,none⟩).run P g=.ok (.enter f vs.toArray) g/\(y++b.map T.c).length=cD vs/\
   ∀(i:Nat) (t:T) (u:Vl),(y++b.map T.c)[i]? =some t->vs[i]? =some u->RelT g q σv (Al o.N q σv) t u:=by
 obtain⟨fn,B,D,r⟩:=k
 obtain⟨E,F,G,H⟩:=fn_inv (i5 p v)
 obtain⟨s,J⟩:=evs_rel p z
 refine⟨d.map a.eval++E,?_,by simp[s,G],fun i t u hi h=> ?_⟩
 ·have l:¬ fn.name= "runtime.NumGoroutine" :=by simpa using D
  have n:¬ fn.body=none:=fun e=>by rw[e] at r;cases r
  simp[execOp,resolve,F,Deferred.ofValue,invoke,callFunc,B,l,n]
 ·rw[bm] at hi h
  by_cases j:i<cD y
  ·rw[if_pos j] at hi
   rw[if_pos (by simp;omega)] at h
   exact J i t u hi h
  ·rw[if_neg j] at hi
   rw[if_neg (by simp;omega)] at h
   rw[lM,oM] at hi
   obtain⟨c,K,rfl⟩:=hi
   simp only[bl,<- s] at h
   exact .c (H _ c u K h)
def AOps.callS{g:List Od}{d:Array Ti}{f:FuncId}{l:T->b6->Prop}(q:ev env A=some (.c (.fn f t)))(s:evs env g=some y)(u:f7 sz dst=true)(n:FnOk P f (y++t.map T.c) σv l)(h:∀r b,l r b->AOps P σ0 sz ops Q rest ((St.mk env b).put dst r)):
  AOps P σ0 sz ops Q (⟨dst,.call ⟨.value A,g.toArray,d⟩,ty,pos,after,none⟩::rest) (St.mk env σv):=fun o z a w j i B=>by
  obtain⟨vs,D,E,F⟩:=av2 (P:=P) (dst:=dst) (ty:=ty) (pos:=pos) (after:=after) (ats:=d) i q s n.fn
  refine W9 rfl (ar0 D ?_)
  refine(n.run ⟨w,o.N,z,σv⟩ vs rfl i.toRs.down E F).mono ?_
  rintro e G ⟨v,r,b,k,rfl,H,J,p⟩
  exact h r b H o k _ G j ((i.of p.kept (i.toRs.up p)).put u J) B
mutual
theorem C.ok_mono{m n:Nat}(h:m<=n):∀c:C,c.ok m=true->c.ok n=true
 | .imm _,_=>rfl
 | .own id _ _,a=>by simp only[C.ok,aC] at a ⊢;omega
 | .ptr id _ _,a=>by simp only[C.ok,aC] at a ⊢;omega
 | .fn _ b,a=>C.okL_mono h b a
 | .ifc _ cs _,a=>C.okL_mono h cs a
 | .map id,a=>by simp only[C.ok,aC] at a ⊢;omega
 | .fnb _ b,a=>C.okL_mono h b a
 | .yld id,a=>by simp only[C.ok,aC] at a ⊢;omega
theorem C.okL_mono{m n:Nat}(h:m<=n):∀l:List C,C.okL m l=true->C.okL n l=true
 |[],_=>rfl
 |c::r,a=>by simp only[C.okL,ap] at a ⊢;exact⟨C.ok_mono h c a.1,C.okL_mono h r a.2⟩
end
mutual
theorem T.ok_mono{m n:Nat}(h:m<=n):∀t:T,t.ok m=true->t.ok n=true
 | .c x,a=>C.ok_mono h x a
 | .agg cs,a=>C.okL_mono h cs a
 | .tup b,a=>T.okL_mono h b a
 | .undef,_=>rfl
theorem T.okL_mono{m n:Nat}(h:m<=n):∀l:List T,T.okL m l=true->T.okL n l=true
 |[],_=>rfl
 |x::r,a=>by simp only[T.okL,ap] at a ⊢;exact⟨T.ok_mono h x a.1,T.okL_mono h r a.2⟩
end
mutual
theorem C.ren_ok{m:Nat}{d:Id->Id}(h:∀i:Id,i.1<m->d i=i):∀c:C,c.ok m=true->c.ren d=c
 | .imm _,_=>rfl
 | .own id _ _,a=>by simp only[C.ok,aC] at a;simp only[C.ren,h id a]
 | .ptr id _ _,a=>by simp only[C.ok,aC] at a;simp only[C.ren,h id a]
 | .fn _ b,a=>by simp only[C.ren,C.renL_ok h b a]
 | .ifc _ cs _,a=>by simp only[C.ren,C.renL_ok h cs a]
 | .map id,a=>by simp only[C.ok,aC] at a;simp only[C.ren,h id a]
 | .fnb _ b,a=>by simp only[C.ren,C.renL_ok h b a]
 | .yld id,a=>by simp only[C.ok,aC] at a;simp only[C.ren,h id a]
theorem C.renL_ok{m:Nat}{b:Id->Id}(h:∀i:Id,i.1<m->b i=i):∀l:List C,C.okL m l=true->C.renL b l=l
 |[],_=>rfl
 |c::r,a=>by simp only[C.okL,ap] at a;simp only[C.renL,C.ren_ok h c a.1,C.renL_ok h r a.2]
end
mutual
theorem T.ren_ok{m:Nat}{b:Id->Id}(h:∀i:Id,i.1<m->b i=i):∀t:T,t.ok m=true->t.ren b=t
 | .c x,a=>by simp only[T.ren,C.ren_ok h x a]
 | .agg cs,a=>by simp only[T.ren,C.renL_ok h cs a]
 | .tup d,a=>by simp only[T.ren,T.renL_ok h d a]
 | .undef,_=>rfl
theorem T.renL_ok{m:Nat}{b:Id->Id}(h:∀i:Id,i.1<m->b i=i):∀l:List T,T.okL m l=true->T.renL b l=l
 |[],_=>rfl
 |x::r,a=>by simp only[T.okL,ap] at a;simp only[T.renL,T.ren_ok h x a.1,T.renL_ok h r a.2]
end
def Blk.ok_mono{m:Nat}(h:m<=d)(b:Blk)(a:b.ok m=true):b.ok d=true:=by
 cases b with
 |cells k e=>simp only[Blk.ok,af] at a ⊢;exact fun l c=>C.okL_mono h l (a l c)
 |obj p cs=>exact C.okL_mono h cs a
def Blk.ren_ok{m:Nat}{c:Id->Id}(h:∀i:Id,i.1<m->c i=i)(b:Blk)(a:b.ok m=true):b.ren c=b:=by
 cases b with
 |cells k d=>
  simp only[Blk.ok,af] at a
  simp only[Blk.ren]
  congr 1
  conv=>rhs;rw[<- List.map_id d]
  exact bo fun l e=>C.renL_ok h l (a l e)
 |obj p cs=>simp only[Blk.ren,C.renL_ok h cs a]
def RelC.ok{c:C}(h:RelC g q a l c p):c.ok (cD a)=true:=by
 induction h with
 |imm h=>rfl
 |own b _ _=>simpa[C.ok] using b
 |ptr b _ _=>simpa[C.ok] using b
 |fn j f d=>
  simp only[C.ok,M8,af]
  intro x e
  obtain⟨i,hi⟩:=ar e
  exact d i x hi
 |ifcA j f d=>
  simp only[C.ok,M8,af]
  intro x e
  obtain⟨i,hi⟩:=ar e
  exact d i x hi
 |ifc1 f d=>simp only[C.ok,C.okL,d,Bool.and_self]
 |map b _ _=>simpa[C.ok] using b
 |fnb j f d=>
  simp only[C.ok,M8,af]
  intro x e
  obtain⟨i,hi⟩:=ar e
  exact d i x hi
 |yld b _ _=>simpa[C.ok] using b
def RelT.ok{t:T}(h:RelT g q a l t p):t.ok (cD a)=true:=by
 induction h with
 |c h=>exact h.ok
 |agg e d=>
  simp only[T.ok,M8,af]
  intro x b
  obtain⟨i,hi⟩:=ar b
  exact(d i x hi).ok
 |tup e d f=>
  simp only[T.ok,av6,af]
  intro x b
  obtain⟨i,hi⟩:=ar b
  exact f i x hi
 |undef=>rfl
def StR.okB(h:StR g q a l){i:Id}{b:Blk}(hi:a[i]? =some (some b)):b.ok (cD a)=true:=by
 have f:=h.blk i b hi;cases b with
 |obj p cs=>
  simp only[Blk.ok,af,M8]
  intro x d
  obtain⟨b,o,E,F,G,H,t⟩:=f
  obtain⟨i,hi⟩:=ar d
  obtain⟨u,_,e⟩:=t i x hi
  exact e.ok
 |cells k J=>
  simp only[Blk.ok,af,M8]
  intro c n x d
  rcases f with⟨_,r⟩|⟨b,s,v,y,K,r,L,M,z⟩
  ·subst r;simp at n
  ·obtain⟨j,B⟩:=ar n
   obtain⟨o,D⟩:=ar d
   obtain⟨u,_,e⟩:=z j c o x B D
   exact e.ok
def AOps.callK{G:List Od}{D:Array Ti}{f:FuncId}{k:List C}{Qc:T->b6->Prop}(hx:ev env A=some (.c (.fn f k)))(ha:evs env G=some y)(H:T.okL 0 (y++k.map T.c)=true)(hd:f7 sz dst=true)(hf:FnOk P f (y++k.map T.c) [] Qc)(r:T)(o:b6)(U:∀(i:Id) (b:Blk),o[i]? =some (some b)->b.ok (cD σv+o.length)=true)(hq:∀J l,Qc J l->∃(n:Id->Id),(∀i:Id,i.1<cD σv->n i=i)/\(∀(i j:Id) (b V:Blk),(σv++o)[i]? =some (some b)->(σv++o)[j]? =some (some V)->n i=n j->i=j)/\r.ok (cD σv+o.length)=true/\r.ren n=J.ren (sh (cD σv))/\
   ∀(i:Id) (b:Blk),o[i]? =some (some b)->cD σv<=(n (sh (cD σv) i)).1/\(l[unsh (cD σv) (n (sh (cD σv) i))]?).map (bR (Blk.ren (sh (cD σv))))=some (some (b.ren n)))(h:AOps P σ0 sz ops Q rest (St.mk (putE env dst r) (σv++o))):
  AOps P σ0 sz ops Q (⟨dst,.call ⟨.value A,G.toArray,D⟩,ty,pos,after,none⟩::rest) (St.mk env σv):=fun s E a w X F ro=>by
  obtain⟨vs,h1,h2,h3⟩:=av2 (P:=P) (dst:=dst) (ty:=ty) (pos:=pos) (after:=after) (ats:=D) F hx ha hf.fn
  refine W9 rfl (ar0 h1 ?_)
  refine(hf.run (s.bare E σv w) vs rfl (good_bare s E σv w) h2 (fun i t u hi hu=> ?_)).mono ?_
  ·have p:Back w E (fun _=>none) σv [] (Al s.N E σv) (Al (s.bare E σv w).N (fun _=>none) []) (fun i=>i):=⟨fun b p _=>bare_al p,fun i b hi=>by simp at hi⟩
   rw[av6,af] at H
   exact(show RelT w E σv (Al s.N E σv) (t.ren fun i=>i) u by rw[T.ren_id];exact h3 i t u hi hu).back p (H t (aj hi))
  ·rintro e w' ⟨v,J,l,ao,rfl,x,hr,hs⟩
   obtain⟨aa,hF,ac⟩:=F.toRs.upBare hs
   obtain⟨n,O,p2,p4,p5,p6⟩:=hq J l x
   have ad:=(F.of aa ac).put hd (hr.fwd hF)
   have K:Sub s.σ0 (St.put ⟨env,σv++l.mapB (Blk.ren (sh (cD σv)))⟩ dst (J.ren (sh (cD σv)))) ⟨putE env dst r,σv++o⟩:=by
    have L:∀(t:Nat) (v:T),lookup t env=some v->v.ok (cD σv)=true:=fun t v q=>by obtain⟨u,_,hr⟩:=F.env t v q;exact hr.ok
    have z:=F.kept.len;refine Sub.mk n (fun i hi=>O i (ag hi z)) (by simp;exact aP z (Nat.le_add_right _ _)) (fun i j b V hi hj he=>p2 i j b V hi hj he) (fun i b hi=> ?_) (fun t v q=> ?_);dsimp only at hi ⊢;rcases az i.1 (cD σv) with g|g;rw[b6.get_left g] at hi;have p:=F.st.okB hi;refine⟨Blk.ok_mono (by simp) b p,?_⟩;rw[O i g,Blk.ren_ok O b p];simp only[St.put];rw[b6.get_left g];exact hi;rw[b6.get_right g] at hi;refine⟨by rw[aL];exact U _ b hi,?_⟩;obtain⟨M,hp⟩:=p6 _ b hi;have e:sh (cD σv) (i.1 - (cD σv),i.2)=i:=sh_unsh g;rw[e] at M hp;simp only[St.put];rw[b6.get_right M,b6.get_map];exact hp;simp only[St.put];have rest:∀v,lookup t env=some v->v.ok (σv++o).length=true/\lookup t env=some (v.ren n):=fun v hv=>by have p:=L t v hv;exact⟨T.ok_mono (by simp) v p,by rw[T.ren_ok O v p];exact hv⟩
    cases B:dst with
    |none=>rw[B] at q;exact rest v q
    |some d=>
     rw[B] at q
     simp only[putE,lookup] at q ⊢
     split at q
     ·cases q
      exact⟨by simpa using p4,by rw[p5]⟩
     ·exact rest v q
   obtain⟨al,an⟩:=K s sz _ _ _ rfl ad
   exact h s al _ w' X an ro
def f5(P:Program)(f:FuncId)(args:List T)(r:T):Prop:=FnOk P f args [] fun a _=>a=r
def AOps.E{a:List Od}{d:Array Ti}{f:FuncId}{r:T}(l:ev env A=some (.c (.fn f t)))(n:evs env a=some y)(e:T.okL 0 (y++t.map T.c)=true)(o:f7 sz dst=true)(p:f5 P f (y++t.map T.c) r)(g:r.ok 0=true)(h:AOps P σ0 sz ops Q rest (St.mk (putE env dst r) σv)):
  AOps P σ0 sz ops Q (⟨dst,.call ⟨.value A,a.toArray,d⟩,ty,pos,after,none⟩::rest) (St.mk env σv):=
 .callK l n e o p r [] (fun i b hi=>by simp at hi) (fun k q s=>by subst s;refine⟨fun i=>i,fun _ _=>rfl,fun i j _ _ _ _ h=>h,T.ok_mono (by simp) k g,?_,fun i b hi=>by simp at hi⟩;rw[T.ren_id,T.ren_ok (m:=0) (fun i hi=>by omega) k g]) (by rw[aZ];exact h)
def Blk.im(k:Nat)(a:List (List I)):Blk:=.cells k (a.map (·.map .imm))
def renL_imm(a:Id->Id)(l:List I):C.renL a (l.map .imm)=l.map .imm:=by
 induction l with
 |nil=>rfl
 |cons x l b=>simp only[bw,C.renL,C.ren,b]
def Blk.im_ren(a:Id->Id)(k:Nat)(b:List (List I)):(Blk.im k b).ren a=Blk.im k b:=by simp only[Blk.im,Blk.ren,List.map_map];congr 1;exact bo fun l _=>renL_imm a l
def okL_imm(m:Nat)(l:List I):C.okL m (l.map .imm)=true:=by
 induction l with
 |nil=>rfl
 |cons x l a=>simp only[bw,C.okL,C.ok,a,Bool.and_self]
def Blk.im_ok(m k:Nat)(es:List (List I)):(Blk.im k es).ok m=true:=by simp only[Blk.im,Blk.ok,List.all_map,af];exact fun l _=>okL_imm m l
def w8(P:Program)(f:FuncId)(args:List T)(k:Nat)(b:List (List I)):Prop:=FnOk P f args [] fun d a=>∃id,d=.c (.own id 0 (cD b))/\a[id]? =some (some (Blk.im k b))
def AOps.fresh{g:List Od}{o:Array Ti}{f:FuncId}{k:Nat}{a:List (List I)}(r:ev env A=some (.c (.fn f t)))(s:evs env g=some y)(p:T.okL 0 (y++t.map T.c)=true)(u:f7 sz dst=true)(v:w8 P f (y++t.map T.c) k a)(h:AOps P σ0 sz ops Q rest (St.mk (putE env dst (.c (.own (cD σv,[]) 0 (cD a)))) (σv++[.one (Blk.im k a)]))):
  AOps P σ0 sz ops Q (⟨dst,.call ⟨.value A,g.toArray,o⟩,ty,pos,after,none⟩::rest) (St.mk env σv):=
 .callK r s p u v (.c (.own (cD σv,[]) 0 (cD a))) [.one (Blk.im k a)] (fun i b hi=>by rcases b6.get_new (σ:=[]) hi with⟨l,_⟩|⟨_,rfl⟩;simp at l;exact Blk.im_ok _ k a) (fun B w l=>by
  obtain⟨id,rfl,q⟩:=l
  refine⟨fun i=>if i.1<cD σv then i else sh (cD σv) id,fun i hi=>if_pos hi,fun i j b D hi z d=> ?_,by simp[T.ok,C.ok],?_,fun i b hi=> ?_⟩
  ·dsimp only at d
   rcases b6.get_new hi with⟨l1,_⟩|⟨rfl,_⟩<;>rcases b6.get_new z with⟨n,_⟩|⟨rfl,_⟩
   ·rwa [if_pos l1,if_pos n] at d
   ·rw[if_pos l1,if_neg (aO _)] at d
    rw[d] at l1
    simp[sh] at l1
    omega
   ·rw[if_pos n,if_neg (aO _)] at d
    rw[<- d] at n
    simp[sh] at n
    omega
   ·rfl
  ·simp only[T.ren,C.ren]
   rw[if_neg (aO _)]
  ·rcases b6.get_new (σ:=[]) hi with⟨l,_⟩|⟨rfl,rfl⟩
   ·simp at l
   ·have e:¬ (sh (cD σv) (([]:b6).length,[])).1<cD σv:=by simp[sh]
    simp only[if_neg e]
    refine⟨by simp[sh],?_⟩
    rw[unsh_sh,q]
    simp only[aJ,Blk.im_ren]) h
/-! ### What is owned ceases to change -/
def lbeq:List Nat->List Nat->Bool
 |[],[]=>true
 |a::l,b::m=>aG a b && lbeq l m
 |_,_=>false
def idb(i j:Id):Bool:=aG i.1 j.1 && lbeq i.2 j.2
def lbeq_iff:∀{l m:List Nat},lbeq l m=true↔l=m
 |[],[]=>by simp[lbeq]
 |[],_::_=>by simp[lbeq]
 |_::_,[]=>by simp[lbeq]
 |a::l,b::m=>by simp[lbeq,lbeq_iff]
def H4{i j:Id}:idb i j=true↔i=j:=by obtain⟨a,l⟩:=i;obtain⟨b,m⟩:=j;simp[idb,lbeq_iff]
def F2{j:Id}(h:b ≠ j):idb b j=false:=by
 cases a:idb b j with
 |false=>rfl
 |true=>exact absurd (H4.1 a) h
mutual
def C.frz(id:Id)(k:Nat)(c:List (List I)):C->C
 | .imm x=>.imm x
 | .own i j n=>if idb i id=true then .imm (.sl k ((c.drop j).take n)) else .own i j n
 | .ptr i j o=>if idb i id=true then(match c[j]? with|some e=>.imm (.ipt (e.drop o))|none=>.ptr i j o) else .ptr i j o
 | .fn f a=>.fn f (C.frzL id k c a)
 | .ifc t cs b=>.ifc t (C.frzL id k c cs) b
 | .map i=>.map i
 | .fnb f a=>.fnb f (C.frzL id k c a)
 | .yld i=>.yld i
def C.frzL(id:Id)(k:Nat)(a:List (List I)):List C->List C
 |[]=>[]
 |c::r=>C.frz id k a c::C.frzL id k a r
end
mutual
def T.frz(id:Id)(k:Nat)(a:List (List I)):T->T
 | .c x=>.c (x.frz id k a)
 | .agg cs=>.agg (C.frzL id k a cs)
 | .tup b=>.tup (T.frzL id k a b)
 | .undef=>.undef
def T.frzL(id:Id)(k:Nat)(a:List (List I)):List T->List T
 |[]=>[]
 |t::r=>T.frz id k a t::T.frzL id k a r
end
def W7(id:Id)(k:Nat)(a:List (List I)):∀l:List C,C.frzL id k a l=l.map (C.frz id k a)
 |[]=>rfl
 |c::r=>by rw[C.frzL,W7 id k a r];rfl
def TfrzL_eq(id:Id)(k:Nat)(a:List (List I)):∀l:List T,T.frzL id k a l=l.map (T.frz id k a)
 |[]=>rfl
 |c::r=>by rw[T.frzL,TfrzL_eq id k a r];rfl
def RelC.frz{Γ:Cx}{J:Phi}(hs:Rs Γ a J g){id:Id}{E:List (List I)}(H:a[id]? =some (some (Blk.im d E)))(K:Kept g g J J a (a.put id none) (Al Γ.N J a) l)(hA:∀b r,J id=some (b,r)->l b){c:C}(h:RelC g J a (Al Γ.N J a) c p):RelC g J (a.put id none) l (c.frz id d E) p:=by
 induction h with
 |imm h=>exact RelC.mono K (.imm h)
 |@own i j n p y L h=>
  simp only[C.frz]
  split
  ·rename_i e
   have e':=H4.1 e
   subst e'
   have U:=h d _ H
   rcases U with⟨g1,g2,g3,g4⟩|⟨b,r,V,X,av,ad,hp,U,ac,ao,w,al,k,ay⟩
   ·subst g2 g3 g4
    simpa using RelC.imm (.slNil)
   ·subst U
    rw[bl] at al
    have hb:=hs.st.blk _ _ H
    rcases hb with⟨F,_⟩|⟨b',M,G,v,F,h3,h4,h5,h6⟩
    ·rw[hp] at F;cases F
    rw[hp] at F;cases F
    rw[k] at h3;cases h3
    have aa:((E.drop j).take n).length=n:=by simp;omega
    have get:∀(i:Nat) (e:List I),((E.drop j).take n)[i]? =some e->i<n/\E[j+i]? =some e:=fun i e B=>by rw[au] at B;split at B;rw[aw] at B;exact⟨‹_›,B⟩;cases B
    have cell:∀(i:Nat) (e:List I) (o:Nat) (x:I),((E.drop j).take n)[i]? =some e->e[o]? =some x->∃u,X[r+((j+i) * d+o)]? =some u/\RelI g l x u:=fun i e o x B s=>by obtain⟨hi,an⟩:=get i e B;obtain⟨u,D,z⟩:=h6 (j+i) (e.map .imm) o (.imm x) (by simp[an]) (by simp[s]);cases z with|imm z=>exact⟨u,D,z.mono (fun _ _ _=>rfl) K.all⟩
    have:RelI g l (.sl d ((E.drop j).take n)) (.slice (some ad) ((E.drop j).take n).length V):=by
     refine .sl (fun i o=>(X[r+((j+i) * d+o)]?).getD Go.undef) (by omega) w (fun i e B=> ?_) (fun i e o x B s=> ?_) (fun i e o x B s=> ?_);have:=h5 (j+i) (e.map .imm) (by simp[(get i e B).2]);simpa using this;obtain⟨u,D,z⟩:=cell i e o x B s;have hn:0<V:=by have:=(get i e B).1;omega
     rw[ac hn,J7,U1 k,D];refine⟨hA b r hp,?_⟩;rw[show r+j * d+(i * d+o)=r+((j+i) * d+o) by rw[aq];omega];exact D;obtain⟨u,D,z⟩:=cell i e o x B s;rw[D];exact z
    rw[aa] at this
    exact .imm this
  ·rename_i e
   exact RelC.mono K (.own y L h)
 |@ptr i j o p y L h=>
  simp only[C.frz]
  split
  ·rename_i e
   have e':=H4.1 e
   subst e'
   split
   ·rename_i e B
    obtain⟨b,r,hp,U⟩:=h d _ H
    subst U
    have hb:=hs.st.blk _ _ H
    rcases hb with⟨F,_⟩|⟨b',M,G,v,F,h3,h4,h5,h6⟩
    ·rw[hp] at F;cases F
    rw[hp] at F;cases F
    have cell:∀(q:Nat) (x:I),(e.drop o)[q]? =some x->∃u,G[r+(j * d+(o+q))]? =some u/\RelI g l x u:=fun q x s=>by rw[aw] at s;obtain⟨u,D,z⟩:=h6 j (e.map .imm) (o+q) (.imm x) (by simp[B]) (by simp[s]);cases z with|imm z=>exact⟨u,D,z.mono (fun _ _ _=>rfl) K.all⟩
    refine .imm (.ipt (fun q=>(G[r+(j * d+(o+q))]?).getD Go.undef) (fun q x s=> ?_) (fun q x s=> ?_))
    ·obtain⟨u,D,z⟩:=cell q x s
     rw[J7,U1 h3,D]
     refine⟨hA b r hp,?_⟩
     rw[show r+(j * d+o)+q=r+(j * d+(o+q)) by omega]
     exact D
    ·obtain⟨u,D,z⟩:=cell q x s
     rw[D];exact z
   ·exact RelC.mono K (.ptr y L h)
  ·exact RelC.mono K (.ptr y L h)
 |@fn f A us z O=>
  have e:(C.frzL id d E A).length=cD A:=by rw[W7];simp
  simp only[C.frz]
  rw[<- e]
  refine .fn us fun i c hi=> ?_
  rw[W7,lM,oM] at hi
  obtain⟨x,s,rfl⟩:=hi
  exact O i x s
 |@ifcA t cs us z O=>
  have e:(C.frzL id d E cs).length=cD cs:=by rw[W7];simp
  simp only[C.frz]
  rw[<- e]
  refine .ifcA us fun i c hi=> ?_
  rw[W7,lM,oM] at hi
  obtain⟨x,s,rfl⟩:=hi
  exact O i x s
 |ifc1 z O=>exact .ifc1 O
 |map y L h=>exact RelC.mono K (.map y L h)
 |@fnb f A us z O=>
  have e:(C.frzL id d E A).length=cD A:=by rw[W7];simp
  simp only[C.frz]
  rw[<- e]
  refine .fnb us fun i c hi=> ?_
  rw[W7,lM,oM] at hi
  obtain⟨x,s,rfl⟩:=hi
  exact O i x s
 |yld y L h=>exact RelC.mono K (.yld y L h)
def RelT.frz{o:Cx}(t:Rs o a q g){id:Id}{n:List (List I)}(f:a[id]? =some (some (Blk.im d n)))(u:Kept g g q q a (a.put id none) (Al o.N q a) l)(y:∀b j,q id=some (b,j)->l b){c:T}(h:RelT g q a (Al o.N q a) c p):RelT g q (a.put id none) l (c.frz id d n) p:=by
 induction h with
 |c h=>exact .c (h.frz t f u y)
 |@agg cs r z=>
  have e:(C.frzL id d n cs).length=cD cs:=by rw[W7];simp
  simp only[T.frz]
  rw[<- e]
  refine .agg r fun i c hi=> ?_
  rw[W7,lM,oM] at hi
  obtain⟨x,s,rfl⟩:=hi
  exact(z i x s).frz t f u y
 |@tup A r z B=>
  have e:(T.frzL id d n A).length=cD A:=by rw[TfrzL_eq];simp
  simp only[T.frz]
  rw[<- e]
  refine .tup r fun i c hi=> ?_
  rw[TfrzL_eq,lM,oM] at hi
  obtain⟨x,s,rfl⟩:=hi
  exact B i x s
 |undef=>exact .undef
def Blk.frz(id:Id)(k:Nat)(b:List (List I)):Blk->Blk
 | .cells c a=>.cells c (a.map (C.frzL id k b))
 | .obj p cs=>.obj p (C.frzL id k b cs)
def St.frz(s:St)(id:Id)(k:Nat)(a:List (List I)):St:=⟨s.env.map fun p=>(p.1,p.2.frz id k a),(s.σ.put id none).mapB (Blk.frz id k a)⟩
def ao9(f:T->T)(t:Nat):∀env:Env,lookup t (env.map fun p=>(p.1,f p.2))=(lookup t env).map f
 |[]=>rfl
 |(k,v)::r=>by simp only[bw,lookup];split;rfl;exact ao9 f t r
def Sub.frz{σ0:b6}{s:St}(id:Id)(k:Nat)(L:List (List I))(ao:cD σ0<=id.1)(E:s.σ[id]? =some (some (Blk.im k L))):Sub σ0 s (s.frz id k L):=by
 intro F sz n a w al g;subst al;obtain⟨hK,an⟩:=g.toRs.kill id;generalize r:s.σ.put id none=l at hK an;have A:(s.frz id k L).σ=l.mapB (Blk.frz id k L):=by rw[<- r];rfl
 generalize M:l.mapB (Blk.frz id k L)=B at A;have y:∀(i:Id) (b:Blk),B[i]? =some (some b)->∃D:Blk,l[i]? =some (some D)/\b=D.frz id k L:=fun i b hi=>by rw[<- M] at hi;exact b6.get_map_some hi
 have f:∀(i:Id) b,l[i]? =some (some b)->i ≠ id/\s.σ[i]? =some (some b):=fun i b h=>by rw[<- r] at h;exact b6.get_kill h
 have A2:∀b,Al F.N n l b->Al F.N n B b:=fun b G=>⟨G.1,fun i blk d hi=>by obtain⟨D,z,_⟩:=y i blk hi;exact G.2 i D d z⟩;have H:Kept w w n n l B (Al F.N n l) (Al F.N n B):=
  {imm:=fun _ _ _=>rfl,all:=fun b G _=>A2 b G,len:=by rw[<- M];simp,
   cells:=fun i kk av hi J=>by
    obtain⟨D,z,K⟩:=y i _ J;cases D with
    |obj p cs=>cases K
    |cells k0 U=>
     simp only[Blk.frz,Blk.cells.injEq] at K
     obtain⟨rfl,rfl⟩:=K
     exact⟨U,z,by simp,rfl,fun b d V ad hp G=>⟨V,G,rfl⟩⟩,
   obj:=fun i p' ay hi J=>by
    obtain⟨D,z,K⟩:=y i _ J;cases D with
    |cells k0 U=>cases K
    |obj p cs=>exact⟨rfl,p,cs,z⟩}
 have hA:∀b d,n id=some (b,d)->Al F.N n l b:=fun b d hp=>by refine⟨fun hN=>g.keep id _ b d E hp ⟨g.good.lt b hN,fun i blk bs hi X=>g.good.own i blk b bs hi X hN⟩,fun i blk bs hi X=> ?_⟩;obtain⟨z,K⟩:=f i blk hi;exact z (g.st.inj i id blk _ _ _ K E X hp rfl)
 have O:Kept w w n n s.σ (s.σ.put id none) (Al F.N n s.σ) (Al F.N n l):=by rw[r];exact hK
 have cv:∀{c:C} {v:Vl},RelC w n s.σ (Al F.N n s.σ) c v->RelC w n B (Al F.N n B) (c.frz id k L) v:=fun h=>by have:=h.frz g.toRs E O hA;rw[r] at this;exact this.mono H
 refine⟨n,{good:=g.good,st:= ?_,keep:= ?_,os:=g.os,tape:=g.tape,drawn:=g.drawn,output:=g.output,size:=g.size,block:=g.block,kept:= ?_,defers:=by rw[A];exact(g.defers.kept hK).kept H,asize:=g.asize,env:=fun t v ht=> ?_}⟩;rw[A];refine⟨fun i b hi=> ?_,fun i j bi bj p q hi hj=> ?_⟩;obtain⟨D,z,rfl⟩:=y i b hi;have G:=g.st.blk i D (f i D z).2;cases D with
 |obj p cs=>
  obtain⟨b,o,us,g1,g2,g3,g4⟩:=G
  refine⟨b,o,us,g1,g2,g3,fun i x hx=> ?_⟩
  rw[W7] at hx
  simp only[lM,oM] at hx
  obtain⟨x0,aa,rfl⟩:=hx
  obtain⟨u,hu,hr⟩:=g4 i x0 aa
  exact⟨u,hu,cv hr⟩
 |cells k0 U=>
  rcases G with⟨g1,g2⟩|⟨b,d,V,ad,g1,g2,g3,g4,g5⟩
  ·exact .inl ⟨g1,by subst g2;rfl⟩
  ·refine .inr ⟨b,d,V,ad,g1,g2,by simpa using g3,fun j e J=> ?_,fun j e o x J hx=> ?_⟩
   ·simp only[lM,oM] at J
    obtain⟨e0,ac,rfl⟩:=J
    rw[W7];simpa using g4 j e0 ac
   ·simp only[lM,oM] at J
    obtain⟨e0,ac,rfl⟩:=J
    rw[W7] at hx
    simp only[lM,oM] at hx
    obtain⟨x0,aa,rfl⟩:=hx
    obtain⟨u,hu,hr⟩:=g5 j e0 o x0 ac aa
    exact⟨u,hu,cv hr⟩
 obtain⟨b1,z,_⟩:=y i bi hi;obtain⟨b2,K,_⟩:=y j bj hj;exact g.st.inj i j b1 b2 p q (f i b1 z).2 (f j b2 K).2;rw[A];intro i blk b d hi hp;obtain⟨b1,z,_⟩:=y i blk hi;exact g.keep i b1 b d (f i b1 z).2 hp;rw[A];exact Kept.trans g.size g.kept (Kept.trans (aK _) hK H);rw[A];simp only[St.frz] at ht;rw[ao9 (fun v=>v.frz id k L),oM] at ht;obtain⟨v0,z,rfl⟩:=ht;obtain⟨u,hu,hr⟩:=g.env t v0 z;refine⟨u,hu,?_⟩;have:=hr.frz g.toRs E O hA;rw[r] at this;exact this.mono H
def Sub.virt{s:St}(t k:Nat)(j:lookup t s.env=some (.c (.imm (.val (.slice none 0 0))))):Sub a s ⟨(t,.c (.own (s.σ.length,[]) 0 0))::s.env,s.σ++[.one (.cells k [])]⟩:=by intro q sz r b w l g;obtain⟨h,i⟩:=g.toRs.virt k;have d:=g.of h i;refine⟨_,{toRs:=d.toRs,defers:=d.defers,asize:=d.asize,env:=fun n v f=> ?_}⟩;simp only[lookup] at f;split at f;rename_i e;have:=am e;subst this;cases f;obtain⟨u,o,p⟩:=g.env _ _ j;refine⟨u,o,?_⟩;rw[val_inv p];exact M9 (k:=k) (es:=[]) (b6.get_last _ _) rfl (.inl ⟨by simp,rfl,rfl,rfl⟩);exact d.env n v f
end
def b5{K:St->Prop}(h:K (St.mk L a)):thn K s .normal (St.mk L a):=h
def e9{K:St->Prop}(h:s .ret (St.mk L a)):thn K s .ret (St.mk L a):=h
def j9{K:St->Prop}(h:s (.exit d) (St.mk L a)):thn K s (.exit d) (St.mk L a):=h
def d8{id:Nat}(h:s .normal (St.mk L a)):inB id s .normal (St.mk L a):=h
def i7{id:Nat}(h:s .ret (St.mk L a)):inB id s .ret (St.mk L a):=h
def g8{id:Nat}(h:s .normal (St.mk L a)):inB id s (.exit id) (St.mk L a):=by simpa[inB] using h
def aa4(b:aG d H=false)(h:s (.exit d) (St.mk L a)):inB H s (.exit d) (St.mk L a):=by
 have:d ≠ H:=fun e=>by subst e;simp at b
 simpa[inB,this] using h
abbrev intI(n:Int):List I:=[.val (.int .i64 n)]
abbrev ints(l:Li):C:=.imm (.sl 1 (l.map intI))
def AOps.lenL{ops:Array Oper}{rest:List Oper}{b:Type}{f:b->List I}{l:List b}{t e:Ti}[j:TyD r t (.slice e)](g:ev L A=some (.c (.imm (.sl H (l.map f)))))(i:f7 d B=true)(h:AOps r a d ops s rest (St.mk (putE L B (.c (int (cD l)))) c)):AOps r a d ops s (⟨B,.call ⟨.builtin .len,#[A],#[t]⟩,M,P,Q,none⟩::rest) (St.mk L c):=
 .len g i (by rw[bl];exact h)
def w6{b:Type}:List b->b->Option (List b)
 |[],x=>some [x]
 |a::l,x=>match w6 l x with
  |some r=>some (a::r)
  |none=>none
def u5{b:Type}:∀{l:List b} {x:b} {r:List b},w6 l x=some r->r=l++[x]
 |[],x,r,h=>by cases h;rfl
 |a::l,x,r,h=>by simp only[w6] at h;split at h<;>cases h;rename_i c;rw[u5 c];rfl
def tmpsOf(l:List Od):List Nat:=l.filterMap fun| .tmp t=>some t|_=>none
def z6(ops:List Oper)(j:Nat):Option Nat:=(ops[j]?).bind (·.dst)
def readsOf(ops:List Oper)(o:Oper):List Nat:=tmpsOf o.op.operands.toList++(match o.guard with|some (j,_)=>(z6 ops j).toList|none=>[])
def K4(o:Oper):List Nat:=(o.after.toList.filter (Region.binds .any)).map (·.on)
def ar6(ops:List Oper)(V:List T)(a:Env)(o:Oper)(t:Nat):Option T:=
 match (K4 o).find? (fun j=>z6 ops j==some t) with
 |some j=>V[j]?
 |none=>lookup t a
def x9(ops:List Oper)(V:List T)(a:Env)(o:Oper):Env:=(readsOf ops o).filterMap fun t=>(ar6 ops V a o t).map fun v=>(t,v)
def j6:List Oper->List T->Env->Env
 |o::ops,v::V,a=>match o.dst with
  |some d=>j6 ops V ((d,v)::a)
  |none=>j6 ops V a
 |_,_,a=>a
def V0(ops:List Oper):Bool:=
 ops.zipIdx.all fun(o,i)=>
  (K4 o).all (· <i) &&
  ops.zipIdx.all fun (p, j) => i == j || (match p.dst with
   |none=>true
   |some t=> !(o.dst==some t) && (!(readsOf ops o).contains t||(K4 o).contains j||(K4 p).contains i))
def as5(h:d ≠ H):aG d H=false:=by
 cases a:aG d H with
 |false=>rfl
 |true=>exact absurd (am a) h
def Only(a:St):Post:=fun e s=>e=.normal/\s=a
def AOps.N{ops:Array Oper}:AOps r a d ops (Only (St.mk L c)) [] (St.mk L c):=.nil ⟨rfl,rfl⟩
def d7(P:Program)(σ0:b6)(c:Nat)(ops:List Oper)(a:Env)(σ:b6)(Q:Post):List Oper->List T->Prop
 |[],b=>Q .normal ⟨j6 ops b a,σ⟩
 |o::r,b=>∃v,(∀E:Env,AOps P σ0 c ops.toArray (Only (St.put ⟨x9 ops b a o++E,σ⟩ o.dst v)) [o] ⟨x9 ops b a o++E,σ⟩)/\d7 P σ0 c ops a σ Q r (b++[v])
def J1(t:Nat)(E:Env):∀l:Env,lookup t (l++E)=match lookup t l with|some v=>some v|none=>lookup t E
 |[]=>rfl
 |(k,v)::r=>by simp only[bG,lookup];split;rfl;exact J1 t E r
def al8(f:Nat->Option T)(t:Nat):∀l:List Nat,lookup t (l.filterMap fun t=>(f t).map fun v=>(t,v))=if t ∈ l then f t else none
 |[]=>rfl
 |k::r=>by
  simp only[bp];cases hk:f k with
  |none=>
   simp only[Option.map_none,al8 f t r,aS]
   by_cases a:t=k
   ·subst a;simp[hk]
   ·simp[a]
  |some v=>
   simp only[aJ,lookup,aS]
   by_cases a:k=t
   ·subst a;simp[hk]
   ·have:aG k t=false:=as5 a
    simp only[this,al8 f t r]
    simp[Ne.symm a]
def uponIn_mono{F:Fence}{n:Nat}{P:Program}{o:Oper}{a:Act}{K K':Act->World->Prop}{Q Q':Exit->Act->World->Prop}(hK:∀a w,K a w->K' a w)(hQ:∀e a w,e ≠ .normal->Q e a w->Q' e a w){r:Result Next}(h:o.uponIn F n P a K Q r):o.uponIn F n P a K' Q' r:=by
 cases r with
 |ok n w'=>
  cases n<;>simp only[Oper.uponIn] at h ⊢<;>
   first
    |exact hK _ _ h
    |exact⟨h.1,CallsIn.mono h.2 (fun e w'' he=>by
      cases e with
      |returned v=>exact hK _ _ he
      |panicked c=>exact hQ _ _ _ (by simp) he
      |outgrown=>obtain⟨a0,w0,hq⟩:=he;exact⟨a0,w0,hQ _ _ _ (by simp) hq⟩)⟩
    |exact⟨h.1,RowsIn.mono h.2 fun _ _ he=>hK _ _ he⟩
    |exact⟨h.1,RoundIn.mono h.2 (fun e w'' he=>by
      cases e with
      |returned v=>exact hK _ _ he
      |panicked c=>exact hQ _ _ _ (by simp) he
      |outgrown=>obtain⟨a0,w0,hq⟩:=he;exact⟨a0,w0,hQ _ _ _ (by simp) hq⟩)⟩
 |halt x w'=>cases x<;>simp only[Oper.uponIn] at h ⊢<;>first|exact hQ _ _ _ (by simp) h|exact h
structure DInv(ops:List Oper)(V:List T)(base:Env)(listed:Array Bool)(E:Env):Prop where
 lt:∀j,listed.getD j false=true->j<cD ops
 closed:∀(j:Nat) (o:Oper),ops[j]? =some o->listed.getD j false=true->∀e ∈ K4 o,listed.getD e false=true
 ran:∀j f,listed.getD j false=true->z6 ops j=some f->lookup f E=V[j]?
 rest:∀f,(∀j,listed.getD j false=true->z6 ops j ≠ some f)->lookup f E=lookup f base
def K8{ops:List Oper}(h:V0 ops=true){o:Oper}(hi:ops[d]? =some o):
  (∀e ∈ K4 o,e<d)/\∀(j:Nat) (p:Oper) (t:Nat),ops[j]? =some p->d ≠ j->p.dst=some t->o.dst ≠ some t/\(t ∈ readsOf ops o->j ∈ K4 o\/d ∈ K4 p):=by
 simp only[V0,af] at h
 have b:=h (o,d) (aD.2 (by simpa using hi))
 simp only[ap,af,decide_eq_true_eq] at b
 refine⟨fun e g=>b.1 e g,fun j p t k c l=> ?_⟩
 have f:=b.2 (p,j) (aD.2 (by simpa using k))
 simp only[l,ba,beq_iff_eq,c,false_or,ap,cr,beq_eq_false_iff_ne,ne_eq] at f
 refine⟨f.1,fun n=> ?_⟩
 have a:=f.2
 simp only[List.contains_iff_mem] at a
 rcases a with(a|a)|a
 ·simp[n] at a
 ·exact .inl a
 ·exact .inr a
def d7.spec{P:Program}{ops:List Oper}:∀(r:List Oper) (b:List T),d7 P a d ops L c s r b->
  ∃V:List T,cD V=cD r/\s .normal ⟨j6 ops (b++V) L,c⟩/\
   ∀(i:Nat) (o:Oper) (v:T),r[i]? =some o->V[i]? =some v->∀E:Env,AOps P a d ops.toArray (Only (St.put ⟨x9 ops (b++V.take i) L o++E,c⟩ o.dst v)) [o] ⟨x9 ops (b++V.take i) L o++E,c⟩
 |[],b,h=>⟨[],rfl,by simpa[d7] using h,fun i o v hi=>by simp at hi⟩
 |o::r,b,h=>by
  obtain⟨v,f,g⟩:=h;obtain⟨V,j,k,l⟩:=d7.spec r (b++[v]) g;refine⟨v::V,by simp[j],by simpa using k,fun i n p hi e E=> ?_⟩;match i with
  |0=>cases hi;cases e;simpa using f E
  |i+1=>simpa using l i n p (by simpa using hi) (by simpa using e) E
def envAt_take{ops:List Oper}{o:Oper}(a:∀e ∈ K4 o,e<d):x9 ops (y.take d) L o=x9 ops y L o:=by
 unfold x9;congr 1;funext t;congr 1;unfold ar6;cases b:(K4 o).find? (fun j=>z6 ops j==some t) with
 |none=>rfl
 |some j=>simp only[au,if_pos (a j (bF b))]
def DInv.env{ops:List Oper}{base:Env}{V:List T}{a:Array Bool}(g:DInv ops V base a L)(l:V0 ops=true){o:Oper}(hi:ops[d]? =some o)(y:a.getD d false=false)(z:∀e ∈ K4 o,a.getD e false=true):
  ∀t v,lookup t (x9 ops V base o++L)=some v->lookup t L=some v:=by
 intro t v h
 rw[J1] at h
 simp only[x9] at h
 rw[al8] at h
 by_cases n:t ∈ readsOf ops o
 ·rw[if_pos n] at h
  have key:∀x,ar6 ops V base o t=some x->lookup t L=some x:=fun x c=>by
   unfold ar6 at c;cases f:(K4 o).find? (fun j=>z6 ops j==some t) with
   |some j=>
    rw[f] at c
    have b:=bF f
    have k:z6 ops j=some t:=by simpa using List.find?_some f
    exact(g.ran j t (z j b) k).trans c
   |none=>
    rw[f] at c
    rw[g.rest t fun j b k=> ?_]
    ·exact c
    ·have q:=g.lt j b
     obtain⟨p,hp⟩:∃p,ops[j]? =some p:=⟨_,ae q⟩
     have r:p.dst=some t:=by simpa[z6,hp] using k
     have s:d ≠ j:=fun e=>by subst e;rw[y] at b;cases b
     rcases((K8 l hi).2 j p t hp s r).2 n with u|u
     ·have:=List.find?_eq_none.1 f j u
      simp[k] at this
     ·have:=g.closed j p hp b d u
      rw[y] at this;cases this
  cases w:ar6 ops V base o t with
  |some x=>rw[w] at h;cases h;exact key _ w
  |none=>rw[w] at h;exact h
 ·rw[if_neg n] at h
  exact h
def count_set:∀{l:List Bool} {i:Nat},l[i]? =some false->(l.filter (fun b=>b)).length+1<=((l.set i true).filter (fun b=>b)).length
 |[],i,h=>by simp at h
 |b::l,0,h=>by simp at h;subst h;simp
 |b::l,i+1,h=>by have:=count_set (l:=l) (i:=i) (by simpa using h);cases b<;>simp at this ⊢<;>omega
def anc(ops:List Oper):Nat->Nat->Nat->Bool
 |0,_,_=>false
 |f+1,e,i=>match ops[i]? with
  |some o=>(K4 o).any fun x=>aG x e||anc ops f e x
  |none=>false
def av0{ops:List Oper}{a:Array Bool}(b:a.size=cD ops)(d:∀j p,ops[j]? =some p->a.getD j false=true->∀x ∈ K4 p,a.getD x false=true):∀(f e i:Nat) (o:Oper),ops[i]? =some o->(∀x ∈ K4 o,a.getD x false=true)->anc ops f e i=true->a.getD e false=true
 |0,e,i,o,_,_,h=>by simp[anc] at h
 |f+1,e,i,o,q,k,h=>by
  simp only[anc,q,bH,ba] at h;obtain⟨x,l,h|h⟩:=h;rw[<- am h];exact k x l;have n:=k x l;have c:x<cD ops:=by rw[<- b];rcases az x a.size with g|g;exact g;simp[Array.getD,bT.2 g] at n
  exact av0 b d f e x _ (ae c) (d x _ (ae c) n) h
def EOk(ops:List Oper)(V:List T)(a:Env)(i:Nat)(E:Env):Prop:=∀t v,lookup t E=some v->lookup t a=some v\/∃j,j ≠ i/\anc ops (cD ops) i j=false/\V[j]? =some v
theorem draw_anyS{P:Program}{σ0:b6}{sz:Nat}{Q:Post}{ops:List Oper}{base:Env}{ro:Option Nat}{V:List T}{Sg:Array Bool->b6->Prop}(hok:V0 ops=true)(hV:cD V=cD ops)
  (each:∀(listed:Array Bool) (σ:b6) (i:Nat) (o:Oper) (v:T),listed.size=cD ops->Sg listed σ->(∃E:Env,DInv ops V base listed E)->ops[i]? =some o->V[i]? =some v->listed.getD i false=false->(∀x ∈ K4 o,listed.getD x false=true)->
   (∀j p,ops[j]? =some p->listed.getD j false=true->∀x ∈ K4 p,listed.getD x false=true)->∃σ',Sg (listed.setIfInBounds i true) σ'/\∀E:Env,EOk ops V base i E->AOps P σ0 sz ops.toArray (Only (St.put ⟨x9 ops V base o++E,σ'⟩ o.dst v)) [o] ⟨x9 ops V base o++E,σ⟩)
  {Γ:Cx} (hΓ:Γ.σ0=σ0) (hend:∀listed σ E φ a w,Sg listed σ->(∀j,j<cD ops->listed.getD j false=true)->(∀j t,z6 ops j=some t->lookup t E=V[j]?)->(∀t,(∀j,z6 ops j ≠ some t)->lookup t E=lookup t base)->R Γ sz ⟨E,σ⟩ φ a w->lift Γ sz Q .normal a w):
  ∀(fuel:Nat) (listed:Array Bool) (σ:b6) (E:Env) (φ:Phi) (a:Act) (w:World),listed.size=cD ops->Sg listed σ->DInv ops V base listed E->R Γ sz ⟨E,σ⟩ φ a w->(cD ops<=fuel+(listed.toList.filter (fun b=>b)).length)->
   wpAnyIn (fw ro) 0 P .any ops.toArray (lift Γ sz Q) fuel listed a w:=by
 have finish:∀(listed:Array Bool) (σ:b6) (E:Env) (φ:Phi) (a:Act) (w:World),listed.size=cD ops->Sg listed σ->DInv ops V base listed E->R Γ sz ⟨E,σ⟩ φ a w->Region.ready .any ops.toArray listed=[]->lift Γ sz Q .normal a w:=by
  intro listed σ E φ a w hsz hSg hI hR hr
  -- all have run: the least that has not would be ready
  have all:∀n j,j<n->j<cD ops->listed.getD j false=true:=by
   intro n
   induction n with
   |zero=>intro j hj;omega
   |succ n ih=>
    intro j hj hjl
    by_cases hb:listed.getD j false=true
    ·exact hb
    ·have:j ∈ Region.ready .any ops.toArray listed:=by
      rw[mem_ready]
      refine⟨?_,ops[j],by simp[hjl],fun e he hbi=> ?_⟩
      ·have:j<listed.size:=by omega
       simpa[this] using hb
      ·have hw:e.on ∈ K4 ops[j]:=by
        simp only[K4,List.mem_map,List.mem_filter]
        exact⟨e,⟨by simpa using he,hbi⟩,rfl⟩
       have hlt:=(K8 hok (ae hjl)).1 _ hw
       exact ih e.on (by omega) (by omega)
     rw[hr] at this;cases this
  refine hend listed σ E φ a w hSg (fun j hj=>all (j+1) j (by omega) hj) (fun j t hd=> ?_) (fun t ht=>hI.rest t fun j hj=>ht j) hR
  have hjl:j<cD ops:=by
   unfold z6 at hd
   cases ho:ops[j]? with
   |none=>rw[ho] at hd;cases hd
   |some o=>exact(lG.1 ho).1
  exact hI.ran j t (all (j+1) j (by omega) hjl) hd
 intro fuel
 induction fuel with
 |zero=>
  intro listed σ E φ a w hsz hSg hI hR hf
  have hr:Region.ready .any ops.toArray listed=[]:=by
   rw[List.eq_nil_iff_forall_not_mem]
   intro j hj
   rw[mem_ready] at hj
   obtain⟨h0,o,ho,_⟩:=hj
   have hjl:j<cD ops:=by simpa using(aN.1 ho).1
   have hlt:(listed.toList.filter (fun b=>b)).length<cD listed.toList:=by
    apply List.length_filter_lt_length_iff_exists.2
    refine⟨false,?_,by simp⟩
    have:j<listed.size:=by omega
    simp[this] at h0
    rw[<- h0]
    simp
   simp at hlt
   omega
  exact⟨hr,finish listed σ E φ a w hsz hSg hI hR hr⟩
 |succ fuel ih=>
  intro listed σ E φ a w hsz hSg hI hR hf
  refine⟨finish listed σ E φ a w hsz hSg hI hR,fun i hi=> ?_⟩
  rw[mem_ready] at hi
  obtain⟨h0,o,ho,hw⟩:=hi
  have ho':ops[i]? =some o:=by simpa using ho
  have hil:i<cD ops:=(lG.1 ho').1
  have hn:listed.getD i false=false:=by
   have:i<listed.size:=by omega
   simpa[this] using h0
  have hwl:∀e ∈ K4 o,listed.getD e false=true:=fun e he=>by
   simp only[K4,List.mem_map,List.mem_filter] at he
   obtain⟨ed,⟨h1,h2⟩,rfl⟩:=he
   exact hw ed (by simpa using h1) h2
  have hvi:V[i]? =some V[i]:=ae (by omega)
  obtain⟨σ',hSg',hop⟩:=each listed σ i o _ hsz hSg ⟨E,hI⟩ ho' hvi hn hwl hI.closed
  have hop:=hop E fun t v ht=>by
   by_cases hx:∃j,listed.getD j false=true/\z6 ops j=some t
   ·obtain⟨j,hj,hd⟩:=hx
    have hjl:=hI.lt j hj
    refine .inr ⟨j,fun e=>(by subst e;rw[hn] at hj;cases hj),?_,by rw[<- hI.ran j t hj hd];exact ht⟩
    cases hb:anc ops (cD ops) i j with
    |false=>rfl
    |true=>
     have:=av0 hsz hI.closed _ i j _ (ae hjl) (hI.closed j _ (ae hjl) hj) hb
     rw[hn] at this;cases this
   ·exact .inl (by rw[<- hI.rest t fun j hj hd=>hx ⟨j,hj,hd⟩];exact ht)
  have hR':R Γ sz ⟨x9 ops V base o++E,σ⟩ φ a w:={toRs:=hR.toRs,defers:=hR.defers,asize:=hR.asize,env:=fun t v ht=>hR.env t v (hI.env hok ho' hn hwl t v ht)}
  have hrun:=hop Γ φ a w hΓ hR' ro
  have next:∀a' w',lift Γ sz (Only (St.put ⟨x9 ops V base o++E,σ'⟩ o.dst V[i])) .normal a' w'->wpAnyIn (fw ro) 0 P .any ops.toArray (lift Γ sz Q) fuel (listed.setIfInBounds i true) a' w':=by
   rintro a' w' ⟨s',φ',⟨_,rfl⟩,hRn⟩
   have look:∀t,o.dst ≠ some t->∀v,lookup t (St.put ⟨x9 ops V base o++E,σ'⟩ o.dst V[i]).env=some v->lookup t E=some v:=fun t ht v hv=>by
    cases hd:o.dst with
    |none=>rw[hd] at hv;exact hI.env hok ho' hn hwl t v hv
    |some d=>
     rw[hd] at hv ht
     simp only[St.put,putE,lookup] at hv
     have:aG d t=false:=as5 fun e:d=t=>ht (by rw[e])
     rw[this] at hv
     exact hI.env hok ho' hn hwl t v hv
   -- an environment with exactly the lookups wanted
   have hRE:R Γ sz ⟨(St.put ⟨E,σ'⟩ o.dst V[i]).env,σ'⟩ φ' a' w':=by
    refine {toRs:= ?_,defers:= ?_,asize:=hRn.asize,env:=fun t v ht=> ?_}
    ·have:=hRn.toRs
     cases hd:o.dst<;>simpa[hd,St.put,putE] using this
    ·have:=hRn.defers
     cases hd:o.dst<;>simpa[hd,St.put,putE] using this
    ·have hσ:(St.put ⟨x9 ops V base o++E,σ'⟩ o.dst V[i]).σ=σ':=by cases o.dst<;>rfl
     have:=hRn.env t v (by
      cases hd:o.dst with
      |none=>
       rw[hd] at ht
       simp only[St.put,putE] at ht ⊢
       rw[J1]
       cases hx:lookup t (x9 ops V base o) with
       |none=>exact ht
       |some x=>
        have:=hI.env hok ho' hn hwl t x (by rw[J1,hx])
        rw[ht] at this
        exact this.symm
      |some d=>
       rw[hd] at ht
       simp only[St.put,putE,lookup] at ht ⊢
       split at ht
       ·exact ht
       ·rw[J1]
        cases hx:lookup t (x9 ops V base o) with
        |none=>exact ht
        |some x=>
         have:=hI.env hok ho' hn hwl t x (by rw[J1,hx])
         rw[ht] at this
         exact this.symm)
     rw[hσ] at this
     exact this
   have lset:∀j,(listed.setIfInBounds i true).getD j false=true↔j=i\/listed.getD j false=true:=fun j=>by
    by_cases hj:i=j
    ·subst hj
     have:i<listed.size:=by omega
     simp[this]
    ·simp[aR hj,Ne.symm hj]
   refine ih (listed.setIfInBounds i true) σ' _ φ' a' w' (by simpa using hsz) hSg' ⟨fun j hj=> ?_,fun j p hp hj e he=> ?_,fun j t hj hd=> ?_,fun t ht=> ?_⟩ hRE ?_
   ·rcases(lset j).1 hj with rfl|h
    ·exact hil
    ·exact hI.lt j h
   ·rcases(lset j).1 hj with rfl|h
    ·rw[ho'] at hp;cases hp
     exact(lset e).2 (.inr (hwl e he))
    ·exact(lset e).2 (.inr (hI.closed j p hp h e he))
   ·rcases(lset j).1 hj with rfl|h
    ·have hd':o.dst=some t:=by simpa[z6,ho'] using hd
     simp[hd',St.put,putE,lookup,hvi]
    ·have hne:o.dst ≠ some t:=by
      have hlt:=hI.lt j h
      obtain⟨p,hp⟩:∃p,ops[j]? =some p:=⟨_,ae hlt⟩
      have hpd:p.dst=some t:=by simpa[z6,hp] using hd
      by_cases hij:i=j
      ·subst hij;rw[hn] at h;cases h
      ·exact((K8 hok ho').2 j p t hp hij hpd).1
     rw[<- hI.ran j t h hd]
     cases hd2:o.dst with
     |none=>rfl
     |some d=>
      have:aG d t=false:=as5 fun e:d=t=>hne (by rw[hd2,e])
      simp[St.put,putE,lookup,this]
   ·have hne:o.dst ≠ some t:=by
     have:=ht i ((lset i).2 (.inl rfl))
     simpa[z6,ho'] using this
    rw[<- hI.rest t fun j hj=>ht j ((lset j).2 (.inr hj))]
    cases hd2:o.dst with
    |none=>rfl
    |some d=>
     have:aG d t=false:=as5 fun e:d=t=>hne (by rw[hd2,e])
     simp[St.put,putE,lookup,this]
   ·have hcount:(listed.toList.filter (fun b=>b)).length+1<=((listed.setIfInBounds i true).toList.filter (fun b=>b)).length:=by
     rw[Array.toList_setIfInBounds]
     refine count_set ?_
     have:i<listed.size:=by omega
     simp[this] at hn
     simp[this,hn]
    omega
  unfold wpOpIn
  rw[ho]
  simp only
  unfold wpListIn at hrun
  by_cases hwt:Region.wanted o (yielded ops.toArray a.tmps)=true
  ·rw[if_pos hwt] at hrun ⊢
   refine⟨hrun.1,uponIn_mono (fun a' w' h=>next a' w' h) (fun e a' w' hne h=> ?_) hrun.2⟩
   obtain⟨s0,φ0,⟨he,_⟩,_⟩:=h
   exact absurd he hne
  ·rw[if_neg hwt] at hrun ⊢
   exact⟨hrun.1,next _ _ hrun.2⟩
def draw_any{ops:List Oper}{base:Env}{σ:b6}{V:List T}(q:V0 ops=true)(z:cD V=cD ops)(each:∀(i:Nat) (o:Oper) (v:T),ops[i]? =some o->V[i]? =some v->∀E:Env,AOps r a d ops.toArray (Only (St.put ⟨x9 ops V base o++E,σ⟩ o.dst v)) [o] ⟨x9 ops V base o++E,σ⟩){l:Cx}(u:l.σ0=a)(n:∀E k c w,(∀j t,z6 ops j=some t->lookup t E=V[j]?)->(∀t,(∀j,z6 ops j ≠ some t)->lookup t E=lookup t base)->R l d ⟨E,σ⟩ k c w->lift l d s .normal c w):
  ∀(h:Nat) (g:Array Bool) (E:Env) (k:Phi) (c:Act) (w:World),g.size=cD ops->DInv ops V base g E->R l d ⟨E,σ⟩ k c w->(∀j,j<cD ops->g.getD j false=false->True)->(cD ops<=h+(g.toList.filter (fun b=>b)).length)->
   wpAnyIn (fw B) 0 r .any ops.toArray (lift l d s) h g c w:=by
 intro h g E k c w x A p _ D
 exact draw_anyS (Sg:=fun _ f=>f=σ) q z (fun _ f i o v _ y _ F G _ _ _=>⟨σ,rfl,fun E _=>by have e:f=σ:=y;rw[e];exact each i o v F G E⟩) u (fun _ f E k c w y _ H J p=>by have e:f=σ:=y;rw[e] at p;exact n E k c w H J p) h g σ E k c w x rfl A p D
def aj4:∀(ops:List Oper) (V:List T) (a:Env),cD V=cD ops->(∀(i j:Nat) (o p:Oper) (t:Nat),ops[i]? =some o->ops[j]? =some p->i ≠ j->p.dst=some t->o.dst ≠ some t)->
  (∀(j t:Nat),z6 ops j=some t->lookup t (j6 ops V a)=V[j]?)/\(∀t,(∀j,z6 ops j ≠ some t)->lookup t (j6 ops V a)=lookup t a)
 |[],V,a,l,_=>⟨fun j t h=>by simp[z6] at h,fun t _=>by cases V<;>rfl⟩
 |o::ops,[],a,l,_=>by simp at l
 |o::ops,v::V,a,l,r=>by
  have g:cD V=cD ops:=by simpa using l
  have k:∀(i j:Nat) (o p:Oper) (t:Nat),ops[i]? =some o->ops[j]? =some p->i ≠ j->p.dst=some t->o.dst ≠ some t:=fun i j o p t hi b s=>r (i+1) (j+1) o p t (by simpa using hi) (by simpa using b) (by omega);have c:∀t,o.dst=some t->∀j,z6 ops j ≠ some t:=fun t u j b=>by
   unfold z6 at b;cases hp:ops[j]? with
   |none=>rw[hp] at b;cases b
   |some p=>
    rw[hp] at b
    exact r (j+1) 0 p o t (by simpa using hp) rfl (by omega) u (by simpa using b)
  cases f:o.dst with
  |none=>
   obtain⟨q,n⟩:=aj4 ops V a g k
   simp only[j6,f]
   refine⟨fun j t h=> ?_,fun t h=>n t fun j b=>h (j+1) (by simpa[z6] using b)⟩
   cases j with
   |zero=>simp[z6,f] at h
   |succ j=>simpa using q j t (by simpa[z6] using h)
  |some d=>
   obtain⟨q,n⟩:=aj4 ops V ((d,v)::a) g k
   simp only[j6,f]
   refine⟨fun j t h=> ?_,fun t h=> ?_⟩
   ·cases j with
    |zero=>
     have:d=t:=by simpa[z6,f] using h
     subst this
     rw[n d (c d f)]
     simp[lookup]
    |succ j=>simpa using q j t (by simpa[z6] using h)
   ·rw[n t fun j b=>h (j+1) (by simpa[z6] using b)]
    have:aG d t=false:=as5 fun e=>h 0 (by simp[z6,f,e])
    simp[lookup,this]
def AWP.draw{ops:List Oper}{b:St}(F:r.follows .mixedOrders=true)(g:V0 ops=true)(h:d7 r a d ops b.env b.σ s ops []):AWP r a d (.region H ops.toArray true) s b:=fun U n c w q f X _=>by obtain⟨V,y,z,each⟩:=d7.spec ops [] h;simp only[bN] at z each;have k:∀(i j:Nat) (o p:Oper) (t:Nat),ops[i]? =some o->ops[j]? =some p->i ≠ j->p.dst=some t->o.dst ≠ some t:=fun i j o p t hi e x l=>((K8 g hi).2 j p t e x l).1;obtain⟨G,J⟩:=aj4 ops V b.env y k;refine wpIn_region_any F ?_;rw[aU];refine draw_any (V:=V) (base:=b.env) (σ:=b.σ) g y (fun i o v hi K E=> ?_) q (fun E n c w L M f=> ?_) (cD ops) (bM (cD ops) false) b.env n c _ (by simp) ⟨fun j e=> ?_,fun j o _ e=> ?_,fun j t e=> ?_,fun t _=>rfl⟩ ?_ (fun _ _ _=>Y) (by simp);have:=each i o v hi K E;rwa [envAt_take (K8 g hi).1] at this;refine⟨⟨j6 ops V b.env,b.σ⟩,n,z,{toRs:=f.toRs,defers:=f.defers,asize:=f.asize,env:=fun t v l=>f.env t v ?_}⟩;rw[<- l];by_cases B:∃j,z6 ops j=some t;obtain⟨j,e⟩:=B;exact(L j t e).trans (G j t e).symm;have D:∀j,z6 ops j ≠ some t:=fun j e=>B ⟨j,e⟩;exact(M t D).trans (J t D).symm;simp[aB] at e;split at e<;>simp at e;simp[aB] at e;split at e<;>simp at e;simp[aB] at e;split at e<;>simp at e;exact {toRs:=f.toRs.drew,defers:=f.defers,asize:=f.asize,env:=fun t v l=>let ⟨u,N,O⟩:=f.env t v l; ⟨u,N,O.mono (Kept.drew w n b.σ _)⟩}
def AWP.drawI{ops:List Oper}(e:r.follows .mixedOrders=true)(b:V0 ops=true)(h:d7 r a d ops L c s ops []):AWP r a d (.region H ops.toArray true) s (St.mk L c):=.draw e b h
def d7.cons{P:Program}{ops:List Oper}{o:Oper}{r:List Oper}{v:T}(b:∀E:Env,AOps P a d ops.toArray (Only (St.put ⟨x9 ops y L o++E,c⟩ o.dst v)) [o] (St.mk (x9 ops y L o++E) c))(e:d7 P a d ops L c s r (y++[v])):d7 P a d ops L c s (o::r) y:=⟨v,b,e⟩
def envFT(ops:List Oper)(V:List T)(a:Env)(o:Oper):List Nat->Option Env
 |[]=>some []
 |t::b=>match ar6 ops V a o t with
  |some v=>match envFT ops V a o b with
   |some r=>some ((t,v)::r)
   |none=>none
  |none=>envFT ops V a o b
def envF(ops:List Oper)(V:List T)(a:Env)(o:Oper):Option Env:=envFT ops V a o (readsOf ops o)
def ah5{ops:List Oper}{o:Oper}:∀{a:List Nat} {e:Env},envFT ops y L o a=some e->a.filterMap (fun t=>(ar6 ops y L o t).map fun v=>(t,v))=e
 |[],e,h=>by cases h;rfl
 |t::a,e,h=>by
  simp only[envFT] at h;cases b:ar6 ops y L o t with
  |none=>
   rw[b] at h
   rw[bp,b]
   exact ah5 h
  |some v=>
   rw[b] at h
   cases c:envFT ops y L o a with
   |none=>simp only[c] at h;cases h
   |some r=>
    simp only[c] at h
    cases h
    rw[bp,b]
    simp only[aJ]
    rw[ah5 c]
def d7.consF{P:Program}{ops:List Oper}{o:Oper}{r:List Oper}{e:Env}{b:List T}{v:T}(g:envF ops y L o=some e)(h:∀E:Env,AOps P a d ops.toArray (Only (St.mk (putE (e++E) o.dst v) c)) [o] (St.mk (e++E) c))(i:w6 y v=some b)(f:d7 P a d ops L c s r b):d7 P a d ops L c s (o::r) y:=by have j:x9 ops y L o=e:=ah5 g;rw[u5 i] at f;exact⟨v,fun E=>by rw[j];exact h E,f⟩
def d7.done{ops:List Oper}(h:s .normal (St.mk (j6 ops y L) c)):d7 r a d ops L c s [] y:=h
def memN(n:Nat):List Nat->Bool
 |[]=>false
 |m::r=>match aG m n with
  |true=>true
  |false=>memN n r
def feas(ops:List Oper)(a:List Nat)(i k:Nat):Bool:=
  (match k with
    |0=>true
    |k+1=>match a[k]? with
      |some e=> !anc ops (cD ops) i e
      |none=>true) &&
  (match a[k]? with
    |some e=> !anc ops (cD ops) e i
    |none=>true)
def effOk(ops:List Oper)(a:List Nat):Bool:=
 a.zipIdx.all fun(e,m)=>aM e (cD ops) && a.zipIdx.all fun(b,c)=> !(aM c m)||anc ops (cD ops) b e
def i6(P:Program)(σ0:b6)(d:Nat)(ops:List Oper)(a:Env)(V:List T)(c:List b6)(b:List Nat)(i:Nat)(o:Oper)(v:T):List Nat->Prop
 |[]=>True
 | k :: e => (match feas ops b i k with
  |true=>match c[k]? with
   |some σ=>∀E:Env,AOps P σ0 d ops.toArray (Only (St.put ⟨x9 ops V a o++E,σ⟩ o.dst v)) [o] ⟨x9 ops V a o++E,σ⟩
   |none=>True
  |false=>True)/\i6 P σ0 d ops a V c b i o v e
def d9(P:Program)(σ0:b6)(d:Nat)(ops:List Oper)(b:Env)(V:List T)(c:List b6)(a:List Nat)(e:List Nat):List Oper->Nat->Prop
 |[],_=>True
 | o :: r, i => (match memN i a with
  |true=>True
  |false=>match V[i]? with
   |some v=>i6 P σ0 d ops b V c a i o v e
   |none=>True)/\d9 P σ0 d ops b V c a e r (i+1)
def b7(P:Program)(σ0:b6)(e:Nat)(ops:List Oper)(c:List Nat)(a:Env)(Q:Post):List Oper->Nat->List T->List b6->b6->Prop
 |[],_,b,d,σ=>d9 P σ0 e ops a b (d++[σ]) c (ai (cD c+1)) ops 0/\Q .normal ⟨j6 ops b a,σ⟩
 |o::r,i,b,d,σ=>match memN i c with
  |true=>∃v f,(∀E:Env,AOps P σ0 e ops.toArray (Only (St.put ⟨x9 ops b a o++E,f⟩ o.dst v)) [o] ⟨x9 ops b a o++E,σ⟩)/\b7 P σ0 e ops c a Q r (i+1) (b++[v]) (d++[σ]) f
  |false=>∃v,(∀E:Env,AOps P σ0 e ops.toArray (Only (St.put ⟨x9 ops b a o++E,σ⟩ o.dst v)) [o] ⟨x9 ops b a o++E,σ⟩)/\b7 P σ0 e ops c a Q r (i+1) (b++[v]) d σ
def Stage(b:List Nat)(a:Array Bool)(k:Nat):Prop:=k<=cD b/\∀(m e:Nat),b[m]? =some e->(a.getD e false=true↔m<k)
def effOk_lt{ops:List Oper}(h:effOk ops X=true)(b:X[d]? =some H):H<cD ops:=by simp only[effOk,af] at h;have a:=h (H,d) (aD.2 (by simpa using b));simp only[ap,aC] at a;exact a.1
def effOk_anc{ops:List Oper}(h:effOk ops X=true){e b:Nat}(i:X[d]? =some e)(c:X[H]? =some b)(f:H<d):anc ops (cD ops) b e=true:=by
 simp only[effOk,af] at h;have g:=h (e,d) (aD.2 (by simpa using i));simp only[ap,af] at g;have a:=g.2 (b,H) (aD.2 (by simpa using c));simp only[ba,cr] at a;rcases a with a|a;have:aM H d=true:=by simpa using f
 rw[this] at a;cases a;exact a
def anc_lt{ops:List Oper}(a:V0 ops=true):∀(f e i:Nat),anc ops f e i=true->e<i
 |0,e,i,h=>by simp[anc] at h
 |f+1,e,i,h=>by simp only[anc] at h;split at h;rename_i o b;simp only[bH,ba] at h;obtain⟨x,c,h|h⟩:=h;rw[<- am h];exact(K8 a b).1 x c;exact Nat.lt_trans (anc_lt a f e x h) ((K8 a b).1 x c);cases h
def au9{ops:List Oper}{a:Array Bool}{E:Env}(c:DInv ops y L a E):∀(f e i:Nat) (o:Oper),ops[i]? =some o->(∀x ∈ K4 o,a.getD x false=true)->anc ops f e i=true->a.getD e false=true
 |0,e,i,o,_,_,h=>by simp[anc] at h
 |f+1,e,i,o,k,d,h=>by simp only[anc,k,bH,ba] at h;obtain⟨x,g,h|h⟩:=h;rw[<- am h];exact d x g;have j:=d x g;have b:=c.lt x j;exact au9 c f e x _ (ae b) (c.closed x _ (ae b) j) h
def feas_of{ops:List Oper}{a:Array Bool}{E:Env}{o:Oper}(c:Stage X a d)(g:DInv ops y L a E)(n:ops[H]? =some o)(p:a.getD H false=false)(q:∀x ∈ K4 o,a.getD x false=true):feas ops X H d=true:=by
 have r:∀h,h<d->∀e,X[h]? =some e->anc ops (cD ops) H e=false:=fun h hk e b=>by
  have l:=(c.2 h e b).2 hk;have f:=g.lt e l;cases j:anc ops (cD ops) H e with
  |false=>rfl
  |true=>
   have:=au9 g _ H e _ (ae f) (g.closed e _ (ae f) l) j
   rw[p] at this;cases this
 have s:∀e,X[d]? =some e->anc ops (cD ops) e H=false:=fun e b=>by
  cases j:anc ops (cD ops) e H with
  |false=>rfl
  |true=>
   have:=(c.2 d e b).1 (au9 g _ e H o n q j)
   omega
 unfold feas;rw[ap];constructor;cases d with
 |zero=>rfl
 |succ d=>
  show(match X[d]? with|some e=> !anc ops (cD ops) H e|none=>true)=true
  split
  ·rename_i e b;rw[r d (by omega) e b];rfl
  ·rfl
 split;rename_i e b;rw[s e b];rfl;rfl
def stage_next{ops:List Oper}{a:Array Bool}{E:Env}{o:Oper}(_hok:V0 ops=true)(b:effOk ops X=true)(c:Stage X a d)(j:DInv ops y L a E)(l:ops[H]? =some o)(n:a.getD H false=false)(p:∀x ∈ K4 o,a.getD x false=true)(e:H ∈ X):X[d]? =some H:=by
 obtain⟨m,f⟩:=ar e;have r:¬ m<d:=fun h=>by have:=(c.2 m H f).2 h;rw[n] at this;cases this
 rcases az d m with g|g;have q:=(lG.1 f).1;have hk:X[d]? =some X[d]:=ae (by omega);have:=(c.2 d _ hk).1 (au9 j _ _ H o l p (effOk_anc b f hk g));omega;rw[show d=m by omega];exact f
def stage_step{ops:List Oper}{a:Array Bool}(g:V0 ops=true)(c:effOk ops X=true)(l:Stage X a d)(b:X[d]? =some H)(hi:H<a.size):Stage X (a.setIfInBounds H true) (d+1):=by
 refine⟨(lG.1 b).1,fun m e j=> ?_⟩;by_cases f:H=e;subst f;have n:m=d:=by rcases Nat.lt_trichotomy m d with h|h|h;have:=anc_lt g _ _ _ (effOk_anc c b j h);omega;exact h;have:=anc_lt g _ _ _ (effOk_anc c j b h);omega
 subst n;simp[hi];rw[show(a.setIfInBounds H true).getD e false=a.getD e false by simp[aR f]];rw[l.2 m e j];constructor;omega;intro h;rcases az m d with o|o;exact o;have:m=d:=by omega
 subst this;rw[b] at j;cases j;exact absurd rfl f
def stage_keep{a:Array Bool}(b:Stage X a d)(c:H ∉ X):Stage X (a.setIfInBounds H true) d:=by refine⟨b.1,fun m e g=> ?_⟩;have f:H ≠ e:=fun h=>c (by rw[h];exact aj g);rw[show(a.setIfInBounds H true).getD e false=a.getD e false by simp[aR f]];exact b.2 m e g
def draw_anyE{ops:List Oper}{base:Env}{V:List T}{effs:List Nat}{σs:List b6}(q:V0 ops=true)(l:effOk ops effs=true)(Q:cD V=cD ops)(each:∀(i:Nat) (o:Oper) (v:T) (k:Nat) (σ:b6),ops[i]? =some o->V[i]? =some v->σs[k]? =some σ->feas ops effs i k=true->k<=cD effs->
   (effs[k]? =some i->∃p,σs[k+1]? =some p/\∀E:Env,AOps r a d ops.toArray (Only (St.put ⟨x9 ops V base o++E,p⟩ o.dst v)) [o] ⟨x9 ops V base o++E,σ⟩)/\
   (i ∉ effs->∀E:Env,AOps r a d ops.toArray (Only (St.put ⟨x9 ops V base o++E,σ⟩ o.dst v)) [o] ⟨x9 ops V base o++E,σ⟩)){x:Cx}(G:x.σ0=a)(y:∀σ E u c w,σs[cD effs]? =some σ->(∀j t,z6 ops j=some t->lookup t E=V[j]?)->(∀t,(∀j,z6 ops j ≠ some t)->lookup t E=lookup t base)->R x d ⟨E,σ⟩ u c w->lift x d s .normal c w):
  ∀(h:Nat) (e:Array Bool) (k:Nat) (σ:b6) (E:Env) (u:Phi) (c:Act) (w:World),e.size=cD ops->σs[k]? =some σ->Stage effs e k->DInv ops V base e E->R x d ⟨E,σ⟩ u c w->(cD ops<=h+(e.toList.filter (fun b=>b)).length)->
   wpAnyIn (fw B) 0 r .any ops.toArray (lift x d s) h e c w:=by
 intro h e k σ E u c w H g f D J hf
 refine draw_anyS (Sg:=fun e σ=>∃k,σs[k]? =some σ/\Stage effs e k) q Q (fun e σ i o v _ K hD F hv U X _=> ?_) G (fun e σ E u c w K z L M J=> ?_) h e σ E u c w H ⟨k,g,f⟩ D J hf
 ·obtain⟨k,g,f⟩:=K
  obtain⟨E0,D⟩:=hD
  obtain⟨e1,e2⟩:=each i o v k σ F hv g (feas_of f D F U X) f.1
  by_cases n:i ∈ effs
  ·have A:effs[k]? =some i:=stage_next q l f D F U X n
   obtain⟨p,L,M⟩:=e1 A
   exact⟨p,⟨k+1,L,stage_step q l f A (by have:=(lG.1 F).1;omega)⟩,fun E _=>M E⟩
  ·exact⟨σ,⟨k,g,stage_keep f n⟩,fun E _=>e2 n E⟩
 ·obtain⟨k,g,f⟩:=K
  have hk:k=cD effs:=by rcases az k (cD effs) with N|O;have P:effs[k]? =some effs[k]:=ae N;have:=(f.2 k _ P).1 (z _ (effOk_lt l P));omega;exact Nat.le_antisymm f.1 O
  subst hk
  exact y σ E u c w g L M J
def L9(n:Nat):∀l:List Nat,memN n l=true↔n ∈ l
 |[]=>by simp[memN]
 |m::r=>by
  simp only[memN,aS];split;rename_i h;simp[am h];rename_i h;rw[L9 n r];have:n ≠ m:=fun e=>by subst e;simp at h
  simp[this]
def b7.spec{P:Program}{ops:List Oper}:∀(r:List Oper) (g:Nat) (c:List T) (j:List b6) (σ:b6),b7 P a d ops X L s r g c j σ->
  ∃(V:List T) (b:List b6) (k:b6),cD V=cD r/\b++[k]=[σ]++(b++[k]).drop 1/\d9 P a d ops L (c++V) (j++(b++[k])) X (ai (cD X+1)) ops 0/\s .normal ⟨j6 ops (c++V) L,k⟩/\
   b.length=((cw g (cD r)).filter fun i=>memN i X).length/\
   ∀(i:Nat) (o:Oper) (v:T),r[i]? =some o->V[i]? =some v->∃e f,(b++[k])[((cw g i).filter fun i=>memN i X).length]? =some e/\(b++[k])[((cw g (i+1)).filter fun i=>memN i X).length]? =some f/\
    (memN (g+i) X=false->e=f)/\∀E:Env,AOps P a d ops.toArray (Only (St.put ⟨x9 ops (c++V.take i) L o++E,f⟩ o.dst v)) [o] ⟨x9 ops (c++V.take i) L o++E,e⟩
 |[],g,c,j,σ,h=>⟨[],[],σ,rfl,rfl,by simpa[b7] using h.1,by simpa[b7] using h.2,rfl,fun i o v hi=>by simp at hi⟩
 |o::r,g,c,j,σ,h=>by
  simp only[b7] at h;split at h;rename_i l;obtain⟨v,n,t,u⟩:=h;obtain⟨V,b,k,w,p,x,y,z,A⟩:=b7.spec r (g+1) (c++[v]) (j++[σ]) n u;refine⟨v::V,σ::b,k,by simp[w],by simp,by simpa using x,by simpa using y,by simp[aQ,l,z],fun i B D hi q=> ?_⟩;match i with
  |0=>
   cases hi;cases q
   refine⟨σ,n,by simp,?_,fun h=>(by rw[aV,l] at h;cases h),fun E=>by simpa using t E⟩
   simp only[aX,List.range'_one,aF,l,if_true,bc,ax,aT]
   rw[bG,bL,p]
   rfl
  |i+1=>
   obtain⟨e,f,F,G,H,J⟩:=A i B D (by simpa using hi) (by simpa using q)
   refine⟨e,f,?_,?_,fun h=>H (by rw[show g+1+i=g+(i+1) by omega];exact h),fun E=>by simpa using J E⟩
   ·simpa[aQ,l] using F
   ·rw[aQ,aF,l]
    simpa using G
  rename_i l;obtain⟨v,t,u⟩:=h;obtain⟨V,b,k,w,p,x,y,z,A⟩:=b7.spec r (g+1) (c++[v]) j σ u;refine⟨v::V,b,k,by simp[w],p,by simpa using x,by simpa using y,by simp[aQ,l,z],fun i B D hi q=> ?_⟩;match i with
  |0=>
   cases hi;cases q
   refine⟨σ,σ,by rw[p];rfl,?_,fun _=>rfl,fun E=>by simpa using t E⟩
   simp only[aX,List.range'_one,aF,l,bu,if_false,bc,aT]
   rw[p];rfl
  |i+1=>
   obtain⟨e,f,F,G,H,J⟩:=A i B D (by simpa using hi) (by simpa using q)
   refine⟨e,f,?_,?_,fun h=>H (by rw[show g+1+i=g+(i+1) by omega];exact h),fun E=>by simpa using J E⟩
   ·simpa[aQ,l] using F
   ·rw[aQ,aF,l]
    simpa using G
def i6.get{ops:List Oper}{b:List b6}{i:Nat}{o:Oper}{v:T}:∀{e:List Nat},i6 r a d ops L y b X i o v e->∀k ∈ e,∀σ,feas ops X i k=true->b[k]? =some σ->∀E:Env,AOps r a d ops.toArray (Only (St.put ⟨x9 ops y L o++E,σ⟩ o.dst v)) [o] ⟨x9 ops y L o++E,σ⟩
 |[],_,k,hk=>by simp at hk
 |g::e,h,k,hk=>fun σ f c=>by rcases aS.1 hk with rfl|hk;have:=h.1;rw[f] at this;simp only[c] at this;exact this;exact i6.get h.2 k hk σ f c
def d9.get{P:Program}{ops:List Oper}{c:List b6}{g:List Nat}:∀{r:List Oper} {b:Nat},d9 P a d ops L y c X g r b->∀(i:Nat) (o:Oper) (v:T),r[i]? =some o->y[b+i]? =some v->memN (b+i) X=false->i6 P a d ops L y c X (b+i) o v g
 |[],_,_,i,o,v,hi,_,_=>by simp at hi
 |j::r,b,h,i,o,v,hi,e,f=>by
  match i with
  |0=>
   cases hi
   have:=h.1
   rw[aV] at f e
   rw[f] at this
   simp only[e] at this
   simpa using this
  |i+1=>
   have:=d9.get h.2 i o v (by simpa using hi) (by rw[show b+1+i=b+(i+1) by omega];exact e) (by rw[show b+1+i=b+(i+1) by omega];exact f)
   rwa [show b+1+i=b+(i+1) by omega] at this
def rising:List Nat->Bool
 |a::b::r=>aM a b && rising (b::r)
 |_=>true
def count_rising:∀(effs:List Nat) (n:Nat),rising effs=true->(∀e ∈ effs,e<n)->((ai n).filter fun i=>memN i effs).length=cD effs/\∀k e,effs[k]? =some e->((ai e).filter fun i=>memN i effs).length=k:=by
 intro effs;have sorted:∀l:List Nat,rising l=true->l.Pairwise (· < ·):=by
  intro l;induction l with
  |nil=>intro _;exact .nil
  |cons a l ih=>
   intro h
   cases l with
   |nil=>simp
   |cons b l=>
    simp only[rising,ap,aC] at h
    have hp:=ih h.2
    refine bd.2 ⟨fun c hc=> ?_,hp⟩
    rcases aS.1 hc with rfl|hc
    ·exact h.1
    ·exact Nat.lt_trans h.1 ((bd.1 hp).1 c hc)
 have key:∀(l:List Nat),l.Pairwise (· < ·)->∀m,((ai m).filter fun i=>memN i l).length=(l.filter fun e=>decide (e<m)).length:=by
  intro l hl m;induction m with
  |zero=>
   have:l.filter (fun e=>decide (e<0))=[]:=bO.2 fun e _=>by simp
   rw[this]
   rfl
  |succ m ih=>
   rw[List.range_succ,cp,aL,ih]
   clear ih
   induction l with
   |nil=>simp[memN]
   |cons a l ihl=>
    have hl':=(bd.1 hl)
    have:=ihl hl'.2
    by_cases ham:a=m
    ·subst ham
     have hn:memN a l=false:=by
      cases hb:memN a l with
      |false=>rfl
      |true=>exact absurd (hl'.1 a ((L9 a l).1 hb)) (aO a)
     have hn2:memN a (a::l)=true:=(L9 a _).2 (by simp)
     simp only[aF,bc,hn,hn2,aO,decide_false,Nat.lt_succ_self,decide_true,if_true,bu,if_false,aT,ax,aV] at this ⊢
     omega
    ·have hn2:memN m (a::l)=memN m l:=by
      cases hb:memN m l with
      |true=>exact(L9 m _).2 (bS _ ((L9 m l).1 hb))
      |false=>
       cases hb2:memN m (a::l) with
       |false=>rfl
       |true=>
        rcases aS.1 ((L9 m _).1 hb2) with h|h
        ·exact absurd h.symm ham
        ·rw[(L9 m l).2 h] at hb;cases hb
     simp only[aF,bc,hn2] at this ⊢
     by_cases h1:a<m
     ·have h2:a<m+1:=by omega
      simp only[h1,h2,decide_true,if_true,ax]
      omega
     ·have h2:¬ a<m+1:=by omega
      simp only[h1,h2,decide_false,bu,if_false]
      exact this
 intro n hr hn;have hp:=sorted effs hr;refine⟨?_,fun k e he=> ?_⟩;rw[key effs hp n,List.filter_eq_self.2 fun e he=>by simpa using hn e he];rw[key effs hp e];clear hn key sorted hr;induction effs generalizing k with
 |nil=>simp at he
 |cons a l ih=>
  have hp':=bd.1 hp
  cases k with
  |zero=>
   simp only[bI,Option.some.injEq] at he
   subst he
   rw[List.length_eq_zero_iff,bO]
   intro x hx
   rcases aS.1 hx with rfl|hx
   ·simp
   ·have:=hp'.1 x hx
    simp;omega
  |succ k=>
   simp only[bL] at he
   have:=ih hp'.2 k he
   have hlt:=hp'.1 e (aj he)
   simp only[aF,hlt,decide_true,if_true,ax,this]
def AWP.drawE{ops:List Oper}{b:St}(f:List Nat)(G:r.follows .mixedOrders=true)(x:V0 ops=true)(l:effOk ops f=true)(B:rising f=true)(h:b7 r a d ops f b.env s ops 0 [] [] b.σ):AWP r a d (.region H ops.toArray true) s b:=fun Γ F c w J q ro _=>by
 obtain⟨V,K,X,P,g2,Q,hQ,g5,each⟩:=b7.spec ops 0 [] [] b.σ h;simp only[bN] at hQ each Q;obtain⟨c1,c2⟩:=count_rising f (cD ops) B (fun e L=>by obtain⟨m,G⟩:=ar L;exact effOk_lt l G);rw[<- bn,c1] at g5;have y:∀(i j:Nat) (o p:Oper) (t:Nat),ops[i]? =some o->ops[j]? =some p->i ≠ j->p.dst=some t->o.dst ≠ some t:=fun i j o p t hi g M D=>((K8 x hi).2 j p t g M D).1;obtain⟨e1,e2⟩:=aj4 ops V b.env P y;refine wpIn_region_any G ?_;rw[aU];refine draw_anyE (V:=V) (base:=b.env) (effs:=f) (σs:=K++[X]) x l P (fun i o v k σ hi hv n hf hk=>⟨fun z=> ?_,fun N E=> ?_⟩) J (fun σ E F c w n h1 h2 q=> ?_) (cD ops) (bM (cD ops) false) 0 b.σ b.env F c _ (by simp) (by rw[g2];rfl) ⟨bP _,fun m e L=> ?_⟩ ⟨fun j g=> ?_,fun j o _ g=> ?_,fun j t g=> ?_,fun t _=>rfl⟩ ?_ (by simp);obtain⟨ad,O,k1,U,_,k4⟩:=each i o v hi hv;rw[<- bn,c2 k i z,n] at k1;cases k1;have A:memN i f=true:=(L9 i f).2 (aj z);rw[<- bn,List.range_succ,cp,aL,c2 k i z] at U;simp only[aF,A,if_true,bc,ax,aT] at U;refine⟨O,U,fun E=> ?_⟩;have:=k4 E;rwa [envAt_take (K8 x hi).1] at this;have A:memN i f=false:=by
  cases hb:memN i f with
  |false=>rfl
  |true=>exact absurd ((L9 i f).1 hb) N
 have:=d9.get Q i o v hi (by simpa using hv) (by simpa using A);rw[aX] at this;exact this.get k (by simp;omega) σ hf n E;have:σ=X:=by rw[<- g5] at n;simpa using n.symm
 subst this;refine⟨⟨j6 ops V b.env,σ⟩,F,hQ,{toRs:=q.toRs,defers:=q.defers,asize:=q.asize,env:=fun t v D=>q.env t v ?_}⟩;rw[<- D];by_cases hx:∃j,z6 ops j=some t;obtain⟨j,g⟩:=hx;exact(h1 j t g).trans (e1 j t g).symm;have hn:∀j,z6 ops j ≠ some t:=fun j g=>hx ⟨j,g⟩;exact(h2 t hn).trans (e2 t hn).symm;have:e<cD ops:=effOk_lt l L;simp[this];simp[aB] at g;split at g<;>simp at g;simp[aB] at g;split at g<;>simp at g;simp[aB] at g;split at g<;>simp at g;exact {toRs:=q.toRs.drew,defers:=q.defers,asize:=q.asize,env:=fun t v D=>let ⟨u,hu,hr⟩:=q.env t v D; ⟨u,hu,hr.mono (Kept.drew w F b.σ _)⟩}
def AWP.drawEI{ops:List Oper}(b:List Nat)(i:r.follows .mixedOrders=true)(g:V0 ops=true)(e:effOk ops b=true)(f:rising b=true)(h:b7 r a d ops b L s ops 0 [] [] c):AWP r a d (.region H ops.toArray true) s (St.mk L c):=.drawE b i g e f h
def b7.consN{P:Program}{ops:List Oper}{o:Oper}{r:List Oper}{e:Env}{b:List T}{f:List b6}{v:T}(h:memN H X=false)(j:envF ops y L o=some e)(k:∀E:Env,AOps P a d ops.toArray (Only (St.mk (putE (e++E) o.dst v) c)) [o] (St.mk (e++E) c))(l:w6 y v=some b)(g:b7 P a d ops X L s r (H+1) b f c):b7 P a d ops X L s (o::r) H y f c:=by
 have n:x9 ops y L o=e:=ah5 j
 rw[u5 l] at g
 simp only[b7,h]
 exact⟨v,fun E=>by rw[n];exact k E,g⟩
def b7.consE{P:Program}{ops:List Oper}{o:Oper}{r:List Oper}{e:Env}{b:List T}{g f:List b6}{σ':b6}{v:T}(j:memN H X=true)(k:envF ops y L o=some e)(l:∀E:Env,AOps P a d ops.toArray (Only (St.mk (putE (e++E) o.dst v) σ')) [o] (St.mk (e++E) c))(n:w6 y v=some b)(p:w6 g c=some f)(h:b7 P a d ops X L s r (H+1) b f σ'):b7 P a d ops X L s (o::r) H y g c:=by
 have q:x9 ops y L o=e:=ah5 k
 rw[u5 n,u5 p] at h
 simp only[b7,j]
 exact⟨v,σ',fun E=>by rw[q];exact l E,h⟩
def b7.done{ops:List Oper}{e b:List b6}(g:w6 e c=some b)(f:d9 r a d ops L y b X (ai (cD X+1)) ops 0)(h:s .normal (St.mk (j6 ops y L) c)):b7 r a d ops X L s [] H y e c:=by rw[u5 g] at f;exact⟨f,h⟩
def d9.nil{ops:List Oper}{c:List Nat}{b:List b6}{i:Nat}:d9 r a d ops L y b X c [] i:=trivial
def d9.skip{P:Program}{ops:List Oper}{c:List Nat}{b:List b6}{o:Oper}{r:List Oper}(e:memN H X=true)(h:d9 P a d ops L y b X c r (H+1)):d9 P a d ops L y b X c (o::r) H:=by
 simp only[d9,e];exact⟨trivial,h⟩
def d9.cons{P:Program}{ops:List Oper}{c:List Nat}{b:List b6}{o:Oper}{r:List Oper}{v:T}(e:memN H X=false)(f:y[H]? =some v)(g:i6 P a d ops L y b X H o v c)(h:d9 P a d ops L y b X c r (H+1)):d9 P a d ops L y b X c (o::r) H:=by
 simp only[d9,e,f];exact⟨g,h⟩
def i6.nil{ops:List Oper}{b:List b6}{i:Nat}{o:Oper}{v:T}:i6 r a d ops L y b X i o v []:=trivial
def i6.skip{ops:List Oper}{b:List b6}{o:Oper}{v:T}{k:Nat}{c:List Nat}(e:feas ops X H k=false)(h:i6 r a d ops L y b X H o v c):i6 r a d ops L y b X H o v (k::c):=by
 simp only[i6,e];exact⟨trivial,h⟩
def i6.go{ops:List Oper}{e:Env}{b:List b6}{o:Oper}{v:T}{k:Nat}{f:List Nat}(g:b[k]? =some c)(j:envF ops y L o=some e)(l:∀E:Env,AOps r a d ops.toArray (Only (St.mk (putE (e++E) o.dst v) c)) [o] (St.mk (e++E) c))(h:i6 r a d ops L y b X H o v f):i6 r a d ops L y b X H o v (k::f):=by
 have n:x9 ops y L o=e:=ah5 j;simp only[i6,g];refine⟨?_,h⟩;split;exact fun E=>by rw[n];exact l E
 trivial
class PlacesC (P:Program) (fs:List Field) (places:outParam (List (Nat×Nat))):Prop where
 h:∀(i:Nat) (f:Field),fs[i]? =some f->∃n j,places[i]? =some (f.offset,n)/\P.info? f.type=some j/\j.size=n
 len:cD places=cD fs
instance (P:Program):PlacesC P [] []:=⟨fun i f h=>by simp at h,rfl⟩
instance (P:Program)(f:Field)(fs:List Field)(n b:Nat)(z:Vl)(r:List (Nat×Nat))[h:TyS P f.type n b z][k:PlacesC P fs r]:PlacesC P (f::fs) ((f.offset,n)::r):=
 ⟨fun i g hi=>by
  obtain⟨j,a,c,_⟩:=h.h;match i with
  |0=>cases hi;exact⟨n,j,rfl,a,c⟩
  |i+1=>simpa using k.h i g (by simpa using hi),by simp[k.len]⟩
def evP(env:Env):List (Nat×Od)->Option (List (Nat×T))
 |[]=>some []
 |(i,x)::r=>match ev env x,evP env r with
  |some t,some a=>some ((i,t)::a)
  |_,_=>none
def fillC(a:Nat->Option (Nat×Nat)):List C->List (Nat×T)->Option (List C)
 |cs,[]=>some cs
 |cs,(i,v)::r=>match a i,ae6 v with
  |some (b,size),some vs=>match aG (cD vs) size && aY (b+cD vs) (cD cs) with
   |true=>fillC a (cs.take b++vs++cs.drop (b+cD vs)) r
   |false=>none
  |_,_=>none
def foldl_set:∀(l:List Vl) (p a:Nat) (b:Array Vl),a+p+cD l<=b.size->((l.zipIdx p).foldl (fun cs (c,j)=>cs.setIfInBounds (a+j) c) b).size=b.size/\
  ∀i,((l.zipIdx p).foldl (fun cs (c,j)=>cs.setIfInBounds (a+j) c) b)[i]? =if a+p<=i/\i<a+p+cD l then l[i - (a+p)]? else b[i]? :=by
 intro l
 induction l with
 |nil=>intro p a b _;exact⟨rfl,fun i=>by simp;omega⟩
 |cons c l e=>
  intro p a b hp
  simp only[ax] at hp
  simp only[cC,List.foldl_cons]
  obtain⟨f,g⟩:=e (p+1) a (b.setIfInBounds (a+p) c) (by simp;omega)
  refine⟨by rw[f];simp,fun i=> ?_⟩
  rw[g]
  by_cases hi:a+(p+1)<=i/\i<a+(p+1)+cD l
  ·rw[if_pos hi,if_pos (by simp;omega)]
   rw[show i - (a+p)=(i - (a+(p+1)))+1 by omega]
   simp
  ·rw[if_neg hi]
   by_cases d:i=a+p
   ·subst d
    rw[if_pos (by simp)]
    have h:a+p<b.size:=by omega
    simp[h]
   ·rw[if_neg (by simp;omega)]
    simp[br];omega
def RelL(w:World)(b:Phi)(σ:b6)(A:Nat->Prop)(cs:List C)(a:Array Vl):Prop:=a.size=cD cs/\∀(i:Nat) (c:C),cs[i]? =some c->∃v,a[i]? =some v/\RelC w b σ A c v
def aw0{w:World}{z:Phi}{place:Nat->Option (Nat×Nat)}:∀{parts:List (Nat×T)} {vs:List (Nat×Vl)} {cs g:List C} {d:Array Vl},cD parts=cD vs->
  (∀(i:Nat) (p:Nat×T) (q:Nat×Vl),parts[i]? =some p->vs[i]? =some q->p.1=q.1/\RelT w z a l p.2 q.2)->RelL w z a l cs d->fillC place cs parts=some g->
  ∃e,Instr.fill place d vs=some e/\RelL w z a l g e
 |[],[],cs,g,d,_,_,o,h=>by cases h;exact⟨d,rfl,o⟩
 |(i,t)::parts,(A,v)::vs,cs,g,d,r,hp,o,h=>by
  obtain⟨H,J⟩:=hp 0 _ _ rfl rfl;dsimp only at H J;subst H;simp only[fillC] at h;split at h<;>try cases h
  rename_i b size k L M;split at h<;>try cases h
  rename_i B;simp only[ap] at B;have n:cD k=size:=am B.1;have s:b+cD k<=cD cs:=aA B.2;obtain⟨D,N⟩:=Y3 J M;have O:=foldl_set v.cells.toList 0 b d (by simp[D,o.1];omega);obtain⟨f1,f2⟩:=O;have f:v.cells.zipIdx.foldl (fun cs (c,j)=>cs.setIfInBounds (b+j) c) d=(v.cells.toList.zipIdx 0).foldl (fun cs (c,j)=>cs.setIfInBounds (b+j) c) d:=by rw[<- bZ,bX]
  generalize (v.cells.toList.zipIdx 0).foldl (fun cs (c,j)=>cs.setIfInBounds (b+j) c) d=x at f1 f2 f;have E:RelL w z a l (cs.take b++k++cs.drop (b+cD k)) x:=by
   refine⟨by rw[f1,o.1];simp;omega,fun q c y=> ?_⟩;rw[D4 cs k b q s] at y;rw[f2];have P:cD v.cells.toList=cD k:=by simp[D]
   by_cases K:b<=q/\q<b+cD k;rw[if_pos K] at y;rw[if_pos (by omega)];obtain⟨u,Q,F⟩:=N _ c y;exact⟨u,by simpa using Q,F⟩;rw[if_neg K] at y;rw[if_neg (by omega)];exact o.2 q c y
  obtain⟨e,U,V⟩:=aw0 (parts:=parts) (vs:=vs) (by simpa using r) (fun j p q X G=>hp (j+1) p q (by simpa using X) (by simpa using G)) E h;refine⟨e,?_,V⟩;simp only[Instr.fill,L];rw[if_neg (by simp[D,n,o.1];omega)];rw[f];exact U
 |[],_::_,_,_,_,r,_,_,_=>by simp at r
 |_::_,[],_,_,_,r,_,_,_=>by simp at r
def evP_rel{f:Cx}{e:Phi}{b:Act}(j:R f d (St.mk L a) e b g):∀{l:List (Nat×Od)} {c:List (Nat×T)},evP L l=some c->cD c=(l.map fun p=>(p.1,b.eval p.2)).length/\
  ∀(i:Nat) (p:Nat×T) (q:Nat×Vl),c[i]? =some p->(l.map fun p=>(p.1,b.eval p.2))[i]? =some q->p.1=q.1/\RelT g e a (Al f.N e a) p.2 q.2
 |[],c,h=>by cases h;exact⟨rfl,fun i p q hi=>by simp at hi⟩
 |(v,x)::r,c,h=>by
  simp only[evP] at h;split at h<;>cases h;rename_i t0 n o s;obtain⟨t,u⟩:=evP_rel j s;refine⟨by simpa using t,fun i p q hi k=> ?_⟩;match i with
  |0=>cases hi;cases k;exact⟨rfl,i5 j o⟩
  |i+1=>exact u i p q (by simpa using hi) (by simpa using k)
def zero_rel{w:World}(b:ag2 p=some (.agg t)):RelL w q a l t p.cells:=by have:=Y3 (ai2 (w:=w) (φ:=q) (σ:=a) (A:=l) b) rfl;exact⟨this.1,this.2⟩
def relL_agg{d:Array Vl}(h:RelL g q a l t d):RelT g q a l (.agg t) (.agg d):=by
 obtain⟨b⟩:=d;refine RelT.agg' (by simpa using h.1.symm) fun i c v e f=> ?_;obtain⟨u,j,k⟩:=h.2 i c e;have:u=v:=by simpa[f] using j.symm
 subst this;exact k
def AOps.build{ops:Array Oper}{rest:List Oper}{t:Ti}{x:Array Field}{parts:List (Nat×Od)}{D:List (Nat×T)}{b:Nat}{E cs:List C}{k:List (Nat×Nat)}[ht:TyD r t (.struct x)][hs:TyS r t H b p][hp:PlacesC r x.toList k](hz:ag2 p=some (.agg E))(A:evP L parts=some D)(hf:fillC (fun i=>k[i]?) E D=some cs)(G:f7 d B=true)(h:AOps r a d ops s rest (St.mk (putE L B (.agg cs)) c)):AOps r a d ops s (⟨B,.build t parts.toArray,M,P,Q,none⟩::rest) (St.mk L c):=
 .value rfl G _ (fun Γ φ e w J=>by
  obtain⟨K,N⟩:=evP_rel J A;obtain⟨q,O,U⟩:=aw0 (w:=w) K N (zero_rel hz) hf;refine⟨.agg q,?_,relL_agg U⟩;have V:∀(l:List Field) (o:List (Nat×Nat)),cD o=cD l->(∀(i:Nat) (f:Field),l[i]? =some f->∃H j,o[i]? =some (f.offset,H)/\r.info? f.type=some j/\j.size=H)->
    (l.mapM (fun f=>Functor.map (Prod.mk f.offset) (Go.sizeOf f.type):Field->Sem (Nat×Nat))).run r w=.ok o w:=by
   intro l
   induction l with
   |nil=>intro o y _;cases o with|nil=>rfl|cons=>simp at y
   |cons f l X=>
    intro o y F
    cases o with
    |nil=>simp at y
    |cons g o=>
     obtain⟨H,j,n,z,h3⟩:=F 0 f rfl
     cases n
     have:=X o (by simpa using y) (fun i f hi=>by simpa using F (i+1) f (by simpa using hi))
     simp[List.mapM_cons,Go.sizeOf,typeInfo,z,h3] at this ⊢
     simp[this]
  have u:=V x.toList k hp.len hp.h;have e1:(execOp e.eval ⟨B,.build t parts.toArray,M,P,Q,none⟩).run r w=((Instr.build t (parts.map fun g=>(g.1,e.eval g.2)).toArray).run r w).andThen fun v w=>.ok (.value v) w:=by simp[execOp]
  rw[e1];have e2:(Instr.build t (parts.map fun g=>(g.1,e.eval g.2)).toArray).run r w=.ok (.agg q) w:=by obtain⟨fl⟩:=x;simp only[Instr.build];rw[Sem.run_bind,R5 (t:=t)];simp only[Result.andThen,Sem.run_bind,run_underlying ht.h,cu];simp at u;simp[u,O]
  rw[e2];rfl) h
def AOps.buildA{ops:Array Oper}{rest:List Oper}{t e:Ti}{len:Nat}{parts:List (Nat×Od)}{l:List (Nat×T)}{n b q:Nat}{u:Vl}{o cs:List C}[v:TyD r t (.array len e)][K:TyS r t n b p][N:TyS r e H q u](x:ag2 p=some (.agg o))(j:evP L parts=some l)(y:fillC (fun i=>some (i * H,H)) o l=some cs)(A:f7 d B=true)(h:AOps r a d ops s rest (St.mk (putE L B (.agg cs)) c)):AOps r a d ops s (⟨B,.build t parts.toArray,M,P,Q,none⟩::rest) (St.mk L c):=
 .value rfl A _ (fun O U f w D=>by obtain⟨E,F⟩:=evP_rel D j;obtain⟨g,G,J⟩:=aw0 (w:=w) E F (zero_rel x) y;refine⟨.agg g,?_,relL_agg J⟩;simp[execOp,Instr.build,R5 (t:=t),run_underlying v.h,u3 (t:=e),G]) h
/-! ### Comparisons -/
class EqT (P:Program) (t:Ti):Prop where
 held:P.stoodInHeld t=false
 guard:P.eqGuardType P.depth t=false
def az6{op:BinOp}[h:EqT r M](x y:Od)(a b:Array Vl)(w:World):(eqGuard op M x y (.agg a) (.agg b)).run r w=.ok () w:=by
 cases op<;>simp[eqGuard,h.guard]
def aC7{P:Program}(d:Nat){t:Ti}{k:IntKind}[h:TyD P t (.int k)](a b:Int)(w:World):(Op.equalIn (d+1) t (.int k a) (.int k b)).run P w=.ok (a==b) w:=by
 simp[Op.equalIn,run_underlying h.h]
def run_equal_pair'(d : Nat){f0 f1:Field}{f g:IntKind}[q : TyD r M (.struct #[f0, f1])][s : TyD r f0.type (.int f)][u : TyD r f1.type (.int g)][v : EqT r M](i : (f0.name == "_")=false)(j:(f1.name== "_")=false)(l:f0.offset=0)(n:f1.offset=1)(a0 a1 o p:Int)(w:World):(Op.equalIn (d+2) M (.agg #[.int f a0,.int g a1]) (.agg #[.int f o,.int g p])).run r w=.ok (decide (a0=o) && decide (a1=p)) w:=by
 have c:¬ f0.name= "_" :=by simpa using i
 have e:¬ f1.name= "_" :=by simpa using j
 have x:=fun a b=>aC7 (P:=r) d (t:=f0.type) (k:=f) a b w
 have y:=fun a b=>aC7 (P:=r) d (t:=f1.type) (k:=g) a b w
 rw[Op.equalIn]
 by_cases h:a0=o<;>by_cases z:a1=p<;>simp[run_underlying q.h,v.held,c,e,part,ah2 s.h,ah2 u.h,B5,l,n,x,y,h,z]
def aC8{P:Program}{t : Ti}{f0 f1 : Field}{k0 k1 : IntKind}[g : TyD P t (.struct #[f0, f1])][h : TyD P f0.type (.int k0)][i : TyD P f1.type (.int k1)][j : EqT P t](a : (f0.name == "_")=false)(b:(f1.name== "_")=false)(c:f0.offset=0)(d:f1.offset=1)
  (a0 a1 e f:Int) (w:World):(Op.equal t (.agg #[.int k0 a0,.int k1 a1]) (.agg #[.int k0 e,.int k1 f])).run P w=.ok (decide (a0=e) && decide (a1=f)) w:=
 run_equal_pair' 9998 a b c d a0 a1 e f w
def run_equal_bool[c:TyD r M .bool](d:Nat)(a b:Bool)(w:World):(Op.equalIn (d+1) M (.bool a) (.bool b)).run r w=.ok (a==b) w:=by
 simp[Op.equalIn,run_underlying c.h]
def aD2{i:Phi}{v x:Vl}(h:RelT g i a l (.agg [.imm (.val p),.imm (.val v)]) x):x=.agg #[p,v]:=by
 obtain⟨vs,j,k,f⟩:=RelT.agg_inv h;obtain⟨b,hp,c⟩:=f 0 _ rfl;obtain⟨q,d,e⟩:=f 1 _ rfl;cases c with|imm c=>cases e with|imm e=>
  cases c
  cases e
  match vs,k,hp,d with
  |[n,o],_,hp,d=>cases hp;cases d;exact j
def AOps.eqlP{ops:Array Oper}{rest:List Oper}{t p:Ti}{f0 f1:Field}{e f:IntKind}{y:Od}{a0 a1 g i:Int}[F : TyD r t (.struct #[f0, f1])][G : TyD r f0.type (.int e)][H : TyD r f1.type (.int f)][J : EqT r t](j : (f0.name == "_")=false)(k:(f1.name== "_")=false)(l:f0.offset=0)(n:f1.offset=1)(q:ev L A=some (.agg [.imm (.val (.int e a0)),.imm (.val (.int f a1))]))(u:ev L y=some (.agg [.imm (.val (.int e g)),.imm (.val (.int f i))]))(v:f7 d B=true)(h:AOps r a d ops s rest (St.mk (putE L B (.c (bool (decide (a0=g) && decide (a1=i))))) c)):AOps r a d ops s (⟨B,.binOp .eql t A y p,M,P,Q,none⟩::rest) (St.mk L c):=
 .value rfl v _ (fun K N b w o=>⟨.bool (decide (a0=g) && decide (a1=i)),by have z:=aD2 (i5 o q);have D:=aD2 (i5 o u);have E:=aC8 (P:=r) (t:=t) (f0:=f0) (f1:=f1) (k0:=e) (k1:=f) j k l n a0 a1 g i w;simp[execOp,z,D,az6,binOp,E],.bool _⟩) h
def AOps.neqP{ops:Array Oper}{rest:List Oper}{t p:Ti}{f0 f1:Field}{e f:IntKind}{y:Od}{a0 a1 g i:Int}[F : TyD r t (.struct #[f0, f1])][G : TyD r f0.type (.int e)][H : TyD r f1.type (.int f)][J : EqT r t](j : (f0.name == "_")=false)(k:(f1.name== "_")=false)(l:f0.offset=0)(n:f1.offset=1)(q:ev L A=some (.agg [.imm (.val (.int e a0)),.imm (.val (.int f a1))]))(u:ev L y=some (.agg [.imm (.val (.int e g)),.imm (.val (.int f i))]))(v:f7 d B=true)(h:AOps r a d ops s rest (St.mk (putE L B (.c (bool (!(decide (a0=g) && decide (a1=i)))))) c)):AOps r a d ops s (⟨B,.binOp .neq t A y p,M,P,Q,none⟩::rest) (St.mk L c):=
 .value rfl v _ (fun K N b w o=>⟨.bool (!(decide (a0=g) && decide (a1=i))),by have z:=aD2 (i5 o q);have D:=aD2 (i5 o u);have E:=aC8 (P:=r) (t:=t) (f0:=f0) (f1:=f1) (k0:=e) (k1:=f) j k l n a0 a1 g i w;simp[execOp,z,D,az6,binOp,E],.bool _⟩) h
def binOp_eqlB[c:TyD r M .bool](a b:Bool)(w:World):(binOp .eql M (.bool a) (.bool b)).run r w=.ok (.bool (decide (a=b))) w:=by have:(Op.equal M (.bool a) (.bool b)).run r w=.ok (a==b) w:=run_equal_bool 9999 a b w;simp[binOp,this];cases a<;>cases b<;>rfl
theorem AOps.eqlB{P:Program}{σ0:b6}{sz:Nat}{Q:Post}{env:Env}{σv:b6}{ops:Array Oper}{rest:List Oper}{dst:Option Nat}{ty:Ti}{pos:String}{after:Array Edge}{t t':Ti}{x y:Od}{a b:Bool}[ht:TyD P t .bool](hx:ev env x=some (.c (bool a)))(hy:ev env y=some (.c (bool b)))(hd:f7 sz dst=true)
  (h:AOps P σ0 sz ops Q rest (St.mk (putE env dst (.c (bool (decide (a=b))))) σv)):AOps P σ0 sz ops Q (⟨dst,.binOp .eql t x y t',ty,pos,after,none⟩::rest) (St.mk env σv):=
 .bin hx hy hd rfl (fun w=>by simp[go_sem]) (fun w=>binOp_eqlB a b w) h
/-! ### An array as' a slice -/
def AOps.sliceArrI{k:b6}{ops:Array Oper}{rest:List Oper}{t e:Ti}{len:Nat}{cs:List I}[D:TyD r t (.array len e)][V:TyS r e 1 H p](l:ev L A=some (.c (.imm (.ipt cs))))(X:len<=cD cs)(q:aY len 1000000=true)(E:f7 d B=true)(h:AOps r a d ops s rest (St.mk (putE L B (.c (.imm (.sl 1 ((cs.take len).map fun c=>[c]))))) k)):AOps r a d ops s (⟨B,.slice t A none none none,M,P,Q,none⟩::rest) (St.mk L k):=
 .value rfl E _ (fun F G f w J=>by
  obtain⟨u,K,O,v⟩:=ipt_inv (i5 J l);have y:len<=1000000:=aA q;have n:((cs.take len).map fun c=>[c]).length=len:=by simp;omega
  refine⟨.slice (some u) len len,?_,.c (.imm ?_)⟩;simp[execOp,O,Instr.sliceAt,Instr.sureAddr,run_underlying D.h,Instr.sliceBounds,u3 (t:=e)];exact fun _=>Addr.add_zero' u;have:RelI w (Al F.N G k) (.sl 1 ((cs.take len).map fun c=>[c])) (.slice (some u) ((cs.take len).map fun c=>[c]).length len):=by
   have get:∀(j:Nat) (e:List I),((cs.take len).map fun c=>[c])[j]? =some e->∃c,cs[j]? =some c/\e=[c]:=fun j e i=>by rw[lM,oM] at i;obtain⟨c,g,U⟩:=i;rw[au] at g;split at g;exact⟨c,g,U.symm⟩;cases g
   refine .sl (fun j o=>K (j * 1+o)) (by omega) (by simp only[maxLen];omega) (fun j e i=> ?_) (fun j e o A i l=> ?_) (fun j e o A i l=> ?_);obtain⟨c,_,rfl⟩:=get j e i;rfl;obtain⟨c,g,rfl⟩:=get j e i;match o with
   |0=>cases l;exact⟨(v _ _ g).1,by simpa using(v _ _ g).2.1⟩
   |o+1=>simp at l
   obtain⟨c,g,rfl⟩:=get j e i;match o with
   |0=>cases l;simpa using(v _ _ g).2.2
   |o+1=>simp at l
  rwa [n] at this) h
def AWP.condT{b:b6}{c d:Code}(e:ev L A=some (.c (bool true)))(h:AWP r a H c s (St.mk L b)):AWP r a H (.cond A c d) s (St.mk L b):=.cond e (fun _=>h) (fun h=>by cases h)
def AWP.condF{b:b6}{c d:Code}(e:ev L A=some (.c (bool false)))(h:AWP r a H d s (St.mk L b)):AWP r a H (.cond A c d) s (St.mk L b):=.cond e (fun h=>by cases h) (fun _=>h)
def AWP.condD{b:b6}{c d:Code}{p:Prop}[Decidable p](e:ev L A=some (.c (bool (decide p))))(f:p->AWP r a H c s (St.mk L b))(g:¬ p->AWP r a H d s (St.mk L b)):AWP r a H (.cond A c d) s (St.mk L b):=
 .cond e (fun h=>f (of_decide_eq_true h)) (fun h=>g (of_decide_eq_false h))
def AWP.condN{b:b6}{c d:Code}{p:Prop}[Decidable p](e:ev L A=some (.c (bool (!decide p))))(f:¬ p->AWP r a H c s (St.mk L b))(g:p->AWP r a H d s (St.mk L b)):AWP r a H (.cond A c d) s (St.mk L b):=
 .cond e (fun h=>f (of_decide_eq_false (by simpa using h))) (fun h=>g (of_decide_eq_true (by simpa using h)))
def AWP.condB{e:b6}{c d:Code}{b:Bool}(f:ev L A=some (.c (bool (!b))))(g:b=false->AWP r a H c s (St.mk L e))(i:b=true->AWP r a H d s (St.mk L e)):AWP r a H (.cond A c d) s (St.mk L e):=
 .cond f (fun h=>g (by simpa using h)) (fun h=>i (by simpa using h))
def AWP.condE{b:b6}{c d:Code}{p q:Prop}[Decidable p][Decidable q](e:ev L A=some (.c (bool (!(decide p && decide q)))))(f:¬ (p/\q)->AWP r a H c s (St.mk L b))(g:p->q->AWP r a H d s (St.mk L b)):AWP r a H (.cond A c d) s (St.mk L b):=
 .cond e (fun h=>f (fun⟨hp,i⟩=>by simp[hp,i] at h)) (fun h=>by
  have:p/\q:=by simpa using h
  exact g this.1 this.2)
def AOps.F{ops:Array Oper}{rest:List Oper}{op:Op}{t:Nat}{b e:Bool}(f:(ops[H]?).bind (·.dst)=some t)(g:lookup t L=some (.c (bool e)))(i:f7 d B=true)(k:e=b)(h:AOps r a d ops s (⟨B,op,M,P,Q,none⟩::rest) (St.mk L c)):
  AOps r a d ops s (⟨B,op,M,P,Q,some (H,b)⟩::rest) (St.mk L c):=.guard f g i (fun _=>h) (fun l=>by subst k;cases e<;>cases l)
def AOps.ab{ops:Array Oper}{rest:List Oper}{op:Op}{j:Nat}{b e:Bool}(f:(ops[j]?).bind (·.dst)=some H)(g:lookup H L=some (.c (bool e)))(i:f7 d B=true)(k:e= !b)(h:AOps r a d ops s rest (St.mk (putE L B .undef) c)):
  AOps r a d ops s (⟨B,op,M,P,Q,some (j,b)⟩::rest) (St.mk L c):=.guard f g i (fun l=>by subst l;cases e<;>cases k) (fun _=>h)
def AOps.lenB{i:b6}{ops:Array Oper}{rest:List Oper}{p:Type}{f:p->List I}{l:List p}{t e:Ti}[J:TyD r t (.slice e)](q:ev L A=some (.c (.imm (.sl H (l.map f)))))(z:f7 d B=true)(h:cD l<=9223372036854775807->AOps r a d ops s rest (St.mk (putE L B (.c (int (cD l)))) i)):AOps r a d ops s (⟨B,.call ⟨.builtin .len,#[A],#[t]⟩,M,P,Q,none⟩::rest) (St.mk L i):=fun D E b w n v=>by
 have F:cD l<=9223372036854775807:=by
  have g:=i5 v q;generalize b.eval A=u at g;cases g with|c g=>cases g with|imm g=>
   generalize o:l.map f=G at g
   have:cD l=cD G:=by rw[<- o];simp
   cases g with
   |slNil=>rw[this];exact bP _
   |sl K y j hk N g=>simp only[maxLen] at j;omega
 exact AOps.lenL q z (h F) D E b w n v
def AOps.lenOwnB{ops:Array Oper}{rest:List Oper}{t e:Ti}{id:Id}{n k:Nat}[K:TyD r t (.slice e)](o:ev L A=some (.c (.own id H n)))(g:c[id]? =some (some (.cells k V)))(v:f7 d B=true)(h:n<=9223372036854775807->AOps r a d ops s rest (St.mk (putE L B (.c (int n))) c)):AOps r a d ops s (⟨B,.call ⟨.builtin .len,#[A],#[t]⟩,M,P,Q,none⟩::rest) (St.mk L c):=fun y z f w l p=>by
 have D:n<=9223372036854775807:=by rcases H1 (i5 p o) g with⟨_,_,_,N⟩|⟨b,q,E,F,G,O,hp,U,J,u,i,_,_,_⟩;omega;simp only[maxLen] at i;omega
 exact AOps.lenOwn o g v (h D) y z f w l p
def AWP.frz{σ0:b6}{c:Code}{b e:Env}{σ2:b6}(id:Id)(k:Nat)(f:List (List I))(j:S7 L b)(g:aY (cD σ0) id.1=true)(i:a[id]? =some (some (Blk.im k f)))(l:S7 (St.frz ⟨b,a⟩ id k f).env e)(n:(St.frz ⟨b,a⟩ id k f).σ=σ2)(h:AWP r σ0 d c s (St.mk e σ2)):AWP r σ0 d c s (St.mk L a):=
 AWP.sub (Sub.env j) (AWP.sub (Sub.frz id k f (aA g) i) (AWP.sub (s':=⟨e,σ2⟩) (by subst n;exact Sub.env l) h))
def AOps.frz{σ0:b6}{ops:Array Oper}{rest:List Oper}{b c:Env}{σ2:b6}(id:Id)(k:Nat)(e:List (List I))(i:S7 L b)(f:aY (cD σ0) id.1=true)(g:a[id]? =some (some (Blk.im k e)))(j:S7 (St.frz ⟨b,a⟩ id k e).env c)(l:(St.frz ⟨b,a⟩ id k e).σ=σ2)(h:AOps r σ0 d ops s rest (St.mk c σ2)):AOps r σ0 d ops s rest (St.mk L a):=
 AOps.sub (Sub.env i) (AOps.sub (Sub.frz id k e (aA f) g) (AOps.sub (s':=⟨c,σ2⟩) (by subst l;exact Sub.env j) h))
def idF{a:Type}:List a->Option Nat
 |[]=>some 0
 |_::l=>match idF l with
  |some 0=>some 1
  |some 1=>some 2
  |some 2=>some 3
  |some 3=>some 4
  |some 4=>some 5
  |some 5=>some 6
  |some 6=>some 7
  |some 7=>some 8
  |some 8=>some 9
  |some 9=>some 10
  |some 10=>some 11
  |some 11=>some 12
  |some 12=>some 13
  |some 13=>some 14
  |some 14=>some 15
  |some 15=>some 16
  |some 16=>some 17
  |some 17=>some 18
  |some 18=>some 19
  |some 19=>some 20
  |some 20=>some 21
  |some 21=>some 22
  |some 22=>some 23
  |some 23=>some 24
  |some 24=>some 25
  |some 25=>some 26
  |some 26=>some 27
  |some 27=>some 28
  |some 28=>some 29
  |some 29=>some 30
  |some 30=>some 31
  |some 31=>some 32
  |some 32=>some 33
  |some 33=>some 34
  |_=>none
def ae4{b:Type}:∀{l:List b} {n:Nat},idF l=some n->n=cD l
 |[],n,h=>by cases h;rfl
 |a::l,n,h=>by
  simp only[idF] at h;split at h<;>first
   |(cases h;done)
   |(rename_i c;have:=ae4 c;cases h;simp only[ax];omega)
def setF{b:Type}:List b->Nat->b->Option (List b)
 |[],_,_=>none
 |_::l,0,x=>some (x::l)
 |a::l,n+1,x=>match setF l n x with
  |some r=>some (a::r)
  |none=>none
def I7{b:Type}:∀{l:List b} {n:Nat} {x:b} {r:List b},setF l n x=some r->r=l.set n x/\n<cD l
 |[],n,x,r,h=>by cases h
 |a::l,0,x,r,h=>by cases h;exact⟨rfl,by simp⟩
 |a::l,n+1,x,r,h=>by simp only[setF] at h;split at h<;>cases h;rename_i c;have:=I7 c;exact⟨by rw[this.1];rfl,by simp[this.2]⟩
def newF(σ:b6):Option Id:=match idF σ with
 |some n=>some (n,[])
 |none=>none
def B1(h:newF a=some b):b=(cD a,[]):=by unfold newF at h;split at h;rename_i n c;cases h;rw[ae4 c];cases h
def putEnt:Ent->List Nat->Option Blk->Option Ent
 | .one _,[],some b=>some (.one b)
 | .one _,[],none=>some .dead
 | .node _ s,[],b=>some (.node b s)
 |_,_,_=>none
def putEnt_eq{e a:Ent}{b:Option Blk}(h:putEnt e X b=some a):a=e.put X b:=by unfold putEnt at h;split at h<;>first|(cases h;rfl)|(cases h)
def putFn:b6->Nat->List Nat->Option Blk->Option b6
 |[],_,_,_=>none
 |e::l,0,p,b=>match putEnt e p b with
  |some a=>some (a::l)
  |none=>none
 |e::l,n+1,p,b=>match putFn l n p b with
  |some r=>some (e::r)
  |none=>none
def putF(σ:b6)(i:Id)(b:Option Blk):Option b6:=putFn σ i.1 i.2 b
def putFn_eq:∀{σ r:b6} {n:Nat} {p:List Nat} {b:Option Blk},putFn σ n p b=some r->r=σ.put (n,p) b
 |[],r,n,p,b,h=>by cases h
 |e::l,r,0,p,b,h=>by simp only[putFn] at h;split at h;rename_i d a;cases h;rw[putEnt_eq a];simp[b6.put];cases h
 |e::l,r,n+1,p,b,h=>by simp only[putFn] at h;split at h;rename_i f c;cases h;rw[putFn_eq c];simp[b6.put];cases h
def putF_eq{i:Id}{b:Option Blk}(h:putF a i b=some c):c=a.put i b:=putFn_eq h
def dropF{a:Type}:Nat->List a->Option (List a)
 |0,l=>some l
 |n+1,_::l=>dropF n l
 |_+1,[]=>none
def aq9{b:Type}:∀{n:Nat} {l r:List b},dropF n l=some r->r=l.drop n/\n<=cD l
 |0,l,r,h=>by cases h;exact⟨rfl,bP _⟩
 |n+1,a::l,r,h=>by have:=aq9 (n:=n) (l:=l) h;exact⟨this.1,by simp;exact this.2⟩
 |n+1,[],r,h=>by cases h
def takeF{b:Type}:Nat->List b->Option (List b)
 |0,_=>some []
 |n+1,a::l=>match takeF n l with
  |some r=>some (a::r)
  |none=>none
 |_+1,[]=>none
def aE4{b:Type}:∀{n:Nat} {l r:List b},takeF n l=some r->r=l.take n/\n<=cD l
 |0,l,r,h=>by cases h;exact⟨rfl,bP _⟩
 |n+1,a::l,r,h=>by simp only[takeF] at h;split at h<;>cases h;rename_i c;have:=aE4 c;exact⟨by rw[this.1];rfl,by simp;exact this.2⟩
 |n+1,[],r,h=>by cases h
def immF:List I->Option (List C)
 |[]=>some []
 |x::l=>match immF l with
  |some r=>some (.imm x::r)
  |none=>none
def immF_eq:∀{l:List I} {r:List C},immF l=some r->r=l.map .imm
 |[],r,h=>by cases h;rfl
 |x::l,r,h=>by simp only[immF] at h;split at h<;>cases h;rename_i a;rw[immF_eq a];rfl
def ac5{b:Type}(e:List b)(o:Nat)(cs:List b):Option (List b):=match e,o,cs with
 |e,_,[]=>some e
 |[],_,_::_=>none
 |_::e,0,c::cs=>match ac5 e 0 cs with
  |some r=>some (c::r)
  |none=>none
 |a::e,o+1,c::cs=>match ac5 e o (c::cs) with
  |some r=>some (a::r)
  |none=>none
def spliceF_eq{g:Type}:∀{e:List g} {o:Nat} {cs r:List g},cs ≠ []->ac5 e o cs=some r->r=e.take o++cs++e.drop (o+cD cs)/\o+cD cs<=cD e:=by
 have zero:∀(e cs r:List g),ac5 e 0 cs=some r->r=cs++e.drop (cD cs)/\(cD cs)<=cD e:=by
  intro e;induction e with
  |nil=>intro cs r h;cases cs with|nil=>cases h;exact⟨rfl,by simp⟩|cons=>simp[ac5] at h
  |cons a e i=>
   intro cs r h
   cases cs with
   |nil=>simp[ac5] at h;subst h;exact⟨rfl,by simp⟩
   |cons c cs=>
    simp only[ac5] at h
    split at h<;>cases h
    rename_i k j
    obtain⟨d,f⟩:=i cs k j
    exact⟨by rw[d];rfl,by simp;exact f⟩
 intro e;induction e with
 |nil=>intro o cs r b h;cases cs with|nil=>exact absurd rfl b|cons=>simp[ac5] at h
 |cons a e i=>
  intro o cs r b h
  cases cs with
  |nil=>exact absurd rfl b
  |cons c cs=>
   cases o with
   |zero=>
    obtain⟨d,f⟩:=zero _ _ _ h
    exact⟨by rw[d];simp,by simpa using f⟩
   |succ o=>
    simp only[ac5] at h
    split at h<;>cases h
    rename_i k j
    obtain⟨d,f⟩:=i (by simp) j
    refine⟨?_,?_⟩
    ·rw[d]
     simp only[List.take_succ_cons,bG,ax]
     rw[show o+1+(cD cs+1)=(o+(cD cs+1))+1 by omega,List.drop_succ_cons]
    ·simp only[ax] at f ⊢;omega
class TyZ (P:Program) (t:Ti) (zc:outParam (List C)):Prop where
 h:∃size bytes z v,TyS P t size bytes z/\ag2 z=some v/\ae6 v=some zc
theorem TyZ.of{t bytes:Nat}{c:List C}[h:TyS r t d bytes p](a:(ag2 p).bind ae6=some c):TyZ r t c:=by
 cases b:ag2 p with
 |none=>rw[b] at a;cases a
 |some v=>rw[b] at a;exact⟨d,bytes,p,v,h,b,a⟩
class FieldC (P:Program) (t f:Nat) (off ft:outParam Nat):Prop where
 h:∃(fs:Array Field) (fd:Field),P.underlying t=some (.struct fs)/\fs[f]? =some fd/\fd.offset=off/\fd.type=ft
theorem FieldC.of{t c:Nat}{b:Array Field}[e:TyD r t (.struct b)]{a:Field}(g:b[d]? =some a)(i:a.offset=H)(j:a.type=c):FieldC r t d H c:=⟨b,a,e.h,g,i,j⟩
class FlatC (P:Program) (t n:Nat):Prop where
 h:∃(fs:Array Field),P.underlying t=some (.struct fs)/\fs.size=n/\∀(i:Nat) (f:Field),fs[i]? =some f->f.offset=i/\∃j,P.info? f.type=some j/\j.size=1
def ones(l:List (Nat×Nat))(i:Nat):Bool:=match l with
 |[]=>true
 |(o,n)::r=>aG o i && aG n 1 && ones r (i+1)
def ones_get:∀{l:List (Nat×Nat)} {i:Nat},ones l i=true->∀(j:Nat) (p:Nat×Nat),l[j]? =some p->p=(i+j,1)
 |[],_,_,j,p,h=>by simp at h
 |(o,n)::r,i,a,j,p,h=>by
  simp only[ones,ap] at a;match j with
  |0=>cases h;rw[am a.1.1,am a.1.2];rfl
  |j+1=>
   have:=ones_get a.2 j p (by simpa using h)
   rw[this]
   congr 1
   omega
theorem FlatC.of{t:Nat}{b:Array Field}{a:List (Nat×Nat)}[c:TyD r t (.struct b)][hp:PlacesC r b.toList a](e:b.size=d)(g:ones a 0=true):FlatC r t d:=
 ⟨b,c.h,e,fun i f k=>by obtain⟨m,j,l,o,p⟩:=hp.h i f (by simpa using k);have:=ones_get g i _ l;simp only[aX,Prod.mk.injEq] at this;exact⟨this.1,j,o,by rw[p];exact this.2⟩⟩
def fillF:List C->List (Nat×T)->Option (List C)
 |cs,[]=>some cs
 |cs,(i,.c c)::r=>match setF cs i c with
  |some a=>fillF a r
  |none=>none
 |_,_=>none
def fillF_eq{a:Nat->Option (Nat×Nat)}(hp:∀i,i<d->a i=some (i,1)):∀{cs:List C} {g:List (Nat×T)} {b:List C},cD cs=d->fillF cs g=some b->fillC a cs g=some b
 |cs,[],b,_,h=>h
 |cs,(i,.c c)::r,b,k,h=>by
  simp only[fillF] at h;split at h<;>try cases h
  rename_i f l;obtain⟨j,o⟩:=I7 l;simp only[fillC,hp i (by omega),ae6];rw[show(aG [c].length 1 && aY (i+[c].length) (cD cs))=true by simp only[ax,aT,ap];exact⟨rfl,Nat.ble_eq_true_of_le (by omega)⟩];have e:cs.take i++[c]++cs.drop (i+[c].length)=f:=by rw[j,bg,if_pos o,bE];rfl
  simp only[e];exact fillF_eq hp (by rw[j];simpa using k) h
 |_,(_,.agg _)::_,_,_,h=>by cases h
 |_,(_,.tup _)::_,_,_,h=>by cases h
 |_,(_,.undef)::_,_,_,h=>by cases h
def W.box{σ':b6}{ops:Array Oper}{rest:List Oper}{t:Ti}{v:T}{cs:List C}{k:Nat}(g:ev L A=some v)(i:ae6 v=some cs)(hk:idF cs=some k)(e:newF c=some b)(f:w6 c (.one (.cells k [cs]))=some σ')(j:f7 d B=true)(h:AOps r a d ops s rest ⟨putE L B (.c (.ptr b 0 0)),σ'⟩):AOps r a d ops s (⟨B,.box t A,M,P,Q,none⟩::rest) ⟨L,c⟩:=by
 have l:=ae4 hk;have n:=B1 e;have o:=u5 f
 subst l n o
 exact .box g i j h
def W.alloc{σ':b6}{ops:Array Oper}{rest:List Oper}{t:Ti}{cs:List C}{k:Nat}[hz:TyZ r t cs](hk:idF cs=some k)(e:newF c=some b)(f:w6 c (.one (.cells k [cs]))=some σ')(i:f7 d B=true)(h:AOps r a d ops s rest ⟨putE L B (.c (.ptr b 0 0)),σ'⟩):AOps r a d ops s (⟨B,.alloc t,M,P,Q,none⟩::rest) ⟨L,c⟩:=by
 have j:=ae4 hk;have l:=B1 e;have n:=u5 f
 subst j l n
 obtain⟨size,bytes,z,v,g,o,p⟩:=hz.h
 exact AOps.alloc (hs:=g) o p i h
def W.store{f σ':b6}{ops:Array Oper}{rest:List Oper}{y:Od}{t:Ti}{bytes:Nat}{o:Nat}{e l:List C}{c:C}[hs:TyS r t 1 bytes p](n:ev L A=some (.c (.ptr b 0 o)))(q:ev L y=some (.c c))(i:f[b]? =some (some (.cells H [e])))(u:setF e o c=some l)(g:putF f b (some (.cells H [l]))=some σ')(h:AOps r a d ops s rest ⟨L,σ'⟩):AOps r a d ops s (⟨none,.store t A y,M,P,Q,none⟩::rest) ⟨L,f⟩:=by
 have j:=I7 u;have v:=putF_eq g
 obtain⟨j,w⟩:=j
 subst j v
 exact .store n q i rfl w h
def W.storeAgg{σ':b6}{ops:Array Oper}{rest:List Oper}{y:Od}{t:Ti}{bytes:Nat}{z:Vl}{o k:Nat}{e l cs:List C}[hs:TyS r t H bytes z](n:ev L A=some (.c (.ptr b 0 o)))(p:ev L y=some (.agg cs))(g:c[b]? =some (some (.cells k [e])))(q:idF cs=some H)(u:aM 0 H=true)(v:ac5 e o cs=some l)(f:putF c b (some (.cells k [l]))=some σ')(h:AOps r a d ops s rest ⟨L,σ'⟩):AOps r a d ops s (⟨none,.store t A y,M,P,Q,none⟩::rest) ⟨L,c⟩:=by
 have i:=ae4 q
 have j:cs ≠ []:=fun w=>by subst w;simp at i;subst i;cases u
 obtain⟨B,E⟩:=spliceF_eq j v
 have D:=putF_eq f
 subst B D
 exact .storeAgg n p g rfl (by omega) i.symm h
def W.loadAgg{ops:Array Oper}{rest:List Oper}{t:Ti}{d:TypeDesc}{size bytes:Nat}{j o k:Nat}{e l cs:List C}[ht:TyD r t d][hs:TyS r t size bytes p](n:B5 d=true)(q:ev L A=some (.c (.ptr b j o)))(f:c[b]? =some (some (.cells k V)))(u:V[j]? =some e)(g:dropF o e=some l)(i:takeF size l=some cs)(v:f7 H B=true)(h:AOps r a H ops s rest ⟨putE L B (.agg cs),c⟩):AOps r a H ops s (⟨B,.load t A,M,P,Q,none⟩::rest) ⟨L,c⟩:=by
 obtain⟨g,y⟩:=aq9 g
 obtain⟨i,w⟩:=aE4 i
 subst g i
 exact .loadAgg n q f u (by simp at w;omega) v h
def W.loadIAgg{ops:Array Oper}{rest:List Oper}{t:Ti}{d:TypeDesc}{size bytes:Nat}{cs b:List I}{g:List C}[ht:TyD r t d][hs:TyS r t size bytes p](i:B5 d=true)(j:ev L A=some (.c (.imm (.ipt cs))))(e:takeF size cs=some b)(f:immF b=some g)(k:f7 H B=true)(h:AOps r a H ops s rest ⟨putE L B (.agg g),c⟩):AOps r a H ops s (⟨B,.load t A,M,P,Q,none⟩::rest) ⟨L,c⟩:=by
 obtain⟨e,l⟩:=aE4 e
 have f:=immF_eq f
 subst e f
 exact .loadIAgg i j l k h
def W.fieldAddr{ops:Array Oper}{rest:List Oper}{t:Ti}{j k e i size bytes:Nat}[l:FieldC r t H e i][hs:TyS r i size bytes p](o:aG size 0=false)(q:ev L A=some (.c (.ptr b j 0)))(g:c[b]? =some (some (.cells k V)))(u:f7 d B=true)(h:AOps r a d ops s rest ⟨putE L B (.c (.ptr b j e)),c⟩):AOps r a d ops s (⟨B,.fieldAddr t A H,M,P,Q,none⟩::rest) ⟨L,c⟩:=by
 obtain⟨E,F,v,w,y,D⟩:=l.h
 subst y D
 exact AOps.fieldAddr (ht:=⟨v⟩) w (by cases size with|zero=>cases o|succ n=>rfl) q g u (by rw[aX];exact h)
def W.build{e:b6}{ops:Array Oper}{rest:List Oper}{t n:Ti}{parts:List (Nat×Od)}{ps:List (Nat×T)}{u cs:List C}[hf:FlatC r t n][hz:TyZ r t u](q:idF u=some n)(y:evP L parts=some ps)(D:fillF u ps=some cs)(hd:f7 d B=true)(h:AOps r a d ops s rest ⟨putE L B (.agg cs),e⟩):AOps r a d ops s (⟨B,.build t parts.toArray,M,P,Q,none⟩::rest) ⟨L,e⟩:=by
 obtain⟨E,O,U,V⟩:=hf.h
 obtain⟨size,bytes,z,v,hs,g1,F⟩:=hz.h
 have k:=ae4 q
 have o:PlacesC r E.toList ((ai n).map fun i=>(i,1)):=⟨fun i f hi=>by
  have G:E[i]? =some f:=by simpa using hi
  obtain⟨X,j,k2,k3⟩:=V i f G;have:i<n:=by rw[<- U];exact(aN.1 G).1
  exact⟨1,j,by simp[this,X],k2,k3⟩,by simp[U]⟩
 have hv:v=.agg u\/(∃x,v=.c x/\u=[x]):=by
  cases v with
  |c x=>cases F;exact .inr ⟨x,rfl,rfl⟩
  |agg cs=>cases F;exact .inl rfl
  |tup _=>cases F
  |undef=>cases F
 have ad:B5 (.struct E)=true:=rfl
 rcases hv with rfl|⟨x,rfl,rfl⟩
 ·exact AOps.build (ht:=⟨O⟩) (hs:=hs) (hp:=o) g1 y (fillF_eq (fun i hi=>by simp[hi]) k.symm D) hd h
 · -- a struct whose zero is one cell: read as' a list of one cell all the same
  refine AOps.value rfl hd _ (fun Γ H b w hR=> ?_) h
  obtain⟨X,k2⟩:=evP_rel hR y
  have aa:RelL w H e (Al Γ.N H e) [x] z.cells:=by have:=Y3 (ai2 (w:=w) (φ:=H) (σ:=e) (A:=Al Γ.N H e) g1) F;exact⟨this.1,this.2⟩
  obtain⟨J,e1,e2⟩:=aw0 (w:=w) (place:=fun i=>((ai n).map fun i=>(i,1))[i]?) X k2 aa (fillF_eq (fun i hi=>by simp[hi]) k.symm D)
  refine⟨.agg J,?_,relL_agg e2⟩
  have hm:∀(l:List Field) (g:List (Nat×Nat)),cD g=cD l->(∀(i:Nat) (f:Field),l[i]? =some f->∃n j,g[i]? =some (f.offset,n)/\r.info? f.type=some j/\j.size=n)->
    (l.mapM (fun f=>Functor.map (Prod.mk f.offset) (Go.sizeOf f.type):Field->Sem (Nat×Nat))).run r w=.ok g w:=by
   intro l
   induction l with
   |nil=>intro g q _;cases g with|nil=>rfl|cons=>simp at q
   |cons f l ih=>
    intro g q hh
    cases g with
    |nil=>simp at q
    |cons p g=>
     obtain⟨n,j,O,U,V⟩:=hh 0 f rfl
     cases O
     have:=ih g (by simpa using q) (fun i f hi=>by simpa using hh (i+1) f (by simpa using hi))
     simp[List.mapM_cons,Go.sizeOf,typeInfo,U,V] at this ⊢
     simp[this]
  have K:=hm E.toList _ o.len o.h
  obtain⟨fl⟩:=E
  have e3:(execOp b.eval ⟨B,.build t parts.toArray,M,P,Q,none⟩).run r w=((Instr.build t (parts.map fun p=>(p.1,b.eval p.2)).toArray).run r w).andThen fun v w=>.ok (.value v) w:=by simp[execOp]
  rw[e3]
  simp only[Instr.build]
  rw[Sem.run_bind,R5 (t:=t)]
  simp only[Result.andThen,Sem.run_bind,run_underlying O,cu]
  simp at K e1
  simp[K,e1]
def W.lit1{σ':b6}{ops:Array Oper}{rest:List Oper}{t e:Ti}{k bytes:Nat}{v:T}{cs:List C}[E:TyD r t (.slice e)][F:TyS r e k bytes p](f:(p.cells.size==k)=true)(g:aY k 16777216=true)(i:aM 0 k=true)(n:ev L A=some v)(o:ae6 v=some cs)(q:idF cs=some k)(j:newF c=some b)(l:w6 c (.one (.cells k [cs]))=some σ')(u:f7 d B=true)(h:AOps r a d ops s rest ⟨putE L B (.c (.own b 0 1)),σ'⟩):AOps r a d ops s (⟨B,.buildSlice t 1 #[(0,A)],M,P,Q,none⟩::rest) ⟨L,c⟩:=by
 have w:=ae4 q;have y:=B1 j;have D:=u5 l
 subst y D
 exact .lit1 f g i n o w.symm u h
def W.make{σ':b6}{ops:Array Oper}{rest:List Oper}{y:Od}{t e:Ti}{k bytes:Nat}{cs:List C}[n:TyD r t (.slice e)][D:TyZ r e cs][hs:TyS r e k bytes p](hk:idF cs=some k)(E:ev L A=some (.c (int (H:Int))))(F:ev L y=some (.c (int (H:Int))))(w:H<=9223372036854775807)(hb:bytes * H<=281474976710656)(l:newF c=some b)(o:w6 c (.one (.cells k (bt H cs)))=some σ')(G:f7 d B=true)(h:AOps r a d ops s rest ⟨putE L B (.c (.own b 0 H)),σ'⟩):AOps r a d ops s (⟨B,.makeSlice t A y,M,P,Q,none⟩::rest) ⟨L,c⟩:=by
 have J:=ae4 hk;have K:=B1 l;have N:=u5 o
 subst K N
 obtain⟨q,j,z',v,u,O,U⟩:=D.h
 obtain⟨i,V,e2,e3,X⟩:=hs.h
 obtain⟨i',f,x,z,g⟩:=u.h
 rw[V] at f;cases f
 rw[X] at g;cases g
 refine AOps.make (hs:=hs) O U (by rw[J];simp) E F (Int.natCast_nonneg H) (by omega) (by
  have:((bytes * H:Nat):Int)<=281474976710656:=by omega
  rwa [Int.natCast_mul] at this) G ?_
 rw[Int.toNat_natCast]
 exact h
end Ab
