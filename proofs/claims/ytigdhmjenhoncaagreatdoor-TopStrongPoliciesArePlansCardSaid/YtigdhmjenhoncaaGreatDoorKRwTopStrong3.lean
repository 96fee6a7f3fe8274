/-
  Texts that the proof stands on.
-/
import Derived.Test.YtigdhmjenhoncaaGreatDoorKRwTopStrong2
import Derived.Laws.CopyRow
import Derived.Laws.Cover3
import Derived.WalkSmall
import Derived.Shelf.RegionOpenPlain
import Derived.Lib.Walk
import Derived.Lib.SliceRun
import Derived.Lib.JoinLaws
import Derived.Lib.AppendZerosOnto
import Derived.Lib.Overlaps
import Derived.Laws.Externs
import Derived.Laws.IdiomCopy
import Derived.Laws.NewBlocks
set_option linter.all false
open List renaming getElem?_set->eG,getElem?_mapIdx->eH,ext_getElem?->eI,all_eq_true->eK,getElem?_append_left->eM,take_of_length_le->eQ,getElem?_append_right->eR,getElem?_take->eS,replicate->eT,getElem?_drop->eV,length_map->eX,getElem?_replicate->eY,getElem?_append->eZ,drop_zero->fa,getElem?_cons_zero->fe,eq_nil_of_length_eq_zero->fh,length_append->fm,getElem?_of_mem->fo,getElem?_modify->fp,all_map->fA,append_assoc->fB,map_map->fD,getElem?_eq_getElem->fE,map_set->fF,map_cons->fG,length_take->fH,length_drop->fI,length_replicate->fK,getElem?_eq_none->fL,mem_of_mem_drop->fN,mem_cons_of_mem->fO,getElem?_range->fQ,map_take->fR,eq_of_mem_replicate->fT,mem_map->fU,getElem?_cons_succ->fV,take->fW,getElem?_eraseIdx->fY,mem_of_getElem?->gg,map_drop->gh,mem_cons->gi,length_mapIdx->gr,length->gA
open Option renaming map_some->eJ,map_map->fC,getD_some->fJ,isSome_none->gm,isSome_some->gq,getD_none->gC
open Nat renaming beq->eN,le_of_ble_eq_true->eO,eq_of_beq_eq_true->eP,blt->eU,lt_or_ge->ff,mul_le_mul_right->fg,add_mul->fj,le_refl->fq,ble->fu,zero_add->fz,add_zero->fM,zero_mul->fS,min_eq_left->fX,min_def->fZ,le_succ->gc,le_trans->gj,lt_of_lt_of_le->gl,sub_self->gt,sub_mul->gB
open Function renaming comp_apply->eW
open Array renaming toList_modify->fi,toList_push->gu
open Bool renaming eq_iff_iff->fP,false_eq_true->gp,not_eq_true'->gw,and_eq_true->gD
section
namespace Ab
open Go
def vw{α:Type}(l:List α)(off len:Int):Option Unit:=if 0<=off/\0<=len/\off+len<=l.length then some () else none
def cutV(len lo hi:Int):Option Unit:=if 0<=lo/\lo<=hi/\hi<=len then some () else none
def ixV{α:Type}(l:List α)(off len i:Int):Option α:=if 0<=off/\0<=i/\i<len/\off+len<=l.length then ix l (off+i) else none
def w5{α:Type}(l:List α)(off len:Int):List α:=(l.drop off.toNat).take len.toNat
def clrL{α:Type}(l:List α)(off len:Int)(z:α):List α:=l.take off.toNat++eT len.toNat z++l.drop (off.toNat+len.toNat)
theorem ac4{α:Type}{l:List α}{off len:Int}{u:Unit}(h:vw l off len=some u):0<=off/\0<=len/\off+len<=l.length:=by
 unfold vw at h
 split at h
 ·assumption
 ·cases h
theorem at5{len lo hi:Int}{u:Unit}(h:cutV len lo hi=some u):0<=lo/\lo<=hi/\hi<=len:=by
 unfold cutV at h
 split at h
 ·assumption
 ·cases h
theorem ixV_get{α:Type}{l:List α}{off len i:Int}{a:α}(h:ixV l off len i=some a):(0<=off/\0<=i/\i<len/\off+len<=l.length)/\ix l (off+i)=some a:=by
 unfold ixV at h
 split at h
 ·exact⟨‹_›,h⟩
 ·cases h
theorem ixV_ix{α:Type}{l:List α}{off len i:Int}{a:α}(h:ixV l off len i=some a):ix l (off+i)=some a:=(ixV_get h).2
theorem viewL_len{α:Type}{l:List α}{off len:Int}{u:Unit}(h:vw l off len=some u):(w5 l off len).length=len.toNat:=by
 have:=ac4 h
 simp[w5];omega
section
variable {α:Type}{f:α->List I}{l:List α}{P:Program}{σ0:b6}{sz:Nat}{Q:Post}{env env':Env}{σv σ':b6}{ops:Array Oper}{rest:List Oper}{dst:Option Nat}{ty:Ti}{pos:String}{after:Array Edge}{id:Id}{k:Nat}
theorem S.lenV{x:Od}{t e:Ti}{n:Int}{j:Nat}[ht:TyD P t (.slice e)](hn:0<=n)(hx:ev env x=some (.c (.own id j n.toNat)))(hσ:σv[id]? =some (some (vec k f l)))(hd:g9 sz dst=true)
  (h:n<=9223372036854775807->AOps P σ0 sz ops Q rest (St.mk (putE env dst (.c (int n))) σv)):AOps P σ0 sz ops Q (⟨dst,.call ⟨.builtin .len,#[x],#[t]⟩,ty,pos,after,none⟩::rest) (St.mk env σv):=
 AOps.lenOwnB hx hσ hd fun hb=>by
  have e1:((n.toNat:Nat):Int)=n:=by omega
  rw[e1]
  exact h (by omega)
theorem S.idxV{x y:Od}{t e:Ti}{bytes:Nat}{z:Vl}{kk:IntKind}{off len i:Int}{a:α}[ht:TyD P t (.slice e)][hs:TyS P e k bytes z]
  (he:ixV l off len i=some a) (hx:ev env x=some (.c (.own id off.toNat len.toNat))) (hσ:σv[id]? =some (some (vec k f l))) (hy:ev env y=some (.c (.imm (.val (.int kk i))))) (hd:g9 sz dst=true)
  (h:AOps P σ0 sz ops Q rest (St.mk (putE env dst (.c (.ptr id (off+i).toNat 0))) σv)):AOps P σ0 sz ops Q (⟨dst,.indexAddr t x y,ty,pos,after,none⟩::rest) (St.mk env σv):=by
 obtain⟨⟨h1,h2,h3,h4⟩,_⟩:=ixV_get he
 refine .indexAddrOwn hx hσ hy (by omega) hd ?_
 rw[show off.toNat+i.toNat=(off+i).toNat by omega]
 exact h
theorem S.vFrom{x y:Od}{t e:Ti}{bytes:Nat}{z:Vl}{kk:IntKind}{off len lo:Int}{j n:Nat}{u u':Unit}[ht:TyD P t (.slice e)][hs:TyS P e k bytes z]
  (hv:vw l off len=some u) (hc:cutV len lo len=some u') (hx:ev env x=some (.c (.own id j n))) (hj:j=off.toNat) (hn:n=len.toNat) (hσ:σv[id]? =some (some (vec k f l))) (hy:ev env y=some (.c (.imm (.val (.int kk lo))))) (hd:g9 sz dst=true)
  (h:AOps P σ0 sz ops Q rest (St.mk (putE env dst (.c (.own id (off+lo).toNat (len - lo).toNat))) σv)):AOps P σ0 sz ops Q (⟨dst,.slice t x (some y) none none,ty,pos,after,none⟩::rest) (St.mk env σv):=by
 have h1:=ac4 hv;have h2:=at5 hc
 subst hj hn
 have e1:lo=((lo.toNat:Nat):Int):=by omega
 rw[e1] at hy
 refine AOps.sliceOwnFrom hx hσ hy (by omega) hd ?_
 rw[show off.toNat+lo.toNat=(off+lo).toNat by omega,show len.toNat - lo.toNat=(len - lo).toNat by omega]
 exact h
theorem S.vTo{x y:Od}{t e:Ti}{bytes:Nat}{z:Vl}{kk:IntKind}{off len hi:Int}{j n:Nat}{u u':Unit}[ht:TyD P t (.slice e)][hs:TyS P e k bytes z]
  (hv:vw l off len=some u) (hc:cutV len 0 hi=some u') (hx:ev env x=some (.c (.own id j n))) (hj:j=off.toNat) (hn:n=len.toNat) (hσ:σv[id]? =some (some (vec k f l))) (hy:ev env y=some (.c (.imm (.val (.int kk hi))))) (hd:g9 sz dst=true)
  (h:AOps P σ0 sz ops Q rest (St.mk (putE env dst (.c (.own id off.toNat hi.toNat))) σv)):AOps P σ0 sz ops Q (⟨dst,.slice t x none (some y) none,ty,pos,after,none⟩::rest) (St.mk env σv):=by
 have h1:=ac4 hv;have h2:=at5 hc
 subst hj hn
 have e1:hi=((hi.toNat:Nat):Int):=by omega
 rw[e1] at hy
 exact AOps.sliceOwnTo hx hσ hy (by omega) hd h
theorem S.v3{x y y':Od}{t e:Ti}{bytes:Nat}{z:Vl}{kk kk':IntKind}{off len lo hi:Int}{j n:Nat}{u u':Unit}[ht:TyD P t (.slice e)][hs:TyS P e k bytes z]
  (hv:vw l off len=some u) (hc:cutV len lo hi=some u') (hx:ev env x=some (.c (.own id j n))) (hj:j=off.toNat) (hn:n=len.toNat) (hσ:σv[id]? =some (some (vec k f l))) (hy:ev env y=some (.c (.imm (.val (.int kk lo))))) (hy':ev env y'=some (.c (.imm (.val (.int kk' hi))))) (hd:g9 sz dst=true)
  (h:AOps P σ0 sz ops Q rest (St.mk (putE env dst (.c (.own id (off+lo).toNat (hi - lo).toNat))) σv)):AOps P σ0 sz ops Q (⟨dst,.slice t x (some y) (some y') none,ty,pos,after,none⟩::rest) (St.mk env σv):=by
 have h1:=ac4 hv;have h2:=at5 hc
 subst hj hn
 refine AOps.sliceOwn hx hσ hy hy' (by omega) hd ?_
 rw[show off.toNat+lo.toNat=(off+lo).toNat by omega,show hi.toNat - lo.toNat=(hi - lo).toNat by omega]
 exact h
def ReE(env:Env)(t:Nat)(c':C):Env->Prop
 |[]=>True
 |(t',v)::r=>(t'=t/\v=.c c'\/lookup t' env=some v)/\ReE env t c' r
theorem ReE.get{t:Nat}{c':C}:∀{env':Env},ReE env t c' env'->∀t' v,lookup t' env'=some v->t'=t/\v=.c c'\/lookup t' env=some v
 |[],_,t,v,h=>by simp[lookup] at h
 |(k,x)::r,⟨h1,h2⟩,t',v,h=>by
  simp only[lookup] at h
  split at h
  ·cases h
   rename_i e
   have:k=t':=by simpa using e
   subst this
   exact h1
  ·exact ReE.get h2 t' v h
theorem Sub.reown{off len:Int}{j n:Nat}{n':Id}{σ1:b6}{u:Unit}(t:Nat)(hv:vw l off len=some u)(hx:lookup t env=some (.c (.own id j n)))(hj:j=off.toNat)(hn:n=len.toNat)(hσ:σv[id]? =some (some (vec k f l)))(h0:fu σ0.length id.1=true)(hid:newF σv=some n')
  (h1:putF σv id none=some σ1) (hσ':s5 σ1 (.one (vec k f (w5 l off len)))=some σ') (henv:ReE env t (.own n' 0 (w5 l off len).length) env'):Sub σ0 ⟨env,σv⟩ ⟨env',σ'⟩:=fun Γ sz φ a w hΓ hR=>by
 have h2:=y6 h1
 have h3:=y8 hid;have h4:=r8 hσ'
 have hvl:=viewL_len hv
 have hvg:=ac4 hv
 subst hj hn h2 h3 h4
 have hidl:=b6.lt_of hσ
 have at_new:(σv.put id none++[.one (vec k f (w5 l off len))])[((σv.length,[]):Id)]? =some (some (vec k f (w5 l off len))):=by
  rw[b6.get_right (by simp)];simp;rfl
 obtain⟨u0,hu0,hrel⟩:=hR.env t _ hx
 have ho:=C9 hrel hσ
 have fin:∀(φ':Phi) (hk:Kept w w φ φ' σv (σv.put id none++[.one (vec k f (w5 l off len))]) (Al Γ.N φ σv) (Al Γ.N φ' (σv.put id none++[.one (vec k f (w5 l off len))]))) (hs:Rs Γ (σv.put id none++[.one (vec k f (w5 l off len))]) φ' w) (hview:W1 w (φ' (σv.length,[])) k (w5 l off len).length 0 (w5 l off len).length u0),
   R Γ sz ⟨env',σv.put id none++[.one (vec k f (w5 l off len))]⟩ φ' a w:=fun φ' hk hs hview=>by
  have hR1:=hR.of hk hs
  refine {toRs:=hs,defers:=hR1.defers,asize:=hR.asize,env:=fun t' v' ht'=> ?_}
  rcases henv.get t' v' ht' with⟨rfl,rfl⟩|h
  ·refine⟨u0,hu0,.c (.own (by simp) (by cases hrel with|c g2=>exact g2.one) fun k' es' he=> ?_)⟩
   rw[at_new] at he
   cases he
   simpa using hview
  ·obtain⟨u1,g1,g2⟩:=hR1.env t' v' h
   exact⟨u1,g1,g2⟩
 rcases ho with⟨p1,p2,p3,p4⟩|⟨b,base,cap,arr,ety,ad,hp,hvv,had,hcap,hmax,hjn,hbk,hsz⟩
 ·have hnil:w5 l off len=[]:=fh (by rw[hvl,p4])
  have hK:=hR.toRs.kill id
  have hV:=hK.2.virt k
  have e1:σv.put id none++[.one (vec k f (w5 l off len))]=σv.put id none++[.one (.cells k [])]:=by rw[hnil];rfl
  rw[b6.length_put] at hV
  refine⟨fun i=>if i=(σv.length,[]) then none else φ i,?_⟩
  have:=fin (fun i=>if i=(σv.length,[]) then none else φ i) (by rw[e1];exact Kept.trans (fq _) hK.1 hV.1) (by rw[e1];exact hV.2) (.inl ⟨by simp,p2,rfl,by rw[hnil];rfl⟩)
  exact this
 ·obtain⟨arr2,ety2,q1,q2,q3,q4⟩:=G1 hR hσ hp
  rw[hbk] at q1;cases q1
  have hO:=Rs.reown (k:=k) (base':=base+off.toNat * k) (es':=((w5 l off len).map f).map (·.map C.imm)) (arr':=arr) hR.toRs hσ hp hbk (fun j e he=>by
    have:((w5 l off len).map f).map (·.map C.imm)=((((l.map f).map (·.map C.imm)).drop off.toNat).take len.toNat):=by simp[w5,gh,fR]
    rw[this,eS] at he
    split at he
    ·rw[eV] at he
     exact q3 _ e he
    ·cases he) (by
    simp only[eX,hvl]
    have:(off.toNat+cap) * k=off.toNat * k+cap * k:=fj ..
    have:len.toNat * k<=cap * k:=fg k hcap
    omega) (fun j e o x he hx=>by
    have:((w5 l off len).map f).map (·.map C.imm)=((((l.map f).map (·.map C.imm)).drop off.toNat).take len.toNat):=by simp[w5,gh,fR]
    rw[this,eS] at he
    split at he
    ·rw[eV] at he
     obtain⟨u2,g1,g2⟩:=q4 _ e o x he hx
     refine⟨u2,?_,g2⟩
     rw[<- g1,fj]
     congr 1;omega
    ·cases he)
  rw[Go.setRow_self w b arr ety (0,0) hbk] at hO
  refine⟨fun i=>if i=(σv.length,[]) then some (b,base+off.toNat * k) else φ i,?_⟩
  refine fin _ hO.1 hO.2 (.inr ⟨b,base+off.toNat * k,cap,arr,ety,ad,by simp,?_,fun hc=> ?_,?_,hmax,by omega,hbk,?_⟩)
  ·rw[hvv,hvl]
  ·rw[had hc,fS,fM]
  ·rw[hvl];exact hcap
  ·have:(off.toNat+cap) * k=off.toNat * k+cap * k:=fj ..
   rw[fz];omega
theorem AWP.reown{c:Code}{off len:Int}{j n:Nat}{n':Id}{σ1:b6}{u:Unit}(t:Nat)(hv:vw l off len=some u)(hx:lookup t env=some (.c (.own id j n)))(hj:j=off.toNat)(hn:n=len.toNat)(hσ:σv[id]? =some (some (vec k f l)))(h0:fu σ0.length id.1=true)(hid:newF σv=some n')
  (h1:putF σv id none=some σ1) (hσ':s5 σ1 (.one (vec k f (w5 l off len)))=some σ') (henv:ReE env t (.own n' 0 (w5 l off len).length) env') (h:AWP P σ0 sz c Q ⟨env',σ'⟩):AWP P σ0 sz c Q ⟨env,σv⟩:=
 AWP.sub (Sub.reown t hv hx hj hn hσ h0 hid h1 hσ' henv) h
theorem zeroCells_one{v:Vl}(n:Nat):(Builtin.zeroCells #[v] n).toList=eT n v:=by
 refine eI fun i=> ?_
 simp only[Builtin.zeroCells,Array.toList_map,lM,eY]
 by_cases h:i<n
 ·have:(Array.range (n * (#[v]:Array Vl).size)).toList[i]? =some i:=by simp[h]
  rw[this,if_pos h]
  simp[Nat.mod_one]
 ·have:(Array.range (n * (#[v]:Array Vl).size)).toList[i]? =none:=by simp;omega
  rw[this,if_neg h];rfl
theorem S.clear{x:Od}{t e:Ti}{bytes:Nat}{z:Vl}{off len:Int}{j n:Nat}{u:Unit}{a0:α}{c0:C}[ht:TyD P t (.slice e)][hs:TyS P e 1 bytes z](hz1:z.cells=#[z])(hzc:z.oneCell'=true)
  (hf:(f a0).map C.imm=[c0]) (hrel:∀w φ σ A,RelC w φ σ A c0 z)
  (hv:vw l off len=some u) (hx:ev env x=some (.c (.own id j n))) (hj:j=off.toNat) (hn:n=len.toNat) (hσ:σv[id]? =some (some (vec 1 f l))) (hσ':putF σv id (some (vec 1 f (clrL l off len a0)))=some σ')
  (h:AOps P σ0 sz ops Q rest (St.mk env σ')):AOps P σ0 sz ops Q (⟨none,.call ⟨.builtin .clear,#[x],#[t]⟩,ty,pos,after,none⟩::rest) (St.mk env σv):=by
 have hvg:=ac4 hv
 have h2:=y6 hσ'
 subst hj hn h2
 refine .valueW rfl rfl (.tup []) (σv.put id (some (vec 1 f (clrL l off len a0)))) (fun Γ φ a w hR=> ?_) h
 have tupR:∀{w φ σ A},RelT w φ σ A (.tup []) (.tuple #[]):=fun {w φ σ A}=>RelT.tup (ts:=[]) (fun _=>undef) fun i t h=>by simp at h
 have ho:=C9 (j7 hR hx) hσ
 have clen:(clrL l off len a0).length=l.length:=by simp[clrL];omega
 have nothing:len.toNat=0->clrL l off len a0=l:=fun e=>by simp[clrL,e]
 have same:len.toNat=0->(execOp a.eval ⟨none,.call ⟨.builtin .clear,#[x],#[t]⟩,ty,pos,after,none⟩).run P w=.ok (.value (.tuple #[])) w->∃u w' φ',(execOp a.eval ⟨none,.call ⟨.builtin .clear,#[x],#[t]⟩,ty,pos,after,none⟩).run P w=.ok (.value u) w'/\RelT w' φ' (σv.put id (some (vec 1 f (clrL l off len a0)))) (Al Γ.N φ' (σv.put id (some (vec 1 f (clrL l off len a0))))) (.tup []) u/\R Γ sz ⟨env,σv.put id (some (vec 1 f (clrL l off len a0)))⟩ φ' a w':=fun e0 hrun=>by
  rw[nothing e0]
  have hsub:=Sub.blk (σ0:=Γ.σ0) (env:=env) (id:=id) (k:=1) (es:=(l.map f).map (·.map C.imm)) (es':=(l.map f).map (·.map C.imm)) hσ rfl (fun i e' he=>by
   rcases hR.st.blk _ _ hσ with⟨_,g2⟩|⟨_,_,_,_,_,_,_,g4,_⟩
   ·rw[g2] at he;simp at he
   ·exact g4 i e' he) (fun i e' o x' he hx'=>⟨e',x',he,hx',fun _ _ _ _ _ hr=>hr⟩)
  obtain⟨φ',hR'⟩:=hsub Γ sz φ a w rfl hR
  exact⟨_,w,φ',hrun,tupR,hR'⟩
 rcases ho with⟨p1,p2,p3,p4⟩|⟨b,base,cap,arr,ety,ad,hp,hvv,had,hcap,hmax,hjn,hbk,hsz⟩
 ·exact same p4 (by simp[execOp,resolve,invoke,builtin,p2,Builtin.clear_,run_underlying ht.h])
 ·by_cases e0:len.toNat=0
  ·refine same e0 ?_
   rw[e0] at hvv
   simp[execOp,resolve,invoke,builtin,hvv,Builtin.clear_,run_underlying ht.h]
  ·have hc0:0<cap:=by omega
   have:=had hc0
   subst this
   obtain⟨arr2,ety2,q1,q2,q3,q4⟩:=G1 hR hσ hp
   rw[hbk] at q1;cases q1
   simp only[eX] at q2 hjn
   have hst:=run_storeCells_at P b (base+off.toNat * 1) ety (eT len.toNat z) 0 arr w hbk (by simp;omega) (fun v hv=>by rw[fT hv];exact hzc)
   simp only[fM,Nat.mul_one,fK] at hst
   have hl1:∀b:α,((f b).map C.imm).length=(f b).length:=fun b=>by simp
   have hW:=Rs.write (k:=1) (es':=((clrL l off len a0).map f).map (·.map C.imm)) (arr':=(arr.toList.take (base+off.toNat)++eT len.toNat z++arr.toList.drop (base+off.toNat+len.toNat)).toArray) hR.toRs hσ hp hbk (by simp[clen]) (by simp;omega) (fun i e' he=>by
     simp only[fD,lM,oM] at he
     obtain⟨y,hy,rfl⟩:=he
     by_cases hyl:y ∈ l
     ·obtain⟨i',hi'⟩:=fo hyl
      exact q3 i' _ (by simp[hi'])
     ·have hy:=gg hy
      simp only[clrL,List.mem_append] at hy
      rcases hy with(hy|hy)|hy
      ·exact absurd (List.mem_of_mem_take hy) hyl
      ·rw[fT hy]
       simp only[eW,hf];rfl
      ·exact absurd (fN hy) hyl) (by simp;omega) (fun i e' o x' he hx'=>by
     simp only[fD,lM,oM,eW] at he
     obtain⟨y,hy,rfl⟩:=he
     simp only[List.getElem?_toArray]
     have hsp:=A8 arr.toList (eT len.toNat z) (base+off.toNat) (base+(i * 1+o)) (by simp;omega)
     simp only[fK] at hsp
     rw[hsp]
     have hy':(clrL l off len a0)[i]? =if off.toNat<=i/\i<off.toNat+len.toNat then some a0 else l[i]? :=by
      have:=A8 l (eT len.toNat a0) off.toNat i (by simp;omega)
      simp only[fK] at this
      rw[clrL,this]
      split
      ·rw[eY,if_pos (by omega)]
      ·rfl
     rw[hy'] at hy
     split at hy
     ·rename_i hi
      cases hy
      rw[hf] at hx'
      match o with
      |0=>
       cases hx'
       rw[if_pos (by omega),eY,if_pos (by omega)]
       exact⟨z,rfl,hrel _ _ _ _⟩
      |o+1=>simp at hx'
     ·rename_i hi
      have ho:o=0:=by
       have h1:=q3 i ((f y).map C.imm) (by simp[hy])
       have:=(lG.1 hx').1
       omega
      subst ho
      rw[if_neg (by omega)]
      obtain⟨u2,g1,g2⟩:=q4 i ((f y).map C.imm) 0 x' (by simp[hy]) hx'
      exact⟨u2,by simpa using g1,g2⟩)
   have hz:=N0 (P:=P) (t:=e) w
   refine⟨.tuple #[],_,φ,?_,tupR,hR.of hW.1 hW.2⟩
   have hne:¬ (len.toNat=0):=e0
   simp[execOp,resolve,invoke,builtin,hvv,Builtin.clear_,run_underlying ht.h,hz,hz1,zeroCells_one,hst]
end
end Ab
end
section
namespace Ab
open Go Go.Sort
def CmpOk{α:Type}(cmp:α->α->Option Int)(cf:α->α->Int):Prop:=(∀a b,cmp a b=some (cf a b))/\SWO (Go.Proofs.ltOf cf)/\∀a b,¬ cf a b<0->¬ cf b a<0->a=b
noncomputable def al8{α:Type}(cmp:α->α->Option Int)(l:List α):Option (List α):=open Classical in
 if h:l.length<4611686018427387904/\∃cf,CmpOk cmp cf then some (l.mergeSort fun x y=>decide (¬ h.2.choose y x<0)) else none
theorem sortFL_eq{α:Type}{cmp:α->α->Option Int}{cf:α->α->Int}{l:List α}(h:l.length<4611686018427387904)(hc:CmpOk cmp cf):al8 cmp l=some (l.mergeSort fun x y=>decide (¬ cf y x<0)):=by
 unfold al8
 have hx:l.length<4611686018427387904/\∃cf,CmpOk cmp cf:=⟨h,cf,hc⟩
 rw[dif_pos hx]
 have e:hx.2.choose=cf:=by
  funext a b
  have:=hx.2.choose_spec.1 a b
  rw[hc.1 a b] at this
  exact(Option.some.inj this).symm
 rw[e]
def lltB:Li->Li->Bool
 |[],[]=>false
 |[],_::_=>true
 |_::_,[]=>false
 |a::l,b::m=>if a<b then true else if a=b then lltB l m else false
def sortLL(l:LL):Option (LL):=if l.length<4611686018427387904 then some (srtB lltB l) else none
theorem sortFL_len{α:Type}{cmp:α->α->Option Int}{l l':List α}(h:al8 cmp l=some l'):l.length=l'.length:=by
 unfold al8 at h
 split at h
 ·cases h;simp
 ·cases h
def SortFOk(P:Program)(f:FuncId):Prop:=∀{α:Type} {g:FuncId} {g0:α->I} {cf:α->α->Int},P1 P g->SWO (Go.Proofs.ltOf cf)->(∀a b,¬ cf a b<0->¬ cf b a<0->a=b)->(∀a b,f7 P g [.c (.imm (g0 a)),.c (.imm (g0 b))] (.c (int (cf a b))))->
 ∀{σ:b6} {id:Id} {l:List α},σ[id]? =some (some (vec 1 (fun a=>[g0 a]) l))->l.length<4611686018427387904->
  FnOk P f [.c (.own id 0 l.length),.c (.fn g [])] σ fun r σ'=>r=.tup []/\σ'.length=σ.length/\∀i:Id,σ'[i]? =(σ.put id (some (vec 1 (fun a=>[g0 a]) (l.mergeSort fun x y=>decide (¬ cf y x<0)))))[i]?
section
variable {P:Program}{σ0:b6}{sz:Nat}{Q:Post}{env:Env}{σv σ':b6}{ops:Array Oper}{rest:List Oper}{dst:Option Nat}{ty:Ti}{pos:String}{after:Array Edge}
theorem S.sortF{α:Type}{f:α->List I}(g0:α->I){cmp:α->α->Option Int}{x:Od}{al:List Od}{ats:Array Ti}{fs g:FuncId}{id:Id}{n:Nat}{l l':List α}(hs:al8 cmp l=some l')(hfg:f=fun a=>[g0 a])
  (hcmp:∀{a b r},cmp a b=some r->f7 P g [.c (.imm (g0 a)),.c (.imm (g0 b))] (.c (int r))) (hf:SortFOk P fs) (hgn:P1 P g) (hx:ev env x=some (.c (.fn fs []))) (ha:evs env al=some [.c (.own id 0 n),.c (.fn g [])]) (hn:n=l.length) (hσ:σv[id]? =some (some (vec 1 f l)))
  (hd:g9 sz dst=true) (hσ':putF σv id (some (vec 1 f l'))=some σ') (h:AOps P σ0 sz ops Q rest (St.mk (putE env dst (.tup [])) σ')):
  AOps P σ0 sz ops Q (⟨dst,.call ⟨.value x,al.toArray,ats⟩,ty,pos,after,none⟩::rest) (St.mk env σv):=by
 have h2:=y6 hσ'
 subst h2 hn hfg
 unfold al8 at hs
 split at hs
 ·rename_i hx0
  cases hs
  obtain⟨c1,c2,c3⟩:=hx0.2.choose_spec
  refine AOps.callS hx ha hd (hf hgn c2 c3 (fun a b=>hcmp (c1 a b)) hσ hx0.1) ?_
  rintro r σ2 ⟨rfl,hl,he⟩
  refine AOps.sub (s':=⟨putE env dst (.tup []),σv.put id (some (vec 1 (fun a=>[g0 a]) (l.mergeSort fun x y=>decide (¬ hx0.2.choose y x<0))))⟩) ?_ h
  have:=Sub.same (σ0:=σ0) (env:=putE env dst (.tup [])) (σ1:=σ2) (σ2:=σv.put id (some (vec 1 (fun a=>[g0 a]) (l.mergeSort fun x y=>decide (¬ hx0.2.choose y x<0))))) (by rw[b6.length_put,hl]) he
  cases dst<;>exact this
 ·cases hs
end
/-! ### Views in chains -/
theorem Y5{α:Type}(l:List α):vw l 0 (l.length:Int)=some ():=by unfold vw;rw[if_pos];omega
theorem vw_cut{α:Type}{l:List α}{off len lo hi:Int}{u u':Unit}(h:vw l off len=some u)(hc:cutV len lo hi=some u'):vw l (off+lo) (hi - lo)=some ():=by
 have:=ac4 h;have:=at5 hc
 unfold vw;rw[if_pos];omega
theorem vw_to{α:Type}{l:List α}{off len hi:Int}{u u':Unit}(h:vw l off len=some u)(hc:cutV len 0 hi=some u'):vw l off hi=some ():=by
 have:=ac4 h;have:=at5 hc
 unfold vw;rw[if_pos];omega
theorem clrL_len{α:Type}{l:List α}{off len:Int}{u:Unit}{z:α}(h:vw l off len=some u):(clrL l off len z).length=l.length:=by
 have:=ac4 h
 simp[clrL];omega
end Ab
end
section
namespace Ab
open Go
def shlW(k:IntKind)(a b:Int):Int:=k.wrap (a * 2 ^ (min b.toNat k.bits))
def chk0(b:Int):Option Unit:=if b<0 then none else some ()
def chkN(b:Int):Option Unit:=if b=0 then none else some ()
theorem chk0_get{b:Int}{u:Unit}(h:chk0 b=some u):¬ b<0:=by
 unfold chk0 at h
 split at h
 ·cases h
 ·assumption
theorem chkN_get{b:Int}{u:Unit}(h:chkN b=some u):b ≠ 0:=by
 unfold chkN at h
 split at h
 ·cases h
 ·assumption
section
variable {P:Program}{σ0:b6}{sz:Nat}{Q:Post}{env:Env}{σv:b6}{ops:Array Oper}{rest:List Oper}{dst:Option Nat}{ty:Ti}{pos:String}{after:Array Edge}
theorem S.shl{t t':Ti}{x y:Od}{k k':IntKind}{a b:Int}{u:Unit}(hb:chk0 b=some u)(hx:ev env x=some (.c (.imm (.val (.int k a)))))(hy:ev env y=some (.c (.imm (.val (.int k' b)))))(hd:g9 sz dst=true)
  (h:AOps P σ0 sz ops Q rest (St.mk (putE env dst (.c (.imm (.val (.int k (shlW k a b)))))) σv)):AOps P σ0 sz ops Q (⟨dst,.binOp .shl t x y t',ty,pos,after,none⟩::rest) (St.mk env σv):=
 .bin hx hy hd rfl (fun w=>by simp[go_sem]) (fun w=>by simp[binOp,Op.shift,chk0_get hb,shlW]) h
theorem S.quo{t t':Ti}{x y:Od}{k:IntKind}{a b:Int}{u:Unit}(hb:chkN b=some u)(hx:ev env x=some (.c (.imm (.val (.int k a)))))(hy:ev env y=some (.c (.imm (.val (.int k b)))))(hd:g9 sz dst=true)
  (h:AOps P σ0 sz ops Q rest (St.mk (putE env dst (.c (.imm (.val (.int k (k.wrap (a.tdiv b))))))) σv)):AOps P σ0 sz ops Q (⟨dst,.binOp .quo t x y t',ty,pos,after,none⟩::rest) (St.mk env σv):=.quoW hx hy hd (chkN_get hb) h
end
section
variable {P:Program}{σ0:b6}{sz:Nat}{Q:Post}{env env':Env}{σv σ':b6}
theorem Sub.virtB{α:Type}(k:Nat)(f:α->List I){b n:Id}{kb o:Nat}{cs cs':List C}{σ1:b6}(hb:σv[b]? =some (some (.cells kb [cs])))(hc:cs[o]? =some (.imm (.val (.slice none 0 0))))(hn:newF σv=some n)(h1:s5 σv (.one (vec k f []))=some σ1)
  (hs:setF cs o (.own n 0 ([]:List α).length)=some cs') (hσ':putF σ1 b (some (.cells kb [cs']))=some σ'):Sub σ0 ⟨env,σv⟩ ⟨env,σ'⟩:=fun Γ sz φ a w hΓ hR=>by
 have g1:=y8 hn;have g2:=r8 h1;have g3:=J9 hs;have g4:=y6 hσ'
 obtain⟨g3,g3'⟩:=g3
 subst g1 g2 g3 g4
 have hbl:=b6.lt_of hb
 have hV:=hR.toRs.virt k
 have hb':(σv++[.one (vec k f [])])[b]? =some (some (.cells kb [cs])):=by rw[b6.get_left hbl];exact hb
 have e0:(σv++[.one (.cells k [])]:b6)=σv++[.one (vec k f [])]:=rfl
 rw[e0] at hV
 generalize hφ:(fun i=>if i=((σv.length,[]):Id) then none else φ i)=φ' at hV
 have φn:φ' (σv.length,[])=none:=by rw[<- hφ];simp
 rcases hV.2.st.blk _ _ hb' with⟨_,g⟩|⟨b0,base,arr,ety,q1,q2,q3,q4,q5⟩
 ·cases g
 ·have hW:=Rs.write (k:=kb) (es':=[cs.set o (.own (σv.length,[]) 0 ([]:List α).length)]) (arr':=arr) hV.2 hb' q1 q2 rfl rfl (fun j e he=>by
   match j with
   |0=>
    cases he
    rw[lS]
    exact q4 0 cs rfl
   |j+1=>simp at he) (by simpa using q3) (fun j e i x he hx=>by
   match j with
   |0=>
    cases he
    rw[eG] at hx
    split at hx
    ·rename_i e
     subst e
     cases hx
     obtain⟨u,hu,hr⟩:=q5 0 cs o _ rfl hc
     refine⟨u,hu,?_⟩
     cases hr with|imm hr=>cases hr with|val h=>
      exact .own (by simp) rfl fun k' es' _=>.inl ⟨φn,rfl,rfl,rfl⟩
    ·exact q5 0 cs i x rfl hx
   |j+1=>simp at he)
  rw[Go.setRow_self w b0 arr ety (0,0) q2] at hW
  exact⟨φ',(hR.of hV.1 hV.2).of hW.1 hW.2⟩
theorem AWP.virtB{α:Type}{c:Code}(k:Nat)(f:α->List I){b n:Id}{kb o:Nat}{cs cs':List C}{σ1:b6}(hb:σv[b]? =some (some (.cells kb [cs])))(hc:cs[o]? =some (.imm (.val (.slice none 0 0))))(hn:newF σv=some n)(h1:s5 σv (.one (vec k f []))=some σ1)
  (hs:setF cs o (.own n 0 ([]:List α).length)=some cs') (hσ':putF σ1 b (some (.cells kb [cs']))=some σ') (h:AWP P σ0 sz c Q ⟨env,σ'⟩):AWP P σ0 sz c Q ⟨env,σv⟩:=AWP.sub (Sub.virtB k f hb hc hn h1 hs hσ') h
def NilB:List C->List C->Prop
 |[],[]=>True
 |c::r,c'::r'=>(c'=c\/c=.imm (.val (.slice none 0 0))/\∃k,c'=.imm (.sl k []))/\NilB r r'
 |_,_=>False
theorem NilB.len:∀{l l':List C},NilB l l'->l'.length=l.length
 |[],[],_=>rfl
 |_::r,_::r',⟨_,h⟩=>by simp[NilB.len h]
 |[],_::_,h=>h.elim
 |_::_,[],h=>h.elim
theorem NilB.get:∀{l l':List C},NilB l l'->∀(o:Nat) (x:C),l'[o]? =some x->∃x0,l[o]? =some x0/\(x=x0\/x0=.imm (.val (.slice none 0 0))/\∃k,x=.imm (.sl k []))
 |[],[],_,o,x,h=>by simp at h
 |c::r,c'::r',⟨h1,h2⟩,o,x,h=>by
  match o with
  |0=>cases h;exact⟨c,rfl,h1⟩
  |o+1=>simpa using NilB.get h2 o x (by simpa using h)
 |[],_::_,h,_,_,_=>h.elim
 |_::_,[],h,_,_,_=>h.elim
theorem Sub.nilB{b:Id}{kb:Nat}{cs:List C}(cs':List C)(hb:σv[b]? =some (some (.cells kb [cs])))(h:NilB cs cs')(hlen:cs.length=kb)(hσ':putF σv b (some (.cells kb [cs']))=some σ'):Sub σ0 ⟨env,σv⟩ ⟨env,σ'⟩:=by
 have g:=y6 hσ'
 subst g
 refine Sub.blk hb rfl (fun j e he=> ?_) (fun j e o x he hx=> ?_)
 ·match j with
  |0=>cases he;rw[h.len,hlen]
  |j+1=>simp at he
 ·match j with
  |0=>
   cases he
   obtain⟨x0,h1,h2⟩:=h.get o x hx
   refine⟨cs,x0,rfl,h1,fun w φ σ A u hr=> ?_⟩
   rcases h2 with rfl|⟨rfl,k,rfl⟩
   ·exact hr
   ·cases hr with|imm hr=>cases hr with|val=>exact .imm .slNil
  |j+1=>simp at he
theorem AWP.nilB{c:Code}{b:Id}{kb:Nat}{cs:List C}(cs':List C)(hb:σv[b]? =some (some (.cells kb [cs])))(h:NilB cs cs')(hlen:cs.length=kb)(hσ':putF σv b (some (.cells kb [cs']))=some σ')(hn:AWP P σ0 sz c Q ⟨env,σ'⟩):AWP P σ0 sz c Q ⟨env,σv⟩:=AWP.sub (Sub.nilB cs' hb h hlen hσ') hn
end
end Ab
end
section
namespace Ab
open Go
section
variable {P:Program}{σ0:b6}{sz:Nat}{Q:Post}{env env':Env}{σv σ':b6}{α:Type}{f:α->List I}{k:Nat}{l:List α}{id:Id}
end
end Ab
end
section
namespace Ab
open Go
section
variable {α:Type}{f:α->List I}{l:List α}{p m:Nat}{n id:Id}
abbrev vecS(f:α->List I)(l:List α)(p:Nat)(n:Id)(m:Nat):Blk:=.cells 1 (((l.map f).map (·.map C.imm)).set p [.own n 0 m])
theorem mem_set{β:Type}{x a:β}:∀{l:List β} {p:Nat},x ∈ l.set p a->x ∈ l\/x=a
 |[],_,h=>by simp at h
 |b::l,0,h=>by
  rcases gi.1 h with h|h
  ·exact .inr h
  ·exact .inl (fO _ h)
 |b::l,p+1,h=>by
  rcases gi.1 h with h|h
  ·exact .inl (h ▸ List.mem_cons_self ..)
  ·rcases mem_set h with h|h
   ·exact .inl (fO _ h)
   ·exact .inr h
theorem vs_no(h:idb n id=false):(vecS f l p n m).no id=true:=by
 simp only[Blk.no,eK]
 intro e he
 rcases mem_set he with h1|rfl
 ·have:=Blk.im_no id 1 (l.map f)
  simp only[Blk.im,Blk.no,eK] at this
  exact this e h1
 ·simp[C.noL,C.no,h]
theorem FrzB.vs{X:C->C->Prop}(h:idb n id=false):FrzB id X (.one (vecS f l p n m)) (.one (vecS f l p n m)):=by
 have hno:=vs_no (f:=f) (l:=l) (p:=p) (m:=m) h
 have imm:∀e ∈ ((l.map f).map (·.map C.imm)).set p [.own n 0 m],FrzL id X e e:=fun e he=>by
  rcases mem_set he with h1|rfl
  ·simp only[fD,fU,eW] at h1
   obtain⟨a,_,rfl⟩:=h1
   exact FrzL.imm _
  ·exact⟨.inl ⟨rfl,by simp[C.no,h]⟩,Y⟩
 unfold FrzB
 split
 ·rename_i h1 _;cases h1
 ·rename_i k1 e k2 e' h1 h2
  simp only[Ent.one.injEq,Blk.cells.injEq] at h1 h2
  obtain⟨rfl,h1⟩:=h1
  obtain⟨rfl,h2⟩:=h2
  have:e=e':=by rw[h1] at h2;simpa using h2
  subst this
  exact⟨rfl,imm e (by rw[h1];simp)⟩
 ·rename_i h1 h2
  cases h1;cases h2
  exact⟨rfl,hno⟩
 ·rename_i h1;cases h1
 ·rename_i h1 h2 h3 h4
  first|exact(h3 _ _ rfl rfl).elim|exact(h4 _ _ rfl rfl).elim|exact(h2 _ _ rfl rfl).elim
end
section
variable {P:Program}{σ0:b6}{sz:Nat}{Q:Post}{env:Env}{σv σ':b6}{ops:Array Oper}{rest:List Oper}{dst:Option Nat}{ty:Ti}{pos:String}{after:Array Edge}
variable {α β:Type}{f:α->List I}{l:List α}{p m:Nat}{n id:Id}
inductive FrzE(id:Id)(k:Nat)(es:List (List I))(X:C->C->Prop):Ent->Ent->Prop
 |old {e e':Ent} (h:FrzB id X e e'):FrzE id k es X e e'
 |vs {α:Type} {f:α->List I} {l:List α} {p m:Nat} {b:Blk} (h:Blk.frz id k es (vecS f l p id m)=b):FrzE id k es X (.one (vecS f l p id m)) (.one b)
 |any {e e':Ent} (h:∀p,(e.sub p).map (Blk.frz id k es)=e'.sub p):FrzE id k es X e e'
def FrzS2(id:Id)(k:Nat)(es:List (List I))(X:C->C->Prop):b6->b6->Prop
 |[],[]=>True
 |b::r,b'::r'=>FrzE id k es X b b'/\FrzS2 id k es X r r'
 |_,_=>False
theorem FrzE.get{k:Nat}{es:List (List I)}{X:C->C->Prop}(hX:∀c c',X c c'->c.frz id k es=c'){e e':Ent}(h:FrzE id k es X e e')(p:List Nat):(e.sub p).map (Blk.frz id k es)=e'.sub p:=by
 cases h with
 |old h=>exact FrzB.get hX h p
 |any h=>exact h p
 |vs h=>
  cases p with
  |nil=>simp only[Ent.sub,eJ,h]
  |cons=>rfl
theorem FrzS2.get{k:Nat}{es:List (List I)}{X:C->C->Prop}(hX:∀c c',X c c'->c.frz id k es=c'):∀{σ σ2:b6},FrzS2 id k es X σ σ2->∀i:Id,(σ[i]?).map (Option.map (Blk.frz id k es))=σ2[i]?
 |[],[],_,i=>rfl
 |[],_::_,h,_=>h.elim
 |_::_,[],h,_=>h.elim
 |e::r,e'::r',h,(0,p)=>by
  rw[b6.at_eq,b6.at_eq]
  simp only[b6.at,fe,eJ,FrzE.get hX h.1 p]
 |e::r,e'::r',h,(i+1,p)=>by
  have:=FrzS2.get hX h.2 (i,p)
  rw[b6.at_eq,b6.at_eq] at this ⊢
  simpa[b6.at] using this
theorem FrzS2.len{k:Nat}{es:List (List I)}{X:C->C->Prop}:∀{σ σ2:b6},FrzS2 id k es X σ σ2->σ2.length=σ.length
 |[],[],_=>rfl
 |[],_::_,h=>h.elim
 |_::_,[],h=>h.elim
 |e::r,e'::r',h=>by simp[FrzS2.len h.2]
theorem Sub.frzW{g:β->List I}{M:List β}{k:Nat}{env2:Env}{σ1 σ2:b6}(hid:fu σ0.length id.1=true)(hσ:σv[id]? =some (some (vec k g M)))(henv:U7 id (XRow id M.length (row k g M)) env env2)(h1:putF σv id none=some σ1)(hst:FrzS2 id k (M.map g) (XRow id M.length (row k g M)) σ1 σ2):Sub σ0 ⟨env,σv⟩ ⟨env2,σ2⟩:=by
 have h2:=y6 h1
 subst h2
 have hX:=XRow.eq (f:=g) (l:=M) (id:=id) (k:=k)
 have hf:=Sub.frz (σ0:=σ0) (s:=⟨env,σv⟩) id k (M.map g) (eO hid) hσ
 have hs:Sub σ0 (St.frz ⟨env,σv⟩ id k (M.map g)) ⟨env.map fun p=>(p.1,p.2.frz id k (M.map g)),σ2⟩:=Sub.same (by rw[hst.len];simp[St.frz]) (fun i=>by rw[<- FrzS2.get hX hst i,b6.get_map])
 refine(hf.trans hs).trans (fun _ _ φ _ _ _ hR=>⟨φ,{toRs:=hR.toRs,defers:=hR.defers,asize:=hR.asize,env:=fun t v ht=>hR.env t v ?_}⟩)
 show lookup t (env.map fun p=>(p.1,p.2.frz id k (M.map g)))=some v
 rw[al6 (fun v=>v.frz id k (M.map g))]
 exact U7.get hX henv t v ht
theorem AWP.frzW{c:Code}{g:β->List I}{M:List β}{k:Nat}{env2:Env}{σ1 σ2:b6}(hid:fu σ0.length id.1=true)(hσ:σv[id]? =some (some (vec k g M)))(henv:U7 id (XRow id M.length (row k g M)) env env2)(h1:putF σv id none=some σ1)(hst:FrzS2 id k (M.map g) (XRow id M.length (row k g M)) σ1 σ2)
  (h:AWP P σ0 sz c Q (St.mk env2 σ2)):AWP P σ0 sz c Q (St.mk env σv):=AWP.sub (Sub.frzW hid hσ henv h1 hst) h
end
end Ab
end
section
namespace Ab
open Go
def slotsP:List (Nat×Option Nat)->List Vl->Array Vl->Prop
 |[],_,_=>True
 |(t,none)::r,us,a=>(∃u,us.head? =some u/\a[t]? =some u)/\slotsP r us.tail a
 |(t,some n)::r,us,a=>((us.take n).length=n/\a[t]? =some (.agg (us.take n).toArray))/\slotsP r (us.drop n) a
def slotE:List (Nat×Option Nat)->List C->Env
 |[],_=>[]
 |(_,none)::_,[]=>[]
 |(t,none)::r,c::cs=>(t,.c c)::slotE r cs
 |(t,some n)::r,cs=>match eN (cs.take n).length n with
  |true=>(t,.agg (cs.take n))::slotE r (cs.drop n)
  |false=>[]
def slotC:List (Nat×Option Nat)->Env->Option (List C)
 |[],_=>some []
 |(t,none)::r,env=>match lookup t env,slotC r env with
  |some (.c c),some cs=>some (c::cs)
  |_,_=>none
 |(t,some n)::r,env=>match lookup t env,slotC r env with
  |some (.agg l),some cs=>match eN l.length n with
   |true=>some (l++cs)
   |false=>none
  |_,_=>none
section
variable {w:World}{φ:Phi}{σ:b6}{A:Nat->Prop}
theorem slot_env:∀(sh:List (Nat×Option Nat)) {us:List Vl} {a:Array Vl} {cs:List C},slotsP sh us a->(∀(i:Nat) (x:C),cs[i]? =some x->∃u,us[i]? =some u/\RelC w φ σ A x u)->
  ∀(t:Nat) (v:T),lookup t (slotE sh cs)=some v->∃u,a[t]? =some u/\RelT w φ σ A v u
 |[],us,a,cs,_,_,t,v,h=>by simp[slotE,lookup] at h
 |(s,none)::r,us,a,[],_,_,t,v,h=>by simp[slotE,lookup] at h
 |(s,none)::r,us,a,c::cs,hs,hr,t,v,h=>by
  simp only[slotE,lookup] at h
  obtain⟨⟨u,hu,ha⟩,hs⟩:=hs
  obtain⟨u0,hu0,hr0⟩:=hr 0 c rfl
  rw[List.head?_eq_getElem?] at hu
  rw[hu] at hu0;cases hu0
  split at h
  ·rename_i e
   cases h
   have:=eP e
   subst this
   exact⟨u,ha,.c hr0⟩
  ·exact slot_env r hs (fun i x hx=>by
    obtain⟨u,g1,g2⟩:=hr (i+1) x hx
    exact⟨u,by rw[<- g1];cases us<;>simp,g2⟩) t v h
 |(s,some n)::r,us,a,cs,hs,hr,t,v,h=>by
  simp only[slotE] at h
  obtain⟨⟨hl,ha⟩,hs⟩:=hs
  cases hb:eN (cs.take n).length n with
  |false=>rw[hb] at h;simp[lookup] at h
  |true=>
   rw[hb] at h
   have hlen:=eP hb
   simp only[lookup] at h
   split at h
   ·rename_i e
    cases h
    have:=eP e
    subst this
    refine⟨_,ha,RelT.agg' (by rw[hl,hlen]) fun i c v hc hv=> ?_⟩
    rw[eS] at hc hv
    split at hc
    ·rename_i hi
     rw[if_pos hi] at hv
     obtain⟨u,g1,g2⟩:=hr i c hc
     rw[hv] at g1;cases g1;exact g2
    ·cases hc
   ·exact slot_env r hs (fun i x hx=>by
     rw[eV] at hx
     obtain⟨u,g1,g2⟩:=hr _ x hx
     exact⟨u,by rw[eV];exact g1,g2⟩) t v h
theorem slot_mk:∀(sh:List (Nat×Option Nat)) {env:Env} {a:Array Vl} {cs:List C},(∀t v,lookup t env=some v->∃u,a[t]? =some u/\RelT w φ σ A v u)->slotC sh env=some cs->
  ∃us,slotsP sh us a/\us.length=cs.length/\∀(i:Nat) (x:C),cs[i]? =some x->∃u,us[i]? =some u/\RelC w φ σ A x u
 |[],env,a,cs,_,h=>by cases h;exact⟨[],trivial,rfl,fun i x hx=>by simp at hx⟩
 |(s,none)::r,env,a,cs,he,h=>by
  simp only[slotC] at h
  split at h<;>cases h
  rename_i c cs' h1 h2
  obtain⟨us,g1,g0,g2⟩:=slot_mk r he h2
  obtain⟨u,k1,k2⟩:=he s _ h1
  cases k2 with|c k2=>
  refine⟨u::us,⟨⟨u,rfl,k1⟩,g1⟩,by simp[g0],fun i x hx=> ?_⟩
  match i with
  |0=>cases hx;exact⟨u,rfl,k2⟩
  |i+1=>exact g2 i x hx
 |(s,some n)::r,env,a,cs,he,h=>by
  simp only[slotC] at h
  split at h
  ·rename_i l cs' h1 h2
   split at h<;>cases h
   rename_i hb
   have hn:=eP hb
   obtain⟨us,g1,g0,g2⟩:=slot_mk r he h2
   obtain⟨u,k1,k2⟩:=he s _ h1
   obtain⟨vs,rfl,k3,k4⟩:=RelT.agg_inv k2
   have hvn:vs.length=n:=by omega
   refine⟨vs++us,⟨⟨by rw[List.take_left' hvn];exact hvn,by rw[List.take_left' hvn];exact k1⟩,by rw[List.drop_left' hvn];exact g1⟩,by simp[g0,k3],fun i x hx=> ?_⟩
   rw[eZ] at hx ⊢
   rw[k3]
   split at hx
   ·rename_i hi;rw[if_pos hi];exact k4 i x hx
   ·rename_i hi;rw[if_neg hi];exact g2 _ x hx
  ·cases h
end
def loopP(szc:Nat)(ps:List Nat)(asg body:Code)(st:LoopState)(pend:Option Code)(sh:List (Nat×Option Nat)):Obj->List Vl->Prop:=fun o us=>
 ∃r:Go.Loop,o=.loop r/\r.state=st/\r.pending=pend/\r.params=ps.toArray/\r.assign=asg/\r.body=body/\r.tmps.size=szc/\slotsP sh us r.tmps
abbrev p8(szc:Nat)(ps:List Nat)(asg body:Code)(st:LoopState)(pend:Option Code)(sh:List (Nat×Option Nat))(cs:List C):Blk:=.obj (loopP szc ps asg body st pend sh) cs
def zipE:List Nat->List T->Env->Env
 |p::ps,t::ts,E=>zipE ps ts ((p,t)::E)
 |_,_,E=>E
theorem zip_env{w:World}{φ:Phi}{σ:b6}{A:Nat->Prop}{szc:Nat}:∀(ps:List Nat) (ts:List T) (us:List Vl) (E:Env) (a:Array Vl),a.size=szc->ts.length=us.length->(∀p ∈ ps,p<szc)->
  (∀(i:Nat) (t:T) (u:Vl),ts[i]? =some t->us[i]? =some u->RelT w φ σ A t u)->(∀t v,lookup t E=some v->∃u,a[t]? =some u/\RelT w φ σ A v u)->
  ((ps.zip us).foldl (fun tmps (t,a)=>tmps.setIfInBounds t a) a).size=szc/\
  ∀t v,lookup t (zipE ps ts E)=some v->∃u,((ps.zip us).foldl (fun tmps (t,a)=>tmps.setIfInBounds t a) a)[t]? =some u/\RelT w φ σ A v u
 |[],ts,us,E,a,hz,_,_,_,he=>⟨by simpa using hz,fun t v h=>by simpa using he t v (by cases ts<;>exact h)⟩
 |p::ps,[],us,E,a,hz,hl,_,_,he=>by
  cases us with
  |nil=>exact⟨by simpa using hz,fun t v h=>by simpa using he t v h⟩
  |cons u us=>simp at hl
 |p::ps,t::ts,us,E,a,hz,hl,hp,hr,he=>by
  cases us with
  |nil=>simp at hl
  |cons u us=>
   simp only[List.zip_cons_cons,List.foldl_cons,zipE]
   refine zip_env ps ts us _ _ (by simpa using hz) (by simpa using hl) (fun q hq=>hp q (fO _ hq)) (fun i t u h1 h2=>hr (i+1) t u h1 h2) (fun s v h=> ?_)
   simp only[lookup] at h
   split at h
   ·rename_i e
    cases h
    have:=eP e
    subst this
    have hlt:p<a.size:=by rw[hz];exact hp p (by simp)
    exact⟨u,by simp[hlt],hr 0 _ u rfl rfl⟩
   ·rename_i e
    obtain⟨y,hy,hr'⟩:=he s v h
    have hne:p ≠ s:=fun e'=>by subst e';simp at e
    exact⟨y,by simp[hne,hy],hr'⟩
theorem b6.put2(σ:b6)(n:Nat)(b b':Option Blk):(σ.put (n,[]) b).put (n,[]) b'=σ.put (n,[]) b':=by
 have:∀e:Ent,(e.put [] b).put [] b'=e.put [] b':=fun e=>by cases e<;>cases b<;>rfl
 apply eI
 intro i
 simp only[b6.put,fp]
 cases hs:σ[i]? with
 |none=>simp
 |some e=>by_cases hi:n=i<;>simp[hi,this]
theorem Rs.allocU {Γ : Cx} {σ : b6} {φ : Phi} {w : World} (h : Rs Γ σ φ w) (obj : Obj) : Kept w (w.alloc obj) φ φ σ σ (Al Γ.N φ σ) (Al Γ.N φ σ) /\ Rs Γ σ φ (w.alloc obj) := by
  have old : ∀ b, b < w.heap.size -> (w.alloc obj).heap[b]? = w.heap[b]? := fun b hb => by first | exact heap_alloc_old w _ hb | exact heap_alloc_old w _ _ hb
  have hK : Kept w (w.alloc obj) φ φ σ σ (Al Γ.N φ σ) (Al Γ.N φ σ) :=
    { imm := fun b _ hl => old b hl, all := fun b hb _ => hb, len := fq _,
      cells := fun i kk es' hi he => ⟨es', he, rfl, rfl, fun b base arr ety hp hb => ⟨arr, (old b (Al.own_lt h.st he hp)).trans hb, rfl⟩⟩,
      obj := fun i p' cs' hi he => ⟨rfl, p', cs', he⟩ }
  refine ⟨hK, ?_⟩
  exact { good := h.good, st := ⟨fun i b hi => (h.st.blk i b hi).mono hK fun g base hp => old g (Al.own_lt h.st hi hp), h.st.inj⟩,
          keep := h.keep, os := h.os, tape := h.tape, drawn := h.drawn, output := h.output, size := gj h.size (by simp),
          block := fun b hKb => (old b (gl hKb.1 h.size)).trans (h.block b hKb), kept := Kept.trans h.size h.kept hK }
section
variable {P:Program}{σ0:b6}{sz:Nat}{Q:Post}{env env':Env}{σv σ' σb:b6}{ops:Array Oper}{rest:List Oper}{dst:Option Nat}{ty:Ti}{pos:String}{after:Array Edge}
variable {szc:Nat}{ps:List Nat}{asg body:Code}{sh:List (Nat×Option Nat)}{cs:List C}
theorem yld_inv{w:World}{φ:Phi}{σ:b6}{A:Nat->Prop}{id:Id}{p:Obj->List Vl->Prop}{u:Vl}(h:RelT w φ σ A (.c (.yld id)) u)(hσ:σ[id]? =some (some (.obj p cs))):∃b base,φ id=some (b,base)/\u=.func (.yield b) #[] #[]:=by
 cases h with|c h=>cases h with|yld hid h1 h=>exact h _ _ hσ
def yPost(P:Program)(σ0:b6)(sz:Nat)(Q:Post)(ops:Array Oper)(rest:List Oper)(env:Env)(dst:Option Nat)(id:Id)(szc:Nat)(ps:List Nat)(asg body:Code)(sh:List (Nat×Option Nat)):Post:=fun e s'=>
 ∃cs',s'.σ[id]? =some (some (p8 szc ps asg body .busy none sh cs'))/\match e with
 | .normal=>AOps P σ0 sz ops Q rest ⟨putE env dst (.c (bool true)),s'.σ.put id (some (p8 szc ps asg body .ready none sh cs'))⟩
 | .ret=>AOps P σ0 sz ops Q rest ⟨putE env dst (.c (bool false)),s'.σ.put id (some (p8 szc ps asg body .done (some .ret) sh cs'))⟩
 | .exit i=>AOps P σ0 sz ops Q rest ⟨putE env dst (.c (bool false)),s'.σ.put id (some (p8 szc ps asg body .done (some (.exit i)) sh cs'))⟩
 |_=>False
theorem AOps.yield{x:Od}{as':List Od}{ats:Array Ti}{id:Id}{ts:List T}{E1:Env}{σ1:b6}(hx:ev env x=some (.c (.yld id)))(ha:evs env as'=some ts)(hσ:σv[id]? =some (some (p8 szc ps asg body .ready none sh cs)))
  (hl:eN ts.length ps.length=true) (hps:ps.all (fun p=>eU p szc)=true) (hna:N1 asg=false) (hnr:N1 body=false) (hd:g9 sz dst=true) (hσ1:σ1[id]? =some (some (p8 szc ps asg body .ready none sh cs))) (hσb:σ1.put id (some (p8 szc ps asg body .busy none sh cs))=σb)
  (hass:AWP P σv szc asg (fun e s'=>e=.normal/\s'=St.mk E1 σ1) ⟨zipE ps ts (slotE sh cs),σv⟩)
  (h:AWP P σv szc body (yPost P σ0 sz Q ops rest env dst id szc ps asg body sh) ⟨E1,σb⟩):
  AOps P σ0 sz ops Q (⟨dst,.call ⟨.value x,as'.toArray,ats⟩,ty,pos,after,none⟩::rest) (St.mk env σv):=fun Γ φ a w hΓ hR ro=>by
 subst hσb
 obtain⟨b,base,hp,hv⟩:=yld_inv (j7 hR hx) hσ
 obtain⟨b',o,us,g1,g2,⟨r,rfl,r1,r2,r3,r4,r5,r6,r7⟩,g3⟩:=hR.st.blk _ _ hσ
 rw[hp] at g1;cases g1
 obtain⟨k1,k2⟩:=evs_rel hR ha
 have hlen:ts.length=ps.length:=eP hl
 have hrun:(execOp a.eval ⟨dst,.call ⟨.value x,as'.toArray,ats⟩,ty,pos,after,none⟩).run P w=.ok (.round b r.fn ((ps.zip (as'.map a.eval)).foldl (fun tmps (t,a)=>tmps.setIfInBounds t a) r.tmps) asg body) w:=by
  have:=run_yield (P:=P) (args:=(as'.map a.eval).toArray) g2 (by rw[r3];simp;omega)
  rw[r3,r4,r5] at this
  simp only[List.zip_toArray,List.foldl_toArray] at this
  simp[execOp,resolve,hv,Deferred.ofValue,invoke,this]
 refine W2 rfl ⟨fun _ _=>Y,?_⟩
 rw[sem_ro hrun (fun d=>nofun),Oper.uponIn_round]
 have hz:=zip_env (w:=w) (φ:=φ) (σ:=σv) (A:=Al Γ.N φ σv) (szc:=szc) ps ts (as'.map a.eval) (slotE sh cs) r.tmps r6 (by simp[k1]) (fun p hp=>by
   have:=eK.1 hps p hp
   simpa using this) k2 (slot_env sh r7 g3)
 have hR1:R ⟨w,Γ.N,φ,σv⟩ szc ⟨zipE ps ts (slotE sh cs),σv⟩ φ {tmps:=(ps.zip (as'.map a.eval)).foldl (fun tmps (t,a)=>tmps.setIfInBounds t a) r.tmps,defers:=[]} w:=
  {toRs:=hR.toRs.down.rs,defers:=.nil,asize:=hz.1,env:=hz.2}
 have hid:id.1<σv.length:=b6.lt_of hσ
 refine⟨fun h=>by simp at h,roundIn_of_wpIn (F:=fw ro) Y (wpIn_mono (hass _ φ _ _ rfl hR1 (some b) (fun e=>by rw[hna] at e;cases e)) ?_)⟩
 rintro e a1 w1 ⟨s1,φ1,⟨rfl,rfl⟩,hR1⟩
 have hφ1:φ1 id=some (b,0):=((hR1.toRs.kept.obj id _ _ hid hσ1).1).trans hp
 obtain⟨b',o,us,q1,q2,⟨r',rfl,r1,r2,r3,r4,r5,r6,r7⟩,q3⟩:=hR1.st.blk _ _ hσ1
 rw[hφ1] at q1;cases q1
 have hW:=Rs.writeB (q1:=loopP szc ps asg body .busy none sh) (cs1:=cs) (o1:=.loop {r' with state:=.busy}) hR1.toRs hσ1 hφ1 q2 ⟨{r' with state:=.busy},rfl,rfl,r2,r3,r4,r5,r6,r7⟩ q3
 refine⟨_,run_beginRound (P:=P) q2 r1,?_⟩
 refine wpIn_mono (h _ φ1 _ _ rfl (hR1.of hW.1 hW.2) (some b) (fun e=>by rw[hnr] at e;cases e)) ?_
 rintro e a' w' ⟨s',φ',⟨cs',hσ',hm⟩,hR'⟩
 have hφ:φ' id=some (b,0):=((hR'.toRs.kept.obj id _ _ hid hσ').1).trans hp
 obtain⟨b',o,us',q1,q2,⟨r'',rfl,p1,p2,p3,p4,p5,p6,p7⟩,q3⟩:=hR'.st.blk _ _ hσ'
 rw[hφ] at q1;cases q1
 have fin:∀(jump:Option Code) (st:LoopState),st=(if jump.isNone then .ready else .done)->AOps P σ0 sz ops Q rest ⟨putE env dst (.c (bool jump.isNone)),s'.σ.put id (some (p8 szc ps asg body st jump sh cs'))⟩->
   ∃v w'',(Instr.endRound b jump).run P w'=.ok v w''/\wpListIn (fw ro) 0 P ops (lift Γ sz Q) rest (a.put dst v) w'':=fun jump st hst hA=>by
  subst hst
  have hE:=Rs.writeB (q1:=loopP szc ps asg body (if jump.isNone then .ready else .done) jump sh) (cs1:=cs') (o1:=.loop {r'' with state:=if jump.isNone then .ready else .done,pending:=jump}) hR'.toRs hσ' hφ q2 ⟨_,rfl,rfl,rfl,p3,p4,p5,p6,p7⟩ q3
  refine⟨_,_,run_endRound jump q2,?_⟩
  exact hA Γ φ' _ _ hΓ ((hR.of hE.2.kept (hR.toRs.up hE.2)).put hd (.bool _)) ro
 cases e with
 |normal=>exact fin none .ready rfl hm
 |ret=>exact fin (some .ret) .done rfl hm
 |exit i=>exact fin (some (.exit i)) .done rfl hm
 |goto t=>exact hm.elim
 |panic c=>exact hm.elim
 |outgrown=>exact hm.elim
theorem Q3{id:Id}{env2:Env}{σ2 σ3:b6}(hσ:σ2[id]? =some (some (p8 szc ps asg body .busy none sh cs)))(h3:σ2.put id (some (p8 szc ps asg body .ready none sh cs))=σ3)
  (h:AOps P σ0 sz ops Q rest (St.mk (putE env dst (.c (bool true))) σ3)):yPost P σ0 sz Q ops rest env dst id szc ps asg body sh .normal (St.mk env2 σ2):=⟨cs,hσ,by subst h3;exact h⟩
theorem yPost_ret{id:Id}{env2:Env}{σ2 σ3:b6}(hσ:σ2[id]? =some (some (p8 szc ps asg body .busy none sh cs)))(h3:σ2.put id (some (p8 szc ps asg body .done (some .ret) sh cs))=σ3)
  (h:AOps P σ0 sz ops Q rest (St.mk (putE env dst (.c (bool false))) σ3)):yPost P σ0 sz Q ops rest env dst id szc ps asg body sh .ret (St.mk env2 σ2):=⟨cs,hσ,by subst h3;exact h⟩
def rPost(P:Program)(σ0:b6)(sz:Nat)(Q:Post)(env:Env)(n:Nat)(ps:List Nat)(asg body:Code)(sh:List (Nat×Option Nat))(σ':b6):Prop:=
 ∃st pend cs',st ≠ .busy/\σ'[((n,[]):Id)]? =some (some (p8 sz ps asg body st pend sh cs'))/\match pend with
 |none=>Q .normal ⟨env,σ'.put (n,[]) none⟩
 |some c=>AWP P σ0 sz c Q ⟨env,σ'.put (n,[]) none⟩
theorem al3{n:Nat}{σ2 σ3:b6}(hσ:σ2[((n,[]):Id)]? =some (some (p8 sz ps asg body .ready none sh cs)))(h3:σ2.put (n,[]) none=σ3)(h:Q .normal (St.mk env σ3)):rPost P σ0 sz Q env n ps asg body sh σ2:=
 ⟨.ready,none,cs,nofun,hσ,by subst h3;exact h⟩
theorem rPost_jump{n:Nat}{c:Code}{σ2 σ3:b6}(hσ:σ2[((n,[]):Id)]? =some (some (p8 sz ps asg body .done (some c) sh cs)))(h3:σ2.put (n,[]) none=σ3)(h:AWP P σ0 sz c Q (St.mk env σ3)):rPost P σ0 sz Q env n ps asg body sh σ2:=
 ⟨.done,some c,cs,nofun,hσ,by subst h3;exact h⟩
theorem AWP.rangeFunc{g:Od}{f:FuncId}{caps:List C}{n:Nat}{Qit:T->b6->Prop}(sh:List (Nat×Option Nat))(hg:ev env g=some (.c (.fn f caps)))(hs:slotC sh env=some cs)(hn:newF σv=some (n,[]))(hσ:s5 σv (.one (p8 sz ps asg body .ready none sh cs))=some σ')
  (hf:FnOk P f (.c (.yld (n,[]))::caps.map T.c) σ' Qit) (hq:∀r σ'',Qit r σ''->rPost P σ0 sz Q env n ps asg body sh σ''):AWP P σ0 sz (.rangeFunc g ps.toArray asg body) Q (St.mk env σv):=fun Γ φ a w hΓ hR ro hro=>by
 have hro:=hro rfl
 subst hro
 have h2:=y8 hn;have h3:=r8 hσ
 cases h2
 subst h3
 obtain⟨fn,f1,f2,f3⟩:=hf.fn
 obtain⟨cv,g1,g2,g3⟩:=fn_inv (j7 hR hg)
 obtain⟨us,s1,_,s2⟩:=slot_mk sh hR.env hs
 refine wpIn_rangeFunc fun fid _=> ?_
 have hU:=Rs.allocU hR.toRs (.deferred (some []))
 have hA:=Rs.allocB (p0:=loopP sz ps asg body .ready none sh) (cs0:=cs) (us0:=us) (obj:=.loop {state:=.ready,pending:=none,fn:=fid,tmps:=a.tmps,params:=ps.toArray,assign:=asg,body,defers:=w.heap.size}) hU.2
  ⟨_,rfl,rfl,rfl,rfl,rfl,rfl,hR.asize,s1⟩ (fun i x hx=>let ⟨u,q1,q2⟩:=s2 i x hx; ⟨u,q1,q2.mono hU.1⟩)
 have hw:(w.alloc (.deferred (some []))).heap.size=w.heap.size+1:=by simp
 have hK:=Kept.trans (by simp) hU.1 hA.1
 generalize hW:(w.alloc (.deferred (some []))).alloc (.loop {state:=.ready,pending:=none,fn:=fid,tmps:=a.tmps,params:=ps.toArray,assign:=asg,body,defers:=w.heap.size})=W at hA hK
 refine⟨w.heap.size+1,[{target:=.collected w.heap.size,args:=#[]}],W,{target:=.fn (.func f) cv.toArray,args:=#[.func (.yield (w.heap.size+1)) #[] #[]]},W,f,(Value.func (.yield (w.heap.size+1)) #[] #[]::cv).toArray,W,?_,?_,fun _ _=>Y,?_,fun h=>by simp at h,?_⟩
 ·rw[<- hW];exact run_enterLoop_outer fid a.tmps ps.toArray asg body
 ·have e2:a.eval (.const (.func (.yield (w.heap.size+1)) #[] #[]))=.func (.yield (w.heap.size+1)) #[] #[]:=rfl
  simp[resolve,rangeCall,g1,e2,Deferred.ofValue]
 ·have f2':¬ fn.name= "runtime.NumGoroutine" :=by simpa using f2
  have f3':¬ fn.body=none:=fun e=>by rw[e] at f3;cases f3
  simp[invoke,callFunc,f1,f2',f3']
 refine(callsIn_wide (n:=0 - 1)).2 ?_
 refine(hf.run ⟨_,Γ.N,_,_⟩ (Value.func (.yield (w.heap.size+1)) #[] #[]::cv) rfl hA.2.down (by simp[g2]) (fun i t u hi hu=> ?_)).mono ?_
 ·match i with
  |0=>
   cases hi;cases hu
   exact .c (.yld (by simp) rfl fun p cs hp=>⟨_,0,by simp[s7,hw],rfl⟩)
  |i+1=>
   simp only[fV,lM,oM] at hi hu
   obtain⟨c,hc,rfl⟩:=hi
   exact .c ((g3 i c u hc hu).mono hK)
 ·rintro e w' ⟨v,r,σ2,φ',rfl,hQ,hr,hs'⟩
  obtain⟨st,pend,cs',hb,hσ2,hm⟩:=hq r σ2 hQ
  have hφ:φ' (σv.length,[])=some (w.heap.size+1,0):=by
   rw[(hs'.kept.obj (σv.length,[]) _ _ (by simp) hσ2).1];simp[s7,hw]
  obtain⟨b',o,us',q1,q2,⟨r',rfl,p1,p2,p3,p4,p5,p6,p7⟩,q3⟩:=hs'.st.blk _ _ hσ2
  rw[hφ] at q1;cases q1
  have hE:=Rs.writeB (q1:=fun _ _=>True) (cs1:=[]) (us1:=[]) (o1:=.loop {r' with state:=.exhausted}) hs' hσ2 hφ q2 trivial (fun i x hx=>by simp at hx)
  have hX:=Rs.kill hE.2 (σv.length,[])
  rw[b6.put2] at hX
  have hDK:=hK.trans (by rw[<- hW];simp;omega) (hX.2.kept)
  have hmark:Marks Γ φ' (σ2.put (σv.length,[]) none) (w'.putObj (w.heap.size+1) (.loop {r' with state:=.exhausted})) ([{target:=.collected w.heap.size,args:=#[]}]++a.defers):=by
   have m0:Marks Γ φ σv (w.alloc (.deferred (some []))) ([{target:=.collected w.heap.size,args:=#[]}]++a.defers):=by
    have m1:=hR.defers.kept hU.1
    refine⟨List.nodup_cons.2 ⟨fun hin=> ?_,m1.1⟩,fun d hd=> ?_⟩
    ·obtain⟨D,e,q,_⟩:=hR.defers.2 _ hin
     have:D=w.heap.size:=by cases e;rfl
     rw[this] at q
     have:=(Array.getElem?_eq_some_iff.1 q).1
     omega
    ·rcases gi.1 hd with rfl|hd
     ·refine⟨w.heap.size,rfl,heap_alloc_new w _,hR.size,fun hN=> ?_,fun i blk base hi hp=> ?_⟩
      ·have:=hR.good.lt _ hN
       have:=hR.size
       omega
      ·have:=Al.own_lt hR.st hi hp
       omega
     ·exact m1.2 d hd
   exact(m0.kept hA.1).kept hX.2.kept
  have hRf:R Γ sz ⟨env,σ2.put (σv.length,[]) none⟩ φ' {a with defers:=[{target:=.collected w.heap.size,args:=#[]}]++a.defers} (w'.putObj (w.heap.size+1) (.loop {r' with state:=.exhausted})):=
   {toRs:=hA.2.up hX.2,defers:=hmark,asize:=hR.asize,env:=fun t v ht=>let ⟨u,hu,hr⟩:=hR.env t v ht; ⟨u,hu,hr.mono hDK⟩}
  refine⟨r'.pending,_,run_endLoop q2 (by rw[p1];exact hb),?_⟩
  subst p2
  revert hm
  generalize r'.pending=pend at *
  intro hm
  cases pend with
  |none=>exact⟨_,φ',hm,hRf⟩
  |some c=>exact hm Γ φ' _ _ hΓ hRf none (fun _=>rfl)
theorem AWP.rangeB{g:Od}{f:FuncId}{caps:List C}{n:Nat}(sh:List (Nat×Option Nat))(hg:ev env g=some (.c (.fn f caps)))(hs:slotC sh env=some cs)(hn:newF σv=some (n,[]))
  (h:∀A B:Code,A=asg->B=body->∃(σ':b6) (Qit:T->b6->Prop),s5 σv (.one (p8 sz ps A B .ready none sh cs))=some σ'/\FnOk P f (.c (.yld (n,[]))::caps.map T.c) σ' Qit/\∀r σ'',Qit r σ''->rPost P σ0 sz Q env n ps A B sh σ''):
  AWP P σ0 sz (.rangeFunc g ps.toArray asg body) Q (St.mk env σv):=by
 obtain⟨σ',Qit,h1,h2,h3⟩:=h asg body rfl rfl
 exact AWP.rangeFunc sh hg hs hn h1 h2 h3
theorem AOps.yieldB{A B:Code}{x:Od}{as':List Od}{ats:Array Ti}{id:Id}{ts:List T}{E1:Env}{σ1:b6}(hA:A=asg)(hB:B=body)(hx:ev env x=some (.c (.yld id)))(ha:evs env as'=some ts)(hσ:σv[id]? =some (some (p8 szc ps A B .ready none sh cs)))
  (hl:eN ts.length ps.length=true) (hps:ps.all (fun p=>eU p szc)=true) (hna:N1 asg=false) (hnr:N1 body=false) (hd:g9 sz dst=true) (hσ1:σ1[id]? =some (some (p8 szc ps A B .ready none sh cs))) (hσb:σ1.put id (some (p8 szc ps A B .busy none sh cs))=σb)
  (hass:AWP P σv szc asg (fun e s'=>e=.normal/\s'=St.mk E1 σ1) ⟨zipE ps ts (slotE sh cs),σv⟩)
  (h:AWP P σv szc body (yPost P σ0 sz Q ops rest env dst id szc ps A B sh) ⟨E1,σb⟩):
  AOps P σ0 sz ops Q (⟨dst,.call ⟨.value x,as'.toArray,ats⟩,ty,pos,after,none⟩::rest) (St.mk env σv):=by
 subst hA hB
 exact AOps.yield hx ha hσ hl hps hna hnr hd hσ1 hσb hass h
end
end Ab
end
section
namespace Ab
open Go
def DatL:List C->List I->Prop
 |[],[]=>True
 |c::r,x::s=>(c=.imm x\/c=.imm (.val (.slice none 0 0))/\∃k,x=.sl k [])/\DatL r s
 |_,_=>False
def DatLL:List (List C)->List (List I)->Prop
 |[],[]=>True
 |c::r,x::s=>DatL c x/\DatLL r s
 |_,_=>False
theorem DatL.get:∀{l:List C} {m:List I},DatL l m->l.length=m.length/\∀(i:Nat) (x:I),m[i]? =some x->∃c,l[i]? =some c/\∀{w:World} {φ:Phi} {σ:b6} {A:Nat->Prop} {u:Vl},RelC w φ σ A c u->RelI w A x u
 |[],[],_=>⟨rfl,fun i x h=>by simp at h⟩
 |[],_::_,h=>h.elim
 |_::_,[],h=>h.elim
 |c::r,x::s,⟨h1,h2⟩=>by
  obtain⟨g1,g2⟩:=DatL.get h2
  refine⟨by simp[g1],fun i y hy=> ?_⟩
  cases i with
  |zero=>
   simp only[fe,Option.some.injEq] at hy
   subst hy
   refine⟨c,rfl,fun {w φ σ A u} hr=> ?_⟩
   rcases h1 with rfl|⟨rfl,k,rfl⟩
   ·cases hr with|imm h=>exact h
   ·cases hr with|imm h=>cases h with|val=>exact .slNil
  |succ i=>simpa using g2 i y (by simpa using hy)
theorem DatLL.get:∀{l:List (List C)} {m:List (List I)},DatLL l m->l.length=m.length/\∀(i:Nat) (x:List I),m[i]? =some x->∃c,l[i]? =some c/\DatL c x
 |[],[],_=>⟨rfl,fun i x h=>by simp at h⟩
 |[],_::_,h=>h.elim
 |_::_,[],h=>h.elim
 |c::r,x::s,⟨h1,h2⟩=>by
  obtain⟨g1,g2⟩:=DatLL.get h2
  refine⟨by simp[g1],fun i y hy=> ?_⟩
  cases i with
  |zero=>simp only[fe,Option.some.injEq] at hy;subst hy;exact⟨c,rfl,h1⟩
  |succ i=>simpa using g2 i y (by simpa using hy)
section
variable {P:Program}{σ0:b6}{sz:Nat}{Q:Post}{env env':Env}{σv σ':b6}{ops:Array Oper}{rest:List Oper}{dst:Option Nat}{ty:Ti}{pos:String}{after:Array Edge}
theorem S.makeD{α:Type}{f:α->List I}{a:α}{l:List α}{x y:Od}{t e:Ti}{k bytes:Nat}{z:Vl}{n:Int}{cs:List C}[ht:TyD P t (.slice e)][hz:TyZ P e cs][hs:TyS P e k bytes z]
  (hm:mkL bytes n a=some l) (hf:DatL cs (f a)) (hk:eN cs.length k=true)
  (hx:ev env x=some (.c (int n))) (hy:ev env y=some (.c (int n))) (hd:g9 sz dst=true)
  (h:AOps P σ0 sz ops Q rest (St.mk (putE env dst (.c (.imm (.sl k (l.map f))))) σv)):AOps P σ0 sz ops Q (⟨dst,.makeSlice t x y,ty,pos,after,none⟩::rest) (St.mk env σv):=by
 obtain⟨⟨hn,hmax,hb⟩,rfl⟩:=mkL_get hm
 have hk':cs.length=k:=eP hk
 obtain⟨size',bytes',z',v,hs',k1,k2⟩:=hz.h
 have hzz:z'=z:=by
  obtain⟨i,a1,_,_,a4⟩:=hs.h
  obtain⟨i',b1,_,_,b4⟩:=hs'.h
  rw[a1] at b1;cases b1
  rw[a4] at b4;cases b4;rfl
 subst hzz
 refine AOps.valueW rfl hd (.c (.imm (.sl k ((eT n.toNat a).map f)))) σv (fun Γ φ ac w hR=> ?_) (by cases dst<;>exact h)
 obtain⟨i,hi1,hi2,hi3,hi4⟩:=hs.h
 have hrun:=run_make (P:=P) w t e i z' ht.h hi1 hi4 .i64 .i64 n n hn (Int.le_refl _) (by rw[hi3];exact hb) hmax
 rw[hi2] at hrun
 obtain⟨h1,h2⟩:=O5 (w:=w) (φ:=φ) (σ:=σv) (A:=Al Γ.N φ σv) (W7 k1) k2
 obtain⟨f1,f2⟩:=hf.get
 have hU:=hR.toRs.allocU (.cells (madeCells z'.cells (n.toNat * k)) e (0,0))
 have hold:∀b,b<w.heap.size->(w.alloc (.cells (madeCells z'.cells (n.toNat * k)) e)).heap[b]? =w.heap[b]? :=fun b hb=>by first|exact heap_alloc_old w _ hb|exact heap_alloc_old w _ _ hb
 have hnew:Al Γ.N φ σv w.heap.size:=⟨fun hN=>by have:=hR.toRs.good.lt _ hN;have:=hR.toRs.size;omega,fun i blk base hi hp=>by have:=Al.own_lt hR.toRs.st hi hp;omega⟩
 have key:∀(j:Nat) (q:List I) (o:Nat) (y:I),((eT n.toNat a).map f)[j]? =some q->q[o]? =some y->∃u,(madeCells z'.cells (n.toNat * k))[j * k+o]? =some u/\RelI w (Al Γ.N φ σv) y u:=fun j q o y hq hy=>by
  rw[lM,eY] at hq
  split at hq
  ·rename_i hj
   simp only[eJ,Option.some.injEq] at hq
   subst hq
   obtain⟨c,c1,c2⟩:=f2 o y hy
   obtain⟨u,hu,hr⟩:=h2 o c c1
   have ho:o<k:=by rw[<- hk'];exact(lG.1 c1).1
   refine⟨u,?_,c2 hr⟩
   have:(j+1) * k<=n.toNat * k:=fg _ hj
   rw[fj,Nat.one_mul] at this
   have hzs:z'.cells.size=k:=by rw[h1,hk']
   have em:(j * k+o) % k=o:=by rw[Nat.mul_comm,Nat.mul_add_mod,Nat.mod_eq_of_lt ho]
   simp only[madeCells,Array.getElem?_map,Array.getElem?_range,hzs]
   rw[if_pos (by omega)]
   simp only[eJ,em]
   have ho':o<z'.cells.size:=by omega
   rw[Array.getElem?_eq_getElem ho'] at hu
   simp[getElem!_pos,ho',Option.some.inj hu]
  ·cases hq
 have hln:((eT n.toNat a).map f).length=n.toNat:=by simp
 have hrel:RelT (w.alloc (.cells (madeCells z'.cells (n.toNat * k)) e)) φ σv (Al Γ.N φ σv) (.c (.imm (.sl k ((eT n.toNat a).map f)))) (.slice (some ⟨w.heap.size,0,none⟩) n.toNat n.toNat):=by
  refine .c (.imm ?_)
  have:=RelI.sl (w:=w.alloc (.cells (madeCells z'.cells (n.toNat * k)) e)) (A:=Al Γ.N φ σv) (k:=k) (es:=(eT n.toNat a).map f) (a:=⟨w.heap.size,0,none⟩) (cap:=n.toNat) (fun j o=>((madeCells z'.cells (n.toNat * k))[j * k+o]?).getD (.bool false)) (by rw[hln];exact fq _) (by simp only[maxLen];omega) (fun j q hq=>by
    rw[lM,eY] at hq
    split at hq
    ·simp only[eJ,Option.some.injEq] at hq
     subst hq
     rw[<- f1,hk']
    ·cases hq) (fun j q o y hq hy=>by
    obtain⟨u,u1,_⟩:=key j q o y hq hy
    refine⟨hnew,?_⟩
    rw[u1,Addr.add_lit]
    have hh:=heap_alloc_new w (.cells (madeCells z'.cells (n.toNat * k)) e)
    unfold World.cell?
    dsimp only
    rw[hh]
    simpa using u1) (fun j q o y hq hy=>by
    obtain⟨u,u1,u2⟩:=key j q o y hq hy
    rw[u1]
    exact u2.mono (fun b _ hb=>hold b hb) fun b hb _=>hb)
  rw[hln] at this
  exact this
 exact⟨.slice (some ⟨w.heap.size,0,none⟩) n.toNat n.toNat,w.alloc (.cells (madeCells z'.cells (n.toNat * k)) e),φ,by simp[execOp,B7 hR hx,B7 hR hy,hrun],hrel,hR.of hU.1 hU.2⟩
end
end Ab
end
section
namespace Ab
open Go
section
variable {P:Program}{σ0:b6}{sz:Nat}{Q:Post}{env:Env}{σv:b6}{ops:Array Oper}{rest:List Oper}{dst:Option Nat}{ty:Ti}{pos:String}{after:Array Edge}
end
end Ab
end
section
namespace Ab
open Go
section
variable {P:Program}{σ0:b6}{sz:Nat}{Q:Post}{env:Env}{σv:b6}{ops:Array Oper}{rest:List Oper}{dst:Option Nat}{ty:Ti}{pos:String}{after:Array Edge}
end
/-! ### Maps whose values are structs of plain cells -/
section
variable {P:Program}{σ0:b6}{sz:Nat}{Q:Post}{env:Env}{σv σ':b6}{ops:Array Oper}{rest:List Oper}{dst:Option Nat}{ty:Ti}{pos:String}{after:Array Edge}
variable {K V:Type}[DecidableEq K]{d:TypeDesc}{fk:K->Vl}{gv:V->List Vl}
end
end Ab
end
section
namespace Ab
open Go
theorem Rs.adopt{Γ:Cx}{σ:b6}{φ:Phi}{w w':World}(h:Rs Γ σ φ w)(hos:w'.os=w.os)(ht:w'.tape=w.tape)(hdr:w.drawn<=w'.drawn)(ho:w'.output=w.output)(hs:w.heap.size<=w'.heap.size)(hold:∀b,b<w.heap.size->w'.heap[b]? =w.heap[b]?)
  {k:Nat} {es:List (List C)} {q:Option (Nat×Nat)} (hq:∀b base,q=some (b,base)->w.heap.size<=b) (hblk:∀φ σ A,BlkR w' φ σ A q (.cells k es)):
  Kept w w' φ (fun i=>if i=(σ.length,[]) then q else φ i) σ (σ++[.one (.cells k es)]) (Al Γ.N φ σ) (Al Γ.N (fun i=>if i=(σ.length,[]) then q else φ i) (σ++[.one (.cells k es)]))/\
  Rs Γ (σ++[.one (.cells k es)]) (fun i=>if i=(σ.length,[]) then q else φ i) w':=by
 generalize hφ:(fun i=>if i=(σ.length,[]) then q else φ i)=φ'
 have plo:∀i:Id,i.1<σ.length->φ' i=φ i:=fun i hi=>by
  have:i ≠ (σ.length,[]):=fun e=>by rw[e] at hi;exact Nat.lt_irrefl _ hi
  rw[<- hφ];simp[this]
 have pnew:φ' (σ.length,[])=q:=by rw[<- hφ];simp
 have cases2:∀(i:Id) blk,(σ++[.one (.cells k es)])[i]? =some (some blk)->(i.1<σ.length/\σ[i]? =some (some blk))\/(i=(σ.length,[])/\blk=.cells k es):=fun i blk hi=>b6.get_new hi
 have A1:∀b,Al Γ.N φ σ b->b<w.heap.size->Al Γ.N φ' (σ++[.one (.cells k es)]) b:=fun b hb hl=>⟨hb.1,fun i blk base hi hp=>by
  rcases cases2 i blk hi with⟨h1,h2⟩|⟨rfl,rfl⟩
  ·rw[plo i h1] at hp;exact hb.2 i blk base h2 hp
  ·rw[pnew] at hp;have:=hq b base hp;omega⟩
 have hK:Kept w w' φ φ' σ (σ++[.one (.cells k es)]) (Al Γ.N φ σ) (Al Γ.N φ' (σ++[.one (.cells k es)])):=
  {imm:=fun b _ hl=>hold b hl,all:=A1,len:=by simp,
   cells:=fun i kk es' hi he=>by
    rw[b6.get_left hi] at he
    exact⟨es',he,rfl,plo i hi,fun b base arr ety hp hb=>⟨arr,(hold b (Al.own_lt h.st he hp)).trans hb,rfl⟩⟩,
   obj:=fun i p' cs' hi he=>by
    rw[b6.get_left hi] at he
    exact⟨plo i hi,p',cs',he⟩}
 refine⟨hK,?_⟩
 exact {
  good:=h.good
  st:=⟨fun i b hi=>by
    rcases cases2 i b hi with⟨h1,h2⟩|⟨rfl,rfl⟩
    ·rw[plo i h1]
     exact(h.st.blk i b h2).mono hK fun g base hp=>hold g (Al.own_lt h.st h2 hp)
    ·rw[pnew]
     exact hblk _ _ _,
   fun i j bi bj p1 q1 hi hj hp hq1 he=>by
    obtain⟨pb,po⟩:=p1
    obtain⟨qb,qo⟩:=q1
    dsimp only at he
    subst he
    rcases cases2 i bi hi with⟨h1,h2⟩|⟨rfl,rfl⟩<;>rcases cases2 j bj hj with⟨g1,g2⟩|⟨rfl,rfl⟩
    ·rw[plo i h1] at hp;rw[plo j g1] at hq1
     exact h.st.inj i j bi bj _ _ h2 g2 hp hq1 rfl
    ·rw[plo i h1] at hp;rw[pnew] at hq1
     have:=Al.own_lt h.st h2 hp;have:=hq _ _ hq1;omega
    ·rw[plo j g1] at hq1;rw[pnew] at hp
     have:=Al.own_lt h.st g2 hq1;have:=hq _ _ hp;omega
    ·rfl⟩
  keep:=fun i blk b base hi hp hKb=>by
   rcases cases2 i blk hi with⟨h1,h2⟩|⟨rfl,rfl⟩
   ·rw[plo i h1] at hp;exact h.keep i blk b base h2 hp hKb
   ·rw[pnew] at hp
    have:=hq _ _ hp
    have:=hKb.1;have:=h.size;omega
  os:=hos.trans h.os
  tape:=ht.trans h.tape
  drawn:=gj h.drawn hdr
  output:=ho.trans h.output
  size:=gj h.size hs
  block:=fun b hKb=>(hold b (gl hKb.1 h.size)).trans (h.block b hKb)
  kept:=Kept.trans h.size h.kept hK}
section
variable {P:Program}{σ0:b6}{sz:Nat}{Q:Post}{env:Env}{σv σ':b6}{ops:Array Oper}{rest:List Oper}{dst:Option Nat}{ty:Ti}{pos:String}{after:Array Edge}
theorem S.freshL{α:Type}{g:α->List I}{l:List α}{x:Od}{as':List Od}{ats:Array Ti}{f:FuncId}{caps:List C}{ts ts':List T}{k:Nat}{n:Id}(hg:∀a,((g a).map C.imm).all C.scal=true)(hx:ev env x=some (.c (.fn f caps)))(ha:evs env as'=some ts)(hl:ak9 σv (ts++caps.map T.c) ts')(hd:g9 sz dst=true)
  (hf:o9 P f ts' k (l.map g)) (hn:newF σv=some n) (hσ:s5 σv (.one (vec k g l))=some σ') (h:AOps P σ0 sz ops Q rest (St.mk (putE env dst (.c (.own n 0 l.length))) σ')):
  AOps P σ0 sz ops Q (⟨dst,.call ⟨.value x,as'.toArray,ats⟩,ty,pos,after,none⟩::rest) (St.mk env σv):=by
 have h1:=y8 hn;have h2:=r8 hσ
 subst h1 h2
 intro Γ φ a w hΓ hR ro
 obtain⟨vs,h1,h2,h3⟩:=as3 (P:=P) (dst:=dst) (ty:=ty) (pos:=pos) (after:=after) (ats:=ats) hR hx ha hf.fn
 obtain⟨l1,l2⟩:=hl.get
 refine W2 rfl (au8 h1 ?_)
 refine(hf.run (Cx.open w) vs rfl (good_open w) (by rw[l1];exact h2) (fun i t u hi hu=> ?_)).mono ?_
 ·obtain⟨t0,ht0,hlend⟩:=l2 i t hi
  exact hlend.rel hR (al_open w) (h3 i t0 u ht0 hu)
 ·rintro e w' ⟨v,r',σ2,φ',rfl,⟨id',rfl,hid⟩,hrel,hs⟩
  have hview:=C9 hrel hid
  have hb:=hs.st.blk _ _ hid
  have hnew:∀b base,φ' id'=some (b,base)->w.heap.size<=b:=fun b base hp=>by
   have:=hs.keep id' _ b base hid hp
   rcases ff b w.heap.size with c|c
   ·exact absurd ⟨c,fun i blk base hi=>by simp[Cx.open] at hi⟩ this
   ·exact c
  have scal:∀(j:Nat) (e:List C) (o:Nat) (y:C),((l.map g).map (·.map C.imm))[j]? =some e->e[o]? =some y->y.scal=true:=fun j e o y he hy=>by
   simp only[fD,lM,oM,eW] at he
   obtain⟨z,_,rfl⟩:=he
   have:=eK.1 (hg z)
   exact this y (gg hy)
  obtain⟨hK1,hR1⟩:=hR.toRs.adopt (w':=w') hs.os hs.tape hs.drawn hs.output hs.size (fun b hb=>hs.block b ⟨hb,fun i blk base hi=>by simp[Cx.open] at hi⟩) (k:=k) (es:=(l.map g).map (·.map C.imm)) (q:=φ' id') hnew (fun φ σ A=>by
   rcases hb with h|⟨b,base,arr,ety,p1,p2,p3,p4,p5⟩
   ·exact .inl h
   ·refine .inr ⟨b,base,arr,ety,p1,p2,p3,p4,fun j e o y he hy=> ?_⟩
    obtain⟨u,hu,hr⟩:=p5 j e o y he hy
    exact⟨u,hu,C.scal_rel (scal j e o y he hy) hr⟩)
  have hlen:(l.map g).length=l.length:=eX ..
  refine h Γ _ _ w' hΓ ((hR.of hK1 hR1).put hd ?_) ro
  refine I3 (k:=k) (es:=(l.map g).map (·.map C.imm)) (b6.get_last _ _) (by cases hrel with|c hr=>exact hr.one) ?_
  rw[hlen] at hview
  simpa using hview
end
end Ab
end
section
namespace Ab
open Go
def mvr(r n:Nat)(i:Id):Id:=((match eN i.1 r with|true=>n|false=>i.1),i.2)
theorem aA2{r n:Nat}{i:Id}(h:i.1=r):mvr r n i=(n,i.2):=by
 have:eN i.1 r=true:=by rw[h];exact Nat.beq_refl r
 simp only[mvr,this]
theorem mvr_ne{r n:Nat}{i:Id}(h:i.1 ≠ r):mvr r n i=i:=by
 have:eN i.1 r=false:=ap1 h
 simp only[mvr,this]
section
variable {P:Program}{σ0:b6}{sz:Nat}{Q:Post}{env env':Env}{σv σ':b6}{ops:Array Oper}{rest:List Oper}{dst:Option Nat}{ty:Ti}{pos:String}{after:Array Edge}
inductive EntR(r n:Nat)(σ:b6)(m i:Nat):Ent->Prop
 |dead:EntR r n σ m i .dead
 |one {b:Blk} (h1:b.ok m=true) (h2:σ[mvr r n (i,[])]? =some (some (b.ren (mvr r n)))):EntR r n σ m i (.one b)
 |vec {α:Type} {k:Nat} {f:α->List I} {l:List α} (h2:σ[mvr r n (i,[])]? =some (some (vec k f l))):EntR r n σ m i (.one (vec k f l))
 |mat {α:Type} {k j:Nat} {f:α->List I} {M:List (List α)} (hj:(mvr r n (i,[])).1=j) (hi:eU i m=true) (h:σ[j]? =some (mat (j,[]) k f M)):EntR r n σ m i (mat (i,[]) k f M)
 |any {e:Ent} (h:∀p b,e.sub p=some b->b.ok m=true/\σ[mvr r n (i,p)]? =some (some (b.ren (mvr r n)))):EntR r n σ m i e
def StR_(r n:Nat)(σ:b6)(m:Nat):Nat->b6->Prop
 |_,[]=>True
 |i,e::l=>EntR r n σ m i e/\StR_ r n σ m (i+1) l
theorem EntR.get{r n:Nat}{σ:b6}{m i:Nat}{e:Ent}(h:EntR r n σ m i e){p:List Nat}{b:Blk}(hb:e.sub p=some b):b.ok m=true/\σ[mvr r n (i,p)]? =some (some (b.ren (mvr r n))):=by
 cases h with
 |dead=>cases p<;>cases hb
 |one h1 h2=>cases p with
  |nil=>cases hb;exact⟨h1,h2⟩
  |cons=>cases hb
 |vec h2=>cases p with
  |nil=>cases hb;exact⟨H8,by rw[Blk.im_ren];exact h2⟩
  |cons=>cases hb
 |@mat α k j f M hj hi h=>
  have hi':i<m:=by simpa using hi
  have e:∀q,mvr r n (i,q)=(j,q):=fun q=>by rw[<- hj];rfl
  rw[e,r9 h]
  cases p with
  |nil=>
   cases hb
   refine⟨hdr_ok hi' _,?_⟩
   rw[mat_main]
   congr 2
   simp only[Blk.ren]
   congr 1
   apply eI
   intro q
   rw[lM]
   simp only[hdr,eH,fC]
   cases M[q]? with
   |none=>rfl
   |some row=>simp[C.renL,C.ren,e]
  |cons a q=>
   rw[mat_row] at hb ⊢
   split at hb
   ·rename_i row hrow
    cases q with
    |cons b q=>cases hb
    |nil=>cases hb;exact⟨H8,by rw[Blk.im_ren]⟩
   ·cases hb
 |any h=>exact h p b hb
theorem StR_.get{r n m:Nat}{σ:b6}:∀{i:Nat} {σ':b6},StR_ r n σ m i σ'->∀(j:Nat) (p:List Nat) (b:Blk),σ'[((j,p):Id)]? =some (some b)->b.ok m=true/\σ[mvr r n (i+j,p)]? =some (some (b.ren (mvr r n)))
 |_,[],_,j,p,b,h=>by simp at h
 |i,e::l,h,0,p,b,hb=>by
  rw[b6.at_eq] at hb
  simp only[b6.at,fe,Option.some.injEq] at hb
  exact h.1.get hb
 |i,e::l,h,j+1,p,b,hb=>by
  have:=StR_.get (i:=i+1) h.2 j p b (by
   rw[b6.at_eq] at hb ⊢
   simpa[b6.at] using hb)
  rwa [show i+1+j=i+(j+1) by omega] at this
def EnvR(r n:Nat)(env:Env):Env->Prop
 |[]=>True
 |(t,v)::l=>lookup t env=some (v.ren (mvr r n))/\EnvR r n env l
theorem EnvR.get{r n:Nat}:∀{env':Env},EnvR r n env env'->∀t v,lookup t env'=some v->lookup t env=some (v.ren (mvr r n))
 |[],_,t,v,h=>by simp[lookup] at h
 |(k,x)::l,⟨h1,h2⟩,t,v,h=>by
  simp only[lookup] at h
  split at h
  ·rename_i he;cases h;rw[<- eP he];exact h1
  ·exact EnvR.get h2 t v h
def deadR(σ:b6)(n:Nat):Bool:=match σ[n]? with
 |some .dead=>true
 |some _=>false
 |none=>true
theorem Sub.moveM(r n:Nat)(h0:fu σ0.length r=true)(hl:fu σ0.length σ'.length=true)(hn:deadR σ' n=true)(henv:EnvR r n env env')(he:ag4 σ'.length env'=true)(hst:StR_ r n σv σ'.length 0 σ'):Sub σ0 ⟨env,σv⟩ ⟨env',σ'⟩:=by
 have h0':=eO h0
 have hd:∀(p:List Nat) b,σ'[((n,p):Id)]? ≠ some (some b):=fun p b hb=>by
  rw[b6.at_eq] at hb
  simp only[b6.at] at hb
  simp only[deadR] at hn
  split at hb
  ·rename_i e hx
   rw[hx] at hn
   cases e with
   |dead=>cases p<;>cases hb
   |one=>cases hn
   |node=>cases hn
  ·cases hb
 refine Sub.mk (mvr r n) (fun i hi=>mvr_ne (fun e=>by omega)) (eO hl) (fun i j b b' hi hj h=> ?_) (fun i b hi=> ?_) (fun t v ht=>⟨ao8 he t v ht,henv.get t v ht⟩)
 ·by_cases h1:i.1=r<;>by_cases h2:j.1=r
  ·rw[aA2 h1,aA2 h2] at h
   exact Prod.ext (h1.trans h2.symm) (Prod.mk.inj h).2
  ·rw[aA2 h1,mvr_ne h2] at h
   subst h;exact absurd hj (hd _ _)
  ·rw[aA2 h2,mvr_ne h1] at h
   subst h;exact absurd hi (hd _ _)
  ·rwa [mvr_ne h1,mvr_ne h2] at h
 ·have:=hst.get i.1 i.2 b hi
  rwa [fz] at this
theorem AWP.moveM{c:Code}(r n:Nat)(h0:fu σ0.length r=true)(hl:fu σ0.length σ'.length=true)(hn:deadR σ' n=true)(henv:EnvR r n env env')(he:ag4 σ'.length env'=true)(hst:StR_ r n σv σ'.length 0 σ')(h:AWP P σ0 sz c Q (St.mk env' σ')):AWP P σ0 sz c Q (St.mk env σv):=
 AWP.sub (Sub.moveM r n h0 hl hn henv he hst) h
/-! ### A row of nothing appended to rows -/
end
end Ab
end
section
namespace Ab
open Go
section
variable {P:Program}{σ0:b6}{sz:Nat}{Q:Post}{env env':Env}{σv σ':b6}
end
end Ab
end
section
namespace Ab
open Go
section
variable {P:Program}{σ0:b6}{sz:Nat}{Q:Post}{env env':Env}{σv σ':b6}{ops:Array Oper}{rest:List Oper}{dst:Option Nat}{ty:Ti}{pos:String}{after:Array Edge}
def isIfaceD:TypeDesc->Bool
 | .interface _=>true
 |_=>false
theorem ifc1_inv{w:World}{φ:Phi}{σ:b6}{A:Nat->Prop}{t:Ti}{c:C}{u:Vl}(h:RelT w φ σ A (.c (.ifc t [c] false)) u):∃v,u=.iface t v/\RelC w φ σ A c v:=by
 cases h with|c h=>cases h with|ifc1 h=>exact⟨_,rfl,h⟩
theorem S.mkIfc{x:Od}{t:Ti}{d:TypeDesc}{c:C}[ht:TyD P t d](hi:isIfaceD d=false)(hx:ev env x=some (.c c))(hd:g9 sz dst=true)
  (h:AOps P σ0 sz ops Q rest (St.mk (putE env dst (.c (.ifc t [c] false))) σv)):AOps P σ0 sz ops Q (⟨dst,.makeInterface t x,ty,pos,after,none⟩::rest) (St.mk env σv):=
 .value rfl hd _ (fun Γ φ a w hR=>by
  have hr:=j7 hR hx
  generalize hu:a.eval x=u at hr
  cases hr with|c hr=>
   refine⟨.iface t u,?_,.c (.ifc1 hr)⟩
   cases d<;>first|(cases hi;done)|simp[execOp,Instr.makeInterface,run_underlying ht.h,hu]) h
theorem S.assert{x:Od}{xt t:Ti}{d:TypeDesc}{c:C}[ht:TyD P t d](hi:isIfaceD d=false)(hx:ev env x=some (.c (.ifc t [c] false)))(hd:g9 sz dst=true)
  (h:AOps P σ0 sz ops Q rest (St.mk (putE env dst (.c c)) σv)):AOps P σ0 sz ops Q (⟨dst,.typeAssert x xt t false,ty,pos,after,none⟩::rest) (St.mk env σv):=
 .value rfl hd _ (fun Γ φ a w hR=>by
  obtain⟨v,hv,hr⟩:=ifc1_inv (j7 hR hx)
  refine⟨v,?_,.c hr⟩
  cases d<;>first|(cases hi;done)|simp[execOp,Instr.typeAssert,run_underlying ht.h,hv]) h
/-! ### Calls through an interface -/
theorem AOps.enterS{o:Oper}{f:FuncId}{ts:List T}{Qc:T->b6->Prop}(hg:o.guard=none)(hd:g9 sz o.dst=true)(hf:FnOk P f ts σv Qc)
  (he:∀Γ φ a w,R Γ sz (St.mk env σv) φ a w->∃vs:List Vl,(execOp a.eval o).run P w=.ok (.enter f vs.toArray) w/\ts.length=vs.length/\∀(i:Nat) (t:T) (u:Vl),ts[i]? =some t->vs[i]? =some u->RelT w φ σv (Al Γ.N φ σv) t u)
  (h:∀r σ',Qc r σ'->AOps P σ0 sz ops Q rest ((St.mk env σ').put o.dst r)):AOps P σ0 sz ops Q (o::rest) (St.mk env σv):=fun Γ φ a w hΓ hR ro=>by
 obtain⟨vs,h1,h2,h3⟩:=he Γ φ a w hR
 refine W2 hg (au8 h1 ?_)
 refine(hf.run ⟨w,Γ.N,φ,σv⟩ vs rfl hR.toRs.down h2 h3).mono ?_
 rintro e w' ⟨v,r,σ',φ',rfl,hq,hr,hs⟩
 exact h r σ' hq Γ φ' _ w' hΓ ((hR.of hs.kept (hR.toRs.up hs)).put hd hr) ro
class MethF (P:Program) (t:Ti) (name:String) (f:outParam FuncId) (b:outParam Bool):Prop where
 h:((P.info? t).bind fun i=>(i.methods.find? (·.name==name)).map fun m=>(m.path.toList,m.func))=some ([],some (f,b))
theorem MethF.get{t:Ti}{name:String}{f:FuncId}{b:Bool}[h:MethF P t name f b]:∃i m,P.info? t=some i/\i.methods.find? (·.name==name)=some m/\m.path=#[]/\m.func=some (f,b):=by
 obtain⟨i,h1,h2⟩:=Option.bind_eq_some_iff.1 h.h
 obtain⟨m,h3,h4⟩:=oM.1 h2
 simp only[Prod.mk.injEq] at h4
 exact⟨i,m,h1,h3,by simpa using h4.1,h4.2⟩
theorem run_recvP{t e:Ti}{v:Vl}{wr:Option String}{w:World}[hd:TyD P t (.pointer e)]:(receiverAt t (.val v) true wr).run P w=.ok v w:=by
 unfold receiverAt
 rw[Sem.run_bind,run_underlying hd.h]
 rfl
theorem run_recvV{t e:Ti}{de:TypeDesc}{a:Addr}{u:Vl}{wr:String}{w:World}[hd:TyD P t (.pointer e)][he:TyD P e de](ha:y9 de=false)(hu:w.cell? a=some u):(receiverAt t (.val (.pointer (some a))) false (some wr)).run P w=.ok u w:=by
 unfold receiverAt
 rw[Sem.run_bind,run_underlying hd.h]
 show(loadVar e a).run P w=_
 exact am3 ha hu
theorem run_method{t:Ti}{name:String}{f:FuncId}{b:Bool}{v u:Vl}{w:World}[hm:MethF P t name f b](hr:∀wr:String,(receiverAt t (.val v) b (some wr)).run P w=.ok u w):(method (P.types.size+Made.depth) t v name).run P w=.ok (f,u) w:=by
 obtain⟨i,m,h1,h2,h3,h4⟩:=hm.get
 rw[show P.types.size+Made.depth=(P.types.size+99)+1 from rfl]
 have hi:(typeInfo t).run P w=.ok i w:=by simp[typeInfo,h1]
 unfold method
 rw[Sem.run_bind,hi]
 simp only[Result.andThen_ok,h2,h3,h4,follow]
 simp only[Sem.run_bind,Sem.run_pure,Result.andThen_ok,Array.isEmpty_empty,if_true]
 rw[hr]
 rfl
theorem fn_body{f : FuncId}(hfn : ∃ fn, P.funcs[f]? = some fn /\ (fn.name == "runtime.NumGoroutine")=false/\fn.body.isNone=false)(vs:Array Vl)(w:World):(callFunc f vs).run P w=.ok (.enter f vs) w:=by
 obtain⟨fn,h1,h2,h3⟩:=hfn
 have h2':¬ fn.name= "runtime.NumGoroutine" :=by simpa using h2
 have h3':¬ fn.body=none:=fun e=>by rw[e] at h3;cases h3
 simp[callFunc,h1,h2',h3']
theorem invoke_args{Γ:Cx}{φ:Phi}{a:Act}{w:World}(hR:R Γ sz (St.mk env σv) φ a w){as':List Od}{ts:List T}(ha:evs env as'=some ts){c:C}{v:Vl}(hc:RelC w φ σv (Al Γ.N φ σv) c v):
  (T.c c::ts).length=(v::as'.map a.eval).length/\∀(i:Nat) (t:T) (u:Vl),(T.c c::ts)[i]? =some t->(v::as'.map a.eval)[i]? =some u->RelT w φ σv (Al Γ.N φ σv) t u:=by
 obtain⟨k1,k2⟩:=evs_rel hR ha
 refine⟨by simp[k1],fun i t u hi hu=> ?_⟩
 cases i with
 |zero=>simp only[fe,Option.some.injEq] at hi hu;subst hi hu;exact .c hc
 |succ i=>exact k2 i t u (by simpa using hi) (by simpa using hu)
theorem S.invokeP{x:Od}{as':List Od}{ats:Array Ti}{name:String}{t e:Ti}{c:C}{f:FuncId}{ts:List T}{r2:T}{σ'':b6}[hd:TyD P t (.pointer e)][hm:MethF P t name f true](hx:ev env x=some (.c (.ifc t [c] false)))(ha:evs env as'=some ts)(hdst:g9 sz dst=true)
  (hf:FnOk P f (.c c::ts) σv fun r s=>r=r2/\s=σ'') (h:AOps P σ0 sz ops Q rest (St.mk (putE env dst r2) σ'')):
  AOps P σ0 sz ops Q (⟨dst,.call ⟨.invoke x name,as'.toArray,ats⟩,ty,pos,after,none⟩::rest) (St.mk env σv):=by
 refine AOps.enterS rfl hdst hf (fun Γ φ a w hR=> ?_) (fun r s ⟨h1,h2⟩=>by subst h1 h2;exact h)
 obtain⟨v,hv,hr⟩:=ifc1_inv (j7 hR hx)
 refine⟨v::as'.map a.eval,?_,invoke_args hR ha hr⟩
 have:=fn_body hf.fn (v::as'.map a.eval).toArray w
 simp[execOp,resolve,invoke,callMethod,hv,run_method (P:=P) (t:=t) (name:=name) (fun wr=>run_recvP (e:=e))]
 simpa[eQ] using this
theorem S.invokeV{x:Od}{as':List Od}{ats:Array Ti}{name:String}{t e:Ti}{de:TypeDesc}{id:Id}{j o k:Nat}{es:List (List C)}{el:List C}{c:C}{f:FuncId}{ts:List T}{r2:T}{σ'':b6}[hd:TyD P t (.pointer e)][he:TyD P e de][hm:MethF P t name f false](hagg:y9 de=false)
  (hx:ev env x=some (.c (.ifc t [.ptr id j o] false))) (hσ:σv[id]? =some (some (.cells k es))) (hel:es[j]? =some el) (hc:el[o]? =some c) (ha:evs env as'=some ts) (hdst:g9 sz dst=true)
  (hf:FnOk P f (.c c::ts) σv fun r s=>r=r2/\s=σ'') (h:AOps P σ0 sz ops Q rest (St.mk (putE env dst r2) σ'')):
  AOps P σ0 sz ops Q (⟨dst,.call ⟨.invoke x name,as'.toArray,ats⟩,ty,pos,after,none⟩::rest) (St.mk env σv):=by
 refine AOps.enterS rfl hdst hf (fun Γ φ a w hR=> ?_) (fun r s ⟨h1,h2⟩=>by subst h1 h2;exact h)
 obtain⟨v,hv,hr⟩:=ifc1_inv (j7 hR hx)
 obtain⟨hid,b,base,hp,hv2⟩:=aj7 (.c hr) hσ
 obtain⟨arr,ety,hb,_,_,hcs⟩:=G1 hR hσ hp
 obtain⟨u,hu,hru⟩:=hcs j el o c hel hc
 refine⟨u::as'.map a.eval,?_,invoke_args hR ha hru⟩
 have:=fn_body hf.fn (u::as'.map a.eval).toArray w
 simp[execOp,resolve,invoke,callMethod,hv,hv2,run_method (P:=P) (t:=t) (name:=name) (fun wr=>run_recvV (e:=e) hagg ((P4 hb).trans hu))]
 simpa[eQ] using this
/-! ### Maps: how many keys -/
theorem S.lenMap{K V:Type}{fk:K->Vl}{fv:V->Vl}{x:Od}{t kt vt:Ti}{id:Id}{m:List (K×V)}[ht:TyD P t (.map kt vt)](hx:ev env x=some (.c (.map id)))(hσ:σv[id]? =some (some (mapB fk fv m)))(hd:g9 sz dst=true)
  (h:AOps P σ0 sz ops Q rest (St.mk (putE env dst (.c (int (m.length:Int)))) σv)):AOps P σ0 sz ops Q (⟨dst,.call ⟨.builtin .len,#[x],#[t]⟩,ty,pos,after,none⟩::rest) (St.mk env σv):=
 .value rfl hd _ (fun Γ φ a w hR=>by
  obtain⟨b,base,hp,hv⟩:=am5 (j7 hR hx) hσ
  obtain⟨b',o,_,g1,g2,⟨es,c,rfl,g3⟩,_⟩:=hR.st.blk _ _ hσ
  rw[hp] at g1;cases g1
  have hl:es.size=m.length:=by
   have:=congrArg gA g3
   simpa using this
  exact⟨.int .i64 m.length,by simp[execOp,hv,resolve,invoke,builtin,Builtin.len_,run_underlying ht.h,Go.MapKept.run_getObj_map g2,goInt,hl,Result.andThen],.int _⟩) h
/-! ### Maps whose values are nothing (sets) -/
def noV:Unit->Vl:=fun _=>.agg #[]
theorem W.lookupOkU{K:Type}[DecidableEq K]{fk:K->Vl}{d:TypeDesc}{x y:Od}{t kt vt:Ti}{id:Id}{m:List (K×Unit)}{k:K}{size bytes:Nat}{zv:Vl}[ht:TyD P t (.map kt vt)][hkt:TyD P kt d][hs:TyS P vt size bytes zv](hk:KeyT d fk)(hz:zv=.agg #[])
  (hx:ev env x=some (.c (.map id))) (hy:ev env y=some (.c (.imm (.val (fk k))))) (hσ:σv[id]? =some (some (mapB fk noV m))) (hd:g9 sz dst=true)
  (h:AOps P σ0 sz ops Q rest (St.mk (putE env dst (.tup [.agg [],.c (bool (mget m k).isSome)])) σv)):AOps P σ0 sz ops Q (⟨dst,.lookup t x y true,ty,pos,after,none⟩::rest) (St.mk env σv):=by
 refine .valueW rfl hd _ _ (fun Γ φ a w hR=> ?_) h
 obtain⟨b,base,hp,hv⟩:=am5 (j7 hR hx) hσ
 obtain⟨hv2,_⟩:=H3 (j7 hR hy)
 obtain⟨b',o,_,g1,g2,⟨es,c,rfl,g3⟩,_⟩:=hR.st.blk _ _ hσ
 rw[hp] at g1;cases g1
 refine⟨.tuple #[.agg #[],.bool (mget m k).isSome],w,φ,?_,RelT.tup' (vs:=[.agg #[],.bool (mget m k).isSome]) rfl (fun i t u hi hu=> ?_),hR⟩
 ·rcases ai5 hk k m es.toList 0 g3 with⟨q1,q2,_⟩|⟨v,j,e,q1,q2,_⟩
  ·simp[execOp,hv,hv2,Instr.lookup,run_underlying ht.h,Go.MapKept.run_getObj_map g2,Go.MapKept.run_checkKey hkt.h (hk.key k),Go.MapKept.run_findKey hkt.h q2,N0 (t:=vt),q1,hz,Result.andThen]
  ·simp[execOp,hv,hv2,Instr.lookup,run_underlying ht.h,Go.MapKept.run_getObj_map g2,Go.MapKept.run_checkKey hkt.h (hk.key k),Go.MapKept.run_findKey hkt.h q2,q1,noV,Result.andThen]
 ·match i with
  |0=>cases hi;cases hu;exact RelT.agg' (vs:=[]) rfl (fun i c v hc=>by simp at hc)
  |1=>cases hi;cases hu;exact .bool _
  |i+2=>simp at hi
theorem agg0_inv{w:World}{φ:Phi}{σ:b6}{A:Nat->Prop}{u:Vl}(h:RelT w φ σ A (.agg []) u):u=.agg #[]:=by
 cases h with|agg us hr=>simp
theorem W.mapUpdateU{K:Type}[DecidableEq K]{fk:K->Vl}{d:TypeDesc}{x y v:Od}{t kt vt:Ti}{id:Id}{m:List (K×Unit)}{k:K}[ht:TyD P t (.map kt vt)][hkt:TyD P kt d](hk:KeyT d fk)
  (hx:ev env x=some (.c (.map id))) (hy:ev env y=some (.c (.imm (.val (fk k))))) (hv:ev env v=some (.agg [])) (hσ:σv[id]? =some (some (mapB fk noV m))) (hσ':σv.put id (some (mapB fk noV (mset m k ())))=σ')
  (h:AOps P σ0 sz ops Q rest (St.mk env σ')):AOps P σ0 sz ops Q (⟨none,.mapUpdate t x y v,ty,pos,after,none⟩::rest) (St.mk env σv):=by
 subst hσ'
 refine .skipW rfl rfl _ (fun Γ φ ac w hR=> ?_) h
 obtain⟨b,base,hp,e1⟩:=am5 (j7 hR hx) hσ
 obtain⟨e2,_⟩:=H3 (j7 hR hy)
 have e3:=agg0_inv (j7 hR hv)
 obtain⟨b',o,_,g1,g2,⟨es,c,rfl,g3⟩,_⟩:=hR.st.blk _ _ hσ
 rw[hp] at g1;cases g1
 rcases ai5 hk k m es.toList 0 g3 with⟨q1,q2,q3⟩|⟨v0,j,e,q1,q2,q3,q4,q5⟩
 ·have hW:=Rs.writeO (q1:=mapP fk noV (mset m k ())) (o1:=.map (es.push {key:=fk k,val:=.agg #[],born:=c}) (c+1)) hR.toRs hσ hp g2 ⟨_,_,rfl,by rw[gu];exact q3 () c⟩
  refine⟨_,φ,?_,hR.of hW.1 hW.2⟩
  simp[execOp,e1,e2,e3,Instr.mapUpdate,run_underlying ht.h,Go.MapKept.run_getObj_map g2,Go.MapKept.run_checkKey hkt.h (hk.key k),Go.MapKept.run_findKey hkt.h q2,Go.MapKept.run_setObj_map _ g2,Result.andThen]
 ·have hj:es[j]? =some e:=by simpa using q3
  have hW:=Rs.writeO (q1:=mapP fk noV (mset m k ())) (o1:=.map (es.modify j fun e=>{e with key:=fk k,val:=.agg #[]}) c) hR.toRs hσ hp g2 ⟨_,_,rfl,by rw[fi];exact q5 ()⟩
  refine⟨_,φ,?_,hR.of hW.1 hW.2⟩
  simp[execOp,e1,e2,e3,Instr.mapUpdate,run_underlying ht.h,Go.MapKept.run_getObj_map g2,Go.MapKept.run_checkKey hkt.h (hk.key k),Go.MapKept.run_findKey hkt.h q2,hj,q4,Go.MapKept.run_keyThatStays (hk.key k),Go.MapKept.run_setObj_map _ g2,Result.andThen]
theorem W.insertU{K:Type}[DecidableEq K]{fk:K->Vl}{d:TypeDesc}{x y v:Od}{t kt vt:Ti}{id:Id}{m:List (K×Unit)}{k:K}[ht:TyD P t (.map kt vt)][hkt:TyD P kt d](hk:KeyT d fk)
  (hx:ev env x=some (.c (.map id))) (hy:ev env y=some (.c (.imm (.val (fk k))))) (hv:ev env v=some (.agg [])) (hσ:σv[id]? =some (some (mapB fk noV m))) (hσ':σv.put id (some (mapB fk noV (mset m k ())))=σ')
  (h:AOps P σ0 sz ops Q rest (St.mk env σ')):AOps P σ0 sz ops Q (⟨none,.insert t x y v,ty,pos,after,none⟩::rest) (St.mk env σv):=by
 subst hσ'
 refine .skipW rfl rfl _ (fun Γ φ ac w hR=> ?_) h
 obtain⟨b,base,hp,e1⟩:=am5 (j7 hR hx) hσ
 obtain⟨e2,_⟩:=H3 (j7 hR hy)
 have e3:=agg0_inv (j7 hR hv)
 obtain⟨b',o,_,g1,g2,⟨es,c,rfl,g3⟩,_⟩:=hR.st.blk _ _ hσ
 rw[hp] at g1;cases g1
 rcases ai5 hk k m es.toList 0 g3 with⟨q1,q2,q3⟩|⟨v0,j,e,q1,q2,q3,q4,q5⟩
 ·have hW:=Rs.writeO (q1:=mapP fk noV (mset m k ())) (o1:=.map (es.push {key:=fk k,val:=.agg #[],born:=c}) (c+1)) hR.toRs hσ hp g2 ⟨_,_,rfl,by rw[gu];exact q3 () c⟩
  refine⟨_,φ,?_,hR.of hW.1 hW.2⟩
  simp[execOp,e1,e2,e3,Instr.mapUpdate,run_underlying ht.h,Go.MapKept.run_getObj_map g2,Go.MapKept.run_checkKey hkt.h (hk.key k),Go.MapKept.run_findKey hkt.h q2,Go.MapKept.run_setObj_map _ g2,Result.andThen]
 ·have hj:es[j]? =some e:=by simpa using q3
  have hW:=Rs.writeO (q1:=mapP fk noV (mset m k ())) (o1:=.map (es.modify j fun e=>{e with key:=fk k,val:=.agg #[]}) c) hR.toRs hσ hp g2 ⟨_,_,rfl,by rw[fi];exact q5 ()⟩
  refine⟨_,φ,?_,hR.of hW.1 hW.2⟩
  simp[execOp,e1,e2,e3,Instr.mapUpdate,run_underlying ht.h,Go.MapKept.run_getObj_map g2,Go.MapKept.run_checkKey hkt.h (hk.key k),Go.MapKept.run_findKey hkt.h q2,hj,q4,Go.MapKept.run_keyThatStays (hk.key k),Go.MapKept.run_setObj_map _ g2,Result.andThen]
end
/-! ### A struct without fields -/
theorem S.build0{P:Program}{σ0:b6}{sz:Nat}{Q:Post}{env:Env}{σv:b6}{ops:Array Oper}{rest:List Oper}{dst:Option Nat}{ty:Ti}{pos:String}{after:Array Edge}{t:Ti}{fs:Array Field}{size bytes:Nat}{z:Vl}[ht:TyD P t (.struct fs)][hs:TyS P t size bytes z](hf:fs=#[])(hz:z=.agg #[])(hd:g9 sz dst=true)
  (h:AOps P σ0 sz ops Q rest (St.mk (putE env dst (.agg [])) σv)):AOps P σ0 sz ops Q (⟨dst,.build t #[],ty,pos,after,none⟩::rest) (St.mk env σv):=
 .value rfl hd _ (fun Γ φ a w hR=>by
  subst hf hz
  refine⟨.agg #[],?_,RelT.agg' (vs:=[]) rfl (fun i c v hc=>by simp at hc)⟩
  simp[execOp,Instr.build,N0 (t:=t),run_underlying ht.h,Value.cells,Instr.fill]) h
theorem S.store0{P:Program}{σ0:b6}{sz:Nat}{Q:Post}{env:Env}{σv:b6}{ops:Array Oper}{rest:List Oper}{ty:Ti}{pos:String}{after:Array Edge}{x y:Od}{t:Ti}{fs:Array Field}{bytes k j o:Nat}{id:Id}{es:List (List C)}{z:Vl}[ht:TyD P t (.struct fs)][hs:TyS P t 0 bytes z](hx:ev env x=some (.c (.ptr id j o)))(hy:ev env y=some (.agg []))(hσ:σv[id]? =some (some (.cells k es)))
  (h:AOps P σ0 sz ops Q rest (St.mk env σv)):AOps P σ0 sz ops Q (⟨none,.store t x y,ty,pos,after,none⟩::rest) (St.mk env σv):=
 .skipW rfl rfl σv (fun Γ φ a w hR=>by
  obtain⟨hid,b,base,hp,hv⟩:=aj7 (j7 hR hx) hσ
  have hv2:=agg0_inv (j7 hR hy)
  refine⟨w,φ,?_,hR⟩
  simp[execOp,hv,hv2,Instr.storeAt,Instr.sureAddr,storeVar,Value.cells,storeCells,q7 (t:=t)]) h
/-! ### Contracts with two kinds of ends -/
theorem FnOk.alt1{A B:Type}{P:Program}{f:FuncId}{args:List T}{σ:b6}{Q1:A->T->b6->Prop}{Q2:B->T->b6->Prop}{v:A}(h:FnOk P f args σ fun tt ss=>(∃w,(Sum.inl v:A⊕B)=.inl w/\Q1 w tt ss)\/∃w,(Sum.inl v:A⊕B)=.inr w/\Q2 w tt ss):FnOk P f args σ (Q1 v):=
 h.mono fun r s hq=>by
  rcases hq with⟨w,e,hq⟩|⟨w,e,_⟩
  ·cases e;exact hq
  ·cases e
theorem FnOk.alt2{A B:Type}{P:Program}{f:FuncId}{args:List T}{σ:b6}{Q1:A->T->b6->Prop}{Q2:B->T->b6->Prop}{v:B}(h:FnOk P f args σ fun tt ss=>(∃w,(Sum.inr v:A⊕B)=.inl w/\Q1 w tt ss)\/∃w,(Sum.inr v:A⊕B)=.inr w/\Q2 w tt ss):FnOk P f args σ (Q2 v):=
 h.mono fun r s hq=>by
  rcases hq with⟨w,e,_⟩|⟨w,e,hq⟩
  ·cases e
  ·cases e;exact hq
end Ab
end
section
namespace Ab
open Go
section
variable {α:Type}
def pool(size:Nat)(f:α->List I)(E:List α):Ent:=.node none (E.map fun e=>.one (vec size f [e]))
def prow(r:Nat)(l:Li):Blk:=.cells 1 (l.map fun i=>[.ptr (r,[i.toNat]) 0 0])
def T8{K:Type}(fk:K->Vl)(ks:List K):Obj->List Vl->Prop:=fun o us=>∃es c,o=.map es c/\es.toList.map (·.key)=ks.map fk/\es.toList.map (·.val)=us
def mapCB{K V:Type}(fk:K->Vl)(fc:V->C)(m:List (K×V)):Blk:=.obj (T8 fk (m.map (·.1))) (m.map fun p=>fc p.2)
def U0(r:Nat)(i:Int):C:=.ptr (r,[i.toNat]) 0 0
def pmap{K:Type}(r:Nat)(fk:K->Vl)(m:List (K×Int)):Blk:=mapCB fk (U0 r) m
def ptrO(r:Nat):Option Int->C
 |some i=>U0 r i
 |none=>.imm (.val (.pointer none))
theorem ptrO_some{r:Nat}{o:Option Int}{i:Int}(h:o=some i):some (T.c (ptrO r o))=some (T.c (.ptr (r,[i.toNat]) 0 0)):=by rw[h];rfl
theorem ac1{size:Nat}{f:α->List I}{E:List α}{p:List Nat}{b:Blk}(h:(pool size f E).sub p=some b):∃i e,p=[i]/\E[i]? =some e/\b=vec size f [e]:=by
 cases p with
 |nil=>cases h
 |cons i q=>
  simp only[pool,Ent.sub,lM] at h
  cases hi:E[i]? with
  |none=>simp[hi] at h
  |some e=>
   rw[hi] at h
   cases q with
   |nil=>simp only[eJ,Ent.sub,Option.some.injEq] at h;exact⟨i,e,rfl,hi,h.symm⟩
   |cons=>simp[Ent.sub] at h
theorem aA0{size:Nat}{f:α->List I}{E:List α}{i:Nat}{e:α}(h:E[i]? =some e):(pool size f E).sub [i]=some (vec size f [e]):=by
 simp[pool,Ent.sub,h]
theorem D0{σ:b6}{r size:Nat}{f:α->List I}{E:List α}{i:Int}{e:α}(h:σ[r]? =some (pool size f E))(he:ix E i=some e):σ[((r,[i.toNat]):Id)]? =some (some (.cells size [(f e).map .imm])):=by
 rw[r9 h,aA0 (S9 he).2];rfl
theorem s8{size n:Nat}{f:α->List I}{E:List α}:∀q b,(pool size f E).sub q=some b->b.ok n=true:=fun q b h=>by
 obtain⟨i,e,_,_,rfl⟩:=ac1 h;exact H8
theorem pool_no{size:Nat}{f:α->List I}{E:List α}{id:Id}:∀q b,(pool size f E).sub q=some b->b.no id=true:=fun q b h=>by
 obtain⟨i,e,_,_,rfl⟩:=ac1 h;exact Blk.im_no _ _ _
theorem pool_fwd{size:Nat}{f:α->List I}{E:List α}{π:Id->Id}:∀p b,(pool size f E).sub p=some b->(pool size f E).sub p=some (b.ren π):=fun p b h=>by
 obtain⟨i,e,rfl,_,rfl⟩:=ac1 h;rw[h,E2]
theorem pool_bwd{size:Nat}{f:α->List I}{E:List α}{π:Id->Id}:∀p b,(pool size f E).sub p=some b->∃b0,(pool size f E).sub p=some b0/\b=b0.ren π:=fun p b h=>by
 obtain⟨i,e,rfl,_,rfl⟩:=ac1 h;exact⟨_,h,E2.symm⟩
theorem RenE.pool{size r r':Nat}{f:α->List I}{E:List α}{π:Id->Id}:RenE π r (Ab.pool size f E) r' (Ab.pool size f E):=.any pool_fwd pool_bwd
theorem y5.pool{size r m a:Nat}{f:α->List I}{E:List α}{n:Id}{σ:b6}(hσ:σ[r]? =some (Ab.pool size f E)):y5 (a,[]) n σ m r (Ab.pool size f E):=by
 show ∀(p:List Nat) (b:Blk),(Ab.pool size f E).sub p=some b->_
 intro p b hb
 obtain⟨i,e,rfl,_,rfl⟩:=ac1 hb
 have hm:mv (a,[]) n (r,[i])=(r,[i]):=by
  have:((r,[i]):Id) ≠ (a,[]):=fun e=>by cases e
  simp[mv,D6 this]
 rw[hm,r9 hσ,hb]
 exact⟨H8,by rw[E2]⟩
theorem y5.poolR{size r m a q:Nat}{f:α->List I}{E:List α}{n:Id}{σ:b6}(h:eN a r=false)(hσ:σ[r]? =some (Ab.pool size f E)):y5 (a,[q]) n σ m r (Ab.pool size f E):=by
 show ∀(p:List Nat) (b:Blk),(Ab.pool size f E).sub p=some b->_
 intro p b hb
 obtain⟨i,e,rfl,_,rfl⟩:=ac1 hb
 have hm:mv (a,[q]) n (r,[i])=(r,[i]):=by
  have:((r,[i]):Id) ≠ (a,[q]):=fun e=>by cases e;simp at h
  simp[mv,D6 this]
 rw[hm,r9 hσ,hb]
 exact⟨H8,by rw[E2]⟩
theorem EntR.pool{size r n m i j:Nat}{f:α->List I}{E:List α}{σ:b6}(hj:(mvr r n (i,[])).1=j)(hσ:σ[j]? =some (Ab.pool size f E)):EntR r n σ m i (Ab.pool size f E):=.any fun p b hb=>by
 have e:∀q,mvr r n (i,q)=(j,q):=fun q=>by rw[<- hj];rfl
 obtain⟨k,e0,rfl,_,rfl⟩:=ac1 hb
 rw[e,r9 hσ,hb]
 exact⟨H8,by rw[E2]⟩
theorem FrzB.pool{size:Nat}{f:α->List I}{E:List α}{id:Id}{X:C->C->Prop}:FrzB id X (Ab.pool size f E) (Ab.pool size f E):=by
 show _=_/\_
 exact⟨rfl,fun p b h=>pool_no p b h⟩
/-! ### Rows and maps of pointers among other blocks -/
theorem m7{r n:Nat}{l:Li}(h:eU r n=true):(prow r l).ok n=true:=by
 simp only[prow,Blk.ok,fA,eK]
 intro i _
 simp[C.okL,C.ok] at h ⊢
 exact h
theorem prow_no{r a:Nat}{l:Li}:(prow r l).no (a,[])=true:=by
 simp only[prow,Blk.no,fA,eK]
 intro i _
 have:idb ((r,[i.toNat]):Id) (a,[])=false:=D6 (fun e=>by cases e)
 simp[C.noL,C.no,this]
theorem prow_noR{r a p:Nat}{l:Li}(h:eN a r=false):(prow r l).no (a,[p])=true:=by
 simp only[prow,Blk.no,fA,eK]
 intro i _
 have:idb ((r,[i.toNat]):Id) (a,[p])=false:=D6 (fun e=>by cases e;simp at h)
 simp[C.noL,C.no,this]
theorem l7{r r':Nat}{l:Li}{π:Id->Id}(h:∀q,π (r,q)=(r',q)):(prow r l).ren π=prow r' l:=by
 simp[prow,Blk.ren,C.renL,C.ren,h]
theorem V1{r:Nat}{l:Li}{a:Nat}{n:Id}:(prow r l).ren (mv (a,[]) n)=prow r l:=Blk.ren_no _ prow_no
theorem prow_mvR{r a q:Nat}{l:Li}{n:Id}(h:eN a r=false):(prow r l).ren (mv (a,[q]) n)=prow r l:=Blk.ren_no _ (prow_noR h)
theorem E9{i n:Id}{id:Id}{b:Blk}{σ:b6}(h:σ[i]? =some (some b))(e:b.ren (mv id n)=b):σ[i]? =some (some (b.ren (mv id n))):=by rw[e];exact h
theorem M0{r n i:Nat}{b b':Blk}{σ:b6}{j:Id}(hj:mvr r n (i,[])=j)(h:σ[j]? =some (some b'))(e:b.ren (mvr r n)=b'):σ[mvr r n (i,[])]? =some (some (b.ren (mvr r n))):=by rw[hj,e];exact h
theorem renL_map{r r':Nat}{K:Type}{m:List (K×Int)}{π:Id->Id}(h:∀q,π (r,q)=(r',q)):C.renL π (m.map fun p=>U0 r p.2)=m.map fun p=>U0 r' p.2:=by
 induction m with
 |nil=>rfl
 |cons p m ih=>
  have e:C.ren π (U0 r p.2)=U0 r' p.2:=by simp[U0,C.ren,h]
  simp only[fG,C.renL,ih,e]
section
variable {K:Type}{fk:K->Vl}{r:Nat}{m:List (K×Int)}
theorem p9{n:Nat}(h:eU r n=true):(pmap r fk m).ok n=true:=by
 simp only[pmap,mapCB,Blk.ok]
 rw[I0,fA,eK]
 intro p _
 simpa[U0,C.ok] using h
theorem pmap_no{a:Nat}:(pmap r fk m).no (a,[])=true:=by
 simp only[pmap,mapCB,Blk.no]
 rw[noL_eq,fA,eK]
 intro p _
 have:idb ((r,[p.2.toNat]):Id) (a,[])=false:=D6 (fun e=>by cases e)
 simp[U0,C.no,this]
theorem pmap_noR{a q:Nat}(h:eN a r=false):(pmap r fk m).no (a,[q])=true:=by
 simp only[pmap,mapCB,Blk.no]
 rw[noL_eq,fA,eK]
 intro p _
 have:idb ((r,[p.2.toNat]):Id) (a,[q])=false:=D6 (fun e=>by cases e;simp at h)
 simp[U0,C.no,this]
theorem q8{r':Nat}{π:Id->Id}(h:∀q,π (r,q)=(r',q)):(pmap r fk m).ren π=pmap r' fk m:=by
 simp only[pmap,mapCB,Blk.ren,renL_map h]
theorem U6{a:Nat}{n:Id}:(pmap r fk m).ren (mv (a,[]) n)=pmap r fk m:=Blk.ren_no _ pmap_no
theorem pmap_mvR{a q:Nat}{n:Id}(h:eN a r=false):(pmap r fk m).ren (mv (a,[q]) n)=pmap r fk m:=Blk.ren_no _ (pmap_noR h)
end
theorem FrzB.prow{r a:Nat}{l:Li}{X:C->C->Prop}:FrzB (a,[]) X (.one (Ab.prow r l)) (.one (Ab.prow r l)):=by
 have h:=prow_no (r:=r) (a:=a) (l:=l)
 unfold FrzB
 split
 ·rename_i h1 _;cases h1
 ·rename_i k1 e k2 e' h1 h2
  simp only[Ab.prow,Ent.one.injEq,Blk.cells.injEq] at h1 h2
  obtain⟨rfl,h1⟩:=h1
  obtain⟨rfl,h2⟩:=h2
  have:e=e':=by rw[h1] at h2;simpa using h2
  subst this
  refine⟨rfl,?_⟩
  obtain⟨i,rfl⟩:∃i,l=[i]:=by
   cases l with
   |nil=>simp at h1
   |cons i l=>cases l with
    |nil=>exact⟨i,rfl⟩
    |cons b l=>simp at h1
  simp only[fG,List.map_nil,List.cons.injEq,and_true] at h1
  subst h1
  refine⟨.inl ⟨rfl,?_⟩,Y⟩
  have:idb ((r,[i.toNat]):Id) (a,[])=false:=D6 (fun e=>by cases e)
  simp[C.no,this]
 ·rename_i h1 h2
  cases h1;cases h2
  exact⟨rfl,h⟩
 ·rename_i h1;cases h1
 ·rename_i h1 h2 h3 h4
  first|exact(h3 _ _ rfl rfl).elim|exact(h4 _ _ rfl rfl).elim|exact(h2 _ _ rfl rfl).elim
end
section
variable {P:Program}{σ0:b6}{sz:Nat}{Q:Post}{env env':Env}{σv σ':b6}{ops:Array Oper}{rest:List Oper}{dst:Option Nat}{ty:Ti}{pos:String}{after:Array Edge}
/-! ### Rows of pointers -/
theorem S.loadP{x:Od}{t:Ti}{d:TypeDesc}{h r:Nat}{i a:Int}{l:Li}[ht:TyD P t d](he:ix l i=some a)(ha:y9 d=false)(hx:ev env x=some (.c (.ptr (h,[]) i.toNat 0)))(hσ:σv[((h,[]):Id)]? =some (some (prow r l)))(hd:g9 sz dst=true)
  (hh:AOps P σ0 sz ops Q rest (St.mk (putE env dst (.c (.ptr (r,[a.toNat]) 0 0))) σv)):AOps P σ0 sz ops Q (⟨dst,.load t x,ty,pos,after,none⟩::rest) (St.mk env σv):=
 .load (e:=[.ptr (r,[a.toNat]) 0 0]) ha hx hσ (by rw[lM,(S9 he).2];rfl) rfl hd hh
theorem S.storeP{x y:Od}{t:Ti}{bytes h r:Nat}{z:Vl}{i:Nat}{a:Int}{l:Li}[hs:TyS P t 1 bytes z](hi:i<l.length)(hx:ev env x=some (.c (.ptr (h,[]) i 0)))(hy:ev env y=some (.c (.ptr (r,[a.toNat]) 0 0)))
  (hσ:σv[((h,[]):Id)]? =some (some (prow r l))) (hσ':putF σv (h,[]) (some (prow r (l.set i a)))=some σ') (hh:AOps P σ0 sz ops Q rest (St.mk env σ')):AOps P σ0 sz ops Q (⟨none,.store t x y,ty,pos,after,none⟩::rest) (St.mk env σv):=by
 have h2:=y6 hσ'
 subst h2
 refine AOps.store hx hy hσ (by rw[lM,fE hi];rfl) (by simp) ?_
 have e:(l.map fun i=>[C.ptr (r,[i.toNat]) 0 0]).set i [.ptr (r,[a.toNat]) 0 0]=(l.set i a).map fun i=>[C.ptr (r,[i.toNat]) 0 0]:=by rw[fF]
 simp only[List.set_cons_zero]
 rw[e]
 exact hh
theorem S.appendP{x y:Od}{t e:Ti}{bytes m k h s r:Nat}{n:Id}{z:Vl}{l new l':Li}{σ1:b6}[ht:TyD P t (.slice e)][hs:TyS P e 1 bytes z]
  (ha:app bytes l new=some l') (hzk:(z.cells.size==1)=true) (hbp:eU 0 bytes=true) (hx:ev env x=some (.c (.own (h,[]) 0 m))) (hm:m=l.length) (hσ:σv[((h,[]):Id)]? =some (some (prow r l)))
  (hy:ev env y=some (.c (.own (s,[]) 0 k))) (hk:k=new.length) (hs':σv[((s,[]):Id)]? =some (some (prow r new))) (hn:newF σv=some n) (h1:putF σv (h,[]) none=some σ1) (hσ':s5 σ1 (.one (prow r l'))=some σ') (hd:g9 sz dst=true)
  (hh:AOps P σ0 sz ops Q rest (St.mk (putE env dst (.c (.own n 0 l'.length))) σ')):AOps P σ0 sz ops Q (⟨dst,.call ⟨.builtin .append,#[x,y],#[t,t]⟩,ty,pos,after,none⟩::rest) (St.mk env σv):=by
 obtain⟨hb,rfl⟩:=an2 ha
 have h2:=y6 h1
 have h3:=y8 hn;have h4:=r8 hσ'
 subst hm hk h2 h3 h4
 have hsrc:=Src.own (σ:=σv) (j:=0) (n:=new.length) hs'
 refine AOps.append hzk hbp hx hσ hy hsrc ?_ hd ?_
 ·rw[fa,eQ (by simp)];simpa using hb
 ·have e1:(((l.map fun i=>[C.ptr (r,[i.toNat]) 0 0]).drop 0).take l.length)++(((new.map fun i=>[C.ptr (r,[i.toNat]) 0 0]).drop 0).take new.length)=(l++new).map fun i=>[C.ptr (r,[i.toNat]) 0 0]:=by
   rw[fa,fa,eQ (by simp),eQ (by simp)];simp
  have e2:l.length+((((new.map fun i=>[C.ptr (r,[i.toNat]) 0 0]).drop 0).take new.length)).length=(l++new).length:=by simp
  rw[e1,e2]
  exact hh
theorem S.shrinkP{x y:Od}{t e:Ti}{bytes n h r:Nat}{z:Vl}{kk:IntKind}{hi:Int}{l l':Li}[ht:TyD P t (.slice e)][hs:TyS P e 1 bytes z]
  (hl:subL l 0 hi=some l') (hx:ev env x=some (.c (.own (h,[]) 0 n))) (hn:n=l.length) (hσ:σv[((h,[]):Id)]? =some (some (prow r l))) (hy:ev env y=some (.c (.imm (.val (.int kk hi))))) (hd:g9 sz dst=true)
  (hh:AOps P σ0 sz ops Q rest (St.mk (putE env dst (.c (.own (h,[]) 0 l'.length))) σv)):AOps P σ0 sz ops Q (⟨dst,.slice t x none (some y) none,ty,pos,after,none⟩::rest) (St.mk env σv):=by
 unfold subL at hl
 split at hl
 ·rename_i hc
  cases hl
  have e1:hi=((hi.toNat:Nat):Int):=by omega
  rw[e1] at hy
  refine AOps.sliceOwnTo hx hσ hy (by omega) hd ?_
  rw[show(List.drop (Int.toNat 0) (fW hi.toNat l)).length=hi.toNat by simp;omega] at hh
  exact hh
 ·cases hl
/-! ### Entries -/
theorem setF_at{σ σ':b6}{n:Nat}{e e':Ent}(h:σ[n]? =some e)(h':setF σ n e'=some σ')(i:Id):σ'[i]? =if i.1=n then some (e'.sub i.2) else σ[i]? :=by
 obtain⟨rfl,_⟩:=J9 h'
 exact set_ent h i
theorem S.storeE{α:Type}{size bytes o r:Nat}{f:α->List I}{E:List α}{i:Int}{e e':α}{c:I}{x y:Od}{t:Ti}{z:Vl}[hs:TyS P t 1 bytes z](he:ix E i=some e)(hl:eU o (f e).length=true)(hf:(f e).set o c=f e')(hx:ev env x=some (.c (.ptr (r,[i.toNat]) 0 o)))(hy:ev env y=some (.c (.imm c)))
  (hσ:σv[r]? =some (pool size f E)) (hσ':setF σv r (pool size f (E.set i.toNat e'))=some σ') (hh:AOps P σ0 sz ops Q rest (St.mk env σ')):AOps P σ0 sz ops Q (⟨none,.store t x y,ty,pos,after,none⟩::rest) (St.mk env σv):=by
 have hlt:=o7 he
 have hlo:o<((f e).map C.imm).length:=by rw[eX];exact eO hl
 refine AOps.store hx hy (D0 hσ he) rfl hlo ?_
 have e1:([(f e).map C.imm].set 0 (((f e).map C.imm).set o (.imm c)))=[(f e').map C.imm]:=by
  rw[<- hf,fF];rfl
 rw[e1]
 have h2:=(J9 hσ').1
 refine AOps.sub (Sub.same (by rw[h2];simp) fun j=> ?_) hh
 rw[setF_at hσ hσ']
 have hb:σv[((r,[i.toNat]):Id)]? =some (some (.cells size [(f e).map .imm])):=D0 hσ he
 by_cases hj:j=(r,[i.toNat])
 ·subst hj
  rw[b6.get_put_eq hb,if_pos rfl,aA0 (e:=e') (by simp[hlt])]
  rfl
 ·rw[b6.get_put_ne hj]
  by_cases hr:j.1=r
  ·obtain⟨j1,q⟩:=j
   simp only at hr
   subst hr
   rw[if_pos rfl,r9 hσ]
   congr 1
   cases q with
   |nil=>rfl
   |cons a q=>
    simp only[pool,Ent.sub,lM,eG]
    by_cases ha:i.toNat=a
    ·subst ha
     cases q with
     |nil=>exact absurd rfl hj
     |cons b q=>
      rw[if_pos rfl,if_pos hlt,(S9 he).2]
      rfl
    ·rw[if_neg ha]
  ·rw[if_neg hr]
def chkH(n:Nat)(l:Li):Option Unit:=if ∀i ∈ l,i.toNat<n then some () else none
theorem chkH_get{n:Nat}{l:Li}{u:Unit}(h:chkH n l=some u):∀i ∈ l,i.toNat<n:=by
 unfold chkH at h
 split at h
 ·assumption
 ·cases h
theorem y5.adopt{α:Type}{size r m n:Nat}{f:α->List I}{E:List α}{e:α}{σ:b6}(hσ:σ[r]? =some (Ab.pool size f E))(hn:σ[((n,[]):Id)]? =some (some (vec size f [e]))):y5 (r,[E.length]) (n,[]) σ m r (Ab.pool size f (E++[e])):=by
 show ∀(p:List Nat) (b:Blk),(Ab.pool size f (E++[e])).sub p=some b->_
 intro p b hb
 obtain⟨i,e0,rfl,hi,rfl⟩:=ac1 hb
 refine⟨H8,?_⟩
 rw[E2]
 rw[eZ] at hi
 split at hi
 ·rename_i hlt
  have hm:mv (r,[E.length]) (n,[]) (r,[i])=(r,[i]):=by
   have:((r,[i]):Id) ≠ (r,[E.length]):=fun e=>by cases e;omega
   simp[mv,D6 this]
  rw[hm,r9 hσ,aA0 hi]
 ·rename_i hge
  have hi0:i=E.length:=by
   have:=(lG.1 hi).1
   simp at this;omega
  subst hi0
  simp at hi
  subst hi
  have hm:mv (r,[E.length]) (n,[]) (r,[E.length])=(n,[]):=by simp[mv,I4.2 rfl]
  rw[hm,hn]
theorem prow_adopt{r k:Nat}{l:Li}{n:Id}{u:Unit}(h:chkH k l=some u):(prow r l).ren (mv (r,[k]) n)=prow r l:=by
 refine Blk.ren_no _ ?_
 simp only[prow,Blk.no,fA,eK]
 intro i hi
 have:=chkH_get h i hi
 have:idb ((r,[i.toNat]):Id) (r,[k])=false:=D6 (fun e=>by cases e;omega)
 simp[C.noL,C.no,this]
theorem pmap_adopt{K:Type}{fk:K->Vl}{r k:Nat}{m:List (K×Int)}{n:Id}{u:Unit}(h:chkH k (m.map (·.2))=some u):(pmap r fk m).ren (mv (r,[k]) n)=pmap r fk m:=by
 refine Blk.ren_no _ ?_
 simp only[pmap,mapCB,Blk.no]
 rw[noL_eq,fA,eK]
 intro p hp
 have:=chkH_get h p.2 (fU.2 ⟨p,hp,rfl⟩)
 have:idb ((r,[p.2.toNat]):Id) (r,[k])=false:=D6 (fun e=>by cases e;omega)
 simp[U0,C.no,this]
theorem ptr_adopt{r n:Nat}{k:Nat}:some (T.c (.ptr (n,[]) 0 0))=some (T.ren (mv (r,[k]) (n,[])) (.c (.ptr (r,[((k:Int)).toNat]) 0 0))):=by
 simp[T.ren,C.ren,mv,I4.2 rfl]
theorem aw7{i id n:Id}{b:Blk}{σ:b6}(h:σ[i]? =some (some b))(e:b.ren (mv id n)=b)(hm:mv id n i=i):σ[mv id n i]? =some (some (b.ren (mv id n))):=by rw[hm,e];exact h
theorem mv_root{r k a:Nat}{n:Id}:mv (r,[k]) n (a,[])=(a,[]):=by
 have:((a,[]):Id) ≠ (r,[k]):=fun e=>by cases e
 simp[mv,D6 this]
theorem Sub.newPool{α:Type}{size:Nat}{f:α->List I}(hσ:s5 σv (pool size f ([]:List α))=some σ'):Sub σ0 ⟨env,σv⟩ ⟨env,σ'⟩:=by
 have h:=r8 hσ
 subst h
 intro Γ sz φ a w hΓ hR
 have hV:=hR.toRs.virt 1
 have hK:=hV.2.kill (σv.length,[])
 refine(Sub.same (σ0:=σ0) (env:=env) (σ1:=b6.put (σv++[Ent.one (Blk.cells 1 [])]) (σv.length,[]) none) (by simp) fun i=> ?_) Γ sz _ a w hΓ ((hR.of hV.1 hV.2).of hK.1 hK.2)
 by_cases hi:i=(σv.length,[])
 ·subst hi
  have e0:(σv++[Ent.one (Blk.cells 1 [])])[((σv.length,[]):Id)]? =some (some (Blk.cells 1 [])):=by
   rw[b6.get_right (by simp)];simp[b6.at_eq,b6.at,Ent.sub]
  rw[b6.get_put_eq e0,b6.get_right (by simp)]
  simp[b6.at_eq,b6.at,pool,Ent.sub]
 ·rw[b6.get_put_ne hi]
  rcases ff i.1 σv.length with hl|hl
  ·rw[b6.get_left hl,b6.get_left hl]
  ·rw[b6.get_right hl,b6.get_right hl]
   obtain⟨i1,q⟩:=i
   rw[b6.at_eq,b6.at_eq]
   simp only[b6.at]
   cases hk:i1 - σv.length with
   |zero=>
    cases q with
    |nil=>exact absurd (by simp at hl;congr 1;omega) hi
    |cons a q=>simp[pool,Ent.sub]
   |succ m=>rfl
/-! ### Maps of pointers -/
section
variable {K:Type}[DecidableEq K]{V:Type}{fk:K->Vl}{d:TypeDesc}
def mdel:List (K×V)->K->List (K×V)
 |[],_=>[]
 |p::r,k=>if k=p.1 then r else p::mdel r k
theorem aw9(hk:KeyT d fk)(k:K):∀(m:List (K×V)) (l:List MapEntry) (i:Nat),l.map (·.key)=(m.map (·.1)).map fk->
  (mget m k=none/\Instr.findNow d (fk k) l i=some none/\(∀v,mset m k v=m++[(k,v)])/\mdel m k=m)\/
  ∃j p e,m[j]? =some p/\mget m k=some p.2/\l[j]? =some e/\e.key=fk k/\Instr.findNow d (fk k) l i=some (some (i+j,e.val))/\(∀v,mset m k v=m.set j (k,v))/\mdel m k=m.eraseIdx j
 |[],[],i,_=>.inl ⟨rfl,rfl,fun v=>rfl,rfl⟩
 |[],_::_,i,h=>by simp at h
 |_::_,[],i,h=>by simp at h
 |p::m,e::l,i,h=>by
  simp only[fG,List.cons.injEq] at h
  obtain⟨h1,h3⟩:=h
  obtain⟨r,hr,hiff⟩:∃r,Instr.sameNow d (fk k) e.key=some r/\(r=true↔fk k=e.key):=Go.MapKept.sameNow_of_keys (hk.key k) (by rw[h1];exact hk.key p.1)
  by_cases c:k=p.1
  ·have:r=true:=hiff.2 (by rw[h1,c])
   subst this
   exact .inr ⟨0,p,e,rfl,by simp[mget,c],rfl,by rw[h1,c],by simp[Instr.findNow,hr],fun v=>by simp[mset,c],by simp[mdel,c]⟩
  ·have:r=false:=by
    cases r with
    |false=>rfl
    |true=>exact absurd (hk.inj ((hiff.1 rfl).trans h1)) c
   subst this
   rcases aw9 hk k m l (i+1) h3 with⟨g1,g2,g3,g4⟩|⟨j,p',e',g1,g2,g3,g4,g5,g6,g7⟩
   ·exact .inl ⟨by simp[mget,c,g1],by simp[Instr.findNow,hr,g2],fun v=>by simp[mset,c,g3],by simp[mdel,c,g4]⟩
   ·exact .inr ⟨j+1,p',e',by simpa using g1,by simp[mget,c,g2],by simpa using g3,g4,by simp[Instr.findNow,hr,g5];omega,fun v=>by simp[mset,c,g6],by simp[mdel,c,g7]⟩
theorem at2{w:World}{φ:Phi}{σ:b6}{A:Nat->Prop}{id:Id}{p:Obj->List Vl->Prop}{cs:List C}{u:Vl}(h:RelT w φ σ A (.c (.map id)) u)(hσ:σ[id]? =some (some (.obj p cs))):∃b base,φ id=some (b,base)/\u=.map (some b):=by
 cases h with|c h=>cases h with|map hid h1 h=>exact h _ _ hσ
theorem W.makeMapP{t:Ti}{id:Id}(r:Nat)(fk:K->Vl)(hid:newF σv=some id)(hσ:s5 σv (.one (pmap r fk ([]:List (K×Int))))=some σ')(hd:g9 sz dst=true)
  (h:AOps P σ0 sz ops Q rest (St.mk (putE env dst (.c (.map id))) σ')):AOps P σ0 sz ops Q (⟨dst,.makeMap t none,ty,pos,after,none⟩::rest) (St.mk env σv):=by
 have h2:=y8 hid;have h3:=r8 hσ
 subst h2 h3
 refine .valueW rfl hd _ _ (fun Γ φ a w hR=> ?_) h
 have hA:=Rs.allocB (p0:=T8 fk []) (cs0:=[]) (us0:=[]) (obj:=.map #[] 0) hR.toRs ⟨#[],0,rfl,rfl,rfl⟩ (fun i x hx=>by simp at hx)
 exact⟨.map (some w.heap.size),w.alloc (.map #[] 0),_,by simp[execOp,Instr.makeMap],.c (.map (by simp) rfl fun p cs hp=>⟨w.heap.size,0,by simp[s7],rfl⟩),hR.of hA.1 hA.2⟩
theorem S.lookupOkP{x y:Od}{t kt vt:Ti}{id:Id}{r:Nat}{m:List (K×Int)}{k:K}{size bytes:Nat}{zv:Vl}[ht:TyD P t (.map kt vt)][hkt:TyD P kt d][hs:TyS P vt size bytes zv](hk:KeyT d fk)(hz:zv=.pointer none)
  (hx:ev env x=some (.c (.map id))) (hy:ev env y=some (.c (.imm (.val (fk k))))) (hσ:σv[id]? =some (some (pmap r fk m))) (hd:g9 sz dst=true)
  (h:AOps P σ0 sz ops Q rest (St.mk (putE env dst (.tup [.c (ptrO r (mget m k)),.c (bool (mget m k).isSome)])) σv)):AOps P σ0 sz ops Q (⟨dst,.lookup t x y true,ty,pos,after,none⟩::rest) (St.mk env σv):=by
 refine .valueW rfl hd _ _ (fun Γ φ a w hR=> ?_) h
 obtain⟨b,base,hp,hv⟩:=at2 (j7 hR hx) hσ
 obtain⟨hv2,_⟩:=H3 (j7 hR hy)
 obtain⟨b',o,us,g1,g2,⟨es,c,rfl,g3,g4⟩,g5⟩:=hR.st.blk _ _ hσ
 rw[hp] at g1;cases g1
 rcases aw9 hk k m es.toList 0 g3 with⟨q1,q2,_⟩|⟨j,p,e,q0,q1,q3,q4,q2,_⟩
 ·refine⟨.tuple #[.pointer none,.bool false],w,φ,?_,RelT.tup' (vs:=[.pointer none,.bool false]) rfl (fun i t u hi hu=> ?_),hR⟩
  ·simp[execOp,hv,hv2,Instr.lookup,run_underlying ht.h,Go.MapKept.run_getObj_map g2,Go.MapKept.run_checkKey hkt.h (hk.key k),Go.MapKept.run_findKey hkt.h q2,N0 (t:=vt),hz,Result.andThen]
  ·match i with
   |0=>cases hi;cases hu;rw[q1];exact .c (.imm (.val rfl))
   |1=>cases hi;cases hu;rw[q1];exact .bool _
   |i+2=>simp at hi
 ·obtain⟨u,hu,hru⟩:=g5 j (U0 r p.2) (by rw[lM,q0];rfl)
  have hue:u=e.val:=by
   rw[<- g4,lM,q3] at hu
   simpa using hu.symm
  subst hue
  refine⟨.tuple #[e.val,.bool true],w,φ,?_,RelT.tup' (vs:=[e.val,.bool true]) rfl (fun i t u hi hu=> ?_),hR⟩
  ·simp[execOp,hv,hv2,Instr.lookup,run_underlying ht.h,Go.MapKept.run_getObj_map g2,Go.MapKept.run_checkKey hkt.h (hk.key k),Go.MapKept.run_findKey hkt.h q2,Result.andThen]
  ·match i with
   |0=>cases hi;cases hu;rw[q1];exact .c hru
   |1=>cases hi;cases hu;rw[q1];exact .bool _
   |i+2=>simp at hi
theorem S.mapUpdateP{x y v:Od}{t kt vt:Ti}{id:Id}{r:Nat}{m:List (K×Int)}{k:K}{a:Int}[ht:TyD P t (.map kt vt)][hkt:TyD P kt d](hk:KeyT d fk)
  (hx:ev env x=some (.c (.map id))) (hy:ev env y=some (.c (.imm (.val (fk k))))) (hv:ev env v=some (.c (.ptr (r,[a.toNat]) 0 0))) (hσ:σv[id]? =some (some (pmap r fk m))) (hσ':putF σv id (some (pmap r fk (mset m k a)))=some σ')
  (h:AOps P σ0 sz ops Q rest (St.mk env σ')):AOps P σ0 sz ops Q (⟨none,.mapUpdate t x y v,ty,pos,after,none⟩::rest) (St.mk env σv):=by
 have h2:=y6 hσ'
 subst h2
 refine .skipW rfl rfl _ (fun Γ φ ac w hR=> ?_) h
 obtain⟨b,base,hp,e1⟩:=at2 (j7 hR hx) hσ
 obtain⟨e2,_⟩:=H3 (j7 hR hy)
 have hrv:=j7 hR hv
 generalize e3:ac.eval v=u at hrv
 have hru:RelC w φ σv (Al Γ.N φ σv) (U0 r a) u:=by cases hrv with|c h=>exact h
 obtain⟨b',o,us,g1,g2,⟨es,c,rfl,g3,g4⟩,g5⟩:=hR.st.blk _ _ hσ
 rw[hp] at g1;cases g1
 rcases aw9 hk k m es.toList 0 g3 with⟨q1,q2,q3,_⟩|⟨j,p,e,q0,q1,q3,q4,q2,q5,_⟩
 ·have hW:=Rs.writeB (q1:=T8 fk ((mset m k a).map (·.1))) (cs1:=(mset m k a).map fun p=>U0 r p.2) (us1:=us++[u]) (o1:=.map (es.push {key:=fk k,val:=u,born:=c}) (c+1)) hR.toRs hσ hp g2
   ⟨_,_,rfl,by rw[q3];simp[g3],by simp[g4]⟩ (fun i x hx=>by
    rw[q3,List.map_append,eZ] at hx
    split at hx
    ·obtain⟨u',h1,h2⟩:=g5 i x hx
     exact⟨u',by rw[eM (lG.1 h1).1];exact h1,h2⟩
    ·rename_i hge
     have hl:us.length=m.length:=by rw[<- g4];have:=congrArg gA g3;simpa using this
     simp only[eX] at hx hge
     have h0:i=m.length:=by
      have:=(lG.1 hx).1
      simp at this;omega
     subst h0
     simp at hx
     subst hx
     exact⟨u,by rw[<- hl];simp,hru⟩)
  refine⟨_,φ,?_,hR.of hW.1 hW.2⟩
  simp[execOp,e1,e2,e3,Instr.mapUpdate,run_underlying ht.h,Go.MapKept.run_getObj_map g2,Go.MapKept.run_checkKey hkt.h (hk.key k),Go.MapKept.run_findKey hkt.h q2,Go.MapKept.run_setObj_map _ g2,Result.andThen]
 ·have hj:es[j]? =some e:=by simpa using q3
  have hW:=Rs.writeB (q1:=T8 fk ((mset m k a).map (·.1))) (cs1:=(mset m k a).map fun p=>U0 r p.2) (us1:=us.set j u) (o1:=.map (es.modify j fun e=>{e with key:=fk k,val:=u}) c) hR.toRs hσ hp g2
   ⟨_,_,rfl,by
    rw[q5,fi]
    apply eI
    intro i
    have hg:=congrArg (fun l=>l[i]?) g3
    simp only[lM,fp,eG] at hg ⊢
    by_cases hi:j=i
    ·subst hi
     have hlt:=(lG.1 q0).1
     simp[q3,hlt]
    ·simpa[hi] using hg,by
    rw[fi]
    apply eI
    intro i
    have hg:=congrArg (fun l=>l[i]?) g4
    simp only[lM,fp,eG] at hg ⊢
    by_cases hi:j=i
    ·subst hi
     have hlt:j<us.length:=by rw[<- g4];simpa using(lG.1 q3).1
     simp[q3,hlt]
    ·simpa[hi] using hg⟩ (fun i x hx=>by
    rw[q5,lM,eG] at hx
    by_cases hi:j=i
    ·subst hi
     have hlt:=(lG.1 q0).1
     have hlu:j<us.length:=by rw[<- g4];simpa using(lG.1 q3).1
     simp[hlt] at hx
     subst hx
     exact⟨u,by simp[hlu],hru⟩
    ·rw[if_neg hi,<- lM] at hx
     obtain⟨u',h1,h2⟩:=g5 i x hx
     exact⟨u',by rw[eG,if_neg hi];exact h1,h2⟩)
  refine⟨_,φ,?_,hR.of hW.1 hW.2⟩
  simp[execOp,e1,e2,e3,Instr.mapUpdate,run_underlying ht.h,Go.MapKept.run_getObj_map g2,Go.MapKept.run_checkKey hkt.h (hk.key k),Go.MapKept.run_findKey hkt.h q2,hj,q4,Go.MapKept.run_keyThatStays (hk.key k),Go.MapKept.run_setObj_map _ g2,Result.andThen]
theorem aj0{A B:Type}(f:A->B):∀(l:List A) (j:Nat),(l.map f).eraseIdx j=(l.eraseIdx j).map f
 |[],_=>rfl
 |_::_,0=>rfl
 |a::l,j+1=>by simp[aj0 f l j]
theorem erase_rel{es:Array MapEntry}{us:List Vl}{m:List (K×Int)}{r j:Nat}(g3:es.toList.map (·.key)=(m.map (·.1)).map fk)(g4:es.toList.map (·.val)=us):
  (es.eraseIdxIfInBounds j).toList.map (·.key)=((m.eraseIdx j).map (·.1)).map fk/\(es.eraseIdxIfInBounds j).toList.map (·.val)=us.eraseIdx j:=by
 have e0:(es.eraseIdxIfInBounds j).toList=es.toList.eraseIdx j:=by
  unfold Array.eraseIdxIfInBounds
  split
  ·rw[Array.toList_eraseIdx]
  ·rename_i h
   rw[List.eraseIdx_of_length_le (by simpa using h)]
 rw[e0]
 exact⟨by rw[<- aj0,g3,<- aj0,<- aj0],by rw[<- aj0,g4]⟩
theorem S.deleteP{x y:Od}{t kt kt' vt:Ti}{id:Id}{r:Nat}{m:List (K×Int)}{k:K}[ht:TyD P t (.map kt vt)][hkt:TyD P kt d](hk:KeyT d fk)
  (hx:ev env x=some (.c (.map id))) (hy:ev env y=some (.c (.imm (.val (fk k))))) (hσ:σv[id]? =some (some (pmap r fk m))) (hd:g9 sz dst=true) (hσ':putF σv id (some (pmap r fk (mdel m k)))=some σ')
  (h:AOps P σ0 sz ops Q rest (St.mk (putE env dst (.tup [])) σ')):AOps P σ0 sz ops Q (⟨dst,.call ⟨.builtin .delete,#[x,y],#[t,kt']⟩,ty,pos,after,none⟩::rest) (St.mk env σv):=by
 have h2:=y6 hσ'
 subst h2
 refine .valueW rfl hd (.tup []) _ (fun Γ φ ac w hR=> ?_) h
 obtain⟨b,base,hp,e1⟩:=at2 (j7 hR hx) hσ
 obtain⟨e2,_⟩:=H3 (j7 hR hy)
 obtain⟨b',o,us,g1,g2,⟨es,c,rfl,g3,g4⟩,g5⟩:=hR.st.blk _ _ hσ
 rw[hp] at g1;cases g1
 have hnil:∀w φ σ A,RelT w φ σ A (.tup []) (.tuple #[]):=fun w φ σ A=>RelT.tup' (vs:=[]) rfl (fun i t u hi=>by simp at hi)
 rcases aw9 hk k m es.toList 0 g3 with⟨q1,q2,_,q6⟩|⟨j,p,e,q0,q1,q3,q4,q2,_,q6⟩
 ·have hW:=Rs.writeB (q1:=T8 fk ((mdel m k).map (·.1))) (cs1:=(mdel m k).map fun p=>U0 r p.2) (us1:=us) (o1:=.map es c) hR.toRs hσ hp g2 ⟨_,_,rfl,by rw[q6];exact g3,g4⟩ (fun i x hx=>by rw[q6] at hx;exact g5 i x hx)
  refine⟨.tuple #[],_,φ,?_,hnil _ _ _ _,hR.of hW.1 hW.2⟩
  simp[execOp,resolve,invoke,builtin,e1,e2,Builtin.delete_,run_underlying ht.h,Go.MapKept.run_getObj_map g2,Go.MapKept.run_checkKey hkt.h (hk.key k),Go.MapKept.run_findKey hkt.h q2,Go.MapKept.run_setObj_map _ g2,Result.andThen]
 ·have he:=erase_rel (r:=r) (j:=j) g3 g4
  have hW:=Rs.writeB (q1:=T8 fk ((mdel m k).map (·.1))) (cs1:=(mdel m k).map fun p=>U0 r p.2) (us1:=us.eraseIdx j) (o1:=.map (es.eraseIdxIfInBounds j) c) hR.toRs hσ hp g2 ⟨_,_,rfl,by rw[q6];exact he.1,he.2⟩ (fun i x hx=>by
   rw[q6,<- aj0,fY] at hx
   rw[fY]
   split at hx
   ·rename_i hlt
    obtain⟨u,h1,h2⟩:=g5 i x hx
    exact⟨u,by rw[if_pos hlt];exact h1,h2⟩
   ·rename_i hge
    obtain⟨u,h1,h2⟩:=g5 (i+1) x hx
    exact⟨u,by rw[if_neg hge];exact h1,h2⟩)
  refine⟨.tuple #[],_,φ,?_,hnil _ _ _ _,hR.of hW.1 hW.2⟩
  simp[execOp,resolve,invoke,builtin,e1,e2,Builtin.delete_,run_underlying ht.h,Go.MapKept.run_getObj_map g2,Go.MapKept.run_checkKey hkt.h (hk.key k),Go.MapKept.run_findKey hkt.h q2,Go.MapKept.run_setObj_map _ g2,Result.andThen]
end
/-! ### A view becomes a row of its own -/
theorem Sub.reownC{id:Id}{k j n:Nat}{es:List (List C)}{n':Id}{σ1:b6}(t:Nat)(hx:lookup t env=some (.c (.own id j n)))(hσ:σv[id]? =some (some (.cells k es)))(hjl:j+n<=es.length)(h0:fu σ0.length id.1=true)(hid:newF σv=some n')
  (h1:putF σv id none=some σ1) (hσ':s5 σ1 (.one (.cells k ((es.drop j).take n)))=some σ') (henv:ReE env t (.own n' 0 n) env'):Sub σ0 ⟨env,σv⟩ ⟨env',σ'⟩:=fun Γ sz φ a w hΓ hR=>by
 have h2:=y6 h1
 have h3:=y8 hid;have h4:=r8 hσ'
 have hvl:((es.drop j).take n).length=n:=by rw[fH,fI];omega
 subst h2 h3 h4
 generalize hes:(es.drop j).take n=es' at *
 have at_new:(σv.put id none++[Ent.one (.cells k es')])[((σv.length,[]):Id)]? =some (some (.cells k es')):=by
  rw[b6.get_right (by simp)];simp[b6.at_eq,b6.at,Ent.sub]
 obtain⟨u0,hu0,hrel⟩:=hR.env t _ hx
 have ho:=C9 hrel hσ
 have fin:∀(φ':Phi) (hk:Kept w w φ φ' σv (σv.put id none++[.one (.cells k es')]) (Al Γ.N φ σv) (Al Γ.N φ' (σv.put id none++[.one (.cells k es')]))) (hs:Rs Γ (σv.put id none++[.one (.cells k es')]) φ' w) (hview:W1 w (φ' (σv.length,[])) k es'.length 0 n u0),
   R Γ sz ⟨env',σv.put id none++[.one (.cells k es')]⟩ φ' a w:=fun φ' hk hs hview=>by
  have hR1:=hR.of hk hs
  refine {toRs:=hs,defers:=hR1.defers,asize:=hR.asize,env:=fun t' v' ht'=> ?_}
  rcases henv.get t' v' ht' with⟨rfl,rfl⟩|h
  ·refine⟨u0,hu0,.c (.own (by simp) (by cases hrel with|c g2=>exact g2.one) fun k' es2 he=> ?_)⟩
   rw[at_new] at he
   cases he
   exact hview
  ·obtain⟨u1,g1,g2⟩:=hR1.env t' v' h
   exact⟨u1,g1,g2⟩
 rcases ho with⟨p1,p2,p3,p4⟩|⟨b,base,cap,arr,ety,ad,hp,hvv,had,hcap,hmax,hjn,hbk,hsz⟩
 ·have hnil:es'=[]:=fh (by rw[hvl,p4])
  subst hnil
  have hK:=hR.toRs.kill id
  have hV:=hK.2.virt k
  rw[b6.length_put] at hV
  refine⟨fun i=>if i=(σv.length,[]) then none else φ i,?_⟩
  exact fin _ (Kept.trans (fq _) hK.1 hV.1) hV.2 (.inl ⟨by simp,p2,rfl,p4⟩)
 ·obtain⟨arr2,ety2,q1,q2,q3,q4⟩:=G1 hR hσ hp
  rw[hbk] at q1;cases q1
  have hO:=Rs.reown (k:=k) (base':=base+j * k) (es':=es') (arr':=arr) hR.toRs hσ hp hbk (fun i e he=>by
    rw[<- hes,eS] at he
    split at he
    ·rw[eV] at he
     exact q3 _ e he
    ·cases he) (by
    rw[hvl]
    have:(j+cap) * k=j * k+cap * k:=fj ..
    have:n * k<=cap * k:=fg k hcap
    omega) (fun i e o x he hx=>by
    rw[<- hes,eS] at he
    split at he
    ·rw[eV] at he
     obtain⟨u2,g1,g2⟩:=q4 _ e o x he hx
     refine⟨u2,?_,g2⟩
     rw[<- g1,fj]
     congr 1;omega
    ·cases he)
  rw[Go.setRow_self w b arr ety (0,0) hbk] at hO
  refine⟨fun i=>if i=(σv.length,[]) then some (b,base+j * k) else φ i,?_⟩
  refine fin _ hO.1 hO.2 (.inr ⟨b,base+j * k,cap,arr,ety,ad,by simp,hvv,fun hc=> ?_,hcap,hmax,by omega,hbk,?_⟩)
  ·rw[had hc,fS,fM]
  ·have:(j+cap) * k=j * k+cap * k:=fj ..
   rw[fz];omega
theorem Sub.reownP{h r m:Nat}{l l':Li}{n':Id}{σ1:b6}{hi:Int}(t:Nat)(hl:subL l 0 hi=some l')(hx:lookup t env=some (.c (.own (h,[]) 0 m)))(hm:m=l'.length)(hσ:σv[((h,[]):Id)]? =some (some (prow r l)))(h0:fu σ0.length h=true)(hid:newF σv=some n')
  (h1:putF σv (h,[]) none=some σ1) (hσ':s5 σ1 (.one (prow r l'))=some σ') (henv:ReE env t (.own n' 0 m) env'):Sub σ0 ⟨env,σv⟩ ⟨env',σ'⟩:=by
 have hll:l'.length<=l.length/\l'=l.take l'.length:=by
  unfold subL at hl
  split at hl
  ·cases hl
   refine⟨by simp;omega,?_⟩
   simp
  ·cases hl
 have e:(prow r l')=.cells 1 (((l.map fun i=>[C.ptr (r,[i.toNat]) 0 0]).drop 0).take m):=by
  rw[fa,<- fR,hm,<- hll.2];rfl
 rw[e] at hσ'
 exact Sub.reownC t hx hσ (by simp;omega) h0 hid h1 hσ' henv
/-! ### Places told by their bounds alone -/
theorem F5{β:Type}{l:List β}{i:Int}{a:β}(h:ix l i=some a):0<=i/\i.toNat<l.length:=⟨(S9 h).1,o7 h⟩
theorem S.idxPb{x y:Od}{t e:Ti}{bytes n h r:Nat}{z:Vl}{kk:IntKind}{i:Int}{l:Li}[ht:TyD P t (.slice e)][hs:TyS P e 1 bytes z]
  (hx:ev env x=some (.c (.own (h,[]) 0 n))) (hσ:σv[((h,[]):Id)]? =some (some (prow r l))) (hn:n=l.length) (hb:0<=i/\i.toNat<l.length) (hy:ev env y=some (.c (.imm (.val (.int kk i))))) (hd:g9 sz dst=true)
  (hh:AOps P σ0 sz ops Q rest (St.mk (putE env dst (.c (.ptr (h,[]) i.toNat 0))) σv)):AOps P σ0 sz ops Q (⟨dst,.indexAddr t x y,ty,pos,after,none⟩::rest) (St.mk env σv):=
 .indexAddrOwn hx hσ hy (by omega) hd (by rw[fz];exact hh)
theorem pool_ex{α:Type}{σ:b6}{r size:Nat}{f:α->List I}{E:List α}{i:Int}(h:σ[r]? =some (pool size f E))(hb:i.toNat<E.length):∃e:α,σ[((r,[i.toNat]):Id)]? =some (some (.cells size [(f e).map .imm])):=
 ⟨E[i.toNat],by rw[r9 h,aA0 (fE hb)];rfl⟩
theorem S.nilCheckE{α:Type}{size r o:Nat}{f:α->List I}{E:List α}{i:Int}{x:Od}(hx:ev env x=some (.c (.ptr (r,[i.toNat]) 0 o)))(hσ:σv[r]? =some (pool size f E))(hb:i.toNat<E.length)(hd:g9 sz dst=true)
  (h:AOps P σ0 sz ops Q rest (St.mk (putE env dst (.c (.ptr (r,[i.toNat]) 0 o))) σv)):AOps P σ0 sz ops Q (⟨dst,.nilCheck x,ty,pos,after,none⟩::rest) (St.mk env σv):=by
 obtain⟨e,he⟩:=pool_ex hσ hb
 exact AOps.nilCheck hx he hd h
theorem S.fieldE{α:Type}{size r g off ft size' bytes:Nat}{f:α->List I}{E:List α}{i:Int}{x:Od}{t:Ti}{z:Vl}[hf:FieldC P t g off ft][hs:TyS P ft size' bytes z](hz:eN size' 0=false)
  (hx:ev env x=some (.c (.ptr (r,[i.toNat]) 0 0))) (hσ:σv[r]? =some (pool size f E)) (hb:i.toNat<E.length) (hd:g9 sz dst=true)
  (h:AOps P σ0 sz ops Q rest (St.mk (putE env dst (.c (.ptr (r,[i.toNat]) 0 off))) σv)):AOps P σ0 sz ops Q (⟨dst,.fieldAddr t x g,ty,pos,after,none⟩::rest) (St.mk env σv):=by
 obtain⟨e,he⟩:=pool_ex hσ hb
 exact W.fieldAddr hz hx he hd h
def chkLen{A B:Type}(l:List A)(l':List B):Option Unit:=if l.length=l'.length then some () else none
theorem az9{A B:Type}{l:List A}{l':List B}{u:Unit}(h:chkLen l l'=some u):l.length=l'.length:=by
 unfold chkLen at h
 split at h
 ·assumption
 ·cases h
theorem Sub.virtP(r:Nat){b:Id}{n kb o:Nat}{cs cs':List C}{σ1:b6}(hb:σv[b]? =some (some (.cells kb [cs])))(hc:cs[o]? =some (.imm (.val (.slice none 0 0))))(hn:newF σv=some (n,[]))(h1:s5 σv (.one (prow r []))=some σ1)
  (hs:setF cs o (.own (n,[]) 0 ([]:Li).length)=some cs') (hσ':putF σ1 b (some (.cells kb [cs']))=some σ'):Sub σ0 ⟨env,σv⟩ ⟨env,σ'⟩:=
 Sub.virtB (α:=Int) 1 (fun _=>[]) hb hc hn h1 hs hσ'
theorem AWP.virtP{c:Code}(r:Nat){b:Id}{n kb o:Nat}{cs cs':List C}{σ1:b6}(hb:σv[b]? =some (some (.cells kb [cs])))(hc:cs[o]? =some (.imm (.val (.slice none 0 0))))(hn:newF σv=some (n,[]))(h1:s5 σv (.one (prow r []))=some σ1)
  (hs:setF cs o (.own (n,[]) 0 ([]:Li).length)=some cs') (hσ':putF σ1 b (some (.cells kb [cs']))=some σ') (h:AWP P σ0 sz c Q (St.mk env σ')):AWP P σ0 sz c Q (St.mk env σv):=AWP.sub (Sub.virtP r hb hc hn h1 hs hσ') h
end
end Ab
end
section
namespace Ab
open Go
section
variable {K α:Type}[DecidableEq K]
def posM:List (K×List α)->K->Nat
 |[],_=>0
 |p::r,k=>if k=p.1 then 0 else posM r k+1
def rowM(m:List (K×List α))(k:K):List α:=(mget m k).getD []
def rowC(r:Nat)(m:List (K×List α))(k:K):C:=match mget m k with
 |some row=>.own (r,[posM m k]) 0 row.length
 |none=>.imm (.val (.slice none 0 0))
theorem U2(k:K):∀m:List (K×List α),(mget m k=none/\posM m k=m.length/\∀v,mset m k v=m++[(k,v)])\/∃row,mget m k=some row/\m[posM m k]? =some (k,row)/\∀v,mset m k v=m.set (posM m k) (k,v)
 |[]=>.inl ⟨rfl,rfl,fun v=>rfl⟩
 |p::m=>by
  by_cases c:k=p.1
  ·exact .inr ⟨p.2,by simp[mget,c],by simp[posM,c],fun v=>by simp[mset,posM,c]⟩
  ·rcases U2 k m with⟨h1,h2,h3⟩|⟨row,h1,h2,h3⟩
   ·exact .inl ⟨by simp[mget,c,h1],by simp[posM,c,h2],fun v=>by simp[mset,c,h3]⟩
   ·exact .inr ⟨row,by simp[mget,c,h1],by simpa[posM,c] using h2,fun v=>by simp[mset,posM,c,h3]⟩
def O3(r:Nat)(m:List (K×List α)):List C:=m.mapIdx fun i p=>.own (r,[i]) 0 p.2.length
def mmap(r k:Nat)(fk:K->Vl)(f:α->List I)(m:List (K×List α)):Ent:=.node (some (.obj (T8 fk (m.map (·.1))) (O3 r m))) (m.map fun p=>.one (vec k f p.2))
def mmapD(r k:Nat)(fk:K->Vl)(f:α->List I)(m:List (K×List α))(key:K):Ent:=.node (some (.obj (T8 fk (m.map (·.1))) (O3 r m))) ((m.map fun p=>.one (vec k f p.2)).set (posM m key) .dead)
def ap4(r:Nat)(m:List (K×List α))(key:K)(s n:Nat):List C:=if(mget m key).isSome=true then(O3 r m).set (posM m key) (.own (s,[]) 0 n) else O3 r m++[.own (s,[]) 0 n]
def mmapS(r k:Nat)(fk:K->Vl)(f:α->List I)(m:List (K×List α))(key:K)(s n:Nat):Ent:=.node (some (.obj (T8 fk ((mset m key []).map (·.1))) (ap4 r m key s n))) ((m.map fun p=>.one (vec k f p.2)).set (posM m key) .dead)
variable {fk:K->Vl}{f:α->List I}{m:List (K×List α)}{r k:Nat}
theorem heads_len:(O3 r m).length=m.length:=by simp[O3]
theorem heads_get{i:Nat}{x:C}(h:(O3 r m)[i]? =some x):∃p,m[i]? =some p/\x=.own (r,[i]) 0 p.2.length:=by
 simp only[O3,eH,oM] at h
 obtain⟨p,h1,h2⟩:=h
 exact⟨p,h1,h2.symm⟩
theorem mm_sub{q:List Nat}{b:Blk}(h:(mmap r k fk f m).sub q=some b):(q=[]/\b=.obj (T8 fk (m.map (·.1))) (O3 r m))\/∃i p,q=[i]/\m[i]? =some p/\b=vec k f p.2:=by
 cases q with
 |nil=>exact .inl ⟨rfl,by simpa[mmap,Ent.sub] using h.symm⟩
 |cons i q=>
  simp only[mmap,Ent.sub,lM] at h
  cases hi:m[i]? with
  |none=>simp[hi] at h
  |some p=>
   rw[hi] at h
   cases q with
   |nil=>simp only[eJ,Ent.sub,Option.some.injEq] at h;exact .inr ⟨i,p,rfl,hi,h.symm⟩
   |cons=>simp[Ent.sub] at h
theorem mm_main:(mmap r k fk f m).sub []=some (.obj (T8 fk (m.map (·.1))) (O3 r m)):=rfl
theorem mm_row{i:Nat}{p:K×List α}(h:m[i]? =some p):(mmap r k fk f m).sub [i]=some (vec k f p.2):=by simp[mmap,Ent.sub,h]
theorem heads_ok{n:Nat}(h:eU r n=true):C.okL n (O3 r m)=true:=by
 rw[I0,eK]
 intro x hx
 obtain⟨i,hi⟩:=fo hx
 obtain⟨p,_,rfl⟩:=heads_get hi
 simpa[C.ok] using h
theorem heads_no{id:Id}(h:id.1 ≠ r):C.noL id (O3 r m)=true:=by
 rw[noL_eq,eK]
 intro x hx
 obtain⟨i,hi⟩:=fo hx
 obtain⟨p,_,rfl⟩:=heads_get hi
 have:idb ((r,[i]):Id) id=false:=D6 (fun e=>h (by rw[<- e]))
 simp[C.no,this]
theorem mm_ok{n:Nat}(h:eU r n=true):∀q b,(mmap r k fk f m).sub q=some b->b.ok n=true:=fun q b hb=>by
 rcases mm_sub hb with⟨_,rfl⟩|⟨i,p,_,_,rfl⟩
 ·simpa[Blk.ok] using heads_ok h
 ·exact H8
theorem mm_no{id:Id}(h:id.1 ≠ r):∀q b,(mmap r k fk f m).sub q=some b->b.no id=true:=fun q b hb=>by
 rcases mm_sub hb with⟨_,rfl⟩|⟨i,p,_,_,rfl⟩
 ·simpa[Blk.no] using heads_no h
 ·exact Blk.im_no _ _ _
theorem y5.mmap{id n:Id}{mx:Nat}{σ:b6}(h:eN id.1 r=false)(hr:eU r mx=true)(hσ:σ[r]? =some (Ab.mmap r k fk f m)):y5 id n σ mx r (Ab.mmap r k fk f m):=by
 have hne:id.1 ≠ r:=fun e=>by simp[e] at h
 show ∀(p:List Nat) (b:Blk),(Ab.mmap r k fk f m).sub p=some b->_
 intro p b hb
 have hm:mv id n (r,p)=(r,p):=by
  have:(r,p) ≠ id:=fun e=>hne (by rw[<- e])
  simp[mv,D6 this]
 rw[hm,r9 hσ,hb]
 exact⟨mm_ok hr p b hb,by rw[Blk.ren_no _ (mm_no hne p b hb)]⟩
theorem aA7{π:Id->Id}{r':Nat}(h:∀q,π (r,q)=(r',q)):C.renL π (O3 r m)=O3 r' m:=by
 have renL_get:∀(L:List C) (i:Nat),(C.renL π L)[i]? =(L[i]?).map (C.ren π):=fun L=>by
  induction L with
  |nil=>intro i;simp[C.renL]
  |cons x L ih=>intro i;cases i with
   |zero=>simp[C.renL]
   |succ i=>simpa[C.renL] using ih i
 apply eI
 intro i
 rw[renL_get]
 simp only[O3,eH]
 cases m[i]? with
 |none=>rfl
 |some p=>simp[C.ren,h]
theorem EntR.mmap{r0 n mx i j:Nat}{σ:b6}(hj:(mvr r0 n (i,[])).1=j)(hr:eU i mx=true)(hσ:σ[j]? =some (Ab.mmap j k fk f m)):EntR r0 n σ mx i (Ab.mmap i k fk f m):=.any fun p b hb=>by
 have e:∀q,mvr r0 n (i,q)=(j,q):=fun q=>by rw[<- hj];rfl
 rw[e,r9 hσ]
 refine⟨mm_ok hr p b hb,?_⟩
 rcases mm_sub hb with⟨rfl,rfl⟩|⟨q,p',rfl,hq,rfl⟩
 ·rw[mm_main]
  simp only[Blk.ren,aA7 e]
 ·rw[mm_row hq,E2]
theorem RenE.mmap{r':Nat}{π:Id->Id}(h:∀q,π (r,q)=(r',q)):RenE π r (Ab.mmap r k fk f m) r' (Ab.mmap r' k fk f m):=.any (fun p b hb=>by
  rcases mm_sub hb with⟨rfl,rfl⟩|⟨q,p',rfl,hq,rfl⟩
  ·rw[mm_main];simp only[Blk.ren,aA7 h]
  ·rw[mm_row hq,E2]) (fun p b hb=>by
  rcases mm_sub hb with⟨rfl,rfl⟩|⟨q,p',rfl,hq,rfl⟩
  ·exact⟨_,mm_main,by simp only[Blk.ren,aA7 h]⟩
  ·exact⟨_,mm_row hq,E2.symm⟩)
theorem FrzB.mmap{id:Id}{X:C->C->Prop}(h:eN id.1 r=false):FrzB id X (Ab.mmap r k fk f m) (Ab.mmap r k fk f m):=by
 have hne:id.1 ≠ r:=fun e=>by simp[e] at h
 show _=_/\_
 exact⟨rfl,fun p b h=>mm_no hne p b h⟩
end
section
variable {P:Program}{σ0:b6}{sz:Nat}{Q:Post}{env env':Env}{σv σ':b6}{ops:Array Oper}{rest:List Oper}{dst:Option Nat}{ty:Ti}{pos:String}{after:Array Edge}
variable {K α:Type}[DecidableEq K]{fk:K->Vl}{d:TypeDesc}{f:α->List I}{m:List (K×List α)}{r k:Nat}
theorem find_pos(hk:KeyT d fk)(key:K):∀(m:List (K×List α)) (l:List MapEntry) (i:Nat),l.map (·.key)=(m.map (·.1)).map fk->
  (mget m key=none/\Instr.findNow d (fk key) l i=some none)\/∃row e,mget m key=some row/\m[posM m key]? =some (key,row)/\l[posM m key]? =some e/\e.key=fk key/\Instr.findNow d (fk key) l i=some (some (i+posM m key,e.val))
 |[],[],i,_=>.inl ⟨rfl,rfl⟩
 |[],_::_,i,h=>by simp at h
 |_::_,[],i,h=>by simp at h
 |p::m,e::l,i,h=>by
  simp only[fG,List.cons.injEq] at h
  obtain⟨h1,h3⟩:=h
  obtain⟨r,hr,hiff⟩:∃r,Instr.sameNow d (fk key) e.key=some r/\(r=true↔fk key=e.key):=Go.MapKept.sameNow_of_keys (hk.key key) (by rw[h1];exact hk.key p.1)
  by_cases c:key=p.1
  ·have:r=true:=hiff.2 (by rw[h1,c])
   subst this
   exact .inr ⟨p.2,e,by simp[mget,c],by simp[posM,c],by simp[posM,c],by rw[h1,c],by subst c;simp[Instr.findNow,hr,posM]⟩
  ·have:r=false:=by
    cases r with
    |false=>rfl
    |true=>exact absurd (hk.inj ((hiff.1 rfl).trans h1)) c
   subst this
   rcases find_pos hk key m l (i+1) h3 with⟨g1,g2⟩|⟨row,e',g1,g2,g3,g4,g5⟩
   ·exact .inl ⟨by simp[mget,c,g1],by simp[Instr.findNow,hr,g2]⟩
   ·exact .inr ⟨row,e',by simp[mget,c,g1],by simpa[posM,c] using g2,by simpa[posM,c] using g3,g4,by simp[Instr.findNow,hr,g5,posM,c];omega⟩
theorem mm_rowAt(h:σv[r]? =some (mmap r k fk f m)){key:K}{row:List α}(he:mget m key=some row):σv[((r,[posM m key]):Id)]? =some (some (vec k f row)):=by
 rcases U2 key m with⟨h1,_⟩|⟨row',h1,h2,_⟩
 ·rw[h1] at he;cases he
 ·rw[h1] at he;cases he
  rw[r9 h,mm_row h2]
theorem mm_get(h:σv[r]? =some (mmap r k fk f m)){key:K}{i:Int}{a:α}(ha:ix (rowM m key) i=some a):σv[((r,[posM m key]):Id)]? =some (some (vec k f (rowM m key))):=by
 unfold rowM at ha ⊢
 cases he:mget m key with
 |none=>rw[he] at ha;simp[ix] at ha
 |some row=>rw[fJ];exact mm_rowAt h he
theorem snocF_all{β:Type}:∀(l:List β) (x:β),s5 l x=some (l++[x])
 |[],x=>rfl
 |a::l,x=>by simp[s5,snocF_all l x]
theorem W.makeMapM{t:Ti}(r k:Nat)(fk:K->Vl)(f:α->List I)(hid:newF σv=some (r,[]))(hσ:s5 σv (mmap r k fk f ([]:List (K×List α)))=some σ')(hd:g9 sz dst=true)
  (h:AOps P σ0 sz ops Q rest (St.mk (putE env dst (.c (.map (r,[])))) σ')):AOps P σ0 sz ops Q (⟨dst,.makeMap t none,ty,pos,after,none⟩::rest) (St.mk env σv):=by
 have h2:=y8 hid;have h3:=r8 hσ
 cases h2
 subst h3
 have heq:∀i:Id,(σv++[Ent.one (pmap 0 fk ([]:List (K×Int)))])[i]? =(σv++[mmap σv.length k fk f ([]:List (K×List α))])[i]? :=fun i=>by
  rcases ff i.1 σv.length with hl|hl
  ·rw[b6.get_left hl,b6.get_left hl]
  ·rw[b6.get_right hl,b6.get_right hl]
   obtain⟨i1,q⟩:=i
   rw[b6.at_eq,b6.at_eq]
   simp only[b6.at]
   cases i1 - σv.length with
   |zero=>cases q<;>rfl
   |succ m=>rfl
 exact W.makeMapP (K:=K) 0 fk hid (snocF_all _ _) hd (AOps.sub (Sub.same (by simp) heq) h)
theorem S.lookupM{x y:Od}{t kt vt:Ti}{r:Nat}{m:List (K×List α)}{key:K}{size bytes:Nat}{zv:Vl}[ht:TyD P t (.map kt vt)][hkt:TyD P kt d][hs:TyS P vt size bytes zv](hk:KeyT d fk)(hz:zv=.slice none 0 0)
  (hx:ev env x=some (.c (.map (r,[])))) (hy:ev env y=some (.c (.imm (.val (fk key))))) (hσ:σv[r]? =some (mmap r k fk f m)) (hd:g9 sz dst=true)
  (h:AOps P σ0 sz ops Q rest (St.mk (putE env dst (.c (rowC r m key))) σv)):AOps P σ0 sz ops Q (⟨dst,.lookup t x y false,ty,pos,after,none⟩::rest) (St.mk env σv):=by
 refine .valueW rfl hd _ _ (fun Γ φ a w hR=> ?_) h
 have hmain:σv[((r,[]):Id)]? =some (some (.obj (T8 fk (m.map (·.1))) (O3 r m))):=by rw[r9 hσ];rfl
 obtain⟨b,base,hp,hv⟩:=at2 (j7 hR hx) hmain
 obtain⟨hv2,_⟩:=H3 (j7 hR hy)
 obtain⟨b',o,us,g1,g2,⟨es,c,rfl,g3,g4⟩,g5⟩:=hR.st.blk _ _ hmain
 rw[hp] at g1;cases g1
 unfold rowC
 rcases find_pos hk key m es.toList 0 g3 with⟨q1,q2⟩|⟨row,e,q1,q0,q3,q4,q2⟩
 ·rw[q1]
  refine⟨.slice none 0 0,w,φ,?_,.c (.imm (.val rfl)),hR⟩
  simp[execOp,hv,hv2,Instr.lookup,run_underlying ht.h,Go.MapKept.run_getObj_map g2,Go.MapKept.run_checkKey hkt.h (hk.key key),Go.MapKept.run_findKey hkt.h q2,N0 (t:=vt),hz,Result.andThen]
 ·rw[q1]
  obtain⟨u,hu,hru⟩:=g5 (posM m key) (.own (r,[posM m key]) 0 row.length) (by simp[O3,eH,q0])
  have hue:u=e.val:=by
   rw[<- g4,lM,q3] at hu
   simpa using hu.symm
  subst hue
  refine⟨e.val,w,φ,?_,.c hru,hR⟩
  simp[execOp,hv,hv2,Instr.lookup,run_underlying ht.h,Go.MapKept.run_getObj_map g2,Go.MapKept.run_checkKey hkt.h (hk.key key),Go.MapKept.run_findKey hkt.h q2,Result.andThen]
theorem S.appendMM{new l':List α}{x y:Od}{t e:Ti}{bytes:Nat}{n:Id}{z:Vl}{v:T}{key:K}{σ1:b6}[ht:TyD P t (.slice e)][hs:TyS P e k bytes z]
  (ha:app bytes (rowM m key) new=some l') (hzk:(z.cells.size==k)=true) (hbp:eU 0 bytes=true) (hx:ev env x=some (.c (rowC r m key))) (hσ:σv[r]? =some (mmap r k fk f m)) (hy:ev env y=some v) (hsrc:SrcF σv k f v new) (hn:newF σv=some n) (h1:setF σv r (mmapD r k fk f m key)=some σ1) (hσ':s5 σ1 (.one (vec k f l'))=some σ') (hd:g9 sz dst=true)
  (h:AOps P σ0 sz ops Q rest (St.mk (putE env dst (.c (.own n 0 l'.length))) σ')):
  AOps P σ0 sz ops Q (⟨dst,.call ⟨.builtin .append,#[x,y],#[t,t]⟩,ty,pos,after,none⟩::rest) (St.mk env σv):=by
 obtain⟨hb,rfl⟩:=an2 ha
 have h2:=(J9 h1).1
 have h3:=y8 hn;have h4:=r8 hσ'
 subst h2 h3 h4
 unfold rowC at hx
 unfold rowM at hb h
 rcases U2 key m with⟨q1,q2,_⟩|⟨row,q1,q2,_⟩
 ·rw[q1] at hx
  rw[q1,gC,List.nil_append] at h
  rw[q1,gC] at hb
  refine AOps.appendNil (new:=(new.map f).map (·.map .imm)) hzk hbp hx hy hsrc.src (by simpa using hb) hd ?_
  rw[show((new.map f).map (·.map C.imm)).length=new.length by simp]
  refine AOps.sub (s':=⟨putE env dst (.c (.own (σv.length,[]) 0 new.length)),σv.set r (mmapD r k fk f m key)++[.one (vec k f new)]⟩) (Sub.same (by simp) fun i=> ?_) h
  have hset:∀i:Id,(σv.set r (mmapD r k fk f m key))[i]? =σv[i]? :=fun i=>by
   rw[set_ent hσ]
   split
   ·rename_i hi
    obtain⟨i1,q⟩:=i
    simp only at hi
    subst hi
    rw[r9 hσ]
    congr 1
    simp only[mmapD,mmap]
    rw[List.set_eq_of_length_le (by rw[q2];simp)]
   ·rfl
  rcases ff i.1 σv.length with hl|hl
  ·rw[b6.get_left hl,b6.get_left (by simpa using hl),hset]
  ·rw[b6.get_right hl,b6.get_right (by simpa using hl),lS];rfl
 ·rw[q1] at hx
  rw[q1,fJ] at h
  rw[q1,fJ] at hb
  have hrow:=mm_rowAt hσ q1
  refine AOps.append (new:=(new.map f).map (·.map .imm)) hzk hbp hx hrow hy hsrc.src (by simpa using hb) hd ?_
  have e1:(((((row.map f).map (·.map C.imm)).drop 0).take row.length)++(new.map f).map (·.map C.imm))=((row++new).map f).map (·.map C.imm):=by
   rw[fa,eQ (by simp)];simp
  have e2:row.length+((new.map f).map (·.map C.imm)).length=(row++new).length:=by simp
  rw[e1,e2]
  refine AOps.sub (s':=⟨putE env dst (.c (.own (σv.length,[]) 0 (row++new).length)),σv.set r (mmapD r k fk f m key)++[.one (vec k f (row++new))]⟩) (Sub.same (by simp) fun i=> ?_) h
  have hput:∀i:Id,(σv.put (r,[posM m key]) none)[i]? =(σv.set r (mmapD r k fk f m key))[i]? :=fun i=>by
   rw[set_ent hσ]
   by_cases hi:i=(r,[posM m key])
   ·subst hi
    rw[b6.get_put_eq hrow,if_pos rfl]
    have:=(lG.1 q2).1
    simp[mmapD,Ent.sub,this]
   ·rw[b6.get_put_ne hi]
    by_cases hr:i.1=r
    ·obtain⟨i1,q⟩:=i
     simp only at hr
     subst hr
     rw[if_pos rfl,r9 hσ]
     congr 1
     cases q with
     |nil=>rfl
     |cons a q=>
      simp only[mmap,mmapD,Ent.sub,eG,eX,lM]
      by_cases hap:posM m key=a
      ·subst hap
       cases q with
       |nil=>exact absurd rfl hi
       |cons b q=>
        rw[if_pos rfl,if_pos (lG.1 q2).1,q2]
        rfl
      ·rw[if_neg hap]
    ·rw[if_neg hr]
  rcases ff i.1 σv.length with hl|hl
  ·rw[b6.get_left (by simpa using hl),b6.get_left (by simpa using hl),hput]
  ·rw[b6.get_right (by simpa using hl),b6.get_right (by simpa using hl),b6.length_put,lS];rfl
theorem S.updateMM{x y v:Od}{t kt vt:Ti}{s n:Nat}{key:K}[ht:TyD P t (.map kt vt)][hkt:TyD P kt d](hk:KeyT d fk)
  (hx:ev env x=some (.c (.map (r,[])))) (hy:ev env y=some (.c (.imm (.val (fk key))))) (hv:ev env v=some (.c (.own (s,[]) 0 n))) (hσ:σv[r]? =some (mmapD r k fk f m key)) (hσ':setF σv r (mmapS r k fk f m key s n)=some σ')
  (h:AOps P σ0 sz ops Q rest (St.mk env σ')):AOps P σ0 sz ops Q (⟨none,.mapUpdate t x y v,ty,pos,after,none⟩::rest) (St.mk env σv):=by
 have hset:=J9 hσ'
 have hmain:σv[((r,[]):Id)]? =some (some (.obj (T8 fk (m.map (·.1))) (O3 r m))):=by rw[r9 hσ];rfl
 refine .skipW rfl rfl (σv.put (r,[]) (some (.obj (T8 fk ((mset m key []).map (·.1))) (ap4 r m key s n)))) (fun Γ φ ac w hR=> ?_) (AOps.sub (s':=⟨env,σ'⟩) (Sub.same (by rw[hset.1];simp) fun i=> ?_) h)
 ·obtain⟨b,base,hp,e1⟩:=at2 (j7 hR hx) hmain
  obtain⟨e2,_⟩:=H3 (j7 hR hy)
  have hrv:=j7 hR hv
  generalize e3:ac.eval v=u at hrv
  have hru:RelC w φ σv (Al Γ.N φ σv) (.own (s,[]) 0 n) u:=by cases hrv with|c h=>exact h
  obtain⟨b',o,us,g1,g2,⟨es,c,rfl,g3,g4⟩,g5⟩:=hR.st.blk _ _ hmain
  rw[hp] at g1;cases g1
  have hlu:us.length=m.length:=by rw[<- g4];have:=congrArg gA g3;simpa using this
  rcases find_pos hk key m es.toList 0 g3 with⟨q1,q2⟩|⟨row,e,q1,q0,q3,q4,q2⟩
  ·have hms:mset m key ([]:List α)=m++[(key,[])]:=by
    rcases U2 key m with⟨_,_,h3⟩|⟨row,h1,_⟩
    ·exact h3 _
    ·rw[q1] at h1;cases h1
   have hW:=Rs.writeB (q1:=T8 fk ((mset m key []).map (·.1))) (cs1:=ap4 r m key s n) (us1:=us++[u]) (o1:=.map (es.push {key:=fk key,val:=u,born:=c}) (c+1)) hR.toRs hmain hp g2
    ⟨_,_,rfl,by rw[hms];simp[g3],by simp[g4]⟩ (fun i x hx=>by
     simp only[ap4,q1,gm,gp,if_false] at hx
     rw[eZ] at hx
     split at hx
     ·obtain⟨u',h1,h2⟩:=g5 i x hx
      exact⟨u',by rw[eM (lG.1 h1).1];exact h1,h2⟩
     ·rename_i hge
      rw[heads_len] at hx hge
      have h0:i=m.length:=by
       have:=(lG.1 hx).1
       simp at this;omega
      subst h0
      simp at hx
      subst hx
      exact⟨u,by rw[<- hlu];simp,hru⟩)
   refine⟨_,φ,?_,hR.of hW.1 hW.2⟩
   simp[execOp,e1,e2,e3,Instr.mapUpdate,run_underlying ht.h,Go.MapKept.run_getObj_map g2,Go.MapKept.run_checkKey hkt.h (hk.key key),Go.MapKept.run_findKey hkt.h q2,Go.MapKept.run_setObj_map _ g2,Result.andThen]
  ·have hms:mset m key ([]:List α)=m.set (posM m key) (key,[]):=by
    rcases U2 key m with⟨h1,_⟩|⟨row,_,_,h3⟩
    ·rw[q1] at h1;cases h1
    ·exact h3 _
   have hj:es[posM m key]? =some e:=by simpa using q3
   have hlt:=(lG.1 q0).1
   have hW:=Rs.writeB (q1:=T8 fk ((mset m key []).map (·.1))) (cs1:=ap4 r m key s n) (us1:=us.set (posM m key) u) (o1:=.map (es.modify (posM m key) fun e=>{e with key:=fk key,val:=u}) c) hR.toRs hmain hp g2
    ⟨_,_,rfl,by
     rw[hms,fi]
     apply eI
     intro i
     have hg:=congrArg (fun l=>l[i]?) g3
     simp only[lM,fp,eG] at hg ⊢
     by_cases hi:posM m key=i
     ·subst hi
      simp[q3,hlt]
     ·simpa[hi] using hg,by
     rw[fi]
     apply eI
     intro i
     have hg:=congrArg (fun l=>l[i]?) g4
     simp only[lM,fp,eG] at hg ⊢
     by_cases hi:posM m key=i
     ·subst hi
      simp[q3,hlu,hlt]
     ·simpa[hi] using hg⟩ (fun i x hx=>by
     simp only[ap4,q1,gq,if_true] at hx
     rw[eG] at hx
     by_cases hi:posM m key=i
     ·subst hi
      simp[heads_len,hlt] at hx
      subst hx
      exact⟨u,by simp[hlu,hlt],hru⟩
     ·rw[if_neg hi] at hx
      obtain⟨u',h1,h2⟩:=g5 i x hx
      exact⟨u',by rw[eG,if_neg hi];exact h1,h2⟩)
   refine⟨_,φ,?_,hR.of hW.1 hW.2⟩
   simp[execOp,e1,e2,e3,Instr.mapUpdate,run_underlying ht.h,Go.MapKept.run_getObj_map g2,Go.MapKept.run_checkKey hkt.h (hk.key key),Go.MapKept.run_findKey hkt.h q2,hj,q4,Go.MapKept.run_keyThatStays (hk.key key),Go.MapKept.run_setObj_map _ g2,Result.andThen]
 ·rw[setF_at hσ hσ']
  by_cases hi:i=(r,[])
  ·subst hi
   rw[b6.get_put_eq hmain,if_pos rfl];rfl
  ·rw[b6.get_put_ne hi]
   by_cases hr:i.1=r
   ·obtain⟨i1,q⟩:=i
    simp only at hr
    subst hr
    rw[if_pos rfl,r9 hσ]
    cases q with
    |nil=>exact absurd rfl hi
    |cons a q=>rfl
   ·rw[if_neg hr]
theorem y5.putMM{l:List α}{mx s n:Nat}{key:K}{σ:b6}(hr:eU r mx=true)(hσ:σ[r]? =some (mmapS r k fk f m key s n))(hn:n=l.length)(hs:σ[((s,[]):Id)]? =some (some (vec k f l))):y5 (r,[posM m key]) (s,[]) σ mx r (Ab.mmap r k fk f (mset m key l)):=by
 subst hn
 have hlt:∀q,q ≠ posM m key->mv (r,[posM m key]) (s,[]) (r,[q])=(r,[q]):=fun q hq=>by
  have:((r,[q]):Id) ≠ (r,[posM m key]):=fun e=>by cases e;exact hq rfl
  simp[mv,D6 this]
 have hself:mv (r,[posM m key]) (s,[]) (r,[posM m key])=(s,[]):=by simp[mv,I4.2 rfl]
 have hroot:mv (r,[posM m key]) (s,[]) (r,[])=(r,[]):=mv_root
 show ∀(p:List Nat) (b:Blk),(Ab.mmap r k fk f (mset m key l)).sub p=some b->_
 intro p b hb
 refine⟨mm_ok hr p b hb,?_⟩
 rcases mm_sub hb with⟨rfl,rfl⟩|⟨i,p',rfl,hi,rfl⟩
 ·rw[hroot,r9 hσ]
  show some (some (Blk.obj (T8 fk ((mset m key []).map (·.1))) (ap4 r m key s l.length)))=_
  congr 2
  simp only[Blk.ren]
  have hkeys:(mset m key l).map (·.1)=(mset m key []).map (·.1):=by
   rcases U2 key m with⟨_,_,h3⟩|⟨_,_,_,h3⟩
   ·rw[h3,h3];simp
   ·rw[h3,h3];simp[fF]
  rw[hkeys]
  congr 1
  have renL_get:∀(L:List C) (i:Nat),(C.renL (mv (r,[posM m key]) (s,[])) L)[i]? =(L[i]?).map (C.ren (mv (r,[posM m key]) (s,[]))):=fun L=>by
   induction L with
   |nil=>intro i;simp[C.renL]
   |cons x L ih=>intro i;cases i with
    |zero=>simp[C.renL]
    |succ i=>simpa[C.renL] using ih i
  apply eI
  intro i
  rw[renL_get]
  simp only[ap4,O3]
  rcases U2 key m with⟨h1,h2,h3⟩|⟨row,h1,h2,h3⟩
  ·rw[h1,h3]
   simp only[gm,gp,if_false,List.mapIdx_append,eX]
   rcases ff i m.length with hl|hl
   ·rw[eM (by simpa using hl),eM (by simpa using hl),eH]
    cases hm:m[i]? with
    |none=>rfl
    |some p=>simp[C.ren,hlt i (by omega)]
   ·rw[eR (by simpa using hl),eR (by simpa using hl)]
    simp only[gr]
    cases hd:i - m.length with
    |zero=>
     have:i=m.length:=by omega
     simp[C.ren,h2,mv,I4.2 rfl]
    |succ j=>simp
  ·have hl:=(lG.1 h2).1
   rw[h1,h3]
   simp only[gq,if_true]
   by_cases hi:posM m key=i
   ·subst hi
    simp[eH,eG,hl,C.ren,hself]
   ·rw[eG,if_neg hi,eH,eH,eG,if_neg hi]
    cases hm:m[i]? with
    |none=>rfl
    |some p=>simp[C.ren,hlt i (fun e=>hi e.symm)]
 ·rw[E2]
  rcases U2 key m with⟨h1,h2,h3⟩|⟨row,h1,h2,h3⟩
  ·rw[h3,eZ] at hi
   split at hi
   ·rename_i hl
    rw[hlt i (by omega),r9 hσ]
    simp only[mmapS,Ent.sub,eG,lM]
    rw[if_neg (by omega),hi];rfl
   ·rename_i hl
    have:i=m.length:=by
     have:=(lG.1 hi).1
     simp at this;omega
    subst this
    simp at hi
    subst hi
    rw[<- h2,hself,hs]
  ·have hl:=(lG.1 h2).1
   rw[h3,eG] at hi
   by_cases e:posM m key=i
   ·subst e
    rw[if_pos rfl,if_pos hl] at hi
    cases hi
    rw[hself,hs]
   ·rw[if_neg e] at hi
    rw[hlt i (fun x=>e x.symm),r9 hσ]
    simp only[mmapS,Ent.sub,eG,lM]
    rw[if_neg e,hi];rfl
theorem S.lenMM{x:Od}{t e:Ti}{key:K}[ht:TyD P t (.slice e)](hx:ev env x=some (.c (rowC r m key)))(hσ:σv[r]? =some (mmap r k fk f m))(hd:g9 sz dst=true)
  (h:(rowM m key).length<=9223372036854775807->AOps P σ0 sz ops Q rest (St.mk (putE env dst (.c (int ((rowM m key).length:Int)))) σv)):AOps P σ0 sz ops Q (⟨dst,.call ⟨.builtin .len,#[x],#[t]⟩,ty,pos,after,none⟩::rest) (St.mk env σv):=by
 unfold rowC at hx
 unfold rowM at h
 rcases U2 key m with⟨q1,_⟩|⟨row,q1,_⟩
 ·rw[q1] at hx
  rw[q1] at h
  exact AOps.lenNil hx hd (h (by simp))
 ·rw[q1] at hx
  rw[q1] at h
  exact AOps.lenOwnB hx (mm_rowAt hσ q1) hd h
theorem am6{n:Nat}{key:K}(h:eU r n=true):(T.c (rowC r m key)).ok n=true:=by
 simp only[T.ok]
 unfold rowC
 split
 ·simpa[C.ok] using h
 ·rfl
theorem rowC_mv{π:Id->Id}{o:Option T}{key:K}(hπ:∀i,π (r,[i])=(r,[i]))(e:o=some (.c (rowC r m key))):o=some ((T.c (rowC r m key)).ren π):=by
 rw[e]
 unfold rowC
 split
 ·simp only[T.ren,C.ren,hπ]
 ·rfl
theorem S.idxMM{x y:Od}{t e:Ti}{bytes:Nat}{z:Vl}{kk:IntKind}{i:Int}{a:α}{key:K}[ht:TyD P t (.slice e)][hs:TyS P e k bytes z]
  (ha:ix (rowM m key) i=some a) (hx:ev env x=some (.c (rowC r m key))) (hσ:σv[r]? =some (mmap r k fk f m)) (hy:ev env y=some (.c (.imm (.val (.int kk i))))) (hd:g9 sz dst=true)
  (h:AOps P σ0 sz ops Q rest (St.mk (putE env dst (.c (.ptr (r,[posM m key]) i.toNat 0))) σv)):AOps P σ0 sz ops Q (⟨dst,.indexAddr t x y,ty,pos,after,none⟩::rest) (St.mk env σv):=by
 have hrow:=mm_get hσ ha
 unfold rowC at hx
 unfold rowM at ha hrow
 cases he:mget m key with
 |none=>rw[he] at ha;simp[ix] at ha
 |some row=>
  rw[he] at hx ha hrow
  simp only[fJ] at ha hrow
  exact .indexAddrOwn hx hrow hy (by have:=S9 ha;have:=o7 ha;omega) hd (by rw[fz];exact h)
end
end Ab
end
section
namespace Ab
open Go Go.Proofs Go.Sort Go.Lib
theorem rev_fn{P:Program}{f:FuncId}(hf:P1 P f)
  (hC:∀(blk off cap:Nat) (zs:Li) (w:World),Holds (Value.int .i64) w blk off zs.toArray->zs.length<=9223372036854775807->Calls P f #[.slice (some ⟨blk,off,none⟩) zs.length cap] w fun e w'=>e=.returned (.tuple #[])/\∃n,w'=putRow (Value.int .i64) (Go.Sort.ahead w n) blk off zs.reverse.toArray)
  (hC0:∀(p:Option Addr) (cap:Nat) (w:World),Calls P f #[.slice p 0 cap] w fun e w'=>e=.returned (.tuple #[])/\w'=w)
  {σ:b6} {id:Id} {l:Li} (hσ:σ[id]? =some (some (vec 1 intI l))):
  FnOk P f [.c (.own id 0 l.length)] σ fun r σ'=>r=.tup []/\σ'.length=σ.length/\∀i:Id,σ'[i]? =(σ.put id (some (vec 1 intI l.reverse)))[i]? :=by
 refine⟨hf,fun Γ vs hΓ hG hlen hrel=> ?_⟩
 subst hΓ
 match vs,hlen with
 |[u],_=>
 have hu:=C9 (hrel 0 _ u rfl rfl) hσ
 have tupR:∀{w φ σ A},RelT w φ σ A (.tup []) (.tuple #[]):=fun {w φ σ A}=>RelT.tup (ts:=[]) (fun _=>undef) fun i t h=>by simp at h
 rw[M4] at hu
 have empty:∀(p:Option Addr) (cap:Nat),l=[]->Calls P f #[.slice p 0 cap] Γ.w0 fun e w'=>∃v r σ' φ',e=.returned v/\(r=.tup []/\σ'.length=Γ.σ0.length/\∀i:Id,σ'[i]? =(Γ.σ0.put id (some (vec 1 intI l.reverse)))[i]?)/\RelT w' φ' σ' (Al Γ.N φ' σ') r v/\Rs Γ σ' φ' w':=fun p cap he=>by
  refine(hC0 p cap Γ.w0).mono ?_
  rintro e w' ⟨rfl,rfl⟩
  refine⟨_,.tup [],Γ.σ0,Γ.φ0,rfl,⟨rfl,rfl,fun i=> ?_⟩,tupR,Rs.refl hG⟩
  have:l.reverse=l:=by rw[he];rfl
  rw[this]
  by_cases hi:i=id
  ·rw[hi,b6.get_put_eq hσ,hσ]
  ·rw[b6.get_put_ne hi]
 rcases hu with⟨_,hv,_,h0⟩|⟨b,base,cap,arr,ety,a,hp,hv,ha,hcap,hmax,hjn,hbk,hsz⟩
 ·have he:l=[]:=fh (by omega)
  rw[hv]
  exact empty none 0 he
 ·rw[hv]
  by_cases hc0:0<cap
  ·have:=ha hc0
   subst this
   simp only[fS,fM]
   have hR:=Rs.refl hG
   rcases hR.st.blk _ _ hσ with⟨h1,_⟩|⟨b',base',arr2,ety2,h1,h2,h3,h4,h5⟩
   ·rw[hp] at h1;cases h1
   ·rw[hp] at h1;cases h1
    rw[hbk] at h2;cases h2
    rw[M4] at h3
    have hcell:∀(j:Nat) (x:Int),l[j]? =some x->arr[base+j]? =some (.int .i64 x):=fun j x hj=>int_cells h5 hj
    have hls:l.reverse.length=l.length:=by simp
    refine(hC b base cap l Γ.w0 (holds_of hbk hcell) (by simp only[maxLen] at hmax;omega)).mono ?_
    rintro e w' ⟨rfl,n,rfl⟩
    have hW:=Rs.write (k:=1) (es':=(l.reverse.map intI).map (·.map C.imm)) (arr':=putCells (Value.int .i64) base l.reverse.toArray arr) hR hσ hp hbk (by rw[M4,M4,hls]) ag7 (fun j e he=>vec_hk he) (by rw[M4];omega)
     (vec_hc fun j x hj=>au2 (by omega) hj)
    rw[putRow_ahead,aq6 hbk]
    refine⟨_,.tup [],_,Γ.φ0,rfl,⟨rfl,?_,fun i=>rfl⟩,tupR,hW.2.ahead n⟩
    rw[b6.length_put]
  ·have he:l=[]:=fh (by omega)
   have hl0:l.length=0:=by rw[he];rfl
   rw[hl0]
   exact empty (some a) cap he
def RevOk(P:Program)(f:FuncId):Prop:=∀{σ:b6} {id:Id} {l:Li},σ[id]? =some (some (vec 1 intI l))->
  FnOk P f [.c (.own id 0 l.length)] σ fun r σ'=>r=.tup []/\σ'.length=σ.length/\∀i:Id,σ'[i]? =(σ.put id (some (vec 1 intI l.reverse)))[i]?
section
variable {P:Program}{σ0:b6}{sz:Nat}{Q:Post}{env:Env}{σv σ':b6}{ops:Array Oper}{rest:List Oper}{dst:Option Nat}{ty:Ti}{pos:String}{after:Array Edge}
theorem S.rev{x:Od}{al:List Od}{ats:Array Ti}{f:FuncId}{id:Id}{n:Nat}{l:Li}(hf:RevOk P f)(hx:ev env x=some (.c (.fn f [])))(ha:evs env al=some [.c (.own id 0 n)])(hn:n=l.length)(hσ:σv[id]? =some (some (vec 1 intI l)))
  (hd:g9 sz dst=true) (hσ':putF σv id (some (vec 1 intI l.reverse))=some σ') (h:AOps P σ0 sz ops Q rest (St.mk (putE env dst (.tup [])) σ')):
  AOps P σ0 sz ops Q (⟨dst,.call ⟨.value x,al.toArray,ats⟩,ty,pos,after,none⟩::rest) (St.mk env σv):=by
 have h2:=y6 hσ'
 subst h2 hn
 refine AOps.callS hx ha hd (hf hσ) ?_
 rintro r σ2 ⟨rfl,hl,he⟩
 refine AOps.sub (s':=⟨putE env dst (.tup []),σv.put id (some (vec 1 intI l.reverse))⟩) ?_ h
 have:=Sub.same (σ0:=σ0) (env:=putE env dst (.tup [])) (σ1:=σ2) (σ2:=σv.put id (some (vec 1 intI l.reverse))) (by rw[b6.length_put,hl]) he
 cases dst<;>exact this
end
end Ab
end
section
namespace Ab
open Go
section
variable {P:Program}{σ0:b6}{sz:Nat}{Q:Post}{env:Env}{σv σ':b6}{ops:Array Oper}{rest:List Oper}{dst:Option Nat}{ty:Ti}{pos:String}{after:Array Edge}
theorem AOps.eqlNil{x y:Od}{t t' e:Ti}{k:Nat}{es:List (List I)}[ht:TyD P t (.slice e)](hx:ev env x=some (.c (.imm (.sl k es))))(hy:ev env y=some (.c (.imm (.val (.slice none 0 0)))))(hd:g9 sz dst=true)
  (h1:es=[]->AOps P σ0 sz ops Q rest (St.mk (putE env dst (.c (bool true))) σv)) (h2:AOps P σ0 sz ops Q rest (St.mk (putE env dst (.c (bool false))) σv)):
  AOps P σ0 sz ops Q (⟨dst,.binOp .eql t x y t',ty,pos,after,none⟩::rest) (St.mk env σv):=fun Γ φ a w hΓ hR ro=>by
  have hrel:=j7 hR hx
  have hyv:=B7 hR hy
  generalize hu:a.eval x=u at hrel
  cases hrel with|c hrel=>cases hrel with|imm hrel=>
  cases hrel with
  |slNil=>
   have hg:(eqGuard .eql t x y (.slice none 0 0) (.slice none 0 0)).run P w=.ok () w:=rfl
   have hr:(binOp .eql t (.slice none 0 0) (.slice none 0 0)).run P w=.ok (.bool true) w:=by
    show(do pure (Value.bool (<- Op.equal t (.slice none 0 0) (.slice none 0 0)))).run P w=_
    simp[run_equal_slice_nil w t e none 0 0 ht.h]
   have hrun:(execOp a.eval ⟨dst,.binOp .eql t x y t',ty,pos,after,none⟩).run P w=.ok (.value (.bool true)) w:=by
    simp[execOp,hu,hyv,hg,hr]
   exact W2 rfl (val_in hrun (h1 rfl Γ φ _ w hΓ (hR.put hd (.c (.imm (.val rfl)))) ro))
  |@sl _ _ ad cap us _ _ _ _ _=>
   have hg:(eqGuard .eql t x y (.slice (some ad) es.length cap) (.slice none 0 0)).run P w=.ok () w:=rfl
   have hr:(binOp .eql t (.slice (some ad) es.length cap) (.slice none 0 0)).run P w=.ok (.bool false) w:=by
    show(do pure (Value.bool (<- Op.equal t (.slice (some ad) es.length cap) (.slice none 0 0)))).run P w=_
    simp[run_equal_slice_nil w t e (some ad) es.length cap ht.h]
   have hrun:(execOp a.eval ⟨dst,.binOp .eql t x y t',ty,pos,after,none⟩).run P w=.ok (.value (.bool false)) w:=by
    simp[execOp,hu,hyv,hg,hr]
   exact W2 rfl (val_in hrun (h2 Γ φ _ w hΓ (hR.put hd (.c (.imm (.val rfl)))) ro))
end
end Ab
end
section
namespace Ab
open Go Go.Proofs
open Tryz
def k7(s:Li):Option Li:=app 8 [] s
theorem j6{s r:Li}(h:k7 s=some r):o9 prog 22 [.c (row 1 intI s)] 1 (List.map intI r):=by
 unfold k7 at h
 unfold o9
 refine FnOk.enter (rs:=[.t 2]) func22 rfl ntmps22 results22 rfl ⟨Y,Y⟩ (by kernel_rfl) rfl ?_
 refine AWP.j ?_
 refine AWP.U ?_
 refine AOps.B rfl rfl ?_
 refine AOps.nil ?_
 refine b5 ?_
 refine AWP.j ?_
 refine AWP.j ?_
 refine AWP.U ?_
 refine AOps.z rfl rfl ?_
 refine AOps.eqlNil rfl rfl rfl (fun he=> ?_) ?_
 ·have hs:s=[]:=by simpa using he
  subst hs
  have hr:r=[]:=by
   have:=an2 h
   simpa using this.2
  subst hr
  refine AOps.nil ?_
  refine b5 ?_
  refine AWP.condT rfl ?_
  refine AWP.j ?_
  refine AWP.U ?_
  refine AOps.B rfl rfl ?_
  refine AOps.nil ?_
  refine b5 ?_
  refine AWP.virtV 1 intI 2 rfl rfl rfl ?_
  refine AWP.ret ?_
  refine d9 ?_
  exact Done.ret rfl (Fresh.mk rfl rfl)
 ·refine AOps.nil ?_
  refine b5 ?_
  refine AWP.condF rfl ?_
  refine AWP.skip ?_
  refine b5 ?_
  refine AWP.j ?_
  refine AWP.U ?_
  refine S.lit (f:=intI) (l:=[]) (ess:=[]) rfl rfl rfl rfl rfl rfl rfl Y rfl rfl rfl ?_
  refine AOps.z rfl rfl ?_
  refine S.append (f:=intI) h rfl rfl rfl rfl rfl rfl .row rfl rfl rfl rfl ?_
  refine AOps.B rfl rfl ?_
  refine AOps.nil ?_
  refine b5 ?_
  refine AWP.ret ?_
  exact Done.ret rfl (Fresh.mk rfl rfl)
end Ab
end
section
namespace Ab
open Go Go.Sort
abbrev U32:Type:={x:Int // 0<=x/\x<4294967296}
noncomputable def sortFU(cmp:Int->Int->Option Int)(l:Li):Option Li:=open Classical in
 if h:∀x ∈ l,0<=x/\x<4294967296 then(al8 (α:=U32) (fun a b=>cmp a.1 b.1) (l.attach.map fun x=>⟨x.1,h x.1 x.2⟩)).map fun m=>m.map (·.1) else none
theorem sortFU_get{cmp:Int->Int->Option Int}{l l':Li}(h:sortFU cmp l=some l'):∃(k m:List U32),l=k.map (·.1)/\l'=m.map (·.1)/\al8 (fun a b=>cmp a.1 b.1) k=some m:=by
 unfold sortFU at h
 split at h
 ·rename_i hr
  obtain⟨m,h1,rfl⟩:=oM.1 h
  exact⟨_,m,by simp,rfl,h1⟩
 ·cases h
theorem sortFU_len{cmp:Int->Int->Option Int}{l l':Li}(h:sortFU cmp l=some l'):l.length=l'.length:=by
 obtain⟨k,m,rfl,rfl,h3⟩:=sortFU_get h
 simpa using sortFL_len h3
section
variable {P:Program}{σ0:b6}{sz:Nat}{Q:Post}{env:Env}{σv σ':b6}{ops:Array Oper}{rest:List Oper}{dst:Option Nat}{ty:Ti}{pos:String}{after:Array Edge}
theorem vec_u32(m:List U32):vec 1 (fun a:Int=>[I.val (.int .u32 a)]) (m.map (·.1))=vec 1 (fun a:U32=>[I.val (.int .u32 a.1)]) m:=by
 simp[vec,Function.comp_def]
theorem S.sortFU{cmp:Int->Int->Option Int}{x:Od}{al:List Od}{ats:Array Ti}{fs g:FuncId}{id:Id}{n:Nat}{l l':Li}(hs:sortFU cmp l=some l')
  (hcmp:∀{a b r},cmp a b=some r->f7 P g [.c (.imm (.val (.int .u32 a))),.c (.imm (.val (.int .u32 b)))] (.c (int r))) (hf:SortFOk P fs) (hgn:P1 P g) (hx:ev env x=some (.c (.fn fs []))) (ha:evs env al=some [.c (.own id 0 n),.c (.fn g [])]) (hn:n=l.length) (hσ:σv[id]? =some (some (vec 1 (fun a:Int=>[I.val (.int .u32 a)]) l)))
  (hd:g9 sz dst=true) (hσ':putF σv id (some (vec 1 (fun a:Int=>[I.val (.int .u32 a)]) l'))=some σ') (h:AOps P σ0 sz ops Q rest (St.mk (putE env dst (.tup [])) σ')):
  AOps P σ0 sz ops Q (⟨dst,.call ⟨.value x,al.toArray,ats⟩,ty,pos,after,none⟩::rest) (St.mk env σv):=by
 obtain⟨k,m,rfl,rfl,h3⟩:=sortFU_get hs
 rw[vec_u32] at hσ hσ'
 exact S.sortF (α:=U32) (fun a=>.val (.int .u32 a.1)) h3 rfl (fun {a b r} h=>hcmp h) hf hgn hx ha (by rw[hn];simp) hσ hd hσ' h
end
end Ab
end
section
namespace Ab
open Go Go.Proofs
open Tryz
abbrev rowI(l:Li):List I:=[.sl 1 (l.map intI)]
def F9(s:LL):Option (LL):=app 24 [] s
theorem at4{s r:LL}(h:F9 s=some r):o9 prog 81 [.c (row 1 rowI s)] 1 (List.map rowI r):=by
 unfold F9 at h
 unfold o9
 refine FnOk.enter (rs:=[.t 2]) func81 rfl ntmps81 results81 rfl ⟨Y,Y⟩ (by kernel_rfl) rfl ?_
 refine AWP.j ?_
 refine AWP.U ?_
 refine AOps.B rfl rfl ?_
 refine AOps.nil ?_
 refine b5 ?_
 refine AWP.j ?_
 refine AWP.j ?_
 refine AWP.U ?_
 refine AOps.z rfl rfl ?_
 refine AOps.eqlNil rfl rfl rfl (fun he=> ?_) ?_
 ·have hs:s=[]:=by simpa using he
  subst hs
  have hr:r=[]:=by
   have:=an2 h
   simpa using this.2
  subst hr
  refine AOps.nil ?_
  refine b5 ?_
  refine AWP.condT rfl ?_
  refine AWP.j ?_
  refine AWP.U ?_
  refine AOps.B rfl rfl ?_
  refine AOps.nil ?_
  refine b5 ?_
  refine AWP.virtV 1 rowI 2 rfl rfl rfl ?_
  refine AWP.ret ?_
  refine d9 ?_
  exact Done.ret rfl (Fresh.mk rfl rfl)
 ·refine AOps.nil ?_
  refine b5 ?_
  refine AWP.condF rfl ?_
  refine AWP.skip ?_
  refine b5 ?_
  refine AWP.j ?_
  refine AWP.U ?_
  refine S.lit (f:=rowI) (l:=[]) (ess:=[]) rfl rfl rfl rfl rfl rfl rfl Y rfl rfl rfl ?_
  refine AOps.z rfl rfl ?_
  refine S.append (f:=rowI) h rfl rfl rfl rfl rfl rfl .row rfl rfl rfl rfl ?_
  refine AOps.B rfl rfl ?_
  refine AOps.nil ?_
  refine b5 ?_
  refine AWP.ret ?_
  exact Done.ret rfl (Fresh.mk rfl rfl)
end Ab
end
section
namespace Ab
open Go Go.Proofs
open Tryz
set_option maxHeartbeats 4000000
attribute [local irreducible] AWP AOps thn inB Done f7 o9 Sub
abbrev u64(n:Int):C:=.imm (.val (.int .u64 n))
theorem and32(n:Nat)(hn:n<=4294967295):Go.bits .and .u64 (n:Int) 4294967295=n:=by
 have h:=bits_and_u64_nat n 4294967295 (by omega) (by omega)
 rw[show(4294967295:Nat)=2 ^ 32 - 1 from rfl,Nat.and_two_pow_sub_one_eq_mod] at h
 rw[show((4294967295:Int))=((2 ^ 32 - 1:Nat):Int) from rfl,h]
 omega
theorem small_facts(n:Nat)(hn:n<=4294967295):Go.bits .and .u64 (n:Int) 4294967295=n/\Int.fdiv (n:Int) (2 ^ (min (32:Int).toNat (IntKind.bits .u64)))=0/\IntKind.u64.wrap (1 * (n:Int))=n/\IntKind.u64.wrap (0 * (n:Int))=0:=by
 refine⟨and32 n hn,?_,?_,?_⟩
 ·show Int.fdiv (n:Int) 4294967296=0
  rw[Int.fdiv_eq_ediv_of_nonneg _ (by omega)];omega
 ·simp only[IntKind.wrap,IntKind.bits,IntKind.signed,Bool.false_and];simp;omega
 ·simp[IntKind.wrap,IntKind.bits,IntKind.signed]
theorem ah5(n:Nat)(hn:n<=4294967295):f7 prog 108 [.c (u64 1),.c (u64 n)] (.tup [.c (u64 0),.c (u64 n)]):=by
 obtain⟨f1,f2,f3,f4⟩:=small_facts n hn
 unfold f7
 refine FnOk.enter (rs:=[.t 4,.t 5]) func108 rfl ntmps108 results108 rfl ⟨Y,Y,Y⟩ (by kernel_rfl) rfl ?_
 repeat (first|refine AOps.z rfl rfl ?_|refine AOps.B rfl rfl ?_|refine AOps.nil ?_|refine AWP.j ?_|refine AWP.U ?_|refine b5 ?_|refine AOps.andE (c:=(n:Int)) rfl rfl rfl f1 ?_|refine AOps.andE (c:=1) rfl rfl rfl (by decide) ?_|refine AOps.andE (c:=0) rfl rfl rfl (by decide) ?_|refine AOps.shr (c:=0) rfl rfl rfl (by decide) (by first|exact f2|decide) ?_|refine AOps.mulE (c:=(n:Int)) rfl rfl rfl f3 ?_|refine AOps.mulE (c:=0) rfl rfl rfl (by first|exact f4|decide) ?_|refine AOps.addE (c:=0) rfl rfl rfl (by decide) ?_)
 repeat (first|refine AWP.j ?_|refine AWP.ret ?_|refine d9 ?_|refine i9 ?_|refine AWP.skip ?_|refine b5 ?_|refine d6 ?_|refine AWP.exit ?_|refine k8 ?_|refine i7 ?_|refine K4 rfl ?_)
 exact Done.ret rfl rfl
theorem mul_ok(n:Nat)(hn:n<=4294967295):f7 prog 77 [.c (u64 1),.c (u64 n)] (.tup [.c (u64 0),.c (u64 n)]):=by
 unfold f7
 refine FnOk.enter (rs:=[.t 4,.t 5]) func77 rfl ntmps77 results77 rfl ⟨Y,Y,Y⟩ (by kernel_rfl) rfl ?_
 repeat (first|refine AWP.j ?_|refine AWP.q ?_|refine AWP.skip ?_|refine b5 ?_|refine d6 ?_|refine AWP.condT rfl ?_|refine AWP.condF rfl ?_)
 refine AWP.U ?_
 refine AOps.B rfl rfl ?_
 refine AOps.B rfl rfl ?_
 refine AOps.nil ?_
 repeat (first|refine b5 ?_|refine d6 ?_)
 repeat (first|refine AWP.j ?_|refine AWP.q ?_|refine AWP.skip ?_|refine b5 ?_|refine d6 ?_|refine AWP.condT rfl ?_|refine AWP.condF rfl ?_)
 refine AWP.U ?_
 refine AOps.z rfl rfl ?_
 refine AOps.z rfl rfl ?_
 first|refine AOps.u rfl rfl rfl rfl (ah5 n hn) rfl ?_|refine AOps.u rfl rfl rfl rfl (ah5 n hn) rfl ?_|refine AOps.u rfl rfl rfl rfl (ah5 n hn) rfl ?_|refine AOps.u rfl rfl rfl rfl (ah5 n hn) rfl ?_|refine AOps.u rfl rfl rfl rfl (ah5 n hn) rfl ?_|refine AOps.u rfl rfl rfl rfl (ah5 n hn) rfl ?_|refine AOps.u rfl rfl rfl rfl (ah5 n hn) rfl ?_
 refine AOps.z rfl rfl ?_
 refine AOps.extract rfl rfl rfl ?_
 refine AOps.extract rfl rfl rfl ?_
 refine AOps.B rfl rfl ?_
 refine AOps.B rfl rfl ?_
 refine AOps.nil ?_
 repeat (first|refine b5 ?_|refine d6 ?_)
 repeat (first|refine AWP.j ?_|refine AWP.q ?_|refine AWP.skip ?_|refine b5 ?_|refine d6 ?_|refine AWP.condT rfl ?_|refine AWP.condF rfl ?_)
 refine AWP.U ?_
 refine AOps.z rfl rfl ?_
 refine AOps.z rfl rfl ?_
 refine AOps.B rfl rfl ?_
 refine AOps.B rfl rfl ?_
 refine AOps.nil ?_
 repeat (first|refine b5 ?_|refine d6 ?_)
 repeat (first|refine AWP.j ?_|refine AWP.ret ?_|refine d9 ?_|refine i9 ?_|refine AWP.skip ?_|refine b5 ?_|refine d6 ?_|refine AWP.exit ?_|refine k8 ?_|refine i7 ?_|refine K4 rfl ?_)
 exact Done.ret rfl rfl
theorem wrap_facts(n:Nat)(hn:n<=4294967295):IntKind.u64.wrap (n:Int)=n/\IntKind.i64.wrap (n:Int)=n:=by
 refine⟨?_,wrap_i64 (by omega)⟩
 simp only[IntKind.wrap,IntKind.bits,IntKind.signed,Bool.false_and];simp;omega
def repC(c:Int)(n i:Nat):List (List C):=(List.range n).map fun j=>[int (if j<i then c else 0)]
theorem rep_first{c:Int}{n:Nat}(h:1<=n):(eT n [C.imm (.val (.int .i64 0))]).take 0++(([c]:Li).map intI|>.map (·.map C.imm)).take 1++(eT n [C.imm (.val (.int .i64 0))]).drop (0+1)=repC c n 1:=by
 apply eI
 intro j
 simp only[repC,lM]
 match j with
 |0=>simp[show 0<n by omega]
 |j+1=>
  simp only[List.take_zero,List.nil_append,fG,List.map_nil,List.take_succ_cons,List.take_nil,List.cons_append,fV,eV,eY]
  by_cases hj:j+1<n
  ·rw[if_pos (by omega),fQ hj];simp
  ·rw[if_neg (by omega),fL (by simp;omega)];rfl
theorem rep_more{c:Int}{n i m:Nat}(h1:m<=i)(h2:i+m<=n):(repC c n i).take (0+i)++(((repC c n i).drop 0).take i).take m++(repC c n i).drop (0+i+m)=repC c n (i+m):=by
 apply eI
 intro j
 have len:(repC c n i).length=n:=by simp[repC]
 have hg:∀k j,(repC c n k)[j]? =if j<n then some [int (if j<k then c else 0)] else none:=fun k j=>by
  simp only[repC,lM]
  by_cases hj:j<n
  ·rw[fQ hj,if_pos hj];rfl
  ·rw[fL (by simp;omega),if_neg hj];rfl
 rw[fz,fa,hg]
 rcases ff j i with hl|hl
 ·rw[fB,eM (by simp[len];omega),eS,if_pos hl,hg]
  simp[show j<n by omega,hl,show j<i+m by omega]
 ·rcases ff j (i+m) with hl2|hl2
  ·rw[eM (by simp[len];omega),eR (by simp[len];omega),eS,if_pos (by simp[len];omega),eS,if_pos (by simp[len];omega),hg]
   have e:(fW i (repC c n i)).length=i:=by simp[len];omega
   rw[e,if_pos (by omega),if_pos (by omega),if_pos (by omega),if_pos (by omega)]
  ·rw[eR (by simp[len];omega),eV,hg]
   have e:(fW i (repC c n i)++fW m (fW i (repC c n i))).length=i+m:=by simp[len];omega
   rw[e,show i+m+(j - (i+m))=j by omega]
   split
   ·rw[if_neg (by omega),if_neg (by omega)]
   ·rfl
theorem rep_full(c:Int)(n:Nat):Blk.cells 1 (repC c n n)=Blk.im 1 (eT n [.val (.int .i64 c)]):=by
 rw[Blk.im,repC]
 congr 1
 apply eI
 intro j
 simp only[lM,eY]
 by_cases hj:j<n
 ·rw[fQ hj,if_pos hj];simp[hj]
 ·rw[fL (by simp;omega),if_neg hj];rfl
theorem repeat_ok(c:Int)(n:Nat)(h1:1<=n)(hn:n<=4294967295):o9 prog 44 [.c (ints [c]),.c (int n)] 1 (eT n [.val (.int .i64 c)]):=by
 obtain⟨w1,w2⟩:=wrap_facts n hn
 unfold o9
 refine FnOk.enter (rs:=[.t 4]) func44 rfl ntmps44 results44 rfl ⟨Y,Y⟩ (by kernel_rfl) rfl ?_
 repeat (first|refine AWP.j ?_|refine AWP.q ?_|refine AWP.skip ?_|refine b5 ?_|refine d6 ?_|refine AWP.condT rfl ?_|refine AWP.condF rfl ?_)
 refine AWP.U ?_
 refine AOps.B rfl rfl ?_
 refine AOps.nil ?_
 repeat (first|refine b5 ?_|refine d6 ?_)
 have hd:decide ((n:Int)<0)=false:=decide_eq_false (by omega)
 repeat (first|refine AWP.j ?_|refine AWP.q ?_|refine AWP.skip ?_|refine b5 ?_|refine d6 ?_|refine AWP.condT rfl ?_|refine AWP.condF rfl ?_)
 refine AWP.U ?_
 refine AOps.z rfl rfl ?_
 refine AOps.lss rfl rfl rfl ?_
 refine AOps.nil ?_
 repeat (first|refine b5 ?_|refine d6 ?_)
 (repeat (refine AWP.j ?_));first|refine AWP.condD rfl (fun hc=> ?_) (fun hc=> ?_)|refine AWP.condN rfl (fun hc=> ?_) (fun hc=> ?_)|refine AWP.condE rfl (fun hc=> ?_) (fun hc hc'=> ?_)|refine AWP.condB rfl (fun hc=> ?_) (fun hc=> ?_)|refine AWP.cond rfl (fun hc=> ?_) (fun hc=> ?_)
 ·omega
 repeat (first|refine AWP.skip ?_|refine b5 ?_|refine d6 ?_|refine AWP.condT rfl ?_|refine AWP.condF rfl ?_)
 repeat (first|refine AWP.j ?_|refine AWP.q ?_|refine AWP.skip ?_|refine b5 ?_|refine d6 ?_|refine AWP.condT rfl ?_|refine AWP.condF rfl ?_)
 refine AWP.U ?_
 refine AOps.z rfl rfl ?_
 first|refine AOps.lenB rfl rfl (fun _=> ?_)|refine AOps.lenOwnB rfl rfl rfl (fun _=> ?_)|refine AOps.lenNil rfl rfl ?_
 refine AOps.convE (c:=1) rfl rfl (show IntKind.u64.wrap ((1:Nat):Int)=1 by decide) ?_
 refine AOps.z rfl rfl ?_
 refine AOps.convE (c:=(n:Int)) rfl rfl w1 ?_
 first|refine AOps.u rfl rfl rfl rfl (mul_ok n hn) rfl ?_|refine AOps.u rfl rfl rfl rfl (mul_ok n hn) rfl ?_|refine AOps.u rfl rfl rfl rfl (mul_ok n hn) rfl ?_|refine AOps.u rfl rfl rfl rfl (mul_ok n hn) rfl ?_|refine AOps.u rfl rfl rfl rfl (mul_ok n hn) rfl ?_|refine AOps.u rfl rfl rfl rfl (mul_ok n hn) rfl ?_|refine AOps.u rfl rfl rfl rfl (mul_ok n hn) rfl ?_
 refine AOps.z rfl rfl ?_
 refine AOps.extract rfl rfl rfl ?_
 refine AOps.extract rfl rfl rfl ?_
 refine AOps.B rfl rfl ?_
 refine AOps.B rfl rfl ?_
 refine AOps.nil ?_
 repeat (first|refine b5 ?_|refine d6 ?_)
 have hd2:decide ((0:Int)<0)=false:=by decide
 repeat (first|refine AWP.j ?_|refine AWP.q ?_|refine AWP.skip ?_|refine b5 ?_|refine d6 ?_|refine AWP.condT rfl ?_|refine AWP.condF rfl ?_)
 refine AWP.U ?_
 refine AOps.z rfl rfl ?_
 refine AOps.gtr rfl rfl rfl ?_
 refine AOps.z rfl rfl ?_
 first|(refine AOps.O rfl rfl rfl (by assumption) ?_)|(refine AOps.guardSkip rfl rfl rfl ?_)|(refine AOps.E rfl rfl rfl (by assumption) ?_;refine AOps.z rfl rfl ?_)
 first|(refine AOps.O rfl rfl rfl (by assumption) ?_)|(refine AOps.guardSkip rfl rfl rfl ?_)|(refine AOps.E rfl rfl rfl (by assumption) ?_;refine AOps.gtr rfl rfl rfl ?_)
 first|refine AOps.ab rfl (by assumption) rfl rfl ?_|refine AOps.pickF rfl (by assumption) rfl rfl ?_
 refine AOps.nil ?_
 repeat (first|refine b5 ?_|refine d6 ?_)
 (repeat (refine AWP.j ?_));first|refine AWP.condD rfl (fun hc=> ?_) (fun hc=> ?_)|refine AWP.condN rfl (fun hc=> ?_) (fun hc=> ?_)|refine AWP.condE rfl (fun hc=> ?_) (fun hc hc'=> ?_)|refine AWP.condB rfl (fun hc=> ?_) (fun hc=> ?_)|refine AWP.cond rfl (fun hc=> ?_) (fun hc=> ?_)
 ·omega
 repeat (first|refine AWP.skip ?_|refine b5 ?_|refine d6 ?_|refine AWP.condT rfl ?_|refine AWP.condF rfl ?_)
 repeat (first|refine AWP.j ?_|refine AWP.q ?_|refine AWP.skip ?_|refine b5 ?_|refine d6 ?_|refine AWP.condT rfl ?_|refine AWP.condF rfl ?_)
 refine AWP.U ?_
 refine AOps.z rfl rfl ?_
 refine AOps.convE (c:=(n:Int)) rfl rfl w2 ?_
 refine W.make rfl rfl rfl (by omega) (by omega) rfl rfl rfl ?_
 refine AOps.B rfl rfl ?_
 refine AOps.nil ?_
 repeat (first|refine b5 ?_|refine d6 ?_)
 repeat (first|refine AWP.j ?_|refine AWP.q ?_|refine AWP.skip ?_|refine b5 ?_|refine d6 ?_|refine AWP.condT rfl ?_|refine AWP.condF rfl ?_)
 refine AWP.U ?_
 refine AOps.z rfl rfl ?_
 refine AOps.z rfl rfl ?_
 refine AOps.copyE (m:=1) (es':=repC c n 1) rfl rfl (by omega) rfl .imm rfl (fX h1) (rep_first h1) rfl ?_
 refine AOps.B rfl rfl ?_
 refine AOps.nil ?_
 repeat (first|refine b5 ?_|refine d6 ?_)
 refine AWP.j ?_
 refine AWP.q ?_
 refine AWP.loop (X:=Nat) (fun i=>⟨[(7,.c (.own 0 0 n)),(8,.c (int i))],[.one (.cells 1 (repC c n i))]⟩) (fun i=>1<=i/\i<=n) (fun i=>n - i) 1 (Sub.env ⟨rfl,rfl,Y⟩) ⟨fq _,h1⟩ ?_
 rintro i ⟨i1,i2⟩
 repeat (first|refine AWP.j ?_|refine AWP.q ?_|refine AWP.skip ?_|refine b5 ?_|refine d6 ?_|refine AWP.condT rfl ?_|refine AWP.condF rfl ?_)
 refine AWP.U ?_
 refine AOps.z rfl rfl ?_
 refine AOps.z rfl rfl ?_
 first|refine AOps.lenB rfl rfl (fun _=> ?_)|refine AOps.lenOwnB rfl rfl rfl (fun _=> ?_)|refine AOps.lenNil rfl rfl ?_
 refine AOps.lss rfl rfl rfl ?_
 refine AOps.nil ?_
 repeat (first|refine b5 ?_|refine d6 ?_)
 (repeat (refine AWP.j ?_));first|refine AWP.condD rfl (fun hc=> ?_) (fun hc=> ?_)|refine AWP.condN rfl (fun hc=> ?_) (fun hc=> ?_)|refine AWP.condE rfl (fun hc=> ?_) (fun hc hc'=> ?_)|refine AWP.condB rfl (fun hc=> ?_) (fun hc=> ?_)|refine AWP.cond rfl (fun hc=> ?_) (fun hc=> ?_)
 ·have hi:i<n:=by omega
  obtain⟨m,hm⟩:∃m,m=Nat.min i (n - i):=⟨_,rfl⟩
  have hm1:1<=m:=by rw[hm];exact Nat.le_min.2 ⟨i1,by omega⟩
  have hm2:m<=i/\i+m<=n:=by
   have:=Nat.min_le_left i (n - i)
   have:=Nat.min_le_right i (n - i)
   change m=min i (n - i) at hm
   omega
  have hcm:Nat.min (((repC c n i).drop 0).take i).length (n - i)=m:=by
   rw[hm]
   congr 1
   simp[repC];omega
  have hce:(repC c n i).take (0+i)++(((repC c n i).drop 0).take i).take m++(repC c n i).drop (0+i+m)=repC c n (i+m):=rep_more hm2.1 hm2.2
  repeat (first|refine AWP.skip ?_|refine b5 ?_|refine d6 ?_|refine AWP.condT rfl ?_|refine AWP.condF rfl ?_)
  repeat (first|refine AWP.j ?_|refine AWP.q ?_|refine AWP.skip ?_|refine b5 ?_|refine d6 ?_|refine AWP.condT rfl ?_|refine AWP.condF rfl ?_)
  refine AWP.drawEI [7] mixed rfl rfl rfl ?_
  apply d4.consN;exact rfl;exact rfl;intro E
  refine AOps.z rfl rfl ?_
  exact AOps.nil ⟨rfl,rfl⟩
  exact rfl
  apply d4.consN;exact rfl;exact rfl;intro E
  refine AOps.z rfl rfl ?_
  exact AOps.nil ⟨rfl,rfl⟩
  exact rfl
  apply d4.consN;exact rfl;exact rfl;intro E
  refine AOps.z rfl rfl ?_
  exact AOps.nil ⟨rfl,rfl⟩
  exact rfl
  apply d4.consN;exact rfl;exact rfl;intro E
  first|refine AOps.sliceArrI rfl (eO rfl) rfl rfl ?_|refine AOps.sliceOwnTo rfl rfl rfl (by omega) rfl ?_|refine AOps.sliceOwnFrom rfl rfl rfl (by omega) rfl ?_
  exact AOps.nil ⟨rfl,rfl⟩
  exact rfl
  apply d4.consN;exact rfl;exact rfl;intro E
  refine AOps.z rfl rfl ?_
  exact AOps.nil ⟨rfl,rfl⟩
  exact rfl
  apply d4.consN;exact rfl;exact rfl;intro E
  refine AOps.z rfl rfl ?_
  exact AOps.nil ⟨rfl,rfl⟩
  exact rfl
  apply d4.consN;exact rfl;exact rfl;intro E
  first|refine AOps.sliceArrI rfl (eO rfl) rfl rfl ?_|refine AOps.sliceOwnTo rfl rfl rfl (by omega) rfl ?_|refine AOps.sliceOwnFrom rfl rfl rfl (by omega) rfl ?_
  exact AOps.nil ⟨rfl,rfl⟩
  exact rfl
  apply d4.consE;exact rfl;exact rfl;intro E
  refine AOps.copyE rfl rfl (by omega) rfl (Src.own rfl) rfl hcm hce rfl ?_
  exact AOps.nil ⟨rfl,rfl⟩
  exact rfl
  exact rfl
  apply d4.consN;exact rfl;exact rfl;intro E
  refine AOps.add rfl rfl rfl (by omega) ?_
  exact AOps.nil ⟨rfl,rfl⟩
  exact rfl
  apply d4.consN;exact rfl;exact rfl;intro E
  refine AOps.B rfl rfl ?_
  exact AOps.nil ⟨rfl,rfl⟩
  exact rfl
  refine d4.done rfl ?_ ?_
  ·apply i5.cons;exact rfl;exact rfl
   first|refine k9.skip rfl ?_|(apply k9.go;exact rfl;exact rfl;intro E;(refine AOps.z rfl rfl ?_);exact AOps.nil ⟨rfl,rfl⟩)
   first|refine k9.skip rfl ?_|(apply k9.go;exact rfl;exact rfl;intro E;(refine AOps.z rfl rfl ?_);exact AOps.nil ⟨rfl,rfl⟩)
   exact k9.nil
   apply i5.cons;exact rfl;exact rfl
   first|refine k9.skip rfl ?_|(apply k9.go;exact rfl;exact rfl;intro E;(refine AOps.z rfl rfl ?_);exact AOps.nil ⟨rfl,rfl⟩)
   first|refine k9.skip rfl ?_|(apply k9.go;exact rfl;exact rfl;intro E;(refine AOps.z rfl rfl ?_);exact AOps.nil ⟨rfl,rfl⟩)
   exact k9.nil
   apply i5.cons;exact rfl;exact rfl
   first|refine k9.skip rfl ?_|(apply k9.go;exact rfl;exact rfl;intro E;(refine AOps.z rfl rfl ?_);exact AOps.nil ⟨rfl,rfl⟩)
   first|refine k9.skip rfl ?_|(apply k9.go;exact rfl;exact rfl;intro E;(refine AOps.z rfl rfl ?_);exact AOps.nil ⟨rfl,rfl⟩)
   exact k9.nil
   apply i5.cons;exact rfl;exact rfl
   first|refine k9.skip rfl ?_|(apply k9.go;exact rfl;exact rfl;intro E;(first|refine AOps.sliceArrI rfl (eO rfl) rfl rfl ?_|refine AOps.sliceOwnTo rfl rfl rfl (by omega) rfl ?_|refine AOps.sliceOwnFrom rfl rfl rfl (by omega) rfl ?_);exact AOps.nil ⟨rfl,rfl⟩)
   first|refine k9.skip rfl ?_|(apply k9.go;exact rfl;exact rfl;intro E;(first|refine AOps.sliceArrI rfl (eO rfl) rfl rfl ?_|refine AOps.sliceOwnTo rfl rfl rfl (by omega) rfl ?_|refine AOps.sliceOwnFrom rfl rfl rfl (by omega) rfl ?_);exact AOps.nil ⟨rfl,rfl⟩)
   exact k9.nil
   apply i5.cons;exact rfl;exact rfl
   first|refine k9.skip rfl ?_|(apply k9.go;exact rfl;exact rfl;intro E;(refine AOps.z rfl rfl ?_);exact AOps.nil ⟨rfl,rfl⟩)
   first|refine k9.skip rfl ?_|(apply k9.go;exact rfl;exact rfl;intro E;(refine AOps.z rfl rfl ?_);exact AOps.nil ⟨rfl,rfl⟩)
   exact k9.nil
   apply i5.cons;exact rfl;exact rfl
   first|refine k9.skip rfl ?_|(apply k9.go;exact rfl;exact rfl;intro E;(refine AOps.z rfl rfl ?_);exact AOps.nil ⟨rfl,rfl⟩)
   first|refine k9.skip rfl ?_|(apply k9.go;exact rfl;exact rfl;intro E;(refine AOps.z rfl rfl ?_);exact AOps.nil ⟨rfl,rfl⟩)
   exact k9.nil
   apply i5.cons;exact rfl;exact rfl
   first|refine k9.skip rfl ?_|(apply k9.go;exact rfl;exact rfl;intro E;(first|refine AOps.sliceArrI rfl (eO rfl) rfl rfl ?_|refine AOps.sliceOwnTo rfl rfl rfl (by omega) rfl ?_|refine AOps.sliceOwnFrom rfl rfl rfl (by omega) rfl ?_);exact AOps.nil ⟨rfl,rfl⟩)
   first|refine k9.skip rfl ?_|(apply k9.go;exact rfl;exact rfl;intro E;(first|refine AOps.sliceArrI rfl (eO rfl) rfl rfl ?_|refine AOps.sliceOwnTo rfl rfl rfl (by omega) rfl ?_|refine AOps.sliceOwnFrom rfl rfl rfl (by omega) rfl ?_);exact AOps.nil ⟨rfl,rfl⟩)
   exact k9.nil
   refine i5.skip rfl ?_
   apply i5.cons;exact rfl;exact rfl
   first|refine k9.skip rfl ?_|(apply k9.go;exact rfl;exact rfl;intro E;(refine AOps.add rfl rfl rfl (by omega) ?_);exact AOps.nil ⟨rfl,rfl⟩)
   first|refine k9.skip rfl ?_|(apply k9.go;exact rfl;exact rfl;intro E;(refine AOps.add rfl rfl rfl (by omega) ?_);exact AOps.nil ⟨rfl,rfl⟩)
   exact k9.nil
   apply i5.cons;exact rfl;exact rfl
   first|refine k9.skip rfl ?_|(apply k9.go;exact rfl;exact rfl;intro E;(refine AOps.B rfl rfl ?_);exact AOps.nil ⟨rfl,rfl⟩)
   first|refine k9.skip rfl ?_|(apply k9.go;exact rfl;exact rfl;intro E;(refine AOps.B rfl rfl ?_);exact AOps.nil ⟨rfl,rfl⟩)
   exact k9.nil
   exact i5.nil
  dsimp only[l9]
  repeat (first|refine b5 ?_|refine d6 ?_)
  exact⟨i+m,Sub.env ⟨rfl,rfl,Y⟩,⟨by omega,by omega⟩,by omega⟩
 repeat (first|refine AWP.j ?_|refine AWP.ret ?_|refine d9 ?_|refine i9 ?_|refine AWP.skip ?_|refine b5 ?_|refine d6 ?_|refine AWP.exit ?_|refine k8 ?_|refine i7 ?_|refine K4 rfl ?_)
 repeat (first|refine AWP.j ?_|refine AWP.q ?_|refine AWP.skip ?_|refine b5 ?_|refine d6 ?_|refine AWP.condT rfl ?_|refine AWP.condF rfl ?_)
 refine AWP.U ?_
 refine AOps.z rfl rfl ?_
 refine AOps.B rfl rfl ?_
 refine AOps.nil ?_
 repeat (first|refine b5 ?_|refine d6 ?_)
 repeat (first|refine AWP.j ?_|refine AWP.ret ?_|refine d9 ?_|refine i9 ?_|refine AWP.skip ?_|refine b5 ?_|refine d6 ?_|refine AWP.exit ?_|refine k8 ?_|refine i7 ?_|refine K4 rfl ?_)
 have hin:i=n:=by omega
 subst hin
 refine Done.ret rfl ⟨0,by simp,?_⟩
 show some (some (Blk.cells 1 (repC c i i)))=_
 rw[rep_full]
def G2(x:Li)(n:Int):Option Li:=match x with
 |[c]=>if 1<=n/\n<=4294967295 then some (eT n.toNat c) else none
 |_=>none
theorem au3{x:Li}{n:Int}{r:Li}(h:G2 x n=some r):o9 prog 44 [.c (row 1 intI x),.c (int n)] 1 (List.map intI r):=by
 unfold G2 at h
 split at h
 ·rename_i c
  split at h
  ·rename_i hn
   cases h
   have:=repeat_ok c n.toNat (by omega) (by omega)
   rw[Int.toNat_of_nonneg (by omega)] at this
   rwa [List.map_replicate]
  ·cases h
 ·cases h
end Ab
end
section
set_option linter.all false
namespace Ab
open Go Go.Proofs Go.RowKit Go.Lib
open Tryz
def spl(arr:Array Vl)(o:Nat)(cs:List Vl):Array Vl:=(arr.toList.take o++cs++arr.toList.drop (o+cs.length)).toArray
theorem am7{arr:Array Vl}{o:Nat}{cs:List Vl}(h:o+cs.length<=arr.size):(spl arr o cs).size=arr.size:=by simp[spl];omega
theorem spl_get{arr:Array Vl}{o:Nat}{cs:List Vl}(h:o+cs.length<=arr.size)(i:Nat):(spl arr o cs)[i]? =if o<=i/\i<o+cs.length then cs[i - o]? else arr[i]? :=by
 have:=A8 arr.toList cs o i (by simpa using h)
 simpa[spl] using this
theorem aw8{P:Program}{dT sT ty e:Ti}{k bytes:Nat}{z:Vl}[ht:TyD P dT (.slice e)][hs:TyS P e k bytes z](w:World)(g o dLen dCap:Nat)(a:Addr)(sLen sCap m:Nat)(cur:Array Vl)(t:Ti)(cs:List Vl)
  (hm:Nat.min sLen dLen=m) (hg:w.heap[g]? =some (.cells cur t (0,0))) (hn:cs.length=m * k) (hsrc:∀j v,cs[j]? =some v->w.cell? (a.add j)=some v) (hfit:o+cs.length<=cur.size) (h1:∀v ∈ cs,v.oneCell'=true):
  (Builtin.copy_ #[dT,sT] ty #[.slice (some ⟨g,o,none⟩) dLen dCap,.slice (some a) sLen sCap]).run P w=.ok (goInt m) (w.setRow g (spl cur o cs)):=by
 have hf:(Builtin.firstCells k m (.slice (some a) sLen sCap)).run P w=.ok cs.toArray w:=run_firstCells_some w k m a sLen sCap cs hn hsrc
 have hst:=run_storeCells_at P g o t cs 0 cur w hg (by simpa using hfit) h1
 have hz:=q7 (P:=P) (t:=e) w
 simp[Builtin.copy_,run_underlying ht.h,hz,Builtin.lenOf,hm,hf,hst,spl]
theorem setRow_alloc(w:World)(r r':Array Vl)(e:Ti):(w.alloc (.cells r e)).setRow w.heap.size r'=w.alloc (.cells r' e):=by
 unfold World.setRow World.alloc
 congr 1
 apply Array.ext_getElem?
 intro i
 simp only[Array.getElem?_modify,Array.getElem?_push]
 by_cases h:w.heap.size=i
 ·subst h;simp
 ·rw[if_neg h,if_neg (fun e=>h e.symm),if_neg (fun e=>h e.symm)]
section
variable {P:Program}
theorem wpL_copy(w:World){ops:Array Oper}{rest:List Oper}{o:Oper}{a:Act}{Q:Exit->Act->World->Prop}(hgd:o.guard=none)(d s:Od)(t t':Ti)
  (ho:o.op=.call {callee:=.builtin .copy,args:=#[d,s],argTypes:=#[t,t']}) {v u v':Vl} {w':World} (hd:a.eval d=v) (hs:a.eval s=u) (hr:(Builtin.copy_ #[t,t'] o.type #[v,u]).run P w=.ok v' w')
  (h:wpList P ops Q rest (a.put o.dst v') w'):wpList P ops Q (o::rest) a w:=
 wpList_plain hgd fun K hK=>by
  have:(execOp a.eval o).run P w=.ok (.value v') w':=by
   simp[execOp,ho,resolve,invoke,builtin,hd,hs,hr,Result.andThen]
  unfold Oper.wp
  rw[this]
  exact hK _ _ h
theorem wpS_copy{ops:Array Oper}{o:Oper}{a:Act}{w:World}{K:Act->World->Prop}{Q:Exit->Act->World->Prop}{E:Prop}(hgd:o.guard=none)(d s:Od)(t t':Ti)
  (ho:o.op=.call {callee:=.builtin .copy,args:=#[d,s],argTypes:=#[t,t']}) {v u v':Vl} {w':World} (hd:a.eval d=v) (hs:a.eval s=u) (hr:(Builtin.copy_ #[t,t'] o.type #[v,u]).run P w=.ok v' w')
  (hK:K (a.put o.dst v') w'):if Region.wanted o (yielded ops a.tmps)=true then Oper.wp P o a w K Q else E:=by
 have hw:Region.wanted o (yielded ops a.tmps)=true:=by simp[Region.wanted,hgd]
 have:(execOp a.eval o).run P w=.ok (.value v') w':=by
  simp[execOp,ho,resolve,invoke,builtin,hd,hs,hr,Result.andThen]
 rw[if_pos hw]
 unfold Oper.wp
 rw[this]
 exact hK
end
section
set_option maxHeartbeats 4000000
set_option maxRecDepth 100000
abbrev insF:Nat:=49
abbrev choT:Nat:=76
abbrev G4:Nat:=30
theorem ins_shift(b off n c i vb voff vc:Nat)(arr varr:Array Vl)(ety vety:Ti)(cs vs:List Vl)(w:World)(hi:i<n)(hroom:n+1<=c)(hc63:c<=9223372036854775807)(hvb:vb ≠ b)
  (hb:w.heap[b]? =some (.cells arr ety (0,0))) (hv:w.heap[vb]? =some (.cells varr vety (0,0))) (hfit:off+(n+1) * 2<=arr.size)
  (hcl:cs.length=(n - i) * 2) (hvl:vs.length=1 * 2) (hcs:∀j v,cs[j]? =some v->w.cell? (⟨b,off+i * 2+j,none⟩)=some v) (hvs:∀j v,vs[j]? =some v->w.cell? ⟨vb,voff+j,none⟩=some v) (h1c:∀v ∈ cs,v.oneCell'=true) (h1v:∀v ∈ vs,v.oneCell'=true):
  Calls prog insF #[.slice (some ⟨b,off,none⟩) n c,.int .i64 i,.slice (some ⟨vb,voff,none⟩) 1 vc] w fun e w'=>
   e=.returned (.slice (some ⟨b,off,none⟩) (n+1) c)/\w'=w.drew.setRow b (spl (spl arr (off+(i+1) * 2) cs) (off+i * 2) vs):=by
 have hz2:¬ ((i:Int)=(n:Int)):=by omega
 have hov:∀lb cb,(callFunc 79 #[.slice (some ⟨vb,voff,none⟩) 1 vc,.slice (some ⟨b,off+(i+1) * 2,none⟩) lb cb]).run prog w=.ok (.value (.bool false)) w:=fun lb cb=>by
  rw[run_callFunc_extern func79 (by kernel_rfl) (by kernel_rfl) (by kernel_rfl) (e:=Extern.SlicesOverlaps.overlaps #[G4,G4] #[4]) (by kernel_rfl),
   Lib.run_overlaps_apart w G4 4 choT underlying30 2 (fun w=>q7 w) ⟨vb,voff,none⟩ ⟨b,off+(i+1) * 2,none⟩ 1 vc lb cb hvb vety ety varr.size arr.size (by simp[World.shape?,hv]) (by simp[World.shape?,hb]) (by omega) (by simp[World.frozen?,hv]) (by simp[World.frozen?,hv])]
  rfl
 have mixed:prog.follows .mixedOrders=true:=by kernel_rfl
 have u26:=run_underlying underlying30
 have hw1:IntKind.i64.wrap ((i:Int)+(1:Int))=(i:Int)+(1:Int):=by rw[IntKind.wrap_i64];omega
 have hb1:(0:Int)<=(i:Int)+(1:Int):=by omega
 have hin:i<=n:=by omega
 have htn:((i:Int)+(1:Int)).toNat=i+1:=by omega
 have hb2:¬ (c=i+1):=by omega
 have hb3:(i:Int)<=(n:Int)+(1:Int):=by omega
 have hb4:¬ (c=i):=by omega
 have hcp1:∀ty dc sc,(Builtin.copy_ #[G4,G4] ty #[.slice (some ⟨b,off+(i+1) * 2,none⟩) (n - i) dc,.slice (some ⟨b,off+i * 2,none⟩) (n+1 - i) sc]).run prog w.drew=.ok (goInt (n - i:Nat)) (w.drew.setRow b (spl arr (off+(i+1) * 2) cs)):=fun ty dc sc=>
  aw8 (e:=choT) w.drew _ _ _ _ _ _ _ _ arr ety cs (by simp only[fZ];split<;>omega) hb hcl (fun j v hj=>by rw[Addr.add_lit];exact hcs j v hj) (by omega) h1c
 have hcp2:∀ty dc,(Builtin.copy_ #[G4,G4] ty #[.slice (some ⟨b,off+i * 2,none⟩) (n+1 - i) dc,.slice (some ⟨vb,voff,none⟩) 1 vc]).run prog (w.drew.setRow b (spl arr (off+(i+1) * 2) cs))=.ok (goInt 1) ((w.drew.setRow b (spl arr (off+(i+1) * 2) cs)).setRow b (spl (spl arr (off+(i+1) * 2) cs) (off+i * 2) vs)):=fun ty dc=>
  aw8 (e:=choT) _ _ _ _ _ _ _ _ _ _ ety vs (by simp only[fZ];split<;>omega) (setRow_heap w.drew b arr _ ety (0,0) hb) hvl (fun j v hj=>by
   rw[Addr.add_lit,World.cell?_of_block (setRow_other w.drew b vb _ hvb)];exact hvs j v hj) (by rw[am7 (by omega)];omega) h1v
 go_enter func49,ntmps49
 go_wp2_with (simp only[hov])
 go_region_law_o (refine wpS_copy rfl _ _ G4 G4 rfl (by simp[Act.eval,Act.put]) (by simp[Act.eval,Act.put]) (hcp1 _ _ _) ?_)
 go_wp2_with (at_builtin;refine wpL_copy _ rfl _ _ G4 G4 rfl rfl rfl (hcp2 _ _) ?_)
 go_ret
 exact⟨rfl,by rw[setRow_setRow]⟩
theorem ins_grow(b off n c i vb voff vc:Nat)(os cs vs:List Vl)(w:World)(hi:i<n)(hnc:n<=c)(hroom:c<n+1)(hbig:(n+1) * 32<=140737488355328)(hbw:b<w.heap.size)(hvw:vb<w.heap.size)
  (hol:os.length=i * 2) (hcl:cs.length=(n - i) * 2) (hvl:vs.length=1 * 2)
  (hos:∀j v,os[j]? =some v->w.cell? (⟨b,off+j,none⟩)=some v) (hcs:∀j v,cs[j]? =some v->w.cell? (⟨b,off+i * 2+j,none⟩)=some v) (hvs:∀j v,vs[j]? =some v->w.cell? ⟨vb,voff+j,none⟩=some v)
  (h1c:∀v ∈ cs,v.oneCell'=true) (h1v:∀v ∈ vs,v.oneCell'=true):
  Calls prog insF #[.slice (some ⟨b,off,none⟩) n c,.int .i64 i,.slice (some ⟨vb,voff,none⟩) 1 vc] w fun e w'=>
   ∃(G:Nat) (ROW:Array Vl),n+1<=G/\G<=maxLen/\ROW.size=G * 2/\(∀(j:Nat) v,os[j]? =some v->ROW[j]? =some v)/\
   e=.returned (.slice (some ⟨w.heap.size,0,none⟩) (n+1) G)/\w'=w.drew.drew.alloc (.cells (spl (spl ROW (i * 2) vs) ((i+1) * 2) cs) choT):=by
 have hz2:¬ ((i:Int)=(n:Int)):=by omega
 have hz3:(c:Int)<(n:Int)+(1:Int):=by omega
 have mixed:prog.follows .mixedOrders=true:=by kernel_rfl
 have u26:=run_underlying underlying30
 obtain⟨inf,hi1,hi2,hi3,hi4⟩:=(inferInstance:TyS prog choT 2 32 _).h
 have hkk:(n:Int)+(1:Int) - (i:Int)=((n+1 - i:Nat):Int):=by omega
 have hik:i+(n+1 - i)=n+1:=by omega
 have hold:(Builtin.firstCells inf.size i (.slice (some ⟨b,off,none⟩) i c)).run prog w.drew=.ok os.toArray w.drew:=by
  rw[hi2]
  exact run_firstCells_some w.drew 2 i ⟨b,off,none⟩ i c os hol (fun j v hj=>by
   rw[Addr.add_lit]
   exact hos j v hj)
 obtain⟨G,hG⟩:∃G,G=grownCap w (n+1) c choT:=⟨_,rfl⟩
 obtain⟨ROW,hROW⟩:∃ROW:Array Vl,ROW=os.toArray++Builtin.zeroCells (Value.agg #[.slice none 0 0,.int .i64 0]).cells (n+1 - i)++Builtin.zeroCells (Value.agg #[.slice none 0 0,.int .i64 0]).cells (G - (n+1)):=⟨_,rfl⟩
 have hGn:n+1<=G:=by rw[hG];exact grownCap_ge w _ _ _
 have hGm:G<=maxLen:=by
  rw[hG]
  exact grownCap_le_maxLen w (n+1) c choT (by unfold maxLen;omega)
 have hG63:G<=9223372036854775807:=hGm
 have hRl:ROW.size=G * 2:=by
  rw[hROW]
  simp[Builtin.zeroCells,Value.cells,hol]
  omega
 have hRo:∀(j:Nat) v,os[j]? =some v->ROW[j]? =some v:=fun j v hj=>by
  rw[hROW,Array.append_assoc,Array.getElem?_append_left (by simpa using(lG.1 hj).1)]
  simpa using hj
 have hrz:∀ty,(Builtin.append_ #[G4,3] ty #[.slice (some ⟨b,off,none⟩) i c,.int .i64 ((n:Int)+(1:Int) - (i:Int))]).run prog w=
   .ok (.slice (some ⟨w.heap.size,0,none⟩) (n+1) G) (w.drew.alloc (.cells ROW choT)):=fun ty=>by
  have h:=Lib.run_append_grow_zeros w G4 3 ty choT inf _ .i64 .i64 underlying30 underlying3 hi1 hi4 (some ⟨b,off,none⟩) i c os hold (n+1 - i) (by omega) (by omega) (by omega) (by omega) (by rw[hi3];omega) (by rw[hi3,hik];exact growslice_fits hroom hbig)
  rw[hik,<- hG] at h
  rw[hkk,hROW]
  exact h
 have hci:¬ (c=i):=by omega
 have hGi:¬ (G=i):=by omega
 have hGim:¬ (G=i+1):=by omega
 have hw1:IntKind.i64.wrap ((i:Int)+(1:Int))=(i:Int)+(1:Int):=by rw[IntKind.wrap_i64];omega
 have hb1:(0:Int)<=(i:Int)+(1:Int):=by omega
 have hin:i<=n:=by omega
 have htn:((i:Int)+(1:Int)).toNat=i+1:=by omega
 have hb3:(i:Int)<=(n:Int):=by omega
 have hcpA:∀ty dc,(Builtin.copy_ #[G4,G4] ty #[.slice (some ⟨w.heap.size,i * 2,none⟩) (n+1 - i) dc,.slice (some ⟨vb,voff,none⟩) 1 vc]).run prog (w.alloc (.cells ROW choT)).drew=.ok (goInt 1) ((w.alloc (.cells ROW choT)).drew.setRow w.heap.size (spl ROW (i * 2) vs)):=fun ty dc=>
  aw8 (e:=choT) _ _ _ _ _ _ _ _ _ ROW choT vs (by simp only[fZ];split<;>omega) (heap_alloc_new w.drew _) hvl (fun j v hj=>by
   rw[Addr.add_lit,World.cell?_of_block (show(w.alloc (.cells ROW choT)).drew.heap[vb]? =w.heap[vb]? from by first|exact heap_alloc_old w.drew _ hvw|exact heap_alloc_old w.drew _ _ hvw)];exact hvs j v hj) (by omega) h1v
 have hcpB:∀ty dc sc,(Builtin.copy_ #[G4,G4] ty #[.slice (some ⟨w.heap.size,(i+1) * 2,none⟩) (n - i) dc,.slice (some ⟨b,off+i * 2,none⟩) (n - i) sc]).run prog ((w.alloc (.cells ROW choT)).drew.setRow w.heap.size (spl ROW (i * 2) vs)).drew=.ok (goInt (n - i:Nat)) (((w.alloc (.cells ROW choT)).drew.setRow w.heap.size (spl ROW (i * 2) vs)).drew.setRow w.heap.size (spl (spl ROW (i * 2) vs) ((i+1) * 2) cs)):=fun ty dc sc=>
  aw8 (e:=choT) _ _ _ _ _ _ _ _ _ (spl ROW (i * 2) vs) choT cs (by simp only[fZ];split<;>omega) (setRow_heap _ _ ROW _ choT (0,0) (heap_alloc_new w.drew _)) hcl (fun j v hj=>by
   rw[Addr.add_lit,World.cell?_of_block (show((w.drew.alloc (.cells ROW choT)).setRow w.heap.size (spl ROW (i * 2) vs)).drew.heap[b]? =w.heap[b]? from(setRow_other _ w.heap.size b _ (by omega)).trans (by first|exact heap_alloc_old w.drew _ hbw|exact heap_alloc_old w.drew _ _ hbw))];exact hcs j v hj) (by rw[am7 (by omega)];omega) h1c
 clear hkk hik hold hG hROW
 go_enter func49,ntmps49
 go_wp2_with (first
  |(at_builtin;refine Lib.wpList_append_run _ rfl _ _ _ _ rfl _ _ rfl rfl _ _ (hrz _) ?_)
  |(at_builtin;refine wpL_copy _ rfl _ _ G4 G4 rfl rfl rfl (hcpA _ _) ?_))
 go_region_law_o (refine wpS_copy rfl _ _ G4 G4 rfl (by simp[Act.eval,Act.put]) (by simp[Act.eval,Act.put]) (hcpB _ _ _) ?_)
 go_wp2
 go_ret
 refine⟨G,ROW,hGn,hGm,hRl,hRo,rfl,?_⟩
 exact(setRow_setRow (w.alloc (.cells ROW choT)).drew.drew w.heap.size (spl ROW (i * 2) vs) (spl (spl ROW (i * 2) vs) ((i+1) * 2) cs)).trans (setRow_alloc w.drew.drew ROW (spl (spl ROW (i * 2) vs) ((i+1) * 2) cs) choT)
theorem ins_end(base:Option Addr)(n c:Nat)(vv r:Vl)(w w':World)(hvv:∃b cv,vv=.slice b 1 cv)(hrun:∀ty,(Builtin.append_ #[G4,G4] ty #[.slice base n c,vv]).run prog w=.ok r w')(hnc:n<=c):
  Calls prog insF #[.slice base n c,.int .i64 n,vv] w fun e w2=>e=.returned r/\w2=w':=by
 obtain⟨vb,vc,rfl⟩:=hvv
 have mixed:prog.follows .mixedOrders=true:=by kernel_rfl
 have u26:=run_underlying underlying30
 go_enter func49,ntmps49
 cases base with
 |none=>
  go_wp2_with (at_builtin;refine Lib.wpList_append_run _ rfl _ _ _ _ rfl _ _ rfl rfl _ _ (hrun _) ?_)
  all_goals (go_ret;exact⟨rfl,rfl⟩)
 |some a=>
  obtain⟨ab,ao,asp⟩:=a
  go_wp2_with (at_builtin;refine Lib.wpList_append_run _ rfl _ _ _ _ rfl _ _ rfl rfl _ _ (hrun _) ?_)
  all_goals (go_ret;exact⟨rfl,rfl⟩)
end
structure Rw(w:World)(φ:Phi)(σ:b6)(A:Nat->Prop)(k:Nat)(es:List (List C))(us:List Vl):Prop where
 len:us.length=es.length * k
 hk:∀(j:Nat) (e:List C),es[j]? =some e->e.length=k
 rel:∀(j:Nat) (e:List C) (o:Nat) (x:C),es[j]? =some e->e[o]? =some x->∃u,us[j * k+o]? =some u/\RelC w φ σ A x u
theorem ag3.rw{w:World}{φ:Phi}{σ:b6}{A:Nat->Prop}{k:Nat}{es:List (List C)}{b:Option Addr}{us:List Vl}(h:ag3 w φ σ A k es b us):Rw w φ σ A k es us:=⟨h.len,h.hk,h.rel⟩
section
variable {w:World}{φ:Phi}{σ:b6}{A:Nat->Prop}{k:Nat}{es es2:List (List C)}{us us2:List Vl}
theorem Rw.append(h:Rw w φ σ A k es us)(g:Rw w φ σ A k es2 us2):Rw w φ σ A k (es++es2) (us++us2):=by
 refine⟨by rw[fm,fm,h.len,g.len,fj],fun j e he=> ?_,fun j e o x he hx=> ?_⟩
 ·rw[eZ] at he
  split at he
  ·exact h.hk j e he
  ·exact g.hk _ e he
 ·rw[eZ] at he
  split at he
  ·obtain⟨u,hu,hr⟩:=h.rel j e o x he hx
   exact⟨u,by rw[eM (lG.1 hu).1];exact hu,hr⟩
  ·rename_i hj
   obtain⟨u,hu,hr⟩:=g.rel _ e o x he hx
   have hl:=h.len
   have hm:es.length * k<=j * k:=fg k (by omega)
   refine⟨u,?_,hr⟩
   rw[eR (by omega),hl]
   rw[gB] at hu
   rw[<- hu];congr 1;omega
theorem Rw.take(h:Rw w φ σ A k es us)(i:Nat)(hi:i<=es.length):Rw w φ σ A k (es.take i) (us.take (i * k)):=by
 have hl:=h.len
 have hm:i * k<=es.length * k:=fg k hi
 refine⟨by rw[fH,fH,fX hi,fX (by omega)],fun j e he=> ?_,fun j e o x he hx=> ?_⟩
 ·rw[eS] at he
  split at he
  ·exact h.hk j e he
  ·cases he
 ·rw[eS] at he
  split at he
  ·rename_i hj
   obtain⟨u,hu,hr⟩:=h.rel j e o x he hx
   have:=h.hk j e he
   have:=(lG.1 hx).1
   have hm2:(j+1) * k<=i * k:=fg k hj
   rw[fj] at hm2
   exact⟨u,by rw[eS,if_pos (by omega)];exact hu,hr⟩
  ·cases he
theorem Rw.drop(h:Rw w φ σ A k es us)(i:Nat)(hi:i<=es.length):Rw w φ σ A k (es.drop i) (us.drop (i * k)):=by
 have hl:=h.len
 refine⟨by rw[fI,fI,hl,gB],fun j e he=> ?_,fun j e o x he hx=> ?_⟩
 ·rw[eV] at he
  exact h.hk _ e he
 ·rw[eV] at he
  obtain⟨u,hu,hr⟩:=h.rel _ e o x he hx
  refine⟨u,?_,hr⟩
  rw[eV,<- hu,fj,Nat.add_assoc]
theorem Rw.mono{w':World}{φ':Phi}{σ':b6}{A':Nat->Prop}(H:Kept w w' φ φ' σ σ' A A')(h:Rw w φ σ A k es us):Rw w' φ' σ' A' k es us:=
 ⟨h.len,h.hk,fun j e o x he hx=>let ⟨u,hu,hr⟩:=h.rel j e o x he hx; ⟨u,hu,hr.mono H⟩⟩
end
theorem ins_lists{α:Type}{f:α->List I}{l:List α}{x:α}{i:Nat}:(((l.map f).map (·.map C.imm)).take i++(([x].map f).map (·.map C.imm))++((l.map f).map (·.map C.imm)).drop i)=((l.take i++x::l.drop i).map f).map (·.map C.imm):=by
 simp[fR,gh]
set_option maxRecDepth 100000 in
theorem ins_fn{α:Type}{f:α->List I}{σ:b6}{id id2:Id}{l:List α}{x:α}{i:Int}(hσ:σ[id]? =some (some (vec 2 f l)))(hσ2:σ[id2]? =some (some (vec 2 f [x])))(hne:id2 ≠ id)(hb:(l.length+1) * 32<=140737488355328)(h0:0<=i)(h1:i<=l.length):
  FnOk prog insF [.c (.own id 0 l.length),.c (int i),.c (.own id2 0 1)] σ fun r σ'=>r=.c (.own (σ.length,[]) 0 (l.take i.toNat++x::l.drop i.toNat).length)/\σ'=σ.put id none++[.one (vec 2 f (l.take i.toNat++x::l.drop i.toNat))]:=by
 refine⟨⟨_,func49,rfl,rfl⟩,fun Γ vs hΓ hG hlen hrel=> ?_⟩
 subst hΓ
 match vs,hlen with
 |[u,iv,v],_=>
 have hu:=C9 (hrel 0 _ u rfl rfl) hσ
 have hv:=C9 (hrel 2 _ v rfl rfl) hσ2
 have hiv:iv=.int .i64 i:=by
  have h:=hrel 1 _ iv rfl rfl
  cases h with|c h=>cases h with|imm h=>cases h with|val=>rfl
 subst hiv
 obtain⟨ni,rfl⟩:∃ni:Nat,i=ni:=⟨i.toNat,by omega⟩
 have hR:R Γ 3 ⟨[(0,.c (.own id 0 l.length)),(1,.c (int ni)),(2,.c (.own id2 0 1))],Γ.σ0⟩ Γ.φ0 ⟨#[u,.int .i64 ni,v],[]⟩ Γ.w0:=
  {toRs:=Rs.refl hG,defers:=.nil,asize:=rfl,env:=fun t x hx=>by
    simp only[lookup] at hx
    split at hx
    ·rename_i e;cases hx
     have:=eP e;subst this
     exact⟨u,rfl,hrel 0 _ u rfl rfl⟩
    ·split at hx
     ·rename_i e;cases hx
      have:=eP e;subst this
      exact⟨_,rfl,hrel 1 _ _ rfl rfl⟩
     ·split at hx
      ·rename_i e;cases hx
       have:=eP e;subst this
       exact⟨v,rfl,hrel 2 _ v rfl rfl⟩
      ·cases hx}
 have vlen:∀{m:List α},((m.map f).map (·.map C.imm)).length=m.length:=by simp
 have nlen:(l.take ni++x::l.drop ni).length=l.length+1:=by simp;omega
 simp only[Int.toNat_natCast] at *
 rw[nlen]
 by_cases hend:ni=l.length
 · -- at the end
  subst hend
  obtain⟨v',w',φ',g1,g2,g3⟩:=append_R (P:=prog) (t:=G4) (e:=choT) (ty:=0) (x:=.tmp 0) (y:=.tmp 2) (new:=([x].map f).map (·.map C.imm)) rfl rfl rfl hσ rfl (by
   have h:=Src.own (j:=0) (n:=1) hσ2
   rwa [fa,eQ (by simp)] at h) (by simpa using hb) hR
  obtain⟨b0,cap0,us0,hx1,_,_⟩:=U1 hR hσ hu
  obtain⟨b2,cap2,us2,hy1,_,_⟩:=U1 hR hσ2 hv
  have hnc:l.length<=cap0:=by
   rcases hu with⟨_,h2,_,h4⟩|⟨_,_,cap,_,_,_,_,h2,_,h3,_⟩
   ·rw[hx1] at h2;injection h2 with q1 q2 q3;omega
   ·rw[hx1] at h2;injection h2 with q1 q2 q3;omega
  have e1:(⟨#[u,.int .i64 (l.length:Int),v],[]⟩:Act).eval (.tmp 0)=u:=rfl
  have e2:(⟨#[u,.int .i64 (l.length:Int),v],[]⟩:Act).eval (.tmp 2)=v:=rfl
  rw[e1,e2,hx1] at g1
  have hc:=ins_end b0 l.length cap0 v v' Γ.w0 w' ⟨b2,cap2,hy1⟩ (fun _=>g1) hnc
  rw[hx1]
  refine hc.mono ?_
  rintro e w2 ⟨rfl,rfl⟩
  have e3:=ins_lists (f:=f) (l:=l) (x:=x) (i:=l.length)
  have e4:((((l.map f).map (·.map C.imm)).drop 0).take l.length++([x].map f).map (·.map C.imm))=((l.take l.length++x::l.drop l.length).map f).map (·.map C.imm):=by
   rw[<- e3,fa,List.drop_of_length_le (by simp),List.append_nil]
  have e5:l.length+(([x].map f).map (·.map C.imm)).length=l.length+1:=by simp
  rw[e4] at g2 g3
  rw[e5] at g2
  exact⟨v',.c (.own (Γ.σ0.length,[]) 0 (l.length+1)),_,φ',rfl,⟨rfl,rfl⟩,g2,g3.toRs⟩
 ·have hi:ni<l.length:=by omega
  obtain⟨b0,cap0,us0,hx1,hx2,hx3⟩:=U1 hR hσ hu
  obtain⟨b2,cap2,us2,hy1,hy2,hy3⟩:=U1 hR hσ2 hv
  rcases hu with⟨_,_,_,h4⟩|⟨b,base,cap,arr,ety,ad,hp,hvv,had,hcap,hmax,hjn,hbk,hsz⟩
  ·omega
  rcases hv with⟨_,_,_,h4⟩|⟨c2,base2,cap2',arr2,ety2,ad2,hp2,hvv2,had2,hcap2,hmax2,hjn2,hbk2,hsz2⟩
  ·omega
  rw[hx1] at hvv;cases hvv
  rw[hy1] at hvv2;cases hvv2
  have:=had (by omega);subst this
  have:=had2 (by omega);subst this
  simp only[fS,fM,fz,vlen,fa] at *
  have hvb:c2 ≠ b:=fun e=>hne (hR.st.inj id2 id _ _ _ _ hσ2 hσ hp2 hp (by simpa using e))
  have r1:Rw Γ.w0 Γ.φ0 Γ.σ0 (Al Γ.N Γ.φ0 Γ.σ0) 2 ((l.map f).map (·.map C.imm)) us0:=by
   have:=hx3.rw
   rwa [eQ (by simp)] at this
  have r2:Rw Γ.w0 Γ.φ0 Γ.σ0 (Al Γ.N Γ.φ0 Γ.σ0) 2 (([x].map f).map (·.map C.imm)) us2:=by
   have:=hy3.rw
   rwa [eQ (by simp)] at this
  have r3:=((r1.take ni (by simp;omega)).append r2).append (r1.drop ni (by simp;omega))
  rw[ins_lists] at r3
  have u0l:us0.length=l.length * 2:=by rw[r1.len];simp
  have u2l:us2.length=1 * 2:=by rw[r2.len];simp
  have cellA:∀j v,us0[j]? =some v->Γ.w0.cell? ⟨b,base+j,none⟩=some v:=fun j v hj=>by
   have:=hx3.cell _ rfl j v hj
   rwa [Addr.add_lit] at this
  have cellB:∀j v,us2[j]? =some v->Γ.w0.cell? ⟨c2,base2+j,none⟩=some v:=fun j v hj=>by
   have:=hy3.cell _ rfl j v hj
   rwa [Addr.add_lit] at this
  have one1:∀v ∈ us0,v.oneCell'=true:=hx3.one
  have one2:∀v ∈ us2,v.oneCell'=true:=hy3.one
  have hdl:(us0.drop (ni * 2)).length=(l.length - ni) * 2:=by rw[fI,u0l,gB]
  have htl:(us0.take (ni * 2)).length=ni * 2:=by rw[fH];omega
  have cellD:∀j v,(us0.drop (ni * 2))[j]? =some v->Γ.w0.cell? ⟨b,base+ni * 2+j,none⟩=some v:=fun j v hj=>by
   rw[eV] at hj
   rw[Nat.add_assoc];exact cellA _ v hj
  have hids:id.1<Γ.σ0.length:=b6.lt_of hσ
  rw[hx1,hy1]
  by_cases hroom:l.length+1<=cap0
  · -- room
   have hc:=ins_shift b base l.length cap0 ni c2 base2 cap2 arr arr2 ety ety2 (us0.drop (ni * 2)) us2 Γ.w0 hi hroom (by unfold maxLen at hmax;omega) hvb hbk hbk2 (by omega) hdl u2l cellD cellB (fun v hv=>one1 v (fN hv)) one2
   refine hc.mono ?_
   rintro e w2 ⟨rfl,rfl⟩
   have hK0:=Kept.drew Γ.w0 Γ.φ0 Γ.σ0 (Al Γ.N Γ.φ0 Γ.σ0)
   have s1:(spl arr (base+(ni+1) * 2) (us0.drop (ni * 2))).size=arr.size:=am7 (by omega)
   have s2:(spl (spl arr (base+(ni+1) * 2) (us0.drop (ni * 2))) (base+ni * 2) us2).size=arr.size:=by rw[am7 (by omega),s1]
   have hO:=Rs.reown (k:=2) (base':=base) (es':=((l.take ni++x::l.drop ni).map f).map (·.map C.imm)) (arr':=spl (spl arr (base+(ni+1) * 2) (us0.drop (ni * 2))) (base+ni * 2) us2) hR.toRs.drew hσ hp hbk (r3.hk) (by rw[s2];simp only[eX,nlen];omega) (fun j e o y he hy=>by
    obtain⟨uu,hu,hr⟩:=r3.rel j e o y he hy
    refine⟨uu,?_,hr.mono hK0⟩
    have hlt:=(lG.1 hu).1
    simp only[fm,htl,hdl,u2l] at hlt
    rw[spl_get (by omega),spl_get (by omega)]
    by_cases c1:j * 2+o<ni * 2
    ·rw[if_neg (by omega),if_neg (by omega)]
     rw[fB,eM (by omega),eS,if_pos c1] at hu
     have:=cellA _ _ hu
     rw[P4 hbk] at this
     simpa using this
    ·by_cases c2:j * 2+o<ni * 2+2
     ·rw[if_pos (by omega)]
      rw[fB,eR (by omega),eM (by omega),htl] at hu
      rw[<- hu];congr 1;omega
     ·rw[if_neg (by omega),if_pos (by omega)]
      rw[eR (by simp[htl,u2l];omega)] at hu
      rw[<- hu]
      simp only[fm,htl,u2l]
      congr 1;omega)
   refine⟨_,_,_,_,rfl,⟨rfl,rfl⟩,?_,hO.2⟩
   refine I3 (k:=2) (es:=((l.take ni++x::l.drop ni).map f).map (·.map C.imm)) (by rw[<- b6.length_put Γ.σ0 id none];exact b6.get_last _ _) rfl (.inr ⟨b,base,cap0,_,ety,⟨b,base,none⟩,by simp,rfl,fun _=>by simp,hroom,hmax,by simp only[eX,nlen];omega,setRow_heap Γ.w0.drew b arr _ ety (0,0) hbk,by rw[s2];omega⟩)
  ·have hc:=ins_grow b base l.length cap0 ni c2 base2 cap2 (us0.take (ni * 2)) (us0.drop (ni * 2)) us2 Γ.w0 hi hcap (by omega) hb (hR.toRs.blk_lt hσ hp) (hR.toRs.blk_lt hσ2 hp2) htl hdl u2l (fun j v hj=>by
    rw[eS] at hj
    split at hj
    ·exact cellA _ v hj
    ·cases hj) cellD cellB (fun v hv=>one1 v (fN hv)) one2
   refine hc.mono ?_
   rintro e w2 ⟨G,ROW,g1,g2,g3,g4,rfl,rfl⟩
   obtain⟨hK1,hR1⟩:=hR.toRs.drew.drew.kill id
   have hK0:Kept Γ.w0 Γ.w0.drew.drew Γ.φ0 Γ.φ0 Γ.σ0 Γ.σ0 (Al Γ.N Γ.φ0 Γ.σ0) (Al Γ.N Γ.φ0 Γ.σ0):=Kept.trans (show Γ.w0.heap.size<=Γ.w0.drew.heap.size from fq _) (Kept.drew Γ.w0 Γ.φ0 Γ.σ0 _) (Kept.drew Γ.w0.drew Γ.φ0 Γ.σ0 _)
   have hK01:=Kept.trans (show Γ.w0.heap.size<=Γ.w0.drew.drew.heap.size from fq _) hK0 hK1
   have s1:(spl ROW (ni * 2) us2).size=G * 2:=by rw[am7 (by omega)];exact g3
   have s2:(spl (spl ROW (ni * 2) us2) ((ni+1) * 2) (us0.drop (ni * 2))).size=G * 2:=by rw[am7 (by omega),s1]
   have hA:=Rs.alloc (k:=2) (es:=((l.take ni++x::l.drop ni).map f).map (·.map C.imm)) (arr:=spl (spl ROW (ni * 2) us2) ((ni+1) * 2) (us0.drop (ni * 2))) (ety:=choT) hR1 r3.hk (by rw[s2];simp only[eX,nlen];omega) (fun j e o y he hy=>by
    obtain⟨uu,hu,hr⟩:=r3.rel j e o y he hy
    refine⟨uu,?_,hr.mono hK01⟩
    have hlt:=(lG.1 hu).1
    simp only[fm,htl,hdl,u2l] at hlt
    rw[spl_get (by omega),spl_get (by omega)]
    by_cases c1:j * 2+o<ni * 2
    ·rw[if_neg (by omega),if_neg (by omega)]
     rw[fB,eM (by omega)] at hu
     exact g4 _ _ hu
    ·by_cases c2:j * 2+o<ni * 2+2
     ·rw[if_neg (by omega),if_pos (by omega)]
      rw[fB,eR (by omega),eM (by omega),htl] at hu
      exact hu
     ·rw[if_pos (by omega)]
      rw[eR (by simp[htl,u2l];omega)] at hu
      rw[<- hu]
      simp only[fm,htl,u2l]
      congr 1;omega)
   rw[b6.length_put] at hA
   refine⟨_,_,_,_,rfl,⟨rfl,rfl⟩,?_,hA.2⟩
   refine I3 (k:=2) (es:=((l.take ni++x::l.drop ni).map f).map (·.map C.imm)) (by rw[<- b6.length_put Γ.σ0 id none];exact b6.get_last _ _) rfl (.inr ⟨Γ.w0.heap.size,0,G,_,choT,⟨Γ.w0.heap.size,0,none⟩,by simp[s7],rfl,fun _=>by simp,g1,g2,by simp only[eX,nlen];omega,heap_alloc_new Γ.w0.drew.drew _,by rw[s2];omega⟩)
end Ab
end
section
namespace Ab
open Go Go.Proofs
open Tryz
def insL{α:Type}(l:List α)(i:Int)(x:α):Option (List α):=if 0<=i/\i<=l.length/\(l.length+1) * 32<=140737488355328 then some (l.take i.toNat++x::l.drop i.toNat) else none
section
variable {σ0:b6}{sz:Nat}{Q:Post}{env:Env}{σv σ':b6}{ops:Array Oper}{rest:List Oper}{dst:Option Nat}{ty:Ti}{pos:String}{after:Array Edge}
theorem S.insert{α:Type}{f:α->List I}{x:Od}{al:List Od}{ats:Array Ti}{id id2 n':Id}{n m:Nat}{i:Int}{l l':List α}{y:α}{σ1:b6}(hl:insL l i y=some l')(hx:ev env x=some (.c (.fn insF [])))
  (ha:evs env al=some [.c (.own id 0 n),.c (int i),.c (.own id2 0 m)]) (hn:n=l.length) (hm:m=1) (hne:(id2.1==id.1)=false) (hσ:σv[id]? =some (some (vec 2 f l))) (hσ2:σv[id2]? =some (some (vec 2 f [y])))
  (hd:g9 sz dst=true) (hid:newF σv=some n') (h1:putF σv id none=some σ1) (hσ':s5 σ1 (.one (vec 2 f l'))=some σ') (h:AOps prog σ0 sz ops Q rest (St.mk (putE env dst (.c (.own n' 0 l'.length))) σ')):
  AOps prog σ0 sz ops Q (⟨dst,.call ⟨.value x,al.toArray,ats⟩,ty,pos,after,none⟩::rest) (St.mk env σv):=by
 have h2:=y6 h1
 have h3:=y8 hid;have h4:=r8 hσ'
 subst hn hm h2 h3 h4
 unfold insL at hl
 split at hl
 ·rename_i c
  cases hl
  refine AOps.callS hx ha hd (ins_fn hσ hσ2 (fun e=>by rw[e] at hne;simp at hne) c.2.2 c.1 c.2.1) ?_
  rintro r σ2 ⟨rfl,rfl⟩
  cases dst<;>exact h
 ·cases hl
end
end Ab
end
section
namespace Ab
open Go
section
variable {α β:Type}{pre post:α->List I}{g:α->List β}{kb k r:Nat}{fb:β->List I}{M:List α}
def oc(pre post:α->List I)(c:C)(a:α):List C:=(pre a).map .imm++c::(post a).map .imm
def ohdr(pre post:α->List I)(g:α->List β)(r:Nat)(M:List α):List (List C):=M.mapIdx fun i a=>oc pre post (.own (r,[i]) 0 (g a).length) a
def omat(r k:Nat)(pre post:α->List I)(g:α->List β)(kb:Nat)(fb:β->List I)(M:List α):Ent:=.node (some (.cells k (ohdr pre post g r M))) (M.map fun a=>.one (vec kb fb (g a)))
def odat(pre post:α->List I)(g:α->List β)(kb:Nat)(fb:β->List I)(a:α):List I:=pre a++ .sl kb ((g a).map fb)::post a
theorem as5{a:α}:oc pre post (.imm (.sl kb ((g a).map fb))) a=(odat pre post g kb fb a).map .imm:=by simp[oc,odat]
theorem oc_ren{π:Id->Id}{c:C}{a:α}:C.renL π (oc pre post c a)=oc pre post (c.ren π) a:=by
 have h:∀l:List I,C.renL π (l.map .imm)=l.map .imm:=fun l=>by
  induction l with
  |nil=>rfl
  |cons x l ih=>simp[C.renL,C.ren,ih]
 have h2:∀(l:List I) (m:List C),C.renL π (l.map .imm++m)=l.map .imm++C.renL π m:=fun l m=>by
  induction l with
  |nil=>rfl
  |cons x l ih=>simp[C.renL,C.ren,ih]
 simp only[oc,h2,C.renL,h]
theorem oc_all(p:C->Bool)(hp:∀x:I,p (.imm x)=true){c:C}{a:α}:(oc pre post c a).all p=p c:=by
 have h:∀l:List I,(l.map C.imm).all p=true:=fun l=>by simp[eK,hp]
 simp only[oc,List.all_append,List.all_cons,h,Bool.true_and,Bool.and_true]
theorem oc_ok{n:Nat}{c:C}{a:α}:C.okL n (oc pre post c a)=c.ok n:=by
 rw[I0];exact oc_all _ (fun _=>rfl)
theorem oc_no{id:Id}{c:C}{a:α}:C.noL id (oc pre post c a)=c.no id:=by
 rw[noL_eq];exact oc_all _ (fun _=>rfl)
theorem oc_frz{id:Id}{q:Nat}{es:List (List I)}{c:C}{a:α}:C.frzL id q es (oc pre post c a)=oc pre post (c.frz id q es) a:=by
 have h:∀l:List I,C.frzL id q es (l.map .imm)=l.map .imm:=fun l=>by
  induction l with
  |nil=>rfl
  |cons x l ih=>simp[C.frzL,C.frz,ih]
 have h2:∀(l:List I) (m:List C),C.frzL id q es (l.map .imm++m)=l.map .imm++C.frzL id q es m:=fun l m=>by
  induction l with
  |nil=>rfl
  |cons x l ih=>simp[C.frzL,C.frz,ih]
 simp only[oc,h2,C.frzL,h]
theorem ohdr_len:(ohdr pre post g r M).length=M.length:=by simp[ohdr]
theorem ohdr_get{i:Nat}{e:List C}(h:(ohdr pre post g r M)[i]? =some e):∃a,M[i]? =some a/\e=oc pre post (.own (r,[i]) 0 (g a).length) a:=by
 simp only[ohdr,eH,oM] at h
 obtain⟨a,h1,h2⟩:=h
 exact⟨a,h1,h2.symm⟩
theorem om_sub{q:List Nat}{b:Blk}(h:(omat r k pre post g kb fb M).sub q=some b):(q=[]/\b=.cells k (ohdr pre post g r M))\/∃i a,q=[i]/\M[i]? =some a/\b=vec kb fb (g a):=by
 cases q with
 |nil=>exact .inl ⟨rfl,by simpa[omat,Ent.sub] using h.symm⟩
 |cons i q=>
  simp only[omat,Ent.sub,lM] at h
  cases hi:M[i]? with
  |none=>simp[hi] at h
  |some p=>
   rw[hi] at h
   cases q with
   |nil=>simp only[eJ,Ent.sub,Option.some.injEq] at h;exact .inr ⟨i,p,rfl,hi,h.symm⟩
   |cons=>simp[Ent.sub] at h
theorem om_main:(omat r k pre post g kb fb M).sub []=some (.cells k (ohdr pre post g r M)):=rfl
theorem om_row{i:Nat}{a:α}(h:M[i]? =some a):(omat r k pre post g kb fb M).sub [i]=some (vec kb fb (g a)):=by simp[omat,Ent.sub,h]
theorem om_ok{n:Nat}(h:eU r n=true):∀q b,(omat r k pre post g kb fb M).sub q=some b->b.ok n=true:=fun q b hb=>by
 rcases om_sub hb with⟨_,rfl⟩|⟨i,p,_,_,rfl⟩
 ·simp only[Blk.ok,eK]
  intro e he
  obtain⟨i,hi⟩:=fo he
  obtain⟨a,_,rfl⟩:=ohdr_get hi
  rw[oc_ok];simpa[C.ok] using h
 ·exact H8
theorem om_no{id:Id}(h:id.1 ≠ r):∀q b,(omat r k pre post g kb fb M).sub q=some b->b.no id=true:=fun q b hb=>by
 rcases om_sub hb with⟨_,rfl⟩|⟨i,p,_,_,rfl⟩
 ·simp only[Blk.no,eK]
  intro e he
  obtain⟨i,hi⟩:=fo he
  obtain⟨a,_,rfl⟩:=ohdr_get hi
  have:idb ((r,[i]):Id) id=false:=D6 (fun e=>h (by rw[<- e]))
  rw[oc_no];simp[C.no,this]
 ·exact Blk.im_no _ _ _
theorem ohdr_ren{π:Id->Id}{r':Nat}(h:∀q,π (r,q)=(r',q)):(Blk.cells k (ohdr pre post g r M)).ren π=.cells k (ohdr pre post g r' M):=by
 simp only[Blk.ren]
 congr 1
 apply eI
 intro j
 simp only[ohdr,lM,eH]
 cases M[j]? with
 |none=>rfl
 |some a=>simp[oc_ren,C.ren,h]
theorem y5.omat{id n:Id}{mx:Nat}{σ:b6}(h:eN id.1 r=false)(hr:eU r mx=true)(hσ:σ[r]? =some (Ab.omat r k pre post g kb fb M)):y5 id n σ mx r (Ab.omat r k pre post g kb fb M):=by
 have hne:id.1 ≠ r:=fun e=>by simp[e] at h
 show ∀(p:List Nat) (b:Blk),(Ab.omat r k pre post g kb fb M).sub p=some b->_
 intro p b hb
 have hm:mv id n (r,p)=(r,p):=by
  have:(r,p) ≠ id:=fun e=>hne (by rw[<- e])
  simp[mv,D6 this]
 rw[hm,r9 hσ,hb]
 exact⟨om_ok hr p b hb,by rw[Blk.ren_no _ (om_no hne p b hb)]⟩
theorem EntR.omat{r0 n mx i j:Nat}{σ:b6}(hj:(mvr r0 n (i,[])).1=j)(hr:eU i mx=true)(hσ:σ[j]? =some (Ab.omat j k pre post g kb fb M)):EntR r0 n σ mx i (Ab.omat i k pre post g kb fb M):=.any fun p b hb=>by
 have e:∀q,mvr r0 n (i,q)=(j,q):=fun q=>by rw[<- hj];rfl
 rw[e,r9 hσ]
 refine⟨om_ok hr p b hb,?_⟩
 rcases om_sub hb with⟨rfl,rfl⟩|⟨q,p',rfl,hq,rfl⟩
 ·rw[om_main,ohdr_ren e]
 ·rw[om_row hq,E2]
theorem RenE.omat{r':Nat}{π:Id->Id}(h:∀q,π (r,q)=(r',q)):RenE π r (Ab.omat r k pre post g kb fb M) r' (Ab.omat r' k pre post g kb fb M):=.any (fun p b hb=>by
  rcases om_sub hb with⟨rfl,rfl⟩|⟨q,p',rfl,hq,rfl⟩
  ·rw[om_main,ohdr_ren h]
  ·rw[om_row hq,E2]) (fun p b hb=>by
  rcases om_sub hb with⟨rfl,rfl⟩|⟨q,p',rfl,hq,rfl⟩
  ·exact⟨_,om_main,(ohdr_ren h).symm⟩
  ·exact⟨_,om_row hq,E2.symm⟩)
theorem FrzB.omat{id:Id}{X:C->C->Prop}(h:eN id.1 r=false):FrzB id X (Ab.omat r k pre post g kb fb M) (Ab.omat r k pre post g kb fb M):=by
 have hne:id.1 ≠ r:=fun e=>by simp[e] at h
 show _=_/\_
 exact⟨rfl,fun p b h=>om_no hne p b h⟩
end
section
variable {P:Program}{σ0:b6}{sz:Nat}{Q:Post}{env env':Env}{σv σ':b6}{ops:Array Oper}{rest:List Oper}{dst:Option Nat}{ty:Ti}{pos:String}{after:Array Edge}
variable {α β:Type}{pre post:α->List I}{g:α->List β}{kb k r:Nat}{fb:β->List I}{M:List α}
theorem Sub.virtBO{b:Id}{n kk o:Nat}{cs cs':List C}{σ1 σ3 σ4:b6}(k:Nat)(pre post:α->List I)(g:α->List β)(kb:Nat)(fb:β->List I)(hb:σv[b]? =some (some (.cells kk [cs])))(hc:cs[o]? =some (.imm (.val (.slice none 0 0))))(hn:newF σv=some (n,[]))(h1:s5 σv (omat n k pre post g kb fb [])=some σ1)
  (hs:setF cs o (.own (n,[]) 0 ([]:List α).length)=some cs') (hσ':putF σ1 b (some (.cells kk [cs']))=some σ') (h3:s5 σv (.one (vec k (fun _:α=>([]:List I)) ([]:List α)))=some σ3) (h4:putF σ3 b (some (.cells kk [cs']))=some σ4):Sub σ0 ⟨env,σv⟩ ⟨env,σ'⟩:=by
 have g1:=y8 hn;have g2:=r8 h1;have g4:=y6 hσ'
 cases g1
 subst g2 g4
 have e3:=r8 h3;have e4:=y6 h4
 subst e3 e4
 have hbl:=b6.lt_of hb
 have hb3:(σv++[Ent.one (vec k (fun _:α=>([]:List I)) ([]:List α))])[b]? =some (some (.cells kk [cs])):=by rw[b6.get_left hbl];exact hb
 refine(Sub.virtB (α:=α) k (fun _=>[]) hb hc hn h3 hs h4).trans (Sub.same (by simp) fun i=> ?_)
 have hbm:(σv++[omat σv.length k pre post g kb fb ([]:List α)])[b]? =some (some (.cells kk [cs])):=by rw[b6.get_left hbl];exact hb
 by_cases hi:i=b
 ·subst hi
  rw[b6.get_put_eq hb3,b6.get_put_eq hbm]
 ·rw[b6.get_put_ne hi,b6.get_put_ne hi]
  rcases ff i.1 σv.length with hl|hl
  ·rw[b6.get_left hl,b6.get_left hl]
  ·rw[b6.get_right hl,b6.get_right hl]
   obtain⟨i1,q⟩:=i
   rw[b6.at_eq,b6.at_eq]
   simp only[b6.at]
   cases i1 - σv.length with
   |zero=>cases q<;>rfl
   |succ m=>rfl
theorem AWP.virtBO{c:Code}{b:Id}{n kk o:Nat}{cs cs':List C}{σ1 σ3 σ4:b6}(k:Nat)(pre post:α->List I)(g:α->List β)(kb:Nat)(fb:β->List I)(hb:σv[b]? =some (some (.cells kk [cs])))(hc:cs[o]? =some (.imm (.val (.slice none 0 0))))(hn:newF σv=some (n,[]))(h1:s5 σv (omat n k pre post g kb fb [])=some σ1)
  (hs:setF cs o (.own (n,[]) 0 ([]:List α).length)=some cs') (hσ':putF σ1 b (some (.cells kk [cs']))=some σ') (h3:s5 σv (.one (vec k (fun _:α=>([]:List I)) ([]:List α)))=some σ3) (h4:putF σ3 b (some (.cells kk [cs']))=some σ4) (h:AWP P σ0 sz c Q ⟨env,σ'⟩):AWP P σ0 sz c Q ⟨env,σv⟩:=AWP.sub (Sub.virtBO k pre post g kb fb hb hc hn h1 hs hσ' h3 h4) h
theorem om_head(h:σv[r]? =some (omat r k pre post g kb fb M)):σv[((r,[]):Id)]? =some (some (.cells k (ohdr pre post g r M))):=by rw[r9 h];rfl
theorem S.appendO{x y:Od}{t e:Ti}{bytes m n s t0 q:Nat}{z:Vl}{a:α}{M':List α}{σ1 σ2:b6}[ht:TyD P t (.slice e)][hts:TyS P e k bytes z]
  (ha:app bytes M [a]=some M') (hzk:(z.cells.size==k)=true) (hbp:eU 0 bytes=true) (hx:ev env x=some (.c (.own (r,[]) 0 m))) (hm:m=M.length) (hσ:σv[r]? =some (omat r k pre post g kb fb M))
  (hy:ev env y=some (.c (.own (t0,[]) 0 1))) (ht0:σv[((t0,[]):Id)]? =some (some (.cells k [oc pre post (.own (s,[]) 0 q) a]))) (hq:q=(g a).length) (hs:σv[((s,[]):Id)]? =some (some (vec kb fb (g a)))) (hsr:eN s r=false)
  (hn:newF σv=some (n,[])) (h1:setF σv r .dead=some σ1) (h2:setF σ1 s .dead=some σ2) (hσ':s5 σ2 (omat n k pre post g kb fb M')=some σ') (hd:g9 sz dst=true) (h0:fu σ0.length n=true)
  (h:AOps P σ0 sz ops Q rest (St.mk (putE env dst (.c (.own (n,[]) 0 M'.length))) σ')):
  AOps P σ0 sz ops Q (⟨dst,.call ⟨.builtin .append,#[x,y],#[t,t]⟩,ty,pos,after,none⟩::rest) (St.mk env σv):=by
 have h2':=(J9 h1).1;have h2s:=(J9 h2).1;have h3:=y8 hn;have h4:=r8 hσ'
 cases h3
 subst h2' h2s h4 hm hq
 obtain⟨hb,rfl⟩:=an2 ha
 have hsr':s ≠ r:=fun e=>by simp[e] at hsr
 have hrl:=(lG.1 hσ).1
 have hsl:s<σv.length:=b6.lt_of hs
 have h0':=eO h0
 intro Γ0 φ0 a0 w0 hΓ0 hR0
 have hsrc:Src σv k (.c (.own (t0,[]) 0 1)) [oc pre post (.own (s,[]) 0 (g a).length) a]:=.own (j:=0) (n:=1) ht0
 refine AOps.append hzk hbp hx (om_head hσ) hy hsrc (by simpa using hb) hd ?_ Γ0 φ0 a0 w0 hΓ0 hR0
 have e1:((ohdr pre post g r M).drop 0).take M.length=ohdr pre post g r M:=by rw[fa,eQ (by simp[ohdr_len])]
 rw[e1]
 generalize hX:σv.put (r,[]) none++[Ent.one (.cells k (ohdr pre post g r M++[oc pre post (.own (s,[]) 0 (g a).length) a]))]=σX
 have e5:(St.mk env σX).put dst (.c (.own (σv.length,[]) 0 (M.length+[oc pre post (.own (s,[]) 0 (g a).length) a].length)))=⟨putE env dst (.c (.own (σv.length,[]) 0 (M++[a]).length)),σX⟩:=by
  rw[show M.length+[oc pre post (.own (s,[]) 0 (g a).length) a].length=(M++[a]).length by simp]
  cases dst<;>rfl
 rw[e5]
 have xn:σX[((σv.length,[]):Id)]? =some (some (.cells k (ohdr pre post g r M++[oc pre post (.own (s,[]) 0 (g a).length) a]))):=by
  rw[<- hX,b6.get_right (by simp)];simp[b6.at_eq,b6.at,Ent.sub]
 have xo:∀i:Id,i.1<σv.length->i ≠ (r,[])->σX[i]? =σv[i]? :=fun i hi hne=>by
  rw[<- hX,b6.get_left (by simpa using hi),b6.get_put_ne hne]
 generalize hπ:(fun i:Id=>if i.1=σv.length then(if i.2=[] then(σv.length,[]) else if i.2=[M.length] then(s,[]) else(r,i.2)) else i)=π
 have π0:∀i:Id,i.1 ≠ σv.length->π i=i:=fun i hi=>by rw[<- hπ];simp[hi]
 have πn:π (σv.length,[])=(σv.length,[]):=by rw[<- hπ];simp
 have πv:π (σv.length,[M.length])=(s,[]):=by rw[<- hπ];simp
 have πr:∀q,q<M.length->π (σv.length,[q])=(r,[q]):=fun q hq=>by rw[<- hπ];simp;omega
 have hMlen:(M++[a]).length=M.length+1:=by simp
 have dead:∀(i:Id) b,((σv.set r .dead).set s .dead)[i]? =some (some b)->i.1 ≠ r/\i.1 ≠ s/\σv[i]? =some (some b):=fun i b hi=>by
  obtain⟨i1,q⟩:=i
  rw[b6.at_eq] at hi
  simp only[b6.at,eG,lS] at hi
  by_cases e1:s=i1
  ·subst e1;simp[hsl,Ent.sub] at hi
  ·rw[if_neg e1] at hi
   by_cases e2:r=i1
   ·subst e2;simp[hrl,Ent.sub] at hi
   ·rw[if_neg e2] at hi
    exact⟨fun e=>e2 e.symm,fun e=>e1 e.symm,by rw[b6.at_eq];exact hi⟩
 have cases3:∀(i:Id) b,((σv.set r .dead).set s .dead++[omat σv.length k pre post g kb fb (M++[a])])[i]? =some (some b)->
   (i.1<σv.length/\i.1 ≠ r/\i.1 ≠ s/\σv[i]? =some (some b))\/(i=(σv.length,[])/\b=.cells k (ohdr pre post g σv.length (M++[a])))\/(∃q c,i=(σv.length,[q])/\(M++[a])[q]? =some c/\b=vec kb fb (g c)):=fun i b hi=>by
  rcases ff i.1 σv.length with hl|hl
  ·rw[b6.get_left (by simpa using hl)] at hi
   obtain⟨g1,g2,g3⟩:=dead i b hi
   exact .inl ⟨hl,g1,g2,g3⟩
  ·rw[b6.get_right (by simpa using hl)] at hi
   obtain⟨i1,q⟩:=i
   simp only[lS] at hi hl
   have hz:i1=σv.length:=by
    have:=b6.lt_of hi
    simp at this;simp at hl;omega
   subst hz
   rw[gt,r9 (e:=omat σv.length k pre post g kb fb (M++[a])) rfl] at hi
   simp only[Option.some.injEq] at hi
   rcases om_sub hi with⟨rfl,rfl⟩|⟨q',c,rfl,hc,rfl⟩
   ·exact .inr (.inl ⟨rfl,rfl⟩)
   ·exact .inr (.inr ⟨q',c,rfl,hc,rfl⟩)
 refine AOps.sub (s':=⟨putE env dst (.c (.own (σv.length,[]) 0 (M++[a]).length)),(σv.set r .dead).set s .dead++[omat σv.length k pre post g kb fb (M++[a])]⟩) ?_ h
 have hlen':((σv.set r .dead).set s .dead++[omat σv.length k pre post g kb fb (M++[a])]).length=σv.length+1:=by simp
 have hqb:∀{q:Nat} {c:α},(M++[a])[q]? =some c->q<M.length+1:=fun hc=>by rw[<- hMlen];exact(lG.1 hc).1
 refine Sub.mk π (fun i hi=>π0 i (by omega)) (by rw[hlen'];omega) (fun i j b b' hi hj he=> ?_) (fun i b hi=> ?_) (fun t v ht=> ?_)
 ·rcases cases3 i b hi with⟨g1,g2,g2s,_⟩|⟨rfl,_⟩|⟨q,row,rfl,g1,_⟩<;>rcases cases3 j b' hj with⟨k1,k2,k2s,_⟩|⟨rfl,_⟩|⟨q',row',rfl,k1,_⟩
  ·rwa [π0 i (by omega),π0 j (by omega)] at he
  ·rw[π0 i (by omega),πn] at he;subst he;simp at g1
  ·rw[π0 i (by omega)] at he
   have hq:=hqb k1
   by_cases e:q'=M.length
   ·subst e;rw[πv] at he;subst he;exact absurd rfl g2s
   ·rw[πr q' (by omega)] at he;subst he;exact absurd rfl g2
  ·rw[π0 j (by omega),πn] at he;subst he;simp at k1
  ·rfl
  ·have hq:=hqb k1
   by_cases e:q'=M.length
   ·subst e;rw[πn,πv] at he;simp at he;omega
   ·rw[πn,πr q' (by omega)] at he;simp at he
  ·rw[π0 j (by omega)] at he
   have hq:=hqb g1
   by_cases e:q=M.length
   ·subst e;rw[πv] at he;subst he;exact absurd rfl k2s
   ·rw[πr q (by omega)] at he;subst he;exact absurd rfl k2
  ·have hq:=hqb g1
   by_cases e:q=M.length
   ·subst e;rw[πn,πv] at he;simp at he;omega
   ·rw[πn,πr q (by omega)] at he;simp at he
  ·have hq:=hqb g1
   have hq':=hqb k1
   by_cases e:q=M.length<;>by_cases e':q'=M.length
   ·rw[e,e']
   ·rw[e,πv,πr q' (by omega)] at he;simp at he
   ·rw[e',πv,πr q (by omega)] at he;simp at he
   ·rw[πr q (by omega),πr q' (by omega)] at he
    simp at he;rw[he]
 ·dsimp only
  rw[hlen']
  rcases cases3 i b hi with⟨g1,g2,g2s,g3⟩|⟨rfl,rfl⟩|⟨q,c,rfl,g1,rfl⟩
  ·have hok:=hR0.st.okB g3
   have hren:b.ren π=b:=Blk.ren_ok (m:=σv.length) (fun i hi=>π0 i (by omega)) b hok
   refine⟨Blk.ok_mono (gc _) b hok,?_⟩
   rw[π0 i (by omega),hren,xo i g1 (fun e=>g2 (by rw[e]))]
   exact g3
  ·refine⟨om_ok (r:=σv.length) (kb:=kb) (fb:=fb) (by simp) [] _ om_main,?_⟩
   rw[πn,xn]
   congr 2
   simp only[Blk.ren]
   congr 1
   apply eI
   intro q
   rw[lM]
   simp only[ohdr,eH,fC,eZ,gr]
   by_cases hq:q<M.length
   ·rw[if_pos hq,if_pos hq]
    cases hM:M[q]? with
    |none=>rfl
    |some row=>simp[oc_ren,C.ren,πr q hq]
   ·rw[if_neg hq,if_neg hq]
    by_cases hq2:q=M.length
    ·subst hq2;simp[oc_ren,C.ren,πv]
    ·cases hz:q - M.length with
     |zero=>omega
     |succ x=>simp
  ·have hq:=hqb g1
   refine⟨H8,?_⟩
   rw[E2]
   by_cases e:q=M.length
   ·subst e
    rw[πv,xo (s,[]) hsl (fun e=>hsr' (by cases e;rfl)),hs]
    rw[eR (fq _),gt] at g1
    cases g1;rfl
   ·rw[πr q (by omega),xo (r,[q]) hrl (by simp)]
    rw[eM (by omega)] at g1
    rw[r9 hσ,om_row g1]
 ·dsimp only at ht ⊢
  rw[hlen']
  have old:∀v,lookup t env=some v->v.ok (σv.length+1)=true/\lookup t env=some (v.ren π):=fun v hv=>by
   obtain⟨u,_,hr⟩:=hR0.env t v hv
   have hok:=hr.ok
   exact⟨T.ok_mono (gc _) v hok,by rw[T.ren_ok (m:=σv.length) (fun i hi=>π0 i (by omega)) v hok];exact hv⟩
  cases hdst:dst with
  |none=>rw[hdst] at ht;exact old v ht
  |some d=>
   rw[hdst] at ht
   simp only[putE,lookup] at ht ⊢
   split at ht
   ·cases ht
    refine⟨by simp[T.ok,C.ok],?_⟩
    simp[T.ren,C.ren,πn]
   ·exact old v ht
/-! ### Rows cease to change -/
theorem blt_dec(a b:Nat):eU a b=decide (a<b):=by rw[fP,Nat.blt_eq];simp
theorem beq_dec(a b:Nat):eN a b=decide (a=b):=by rw[fP,Nat.beq_eq];simp
def ohdrF(pre post:α->List I)(g:α->List β)(kb:Nat)(fb:β->List I)(r:Nat)(M:List α)(p:Nat->Bool):List (List C):=M.mapIdx fun i a=>oc pre post (match p i with|true=>.imm (.sl kb ((g a).map fb))|false=>.own (r,[i]) 0 (g a).length) a
def omF(r k:Nat)(pre post:α->List I)(g:α->List β)(kb:Nat)(fb:β->List I)(M:List α)(p:Nat->Bool):Ent:=.node (some (.cells k (ohdrF pre post g kb fb r M p))) (M.mapIdx fun i a=>match p i with|true=>.dead|false=>.one (vec kb fb (g a)))
theorem omF_zero:omF r k pre post g kb fb M (fun _=>false)=omat r k pre post g kb fb M:=by
 simp only[omF,omat,ohdrF,ohdr]
 congr 1
 apply eI
 intro i
 simp[eH]
theorem omF_congr{p p':Nat->Bool}(h:∀i,i<M.length->p i=p' i):omF r k pre post g kb fb M p=omF r k pre post g kb fb M p':=by
 have e1:ohdrF pre post g kb fb r M p=ohdrF pre post g kb fb r M p':=by
  apply eI
  intro i
  simp only[ohdrF,eH]
  cases hi:M[i]? with
  |none=>rfl
  |some a=>simp only[eJ,h i (lG.1 hi).1]
 have e2:(M.mapIdx fun i a=>match p i with|true=>Ent.dead|false=>.one (vec kb fb (g a)))=M.mapIdx fun i a=>match p' i with|true=>Ent.dead|false=>.one (vec kb fb (g a)):=by
  apply eI
  intro i
  simp only[eH]
  cases hi:M[i]? with
  |none=>rfl
  |some a=>simp only[eJ,h i (lG.1 hi).1]
 simp only[omF,e1,e2]
theorem omF_frz{p:Nat->Bool}{q:Nat}{a:α}(hq:M[q]? =some a):Blk.frz (r,[q]) kb ((g a).map fb) (.cells k (ohdrF pre post g kb fb r M p))=.cells k (ohdrF pre post g kb fb r M fun i=>p i||eN i q):=by
 simp only[Blk.frz]
 congr 1
 apply eI
 intro j
 simp only[ohdrF,lM,eH,fC]
 cases hj:M[j]? with
 |none=>rfl
 |some rj=>
  simp only[eJ,eW,Option.some.injEq,oc_frz]
  congr 1
  cases hp:p j with
  |true=>rfl
  |false=>
   by_cases h2:j=q
   ·subst h2
    rw[hq] at hj;cases hj
    simp[C.frz,I4.2 rfl,eQ]
   ·have:idb (r,[j]) (r,[q])=false:=D6 (by simp;exact h2)
    have h3:eN j q=false:=by cases e:eN j q with|false=>rfl|true=>exact absurd (eP e) h2
    simp[C.frz,this,h3]
theorem Sub.omFrz{p:Nat->Bool}{q:Nat}{a:α}(h0:fu σ0.length r=true)(hσ:σv[r]? =some (omF r k pre post g kb fb M p))(hq:M[q]? =some a)(hp:p q=false)(hno:ah4 r σv)(he:an0 r env=true):Sub σ0 ⟨env,σv⟩ ⟨env,σv.set r (omF r k pre post g kb fb M fun i=>p i||eN i q)⟩:=by
 have hrl:r<σv.length:=(lG.1 hσ).1
 have hrow:σv[((r,[q]):Id)]? =some (some (Blk.im kb ((g a).map fb))):=by
  rw[r9 hσ]
  simp[omF,Ent.sub,eH,hq,hp]
 have hfz:=Sub.frz (σ0:=σ0) (s:=⟨env,σv⟩) (r,[q]) kb ((g a).map fb) (eO h0) hrow
 refine hfz.trans ((Sub.same (σ2:=σv.set r (omF r k pre post g kb fb M fun i=>p i||eN i q)) (by simp[St.frz]) fun i=> ?_).trans (Sub.look fun t v ht=> ?_))
 ·simp only[St.frz]
  rw[b6.get_map,set_ent hσ]
  by_cases hi:i=(r,[q])
  ·subst hi
   rw[b6.get_put_eq hrow,if_pos rfl]
   simp[omF,Ent.sub,eH,hq]
  ·rw[b6.get_put_ne hi]
   by_cases hir:i.1=r
   ·obtain⟨i1,l⟩:=i
    simp only at hir
    subst hir
    rw[if_pos rfl,r9 hσ]
    simp only[eJ,Option.some.injEq]
    cases l with
    |nil=>simp only[omF,Ent.sub,eJ,omF_frz hq]
    |cons c l=>
     simp only[omF,Ent.sub,eH]
     cases hc:M[c]? with
     |none=>rfl
     |some row=>
      simp only[eJ]
      cases hpc:p c with
      |true=>simp only[Bool.true_or];cases l<;>rfl
      |false=>
       by_cases h2:c=q
       ·subst h2
        cases l with
        |nil=>exact absurd rfl hi
        |cons=>simp[Ent.sub]
       ·have h3:eN c q=false:=by cases e:eN c q with|false=>rfl|true=>exact absurd (eP e) h2
        simp only[h3,Bool.or_false]
        cases l with
        |nil=>simp only[Ent.sub,eJ,Blk.frz_no _ (Blk.im_no _ _ _)]
        |cons=>rfl
   ·rw[if_neg hir]
    cases hx:σv[i]? with
    |none=>rfl
    |some o=>
     cases o with
     |none=>rfl
     |some b=>simp only[eJ,Blk.frz_no _ (hno i b hir hx q)]
 ·simp only[St.frz]
  rw[al6 (fun v=>v.frz (r,[q]) kb ((g a).map fb)),ht]
  simp only[eJ,T.frz_no v (rowlessT_no (aC7 he t v ht))]
theorem ah4.set{e:Ent}(h:ah4 r σv):ah4 r (σv.set r e):=fun i b hi hb q=>by
 refine h i b hi ?_ q
 obtain⟨i1,l⟩:=i
 rw[b6.at_eq] at hb ⊢
 simp only[b6.at,eG] at hb ⊢
 rwa [if_neg (fun e=>hi e.symm)] at hb
theorem Sub.omFrzTo(i:Nat)(h0:fu σ0.length r=true)(hσ:σv[r]? =some (omat r k pre post g kb fb M))(hno:ah4 r σv)(he:an0 r env=true):∀q,q<=M.length->Sub σ0 ⟨env,σv⟩ ⟨env,σv.set r (omF r k pre post g kb fb M fun j=>eU j q && !(eN j i))⟩
 |0,_=>by
  have e:omF r k pre post g kb fb M (fun j=>eU j 0 && !(eN j i))=omat r k pre post g kb fb M:=by
   rw[<- omF_zero];exact omF_congr fun j _=>by simp
  rw[e]
  exact Sub.same (by simp) fun i=>by
   rw[set_ent hσ]
   split
   ·rename_i hi
    obtain⟨i1,p⟩:=i
    simp only at hi;subst hi
    rw[r9 hσ]
   ·rfl
 |q+1,hq=>by
  refine(Sub.omFrzTo i h0 hσ hno he q (by omega)).trans ?_
  have hrl:r<σv.length:=(lG.1 hσ).1
  have hqM:M[q]? =some M[q]:=fE (by omega)
  have hcur:(σv.set r (omF r k pre post g kb fb M fun j=>eU j q && !(eN j i)))[r]? =some (omF r k pre post g kb fb M fun j=>eU j q && !(eN j i)):=by rw[eG];simp[hrl]
  by_cases hqi:q=i
  ·subst hqi
   have e:omF r k pre post g kb fb M (fun j=>eU j (q+1) && !(eN j q))=omF r k pre post g kb fb M fun j=>eU j q && !(eN j q):=omF_congr fun j _=>by
    simp only[blt_dec,beq_dec];rw[fP];simp only[gD,Bool.or_eq_true,gw,decide_eq_true_eq,decide_eq_false_iff_not];omega
   rw[e]
   exact Sub.same rfl fun _=>rfl
  ·have:=Sub.omFrz (env:=env) h0 hcur hqM (by simp) hno.set he
   rw[List.set_set] at this
   have e:omF r k pre post g kb fb M (fun j=>(eU j q && !(eN j i))||eN j q)=omF r k pre post g kb fb M fun j=>eU j (q+1) && !(eN j i):=omF_congr fun j _=>by
    simp only[blt_dec,beq_dec];rw[fP];simp only[gD,Bool.or_eq_true,gw,decide_eq_true_eq,decide_eq_false_iff_not];omega
   rwa [e] at this
abbrev vecP(pre post:α->List I)(g:α->List β)(kb:Nat)(fb:β->List I)(k:Nat)(M:List α)(i:Nat)(n:Id)(m:Nat)(a:α):Blk:=.cells k (((M.map (odat pre post g kb fb)).map (·.map C.imm)).set i (oc pre post (.own n 0 m) a))
theorem ohdrF_to{i:Nat}{a:α}(hi:M[i]? =some a):ohdrF pre post g kb fb r M (fun j=>eU j M.length && !(eN j i))=((M.map (odat pre post g kb fb)).map (·.map C.imm)).set i (oc pre post (.own (r,[i]) 0 (g a).length) a):=by
 apply eI
 intro j
 simp only[ohdrF,eH,eG,eX,lM]
 cases hj:M[j]? with
 |none=>
  have:=List.getElem?_eq_none_iff.1 hj
  have hl:=(lG.1 hi).1
  rw[if_neg (by omega)];rfl
 |some b=>
  have hl:=(lG.1 hj).1
  by_cases e:i=j
  ·subst e
   rw[hi] at hj;cases hj
   simp[beq_dec,hl]
  ·rw[if_neg e]
   have:(eU j M.length && !(eN j i))=true:=by simp only[blt_dec,beq_dec];simp;omega
   simp only[eJ,this,as5]
theorem Sub.splitO{i n:Nat}{a:α}{σ1:b6}(h0:fu σ0.length r=true)(hσ:σv[r]? =some (omat r k pre post g kb fb M))(hi:M[i]? =some a)(hno:ah4 r σv)(he:an0 r env=true)(hn:newF σv=some (n,[]))(h1:setF σv r (.one (vecP pre post g kb fb k M i (n,[]) (g a).length a))=some σ1)(hσ':s5 σ1 (.one (vec kb fb (g a)))=some σ'):Sub σ0 ⟨env,σv⟩ ⟨env,σ'⟩:=by
 have g1:=y8 hn;have g2:=(J9 h1).1;have g3:=r8 hσ'
 cases g1
 subst g2 g3
 intro Γ0 sz0 φ0 a0 w0 hΓ0 hR0
 have hrl:r<σv.length:=(lG.1 hσ).1
 have h0':=eO h0
 have hil:=(lG.1 hi).1
 have hF:=Sub.omFrzTo (env:=env) i h0 hσ hno he M.length (fq _)
 generalize hX:σv.set r (omF r k pre post g kb fb M fun j=>eU j M.length && !(eN j i))=σX at hF
 have hXl:σX.length=σv.length:=by rw[<- hX];simp
 have hcur:σX[r]? =some (omF r k pre post g kb fb M fun j=>eU j M.length && !(eN j i)):=by rw[<- hX,eG];simp[hrl]
 have xr:σX[((r,[]):Id)]? =some (some (.cells k (((M.map (odat pre post g kb fb)).map (·.map C.imm)).set i (oc pre post (.own (r,[i]) 0 (g a).length) a)))):=by
  rw[r9 hcur];simp only[omF,Ent.sub,ohdrF_to hi]
 have xi:σX[((r,[i]):Id)]? =some (some (vec kb fb (g a))):=by
  rw[r9 hcur];simp[omF,Ent.sub,eH,hi,beq_dec]
 have xo:∀q:Id,q.1 ≠ r->σX[q]? =σv[q]? :=fun q hq=>by
  rw[<- hX]
  obtain⟨q1,l⟩:=q
  rw[b6.at_eq,b6.at_eq]
  simp only[b6.at,eG]
  rw[if_neg (fun e=>hq e.symm)]
 refine(hF.trans ?_) Γ0 sz0 φ0 a0 w0 hΓ0 hR0
 generalize hπ:(fun q:Id=>if q=(σv.length,[]) then((r,[i]):Id) else q)=π
 have π0:∀q:Id,q ≠ (σv.length,[])->π q=q:=fun q hq=>by rw[<- hπ];simp[hq]
 have πn:π (σv.length,[])=(r,[i]):=by rw[<- hπ];simp
 have cases3:∀(q:Id) b,(σv.set r (.one (vecP pre post g kb fb k M i (σv.length,[]) (g a).length a))++[Ent.one (vec kb fb (g a))])[q]? =some (some b)->
   (q.1<σv.length/\q.1 ≠ r/\σv[q]? =some (some b))\/(q=(r,[])/\b=vecP pre post g kb fb k M i (σv.length,[]) (g a).length a)\/(q=(σv.length,[])/\b=vec kb fb (g a)):=fun q b hq=>by
  obtain⟨q1,l⟩:=q
  rcases ff q1 σv.length with hl|hl
  ·rw[b6.get_left (by simpa using hl),b6.at_eq] at hq
   simp only[b6.at,eG] at hq
   by_cases e:r=q1
   ·subst e
    rw[if_pos rfl,if_pos hrl] at hq
    simp only[Option.some.injEq] at hq
    cases l with
    |nil=>simp only[Ent.sub,Option.some.injEq] at hq;exact .inr (.inl ⟨rfl,hq.symm⟩)
    |cons=>simp[Ent.sub] at hq
   ·rw[if_neg e] at hq
    exact .inl ⟨hl,fun e'=>e e'.symm,by rw[b6.at_eq];exact hq⟩
  ·rw[b6.get_right (by simpa using hl)] at hq
   have hz:q1=σv.length:=by
    have:=b6.lt_of hq
    simp at this;omega
   subst hz
   rw[b6.at_eq] at hq
   simp only[lS,gt,b6.at,fe,Option.some.injEq] at hq
   cases l with
   |nil=>simp only[Ent.sub,Option.some.injEq] at hq;exact .inr (.inr ⟨rfl,hq.symm⟩)
   |cons=>simp[Ent.sub] at hq
 have hlen':(σv.set r (.one (vecP pre post g kb fb k M i (σv.length,[]) (g a).length a))++[Ent.one (vec kb fb (g a))]).length=σv.length+1:=by simp
 refine Sub.mk π (fun q hq=>π0 q (fun e=>by subst e;simp at hq;omega)) (by rw[hlen'];omega) (fun q j b b' hq hj hE=> ?_) (fun q b hq=> ?_) (fun t v ht=> ?_)
 ·rcases cases3 q b hq with⟨g1,g2,_⟩|⟨rfl,_⟩|⟨rfl,_⟩<;>rcases cases3 j b' hj with⟨k1,k2,_⟩|⟨rfl,_⟩|⟨rfl,_⟩
  ·rwa [π0 q (fun e=>by subst e;simp at g1),π0 j (fun e=>by subst e;simp at k1)] at hE
  ·rw[π0 q (fun e=>by subst e;simp at g1),π0 _ (fun e=>by cases e;omega)] at hE;exact hE
  ·rw[π0 q (fun e=>by subst e;simp at g1),πn] at hE;subst hE;exact absurd rfl g2
  ·rw[π0 j (fun e=>by subst e;simp at k1),π0 _ (fun e=>by cases e;omega)] at hE;exact hE
  ·rfl
  ·rw[π0 (r,[]) (fun e=>by cases e;omega),πn] at hE;cases hE
  ·rw[π0 j (fun e=>by subst e;simp at k1),πn] at hE;subst hE;exact absurd rfl k2
  ·rw[π0 (r,[]) (fun e=>by cases e;omega),πn] at hE;cases hE
  ·rfl
 ·dsimp only
  rw[hlen']
  rcases cases3 q b hq with⟨g1,g2,g3⟩|⟨rfl,rfl⟩|⟨rfl,rfl⟩
  ·have hok:=hR0.st.okB g3
   have hren:b.ren π=b:=Blk.ren_ok (m:=σv.length) (fun i hi=>π0 i (fun e=>by subst e;simp at hi)) b hok
   exact⟨Blk.ok_mono (gc _) b hok,by rw[π0 q (fun e=>by subst e;simp at g1),hren,xo q g2,g3]⟩
  ·refine⟨?_,?_⟩
   ·simp only[vecP,Blk.ok,eK]
    intro e he
    rcases mem_set he with h|rfl
    ·simp only[fD,fU,eW] at h
     obtain⟨b,_,rfl⟩:=h
     rw[<- as5,oc_ok];rfl
    ·rw[oc_ok];simp[C.ok]
   ·rw[π0 (r,[]) (fun e=>by cases e;omega),xr]
    have eL:((M.map (odat pre post g kb fb)).map (·.map C.imm)).map (C.renL π)=(M.map (odat pre post g kb fb)).map (·.map C.imm):=by
     apply eI
     intro j
     simp only[lM,fC]
     cases M[j]? with
     |none=>rfl
     |some b=>simp only[eJ,eW];rw[<- as5,oc_ren];rfl
    simp only[vecP,Blk.ren,fF,eL,oc_ren,C.ren,πn]
  ·exact⟨H8,by rw[πn,xi,E2]⟩
 ·dsimp only at ht ⊢
  rw[hlen']
  obtain⟨u,_,hr⟩:=hR0.env t v ht
  have hok:=hr.ok
  exact⟨T.ok_mono (gc _) v hok,by rw[T.ren_ok (m:=σv.length) (fun i hi=>π0 i (fun e=>by subst e;simp at hi)) v hok];exact ht⟩
theorem vp_frz{i m:Nat}{n:Id}{a a':α}{l:List β}(hm:m=l.length)(ha:odat pre post g kb fb a'=pre a++ .sl kb (l.map fb)::post a):∀p,((Ent.one (vecP pre post g kb fb k M i n m a)).sub p).map (Blk.frz n kb (l.map fb))=(Ent.one (vec k (odat pre post g kb fb) (M.set i a'))).sub p:=fun p=>by
 subst hm
 cases p with
 |cons=>rfl
 |nil=>
  have eL:((M.map (odat pre post g kb fb)).map (·.map C.imm)).map (C.frzL n kb (l.map fb))=(M.map (odat pre post g kb fb)).map (·.map C.imm):=by
   apply eI
   intro j
   simp only[lM,fC]
   cases M[j]? with
   |none=>rfl
   |some b=>simp only[eJ,eW];rw[<- as5,oc_frz];rfl
  simp only[Ent.sub,eJ,vecP,vec,Blk.im,Blk.frz,fF,eL,oc_frz,ha]
  simp[oc,C.frz,I4.2 rfl,eQ]
/-! ### The block with one cell owned elsewhere: looked at, written -/
theorem S.idxVP{x y:Od}{t e:Ti}{bytes q m:Nat}{z:Vl}{kk:IntKind}{i:Int}{a b:α}{n:Id}[ht:TyD P t (.slice e)][hs:TyS P e k bytes z]
  (hi:ix M i=some b) (hx:ev env x=some (.c (.own (r,[]) 0 q))) (hn:q=M.length) (hσ:σv[((r,[]):Id)]? =some (some (vecP pre post g kb fb k M i.toNat n m a))) (hy:ev env y=some (.c (.imm (.val (.int kk i))))) (hd:g9 sz dst=true)
  (h:AOps P σ0 sz ops Q rest (St.mk (putE env dst (.c (.ptr (r,[]) i.toNat 0))) σv)):AOps P σ0 sz ops Q (⟨dst,.indexAddr t x y,ty,pos,after,none⟩::rest) (St.mk env σv):=
 .indexAddrOwn hx hσ hy (by have:=S9 hi;have:=o7 hi;subst hn;omega) hd (by rw[fz];exact h)
theorem S.loadVP{x:Od}{t:Ti}{d:TypeDesc}{i:Int}{o m:Nat}{a b:α}{n:Id}[ht:TyD P t d](hi:ix M i=some b)(hx:ev env x=some (.c (.ptr (r,[]) i.toNat o)))(hσ:σv[((r,[]):Id)]? =some (some (vecP pre post g kb fb k M i.toNat n m a)))(ho:(pre a).length=o)(ha:y9 d=false)(hd:g9 sz dst=true)
  (h:AOps P σ0 sz ops Q rest (St.mk (putE env dst (.c (.own n 0 m))) σv)):AOps P σ0 sz ops Q (⟨dst,.load t x,ty,pos,after,none⟩::rest) (St.mk env σv):=
 AOps.load (e:=oc pre post (.own n 0 m) a) ha hx hσ (by have:=o7 hi;simp[this]) (by subst ho;simp[oc]) hd h
theorem S.storeVP{x y:Od}{t:Ti}{bytes m m' o:Nat}{i:Int}{z:Vl}{a b:α}{n n':Id}[hs:TyS P t 1 bytes z](hi:ix M i=some b)(hx:ev env x=some (.c (.ptr (r,[]) i.toNat o)))(hy:ev env y=some (.c (.own n' 0 m')))
  (hσ:σv[((r,[]):Id)]? =some (some (vecP pre post g kb fb k M i.toNat n m a))) (ho:(pre a).length=o) (hσ':putF σv (r,[]) (some (vecP pre post g kb fb k M i.toNat n' m' a))=some σ') (h:AOps P σ0 sz ops Q rest (St.mk env σ')):AOps P σ0 sz ops Q (⟨none,.store t x y,ty,pos,after,none⟩::rest) (St.mk env σv):=by
 have h2:=y6 hσ'
 subst h2
 refine AOps.store (e:=oc pre post (.own n 0 m) a) hx hy hσ (by have:=o7 hi;simp[this]) (by subst ho;simp[oc]) ?_
 have e:(((M.map (odat pre post g kb fb)).map (·.map C.imm)).set i.toNat (oc pre post (.own n 0 m) a)).set i.toNat ((oc pre post (.own n 0 m) a).set o (.own n' 0 m'))=((M.map (odat pre post g kb fb)).map (·.map C.imm)).set i.toNat (oc pre post (.own n' 0 m') a):=by
  rw[List.set_set]
  congr 1
  subst ho
  simp only[oc]
  rw[List.set_append_right _ _ (by simp)]
  simp
 rw[e]
 exact h
theorem vp_elem{i m:Nat}{n:Id}{a:α}{e:List C}(h:e ∈ ((M.map (odat pre post g kb fb)).map (·.map C.imm)).set i (oc pre post (.own n 0 m) a)):(∃b:α,e=oc pre post (.imm (.sl kb ((g b).map fb))) b)\/e=oc pre post (.own n 0 m) a:=by
 rcases mem_set h with h|h
 ·simp only[fD,fU,eW] at h
  obtain⟨b,_,rfl⟩:=h
  exact .inl ⟨b,as5.symm⟩
 ·exact .inr h
theorem vp_ok{i m N:Nat}{n:Id}{a:α}(h:eU n.1 N=true):(vecP pre post g kb fb k M i n m a).ok N=true:=by
 simp only[vecP,Blk.ok,eK]
 intro e he
 rcases vp_elem he with⟨b,rfl⟩|rfl
 ·rw[oc_ok];rfl
 ·rw[oc_ok];simpa[C.ok] using h
theorem vp_ren{i m:Nat}{n:Id}{a:α}{π:Id->Id}:(vecP pre post g kb fb k M i n m a).ren π=vecP pre post g kb fb k M i (π n) m a:=by
 have eL:((M.map (odat pre post g kb fb)).map (·.map C.imm)).map (C.renL π)=(M.map (odat pre post g kb fb)).map (·.map C.imm):=by
  apply eI
  intro j
  simp only[lM,fC]
  cases M[j]? with
  |none=>rfl
  |some b=>simp only[eJ,eW];rw[<- as5,oc_ren];rfl
 simp only[vecP,Blk.ren,fF,eL,oc_ren,C.ren]
theorem vp_mv{i m:Nat}{n n' j:Id}{a:α}{π:Id->Id}(hπ:π n=n')(h:σv[j]? =some (some (vecP pre post g kb fb k M i n' m a))):σv[j]? =some (some ((vecP pre post g kb fb k M i n m a).ren π)):=by rw[vp_ren,hπ];exact h
end
end Ab
end
