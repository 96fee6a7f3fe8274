/-
  Texts that the proof stands on.
-/
import Derived.Test.YtfnfejfohioppaaGreatDoorKRwChValue2
import Derived.Lib.AppendStr
import Derived.Laws.BytesArg
import Derived.Sort.Grow
import Derived.Shelf.Slices.CompactI
import Derived.Shelf.SlSortCmp.Whole1
import Derived.Laws.CopyRow
import Derived.Laws.Cover3
import Derived.WalkSmall
import Derived.Shelf.RegionOpenPlain
import Derived.Lib.Walk
import Derived.Lib.SliceRun
import Derived.Lib.JoinLaws
import Derived.Lib.AppendZerosOnto
import Derived.Lib.Overlaps
import Derived.Laws.Externs
import Derived.Laws.IdiomCopy
import Derived.Laws.NewBlocks
import Derived.Shelf.Small.Bits
import Derived.Shelf.Strconv.Itoa0
import Derived.Shelf.Sort.Plain
import Derived.Shelf.Bits.Mul64
import Derived.Shelf.Slices.Equal
import Derived.Ground.Names2Prog
import Derived.Shelf.Slices.Clone
import Derived.Shelf.Slices.SearchI
import Derived.Shelf.Slices.Cells
import Derived.Shelf.Slices.In.SortNone
import Derived.Shelf.Slices.Empties
import Derived.Shelf.Slices.Empties2
import Derived.Ground.SlsfProg
import Derived.Shelf.SlSortCmp.Insertion
import Derived.Shelf.SlSortCmp.SiftDown1
import Derived.Shelf.SlSortCmp.HeapSort1
import Derived.Shelf.SlSortCmp.Insertion1
import Derived.Shelf.SlSortCmp.Median1
import Derived.Shelf.SlSortCmp.Pivot1
import Derived.Shelf.SlSortCmp.ReverseRange1
import Derived.Shelf.SlSortCmp.PartialInsertion1
import Derived.Shelf.SlSortCmp.PartitionEqual1
import Derived.Shelf.SlSortCmp.Partition1
import Derived.Shelf.SlSortCmp.Pdq1
import Derived.Shelf.SlSortCmp.NoneTotal
import Derived.Test.YtfnfejfohioppaaGreatDoorProg
set_option linter.all false
section
namespace Ab
open Go
def strL(s:ByteArray):Li:=s.data.toList.map fun b=>(b.toNat:Int)
def strB(l:Li):ByteArray:=⟨(l.map fun n=>UInt8.ofNat n.toNat).toArray⟩
def subS(s:ByteArray)(lo hi:Int):Option ByteArray:=if 0≤lo∧lo≤hi∧hi≤s.size then some (s.extract lo.toNat hi.toNat) else none
theorem strL_len(s:ByteArray):(strL s).length=s.size:=by
 simp[strL]
theorem strCells_eq(s:ByteArray):Lib.strCells s=(strL s).map fun n=>Value.int .u8 n:=by
 simp[Lib.strCells,strL]
structure ShowsS(w:World)(φ:Phi)(σ:b6)(A:Nat→Prop)(k:Nat)(es:List (List C))(us:List Vl):Prop where
 len:us.length=es.length * k
 one:∀u ∈ us,u.oneCell'=true
 hk:∀(j:Nat) (e:List C),es[j]? =some e→e.length=k
 rel:∀(j:Nat) (e:List C) (o:Nat) (x:C),es[j]? =some e→e[o]? =some x→∃u,us[j * k+o]? =some u∧RelC w φ σ A x u
def strE(s:ByteArray):List (List C):=(strL s).map fun n=>[C.imm (.val (.int .u8 n))]
theorem str_shows(w:World)(φ:Phi)(σ:b6)(A:Nat→Prop)(s:ByteArray):ShowsS w φ σ A 1 (strE s) (Lib.strCells s):=by
 refine⟨by simp[strE,strL,Lib.strCells],Lib.strCells_oneCell s,fun j e he=> ?_,fun j e o x he hx=> ?_⟩
 ·simp only[strE,lM,oM] at he
  obtain⟨n,_,rfl⟩:=he
  rfl
 ·simp only[strE,lM,oM] at he
  obtain⟨n,h1,rfl⟩:=he
  cases o with
  |succ o=>simp at hx
  |zero=>
   simp only[List.getElem?_cons_zero,Option.some.injEq] at hx
   subst hx
   refine⟨.int .u8 n,?_,.imm (.val rfl)⟩
   rw[strCells_eq,lM,Nat.mul_one,Nat.add_zero,h1]
   rfl
theorem app_relS{w:World}{φ:Phi}{σ:b6}{A:Nat→Prop}{k:Nat}{es new:List (List C)}{b:Option Addr}{us vs:List Vl}(h:ab7 w φ σ A k es b us)(g:ShowsS w φ σ A k new vs):
  (∀(j:Nat) (e:List C),(es++new)[j]? =some e→e.length=k)∧∀(j:Nat) (e:List C) (o:Nat) (x:C),(es++new)[j]? =some e→e[o]? =some x→∃u,(us++vs)[j * k+o]? =some u∧RelC w φ σ A x u:=by
 refine⟨fun j e he=> ?_,fun j e o x he hx=> ?_⟩
 ·rw[List.getElem?_append] at he
  split at he
  ·exact h.hk _ _ he
  ·exact g.hk _ _ he
 ·rw[List.getElem?_append] at he
  split at he
  ·rename_i hj
   obtain⟨u,hu,hr⟩:=h.rel j e o x he hx
   exact⟨u,by rw[List.getElem?_append_left (lG.1 hu).1];exact hu,hr⟩
  ·rename_i hj
   obtain⟨u,hu,hr⟩:=g.rel _ e o x he hx
   refine⟨u,?_,hr⟩
   have:us.length≤j * k+o:=by
    rw[h.len]
    have:=Nat.mul_le_mul_right k (Nat.not_lt.1 hj)
    omega
   rw[List.getElem?_append_right this,h.len]
   rw[Nat.sub_mul] at hu
   have:=Nat.mul_le_mul_right k (Nat.not_lt.1 hj)
   rw[show j * k+o - es.length * k=j * k - es.length * k+o by omega]
   exact hu
section
variable {P:Program}(w:World)
theorem ay9{t u ty e:Ti}{k bytes:Nat}{z:Vl}[ht:TyD P t (.slice e)][hu:TyD P u .string][hs:TyS P e k bytes z]{g off sLen sCap:Nat}{cur:Array Vl}{ety:Ti}(hg:w.heap[g]? =some (.cells cur ety (0,0)))
  (s:ByteArray) (hk1:k=1)
  (hroom:sLen+s.size≤sCap) (hfit:off+sCap * k≤cur.size):
  (Builtin.append_ #[t,u] ty #[.slice (some ⟨g,off,none⟩) sLen sCap,.string s]).run P w=
   .ok (.slice (some ⟨g,off,none⟩) (sLen+s.size) sCap) (w.setRow g (cur.toList.take (off+sLen * k)++(Lib.strCells s)++cur.toList.drop (off+sLen * k+(Lib.strCells s).length)).toArray):=by
 have hl:(Lib.strCells s).length=s.size * k:=by rw[Lib.strCells_length,hk1,Nat.mul_one]
 have h1:=Lib.strCells_oneCell s
 have hf:=Lib.run_firstCells_string (P:=P) w k s
 have hmk:(sLen+s.size) * k≤sCap * k:=Nat.mul_le_mul_right _ hroom
 rw[Nat.add_mul] at hmk
 have hst:=run_storeCells_at P g (off+sLen * k) ety (Lib.strCells s) 0 cur w hg (by omega) h1
 simp only[Nat.add_zero] at hst
 have hsz:=m7 (P:=P) (t:=e) w
 simp[Builtin.append_,run_underlying ht.h,run_underlying hu.h,hsz,Builtin.lenOf,hroom,hf,E3,hst]
theorem ay8{t u ty e:Ti}{k bytes:Nat}{z:Vl}[ht:TyD P t (.slice e)][hu:TyD P u .string][hs:TyS P e k bytes z]{b0:Option Addr}{sLen sCap:Nat}{olds:List Vl}(hlo:olds.length=sLen * k)(hno:b0=none→olds=[])(hco:∀ad,b0=some ad→∀(j:Nat) (u:Vl),olds[j]? =some u→w.cell? (ad.add j)=some u)
  (s:ByteArray) (hk1:k=1)
  (hg:sCap<sLen+s.size) (hb:(sLen+s.size) * bytes≤140737488355328) (hmax:sLen+s.size≤9223372036854775807):
  (Builtin.append_ #[t,u] ty #[.slice b0 sLen sCap,.string s]).run P w=
   .ok (.slice (some ⟨w.heap.size,0,none⟩) (sLen+s.size) (grownCap w (sLen+s.size) sCap e)) (w.drew.alloc (.cells (olds.toArray++(Lib.strCells s).toArray++Builtin.zeroCells z.cells (grownCap w (sLen+s.size) sCap e - (sLen+s.size))) e)):=by
 obtain⟨i,hi1,hi2,hi3,hi4⟩:=hs.h
 subst hi2 hi3
 have hfit:=growslice_fits hg hb
 have h48:¬ (281474976710656<Builtin.nextslicecap (sLen+s.size) sCap * i.bytes):=by omega
 have h63:¬ (9223372036854775807<((sLen:Int)+(s.size:Int))):=by omega
 have hnr:¬ (sLen+s.size≤sCap):=by omega
 have hf:=Lib.run_firstCells_string (P:=P) w.drew i.size s
 have hfo:=ae5 (P:=P) w.drew (size:=i.size) (cap:=sCap) hlo hno (fun ad h j u hu=>by simpa using hco ad h j u hu)
 simp[Builtin.append_,run_underlying ht.h,run_underlying hu.h,Go.sizeOf,typeInfo,zeroValue,hi1,hi4,Builtin.lenOf,hnr,h63,h48,Question.forced,hf,hfo,newRow,grownCap]
 rw[← Array.append_assoc,List.append_toArray olds (Lib.strCells s)]
end
section
variable {P:Program}{σ0:b6}{sz:Nat}{Q:Post}{env:Env}{σv:b6}{ops:Array Oper}{rest:List Oper}{dst:Option Nat}{ty:Ti}{pos:String}{after:Array Edge}
theorem append_newS{Γ:Cx}{φ:Phi}{a:Act}{w:World}(hR:R Γ sz (St.mk env σv) φ a w){k:Nat}{t u ty' e:Ti}{bytes:Nat}{z:Vl}[ht:TyD P t (.slice e)][hu:TyD P u .string][hs:TyS P e k bytes z](hzk:(z.cells.size==k)=true)
  {b0:Option Addr} {n cap0:Nat} {old:List (List C)} {us0:List Vl} (ho:ab7 w φ σv (Al Γ.N φ σv) k old b0 us0) (hon:old.length=n)
  {new:List (List C)} (s:ByteArray) (hk1:k=1) (hns:new.length=s.size) (hn:ShowsS w φ σv (Al Γ.N φ σv) k new (Lib.strCells s)) (hg:cap0<n+new.length) (hb:(n+new.length) * bytes≤140737488355328) (hmax:n+new.length≤maxLen) (σ1:b6)
  (hkill:∀(φ:Phi) (w:World),Rs Γ σv φ w→Kept w w φ φ σv σ1 (Al Γ.N φ σv) (Al Γ.N φ σ1)∧Rs Γ σ1 φ w) (hl1:σ1.length=σv.length):
  ∃v' w' φ',(Builtin.append_ #[t,u] ty' #[.slice b0 n cap0,.string s]).run P w=.ok v' w'∧
   RelT w' φ' (σ1++[.one (.cells k (old++new))]) (Al Γ.N φ' (σ1++[.one (.cells k (old++new))])) (.c (.own (σv.length,[]) 0 (n+new.length))) v'∧R Γ sz ⟨env,σ1++[.one (.cells k (old++new))]⟩ φ' a w':=by
 have hmax':n+new.length≤9223372036854775807:=by simpa[maxLen] using hmax
 have hrun:=ay8 (P:=P) (t:=t) (u:=u) (ty:=ty') (sLen:=n) (sCap:=cap0) w (by rw[ho.len,hon]) (fun h=>by rw[ho.none h] at ho;exact List.eq_nil_of_length_eq_zero (by simpa using ho.len)) ho.cell s hk1 (by omega) (by rw[← hns];exact hb) (by omega)
 rw[← hns] at hrun
 have hge:=grownCap_ge w (n+new.length) cap0 e
 have hcm:grownCap w (n+new.length) cap0 e≤maxLen:=grownCap_le_maxLen w (n+new.length) cap0 e hmax
 obtain⟨hK1,hR1⟩:=hkill φ w.drew hR.toRs.drew
 have hK0:=Kept.drew w φ σv (Al Γ.N φ σv)
 have hK01:=Kept.trans (show w.heap.size≤w.drew.heap.size from Nat.le_refl _) hK0 hK1
 have hap:=app_relS ho hn
 have hz:z.cells.size=k:=by simpa using hzk
 generalize hcap:grownCap w (n+new.length) cap0 e=cap at *
 have hsize:(us0.toArray++(Lib.strCells s).toArray++Builtin.zeroCells z.cells (cap - (n+new.length))).size=cap * k:=by
  simp only[Array.size_append,List.size_toArray,size_zeroCells,hz,ho.len,hn.len,hon,← Nat.add_mul]
  congr 1
  omega
 have hA:=Rs.alloc (k:=k) (es:=old++new) (arr:=us0.toArray++(Lib.strCells s).toArray++Builtin.zeroCells z.cells (cap - (n+new.length))) (ety:=e) hR1 hap.1 (by
   rw[hsize,List.length_append,hon]
   exact Nat.mul_le_mul_right _ hge) (fun j e' o x he hx=>by
   obtain⟨u,hu,hr⟩:=hap.2 j e' o x he hx
   refine⟨u,?_,hr.mono hK01⟩
   rw[Array.getElem?_append_left (by
    have:=(lG.1 hu).1
    simpa using this)]
   simpa using hu)
 rw[hl1] at hA
 refine⟨_,_,n9 σv.length φ w.heap.size,hrun,H2 (k:=k) (es:=old++new) (by rw[← hl1];exact b6.get_last _ _) rfl (.inr ⟨w.heap.size,0,cap,_,e,_,by simp[n9],rfl,fun _=>by simp,hge,hcm,by simp[hon],heap_alloc_new w.drew _,by rw[hsize];simp⟩),?_⟩
 exact hR.of (Kept.trans (show w.heap.size≤w.drew.heap.size from Nat.le_refl _) hK01 hA.1) hA.2
theorem AOps.appendStr{x y:Od}{t u e:Ti}{k bytes:Nat}{z:Vl}{id:Id}{j n:Nat}{es:List (List C)}{s:ByteArray}(hk1:k=1)[ht:TyD P t (.slice e)][hu:TyD P u .string][hs:TyS P e k bytes z](hzk:(z.cells.size==k)=true)(hbp:Nat.blt 0 bytes=true)
  (hx:ev env x=some (.c (.own id j n))) (hσ:σv[id]? =some (some (.cells k es))) (hy:ev env y=some (.c (.imm (.val (.string s))))) (hb:(n+s.size) * bytes≤140737488355328) (hd:g8 sz dst=true)
  (h:AOps P σ0 sz ops Q rest ((St.mk env (σv.put id none++[.one (.cells k ((es.drop j).take n++strE s))])).put dst (.c (.own (σv.length,[]) 0 (n+s.size))))):
  AOps P σ0 sz ops Q (⟨dst,.call ⟨.builtin .append,#[x,y],#[t,u]⟩,ty,pos,after,none⟩::rest) (St.mk env σv):=
 .valueW rfl hd _ _ (fun Γ φ a w hR=>by
  have hy1:a.eval y=.string s:=(ah5 (j3 hR hy)).1
  have hy2:ShowsS w φ σv (Al Γ.N φ σv) k (strE s) (Lib.strCells s):=by subst hk1;exact str_shows _ _ _ _ s
  have hns:(strE s).length=s.size:=by simp[strE,strL_len]
  rw[← hns] at hb ⊢
  generalize hnw:strE s=new at hb hy2 hns ⊢
  generalize hus':Lib.strCells s=us' at hy2
  have hv:=D2 (j3 hR hx) hσ
  obtain⟨b0,cap0,us0,hx1,hx2,hx3⟩:=P2 hR hσ hv
  have ex:(execOp a.eval ⟨dst,.call ⟨.builtin .append,#[x,y],#[t,u]⟩,ty,pos,after,none⟩).run P w=((Builtin.append_ #[t,u] ty #[.slice b0 n cap0,.string s]).run P w).andThen fun v w=>.ok (.value v) w:=by
   simp[execOp,resolve,invoke,builtin,hx1,hy1]
  rw[ex]
  by_cases hroom:n+new.length≤cap0
  ·rcases hv with⟨h1,h2,h3,h4⟩|⟨b,base,cap,arr,ety,ad,hp,hv,had,hcap,hmax,hjn,hbk,hsz⟩
   · -- nil, and nothing is appended
    rw[hx1] at h2
    cases h2
    have hnew:new=[]:=List.eq_nil_of_length_eq_zero (by omega)
    subst hnew
    subst h3
    obtain⟨hK1,hR1⟩:=hR.toRs.kill id
    obtain⟨hK2,hR2⟩:=hR1.virt k
    have hrun:(Builtin.append_ #[t,u] ty #[.slice none 0 0,.string s]).run P w=.ok (.slice none 0 0) w:=by
     have hs0:s.size=0:=by rw[← hns];rfl
     have hc0:us'=[]:=List.eq_nil_of_length_eq_zero (by simpa using hy2.len)
     have hf:=Lib.run_firstCells_string (P:=P) w k s
     rw[hs0,hus',hc0] at hf
     simp[Builtin.append_,run_underlying ht.h,run_underlying hu.h,m7 (t:=e),Builtin.lenOf,hs0,hf]
    refine⟨.slice none 0 0,w,(fun i=>if i=(σv.length,[]) then none else φ i),by rw[hrun];rfl,?_,?_⟩
    ·simp only[List.take_zero,List.append_nil]
     exact H2 (k:=k) (es:=[]) (by rw[← b6.length_put σv id none];exact b6.get_last _ _) rfl (.inl ⟨by simp,rfl,rfl,rfl⟩)
    ·simp only[List.take_zero,List.append_nil]
     rw[b6.length_put] at hK2 hR2
     exact hR.of (Kept.trans (Nat.le_refl _) hK1 hK2) hR2
   ·rw[hx1] at hv
    cases hv
    have hpos:0<n+new.length∨n+new.length=0:=by omega
    by_cases hc0:0<cap0
    ·have:=had hc0
     subst this
     have hfit:base+j * k+cap0 * k≤arr.size:=by rw[Nat.add_mul] at hsz;omega
     have hrun:=ay9 (P:=P) (t:=t) (u:=u) (ty:=ty) w (sLen:=n) (sCap:=cap0) hbk s hk1 (by omega) hfit
     rw[← hns,hus'] at hrun
     have hap:=app_relS hx3 hy2
     have hmk:(n+new.length) * k≤cap0 * k:=Nat.mul_le_mul_right _ hroom
     rw[Nat.add_mul] at hmk
     have hus:us'.length=new.length * k:=hy2.len
     have hus0:us0.length=n * k:=by rw[hx3.len,hx2]
     have hA:=Rs.reown (k:=k) (base':=base+j * k) (es':=(es.drop j).take n++new) (arr':=(arr.toList.take (base+j * k+n * k)++us'++arr.toList.drop (base+j * k+n * k+us'.length)).toArray) hR.toRs hσ hp hbk hap.1 (by simp only[List.length_append,hx2,List.size_toArray,List.length_take,List.length_drop,Array.length_toList,Nat.add_mul];omega) (fun i e' o x' he hx'=>by
      obtain⟨u,hu,hr⟩:=hap.2 i e' o x' he hx'
      refine⟨u,?_,hr⟩
      have hsp:=y4 arr.toList us' (base+j * k+n * k) (base+j * k+(i * k+o)) (by simp;omega)
      simp only[List.getElem?_toArray]
      rw[hsp]
      by_cases hio:i * k+o<n * k
      ·rw[if_neg (by omega)]
       rw[List.getElem?_append_left (by omega)] at hu
       -- what stood there
       obtain⟨arr2,ety2,hb2,_,hkk,hcs⟩:=I1 hR hσ hp
       rw[hbk] at hb2;cases hb2
       have hi:i<n:=by
        rcases Nat.lt_or_ge i n with h|h
        ·exact h
        ·have:=Nat.mul_le_mul_right k h;omega
       have hcell:=hx3.cell _ rfl _ u hu
       rw[E3,N6 hbk] at hcell
       simpa using hcell
      ·rw[List.getElem?_append_right (by omega)] at hu
       have hlt:=(lG.1 hu).1
       rw[if_pos (by omega),show base+j * k+(i * k+o) - (base+j * k+n * k)=i * k+o - us0.length by omega]
       exact hu)
     refine⟨_,_,_,by rw[hrun];rfl,?_,hR.of hA.1 hA.2⟩
     refine H2 (k:=k) (es:=(es.drop j).take n++new) (by rw[← b6.length_put σv id none];exact b6.get_last _ _) rfl (.inr ⟨b,base+j * k,cap0,_,ety,_,by simp,rfl,fun _=>by simp,hroom,hmax,by simp[hx2],setRow_heap w b arr _ ety (0,0) hbk,?_⟩)
     simp only[List.size_toArray,List.length_append,List.length_take,List.length_drop,Array.length_toList,Nat.zero_add]
     omega
    · -- no room at all, and nothing is appended
     have h0:cap0=0:=by omega
     subst h0
     have hn0:n=0:=by omega
     have hnew:new=[]:=List.eq_nil_of_length_eq_zero (by omega)
     subst hnew
     subst hn0
     have hrun:(Builtin.append_ #[t,u] ty #[.slice (some ad) 0 0,.string s]).run P w=.ok (.slice (some ad) 0 0) w:=by
      have hs0:s.size=0:=by rw[← hns];rfl
      have hc0:us'=[]:=List.eq_nil_of_length_eq_zero (by simpa using hy2.len)
      have hf:=Lib.run_firstCells_string (P:=P) w k s
      rw[hs0,hus',hc0] at hf
      simp[Builtin.append_,run_underlying ht.h,run_underlying hu.h,m7 (t:=e),Builtin.lenOf,hs0,hf,storeCells]
     have hA:=Rs.reown (k:=k) (base':=base+j * k) (es':=[]) (arr':=arr) hR.toRs hσ hp hbk (fun i e' he=>by simp at he) (by simp;rw[Nat.add_mul] at hsz;omega) (fun i e' o x' he=>by simp at he)
     rw[setRow_self w b arr ety (0,0) hbk] at hA
     refine⟨.slice (some ad) 0 0,w,(fun i=>if i=(σv.length,[]) then some (b,base+j * k) else φ i),by rw[hrun];rfl,?_,?_⟩
     ·simp only[List.take_zero,List.append_nil]
      exact H2 (k:=k) (es:=[]) (by rw[← b6.length_put σv id none];exact b6.get_last _ _) rfl (.inr ⟨b,base+j * k,0,arr,ety,ad,by simp,rfl,fun h=>by omega,by simp,by simp[maxLen],by simp,hbk,by simp;rw[Nat.add_mul] at hsz;omega⟩)
     ·simp only[List.take_zero,List.append_nil]
      exact hR.of hA.1 hA.2
  ·have hmax:n+new.length≤maxLen:=by
    have hb0:0<bytes:=by simpa using hbp
    have:n+new.length≤(n+new.length) * bytes:=Nat.le_mul_of_pos_right _ hb0
    simp only[maxLen];omega
   obtain⟨v',w',φ',g1,g2,g3⟩:=append_newS (P:=P) (t:=t) (u:=u) (e:=e) (ty':=ty) hR hzk (cap0:=cap0) hx3 hx2 s hk1 hns (by rw[hus'];exact hy2) (Nat.not_le.1 hroom) hb hmax (σv.put id none) (fun φ w h=>h.kill id) (by simp)
   exact⟨v',w',φ',by rw[g1];rfl,g2,g3⟩) h
end
abbrev eU8(n:Int):List I:=[.val (.int .u8 n)]
theorem strE_eq(s:ByteArray):strE s=((strL s).map eU8).map (·.map C.imm):=by simp[strE]
section
variable {P:Program}{σ0:b6}{sz:Nat}{Q:Post}{env env':Env}{σv σ':b6}{ops:Array Oper}{rest:List Oper}{dst:Option Nat}{ty:Ti}{pos:String}{after:Array Edge}
theorem S.appendStr{l l':Li}{s:ByteArray}{x y:Od}{t u e:Ti}{bytes m:Nat}{n:Id}{z:Vl}{id:Id}{σ1:b6}[ht:TyD P t (.slice e)][hu:TyD P u .string][hs:TyS P e 1 bytes z]
  (ha:app bytes l (strL s)=some l') (hzk:(z.cells.size==1)=true) (hbp:Nat.blt 0 bytes=true)
  (hx:ev env x=some (.c (.own id 0 m))) (hm:m=l.length) (hσ:σv[id]? =some (some (vec 1 eU8 l))) (hy:ev env y=some (.c (.imm (.val (.string s))))) (hn:newF σv=some n) (h1:putF σv id none=some σ1) (hσ':r9 σ1 (.one (vec 1 eU8 l'))=some σ') (hd:g8 sz dst=true)
  (h:AOps P σ0 sz ops Q rest (St.mk (putE env dst (.c (.own n 0 l'.length))) σ')):
  AOps P σ0 sz ops Q (⟨dst,.call ⟨.builtin .append,#[x,y],#[t,u]⟩,ty,pos,after,none⟩::rest) (St.mk env σv):=by
 obtain⟨hb,rfl⟩:=am3 ha
 have h2:=C7 h1
 have h3:=A5 hn;have h4:=p7 hσ'
 subst hm h2 h3 h4
 refine AOps.appendStr (s:=s) (k:=1) rfl hzk hbp hx hσ hy (by rw[← strL_len];exact hb) hd ?_
 have e1:(((((l.map eU8).map (·.map C.imm)).drop 0).take l.length)++strE s)=((l++strL s).map eU8).map (·.map C.imm):=by
  rw[List.drop_zero,List.take_of_length_le (by simp),strE_eq];simp
 have e2:l.length+s.size=(l++strL s).length:=by simp[strL_len]
 rw[e1,e2]
 exact h
theorem S.subStr{s s':ByteArray}{x l r:Od}{t:Ti}{kk kk':IntKind}{lo hi:Int}[ht:TyD P t .string]
  (hsub:subS s lo hi=some s') (hx:ev env x=some (.c (.imm (.val (.string s))))) (hl:ev env l=some (.c (.imm (.val (.int kk lo))))) (hr:ev env r=some (.c (.imm (.val (.int kk' hi))))) (hd:g8 sz dst=true)
  (h:AOps P σ0 sz ops Q rest (St.mk (putE env dst (.c (.imm (.val (.string s'))))) σv)):AOps P σ0 sz ops Q (⟨dst,.slice t x (some l) (some r) none,ty,pos,after,none⟩::rest) (St.mk env σv):=by
 unfold subS at hsub
 split at hsub
 ·rename_i hb
  cases hsub
  refine .value rfl hd _ (fun Γ φ a w hR=> ?_) h
  refine⟨.string (s.extract lo.toNat hi.toNat),?_,.c (.imm (.val rfl))⟩
  have hx1:=w6 hR hx
  have hl1:=w6 hR hl
  have hr1:=w6 hR hr
  obtain⟨a1,a2,a3⟩:=hb
  obtain⟨lo',rfl⟩:=Int.eq_ofNat_of_zero_le a1
  obtain⟨hi',rfl⟩:=Int.eq_ofNat_of_zero_le (Int.le_trans a1 a2)
  have:=run_slice_string (P:=P) w t s kk kk' (lo':Int) (hi':Int) ht.h (by omega) (by omega) (by omega)
  simp only[Int.toNat_natCast] at this
  simp[execOp,hx1,hl1,hr1,Instr.sliceAt,run_underlying ht.h,this,Result.andThen]
 ·cases hsub
theorem S.bytesStr{x:Od}{src d e:Ti}{id:Id}{m:Nat}{l:Li}[h1:TyD P src (.slice e)][h2:TyD P e (.int .u8)][h3:TyD P d .string]
  (hx:ev env x=some (.c (.own id 0 m))) (hm:m=l.length) (hσ:σv[id]? =some (some (vec 1 eU8 l))) (hd:g8 sz dst=true)
  (h:AOps P σ0 sz ops Q rest (St.mk (putE env dst (.c (.imm (.val (.string (strB l)))))) σv)):AOps P σ0 sz ops Q (⟨dst,.convert src d x,ty,pos,after,none⟩::rest) (St.mk env σv):=by
 refine .value rfl hd _ (fun Γ φ a w hR=> ?_) h
 refine⟨.string (strB l),?_,.c (.imm (.val rfl))⟩
 subst hm
 have hv:=D2 (j3 hR hx) hσ
 obtain⟨b0,cap0,us0,hx1,hx2,hx3⟩:=P2 hR hσ hv
 have hes:(List.take l.length (List.drop 0 ((l.map eU8).map (·.map C.imm))))=(l.map eU8).map (·.map C.imm):=by
  rw[List.drop_zero,List.take_of_length_le (by simp)]
 rw[hes] at hx3
 have hus:us0=l.map (Value.int .u8):=by
  apply List.ext_getElem?
  intro j
  rcases Nat.lt_or_ge j l.length with hj|hj
  ·obtain⟨u,hu,hr⟩:=hx3.rel j [C.imm (.val (.int .u8 l[j]))] 0 _ (by simp[hj]) rfl
   rw[Nat.mul_one,Nat.add_zero] at hu
   have hu2:u=.int .u8 l[j]:=by
    cases hr with|imm h=>cases h with|val h=>rfl
   rw[hu,hu2];simp[hj]
  ·have:=hx3.len
   rw[List.getElem?_eq_none (by rw[this];simpa using hj),List.getElem?_eq_none (by simpa using hj)]
 cases b0 with
 |none=>
  have hl:l=[]:=by
   have:=hx3.none rfl
   simpa using this
  subst hl
  simp[execOp,hx1,convert,run_underlying h1.h,run_underlying h2.h,run_underlying h3.h,Conv.bytesToString,strB,Result.andThen]
  rfl
 |some ad=>
  have hl:=run_loadCells_list (P:=P) w ad (l.map (Value.int .u8)) (fun j v hj=>hx3.cell ad rfl j v (by rw[hus];exact hj))
  simp only[List.length_map] at hl
  have hrun:(convert src d (.slice (some ad) l.length cap0)).run P w=.ok (.string (strB l)) w:=by
   rw[run_convert_bytes_string w src d e (some ad) l.length cap0 h1.h h2.h h3.h,run_bytesToString w ad l.length cap0 _ hl,foldl_push_bytes]
   have he0:ByteArray.empty.data=#[]:=rfl
   rw[he0]
   simp[strB]
  simp[execOp,hx1,hrun,Result.andThen]
end
/-! ### Arrays of numbers compared -/
section
variable {P:Program}
variable {σ0:b6}{sz:Nat}{Q:Post}{env env':Env}{σv σ':b6}{ops:Array Oper}{rest:List Oper}{dst:Option Nat}{ty:Ti}{pos:String}{after:Array Edge}
end
end Ab
end
section
namespace Ab
open Go Go.Sort
theorem Rs.refl{Γ:Cx}(h:Good Γ):Rs Γ Γ.σ0 Γ.φ0 Γ.w0 where
 good:=h
 st:=h.st
 keep i blk b base hi hp hK:=hK.2 i blk base hi hp
 os:=rfl
 tape:=rfl
 drawn:=Nat.le_refl _
 output:=rfl
 size:=Nat.le_refl _
 block _ _:=rfl
 kept:=Kept.refl _ _ _ _
theorem Kept.ahead(w:World)(n:Nat)(φ:Phi)(σ:b6)(A:Nat→Prop):Kept w (Go.Sort.ahead w n) φ φ σ σ A A:=
 ⟨fun _ _ _=>rfl,fun _ h _=>h,Nat.le_refl _,fun _ _ es _ h=>⟨es,h,rfl,rfl,fun _ _ arr _ _ h2=>⟨arr,h2,rfl⟩⟩,fun _ p cs _ h=>⟨rfl,p,cs,h⟩⟩
theorem Rs.ahead{Γ:Cx}{σ:b6}{φ:Phi}{w:World}(h:Rs Γ σ φ w)(n:Nat):Rs Γ σ φ (Go.Sort.ahead w n):=
 {good:=h.good,st:=⟨fun i b hi=>(h.st.blk i b hi).mono (Kept.ahead w n φ σ _) (fun _ _ _=>rfl),h.st.inj⟩,
  keep:=h.keep,os:=h.os,tape:=h.tape,drawn:=Nat.le_trans h.drawn (Nat.le_add_right _ _),output:=h.output,size:=h.size,block:=h.block,
  kept:=Kept.trans h.size h.kept (Kept.ahead w n φ σ _)}
theorem Kept.grow(w:World)(os:Array Obj)(φ:Phi)(σ:b6)(A:Nat→Prop):Kept w (Go.Sort.grow w os) φ φ σ σ A A:=
 ⟨fun _ _ hl=>heap_grow_old w os hl,fun _ h _=>h,Nat.le_refl _,fun _ _ es _ h=>⟨es,h,rfl,rfl,fun _ _ arr _ _ h2=>⟨arr,(heap_grow_old w os (Array.getElem?_eq_some_iff.1 h2).1).trans h2,rfl⟩⟩,fun _ p cs _ h=>⟨rfl,p,cs,h⟩⟩
theorem Rs.blk_lt{Γ:Cx}{σ:b6}{φ:Phi}{w:World}(h:Rs Γ σ φ w){i:Id}{blk:Blk}{b base:Nat}(hi:σ[i]? =some (some blk))(hp:φ i=some (b,base)):b<w.heap.size:=Al.own_lt h.st hi hp
theorem Rs.grow{Γ:Cx}{σ:b6}{φ:Phi}{w:World}(h:Rs Γ σ φ w)(os:Array Obj):Rs Γ σ φ (Go.Sort.grow w os):=
 {good:=h.good,st:=⟨fun i b hi=>(h.st.blk i b hi).mono (Kept.grow w os φ σ _) (fun g base hp=>heap_grow_old w os (h.blk_lt hi hp)),h.st.inj⟩,
  keep:=h.keep,os:=h.os,tape:=h.tape,drawn:=h.drawn,output:=h.output,size:=Nat.le_trans h.size (by simp),block:=fun b hK=>(heap_grow_old w os (Nat.lt_of_lt_of_le hK.1 h.size)).trans (h.block b hK),
  kept:=Kept.trans h.size h.kept (Kept.grow w os φ σ _)}
theorem aw0{w:World}{b off:Nat}{arr:Array Vl}{ety:Ti}{fr:Nat×Nat}{d:Array Int}(hb:w.heap[b]? =some (.cells arr ety fr)):
  putRow (Value.int .i64) w b off d=w.setRow b (putCells (Value.int .i64) off d arr):=by
 unfold putRow mapBlock World.setRow
 congr 1
 apply Array.ext_getElem?
 intro k
 simp only[Array.getElem?_modify]
 by_cases hk:b=k
 ·subst hk;simp only[if_true,hb,Option.map_some,onCells]
 ·simp[hk]
theorem setRow_self{w:World}{b:Nat}{arr:Array Vl}{ety:Ti}{fr:Nat×Nat}(hb:w.heap[b]? =some (.cells arr ety fr)):w.setRow b arr=w:=by
 have key:∀h:Array Obj,h=w.heap→({w with heap:=h}:World)=w:=by rintro _ rfl;rfl
 refine key _ ?_
 apply Array.ext_getElem?
 intro k
 simp only[Array.getElem?_modify]
 by_cases hk:b=k
 ·subst hk;simp only[if_true,hb,Option.map_some]
 ·simp[hk]
theorem aj9{off:Nat}{d:Array Int}{arr:Array Vl}:(putCells (Value.int .i64) off d arr).size=arr.size:=by simp[putCells]
theorem ax6{off:Nat}{d:Li}{arr:Array Vl}(h:off+d.length≤arr.size){j:Nat}{x:Int}(hj:d[j]? =some x):(putCells (Value.int .i64) off d.toArray arr)[off+j]? =some (.int .i64 x):=by
 have hjl:=(lG.1 hj).1
 have hx:=(lG.1 hj).2
 simp only[putCells,Array.getElem?_mapIdx]
 rw[Array.getElem?_eq_getElem (by omega)]
 simp only[Option.map_some,List.size_toArray]
 rw[if_pos (by omega)]
 simp[hjl,hx]
theorem int_cells{w:World}{φ:Phi}{σ:b6}{A:Nat→Prop}{l:Li}{base:Nat}{arr:Array Vl}
  (hc:∀(j:Nat) (e:List C) (o:Nat) (x:C),((l.map intI).map (·.map C.imm))[j]? =some e→e[o]? =some x→∃u,arr[base+(j * 1+o)]? =some u∧RelC w φ σ A x u) {j:Nat} {x:Int} (hj:l[j]? =some x):arr[base+j]? =some (.int .i64 x):=by
 obtain⟨u,hu,hr⟩:=hc j _ 0 (.imm (.val (.int .i64 x))) (by simp[hj];rfl) rfl
 cases hr with|imm hr=>cases hr;simpa using hu
theorem holds_of{w:World}{l:Li}{b base:Nat}{arr:Array Vl}{ety:Ti}(hb:w.heap[b]? =some (.cells arr ety (0,0)))(hc:∀(j:Nat) (x:Int),l[j]? =some x→arr[base+j]? =some (.int .i64 x)):Holds (Value.int .i64) w b base l.toArray:=by
 intro j hj
 have hjl:j<l.length:=by simpa using hj
 refine⟨?_,by simp[World.frozen?,hb]⟩
 rw[World.cell?]
 simp only[hb]
 rw[hc j l[j] (List.getElem?_eq_getElem hjl)]
 simp[hjl]
theorem Y8{l:Li}:((l.map intI).map (·.map C.imm)).length=l.length:=by simp
theorem vec_hk{l:Li}{j:Nat}{e:List C}(h:((l.map intI).map (·.map C.imm))[j]? =some e):e.length=1:=by
 simp only[List.map_map,lM,oM] at h
 obtain⟨a,_,rfl⟩:=h;rfl
theorem vec_hc{w:World}{φ:Phi}{σ:b6}{A:Nat→Prop}{l:Li}{base:Nat}{arr:Array Vl}(h:∀(j:Nat) (x:Int),l[j]? =some x→arr[base+j]? =some (.int .i64 x))(j:Nat)(e:List C)(o:Nat)(x:C)(he:((l.map intI).map (·.map C.imm))[j]? =some e)(hx:e[o]? =some x):
  ∃u,arr[base+(j * 1+o)]? =some u∧RelC w φ σ A x u:=by
 simp only[List.map_map,lM,oM] at he
 obtain⟨a,ha,rfl⟩:=he
 match o with
 |0=>
  cases hx
  exact⟨_,by simpa using h j a ha,.imm (.val rfl)⟩
 |o+1=>simp at hx
abbrev srt(l:Li):Li:=l.mergeSort fun x y=>decide (x≤y)
def Y0(P : Program)(f : FuncId) : Prop := ∃ fn, P.funcs[f]? = some fn ∧ (fn.name == "runtime.NumGoroutine")=false∧fn.body.isNone=false
theorem sort_fn{P:Program}{f:FuncId}(hf:Y0 P f)
  (hC:∀(blk off cap:Nat) (zs:Li) (w:World),Holds (Value.int .i64) w blk off zs.toArray→blk<w.heap.size→zs.length<4611686018427387904→Calls P f #[.slice (some ⟨blk,off,none⟩) zs.length cap] w fun e w'=>e=.returned (.tuple #[])∧∃n os,w'=Go.Sort.grow (putRow (Value.int .i64) (Go.Sort.ahead w n) blk off (srt zs).toArray) os)
  (hC0:∀(p:Option Addr) (cap:Nat) (w:World),Calls P f #[.slice p 0 cap] w fun e w'=>e=.returned (.tuple #[])∧w'=w)
  {σ:b6} {id:Id} {l:Li} (hσ:σ[id]? =some (some (vec 1 intI l))) (hl:l.length<4611686018427387904):
  FnOk P f [.c (.own id 0 l.length)] σ fun r σ'=>r=.tup []∧σ'.length=σ.length∧∀i:Id,σ'[i]? =(σ.put id (some (vec 1 intI (srt l))))[i]? :=by
 refine⟨hf,fun Γ vs hΓ hG hlen hrel=> ?_⟩
 subst hΓ
 match vs,hlen with
 |[u],_=>
 have hu:=D2 (hrel 0 _ u rfl rfl) hσ
 have tupR:∀{w φ σ A},RelT w φ σ A (.tup []) (.tuple #[]):=fun {w φ σ A}=>RelT.tup (ts:=[]) (fun _=>undef) fun i t h=>by simp at h
 rw[Y8] at hu
 have empty:∀(p:Option Addr) (cap:Nat),l=[]→Calls P f #[.slice p 0 cap] Γ.w0 fun e w'=>∃v r σ' φ',e=.returned v∧(r=.tup []∧σ'.length=Γ.σ0.length∧∀i:Id,σ'[i]? =(Γ.σ0.put id (some (vec 1 intI (srt l))))[i]?)∧RelT w' φ' σ' (Al Γ.N φ' σ') r v∧Rs Γ σ' φ' w':=fun p cap he=>by
  refine(hC0 p cap Γ.w0).mono ?_
  rintro e w' ⟨rfl,rfl⟩
  refine⟨_,.tup [],Γ.σ0,Γ.φ0,rfl,⟨rfl,rfl,fun i=> ?_⟩,tupR,Rs.refl hG⟩
  have:srt l=l:=by rw[he];simp[srt]
  rw[this]
  by_cases hi:i=id
  ·rw[hi,b6.get_put_eq hσ,hσ]
  ·rw[b6.get_put_ne hi]
 rcases hu with⟨_,hv,_,h0⟩|⟨b,base,cap,arr,ety,a,hp,hv,ha,hcap,hmax,hjn,hbk,hsz⟩
 ·have he:l=[]:=List.eq_nil_of_length_eq_zero (by omega)
  rw[hv]
  exact empty none 0 he
 ·rw[hv]
  by_cases hc0:0<cap
  ·have:=ha hc0
   subst this
   simp only[Nat.zero_mul,Nat.add_zero]
   have hR:=Rs.refl hG
   rcases hR.st.blk _ _ hσ with⟨h1,_⟩|⟨b',base',arr2,ety2,h1,h2,h3,h4,h5⟩
   ·rw[hp] at h1;cases h1
   ·rw[hp] at h1;cases h1
    rw[hbk] at h2;cases h2
    rw[Y8] at h3
    have hcell:∀(j:Nat) (x:Int),l[j]? =some x→arr[base+j]? =some (.int .i64 x):=fun j x hj=>int_cells h5 hj
    have hls:(srt l).length=l.length:=by simp[srt]
    refine(hC b base cap l Γ.w0 (holds_of hbk hcell) (Array.getElem?_eq_some_iff.1 hbk).1 hl).mono ?_
    rintro e w' ⟨rfl,n,os,rfl⟩
    have hW:=Rs.write (k:=1) (es':=((srt l).map intI).map (·.map C.imm)) (arr':=putCells (Value.int .i64) base (srt l).toArray arr) hR hσ hp hbk (by rw[Y8,Y8,hls]) aj9 (fun j e he=>vec_hk he) (by rw[Y8];omega)
     (vec_hc fun j x hj=>ax6 (by omega) hj)
    rw[putRow_ahead,aw0 hbk]
    refine⟨_,.tup [],_,Γ.φ0,rfl,⟨rfl,?_,fun i=>rfl⟩,tupR,(hW.2.ahead n).grow os⟩
    rw[b6.length_put]
  ·have he:l=[]:=List.eq_nil_of_length_eq_zero (by omega)
   have hl0:l.length=0:=by rw[he];rfl
   rw[hl0]
   exact empty (some a) cap he
theorem compact_len_le(l:Li):(Go.Lib.compact l).length≤l.length:=by
 unfold Go.Lib.compact Go.Lib.compactUpTo
 rw[List.length_map]
 exact Nat.le_trans (List.length_filter_le _ _) (by simp)
theorem compact_fn{P:Program}{f:FuncId}(hf:Y0 P f)
  (hC:∀(blk off cap:Nat) (zs:Li) (w:World),Holds (Value.int .i64) w blk off zs.toArray→zs.length≤9223372036854775807→zs.length≤cap→Calls P f #[.slice (some ⟨blk,off,none⟩) zs.length cap] w fun e w'=>e=.returned (.slice (some ⟨blk,off,none⟩) (Go.Lib.compact zs).length cap)∧∃q,w'=putRow (Value.int .i64) (Go.Sort.ahead w q) blk off (Go.Lib.compact zs++List.replicate (zs.length - (Go.Lib.compact zs).length) 0).toArray)
  (hC0:∀(a:Option Addr) (cap:Nat) (w:World),Calls P f #[.slice a 0 cap] w fun e w'=>e=.returned (.slice a 0 cap)∧w'=w)
  {σ:b6} {id:Id} {l:Li} (hσ:σ[id]? =some (some (vec 1 intI l))):
  FnOk P f [.c (.own id 0 l.length)] σ fun r σ'=>r=.c (.own (σ.length,[]) 0 (Go.Lib.compact l).length)∧σ'=σ.put id none++[.one (vec 1 intI (Go.Lib.compact l))]:=by
 refine⟨hf,fun Γ vs hΓ hG hlen hrel=> ?_⟩
 subst hΓ
 match vs,hlen with
 |[u],_=>
 have hu:=D2 (hrel 0 _ u rfl rfl) hσ
 rw[Y8] at hu
 have hR:=Rs.refl hG
 have hidl:=b6.lt_of hσ
 have cnil:Go.Lib.compact ([]:Li)=[]:=rfl
 have at_new:∀{m:Li},(Γ.σ0.put id none++[.one (vec 1 intI m)])[((Γ.σ0.length,[]):Id)]? =some (some (vec 1 intI m)):=fun {m}=>by
  rw[b6.get_right (by simp)];simp;rfl
 rcases hu with⟨hp,hv,_,h0⟩|⟨b,base,cap,arr,ety,a,hp,hv,ha,hcap,hmax,hjn,hbk,hsz⟩
 ·have he:l=[]:=List.eq_nil_of_length_eq_zero (by omega)
  subst he
  rw[hv]
  refine(hC0 none 0 Γ.w0).mono ?_
  rintro e w' ⟨rfl,rfl⟩
  have hK:=hR.kill id
  have hV:=hK.2.virt 1
  refine⟨_,_,_,fun i=>if i=(Γ.σ0.length,[]) then none else Γ.φ0 i,rfl,⟨rfl,rfl⟩,?_,?_⟩
  rotate_left
  ·have:=hV.2
   rw[b6.length_put] at this
   exact this
  ·refine .c (.own (by simp) rfl fun k es hes=>.inl ⟨?_,rfl,rfl,rfl⟩)
   simp
 ·rw[hv]
  rcases hR.st.blk _ _ hσ with⟨h1,_⟩|⟨b',base',arr2,ety2,h1,h2,h3,h4,h5⟩
  ·rw[hp] at h1;cases h1
  ·rw[hp] at h1;cases h1
   rw[hbk] at h2;cases h2
   rw[Y8] at h3
   have hcell:∀(j:Nat) (x:Int),l[j]? =some x→arr[base+j]? =some (.int .i64 x):=fun j x hj=>int_cells h5 hj
   have hle:=compact_len_le l
   by_cases hc0:0<cap
   ·have:=ha hc0
    subst this
    simp only[Nat.zero_mul,Nat.add_zero]
    have hmx:l.length≤9223372036854775807:=by simp only[maxLen] at hmax;omega
    refine(hC b base cap l Γ.w0 (holds_of hbk hcell) hmx hcap).mono ?_
    rintro e w' ⟨rfl,q,rfl⟩
    have hO:=Rs.reown (k:=1) (base':=base) (es':=((Go.Lib.compact l).map intI).map (·.map C.imm)) (arr':=putCells (Value.int .i64) base (Go.Lib.compact l++List.replicate (l.length - (Go.Lib.compact l).length) 0).toArray arr) hR hσ hp hbk (fun j e he=>vec_hk he) (by rw[Y8,aj9];omega)
     (vec_hc fun j x hj=>ax6 (by simp;omega) (by rw[List.getElem?_append_left (lG.1 hj).1];exact hj))
    rw[putRow_ahead,aw0 hbk]
    refine⟨_,_,_,_,rfl,⟨rfl,rfl⟩,?_,hO.2.ahead q⟩
    refine .c (.own (by simp) rfl fun k es hes=> ?_)
    rw[at_new] at hes
    cases hes
    refine .inr ⟨b,base,cap,_,ety,⟨b,base,none⟩,by simp,rfl,fun _=>by simp,by omega,hmax,by rw[Y8];omega,setRow_heap _ _ _ _ _ _ hbk,by rw[aj9];omega⟩
   ·have he:l=[]:=List.eq_nil_of_length_eq_zero (by omega)
    subst he
    refine(hC0 (some a) cap Γ.w0).mono ?_
    rintro e w' ⟨rfl,rfl⟩
    have hO:=Rs.reown (k:=1) (base':=base) (es':=[]) (arr':=arr) hR hσ hp hbk (fun j e he=>by simp at he) (by simp;omega) (fun j e o x he=>by simp at he)
    rw[setRow_self hbk] at hO
    refine⟨_,_,_,_,rfl,⟨rfl,rfl⟩,?_,hO.2⟩
    refine .c (.own (by simp) rfl fun k es hes=> ?_)
    rw[at_new] at hes
    cases hes
    exact .inr ⟨b,base,cap,arr,ety,a,by simp,rfl,fun h=>absurd h hc0,by omega,hmax,by simp[cnil],hbk,by omega⟩
end Ab
end
section
namespace Ab
open Go
def insB{α:Type}(lt:α→α→Bool)(x:α):List α→List α
 |[]=>[x]
 |y::r=>match lt y x with
  |true=>y::insB lt x r
  |false=>x::y::r
def srtB{α:Type}(lt:α→α→Bool):List α→List α
 |[]=>[]
 |x::r=>insB lt x (srtB lt r)
theorem insB_perm{α:Type}{lt:α→α→Bool}{x:α}:∀{l:List α},(insB lt x l).Perm (x::l)
 |[]=>.refl _
 |y::r=>by
  simp only[insB]
  split
  ·exact(insB_perm.cons y).trans (.swap x y r)
  ·exact .refl _
theorem srtB_perm{α:Type}{lt:α→α→Bool}:∀{l:List α},(srtB lt l).Perm l
 |[]=>.refl _
 |_::_=>insB_perm.trans (srtB_perm.cons _)
theorem insB_sorted{α:Type}{lt:α→α→Bool}(tr:∀a b c,lt b a=false→lt c b=false→lt c a=false)(ay:∀a b,lt a b=true→lt b a=false){x:α}:∀{l:List α},l.Pairwise (fun a b=>lt b a=false)→(insB lt x l).Pairwise fun a b=>lt b a=false
 |[],_=>by simp[insB]
 |y::r,h=>by
  obtain⟨h1,h2⟩:=List.pairwise_cons.1 h
  simp only[insB]
  split
  ·rename_i e
   refine List.pairwise_cons.2 ⟨fun z hz=> ?_,insB_sorted tr ay h2⟩
   rcases List.mem_cons.1 (insB_perm.mem_iff.1 hz) with rfl|hz
   ·exact ay _ _ e
   ·exact h1 z hz
  ·rename_i e
   refine List.pairwise_cons.2 ⟨fun z hz=> ?_,h⟩
   rcases List.mem_cons.1 hz with rfl|hz
   ·exact e
   ·exact tr _ _ _ e (h1 z hz)
theorem srtB_sorted{α:Type}{lt:α→α→Bool}(tr:∀a b c,lt b a=false→lt c b=false→lt c a=false)(ay:∀a b,lt a b=true→lt b a=false):∀{l:List α},(srtB lt l).Pairwise fun a b=>lt b a=false
 |[]=>.nil
 |_::_=>insB_sorted tr ay (srtB_sorted tr ay)
theorem srtB_eq{α:Type}{lt:α→α→Bool}(tr:∀a b c,lt b a=false→lt c b=false→lt c a=false)(ay:∀a b,lt a b=true→lt b a=false)(an:∀a b,lt a b=false→lt b a=false→a=b){l m:List α}(hm:m.Perm l)(hs:m.Pairwise fun a b=>lt b a=false):srtB lt l=m:=
 List.Perm.eq_of_pairwise (le:=fun a b=>lt b a=false) (fun a b _ _ h g=>an a b g h) (srtB_sorted tr ay) hs (srtB_perm.trans hm.symm)
def srtI(l:Li):Li:=srtB (fun a b=>decide (a<b)) l
theorem srtI_eq(l:Li):srtI l=srt l:=by
 refine srtB_eq (fun a b c h1 h2=> ?_) (fun a b h=> ?_) (fun a b h1 h2=> ?_) (List.mergeSort_perm ..) ?_
 ·simp only[decide_eq_false_iff_not] at h1 h2 ⊢;omega
 ·simp only[decide_eq_true_eq,decide_eq_false_iff_not] at h ⊢;omega
 ·simp only[decide_eq_false_iff_not] at h1 h2;omega
 ·have:=List.pairwise_mergeSort (le:=fun x y:Int=>decide (x≤y)) (fun a b c h1 h2=>by simp at h1 h2 ⊢;omega) (fun a b=>by simp;omega) l
  refine this.imp fun h=> ?_
  simp only[decide_eq_true_eq,decide_eq_false_iff_not] at h ⊢;omega
def sortL(l:Li):Option Li:=if l.length<4611686018427387904 then some (srtI l) else none
theorem sortL_srt(l:Li):sortL l=if l.length<4611686018427387904 then some (srt l) else none:=by rw[sortL,srtI_eq]
def ac8(l:Li):Li:=Go.Lib.compact l
theorem sortL_len{l l':Li}(h:sortL l=some l'):l.length=l'.length:=by
 rw[sortL_srt] at h
 split at h
 ·cases h;simp[srt]
 ·cases h
def SortOk(P:Program)(f:FuncId):Prop:=∀{σ:b6} {id:Id} {l:Li},σ[id]? =some (some (vec 1 intI l))→l.length<4611686018427387904→
  FnOk P f [.c (.own id 0 l.length)] σ fun r σ'=>r=.tup []∧σ'.length=σ.length∧∀i:Id,σ'[i]? =(σ.put id (some (vec 1 intI (srt l))))[i]?
def CompactOk(P:Program)(f:FuncId):Prop:=∀{σ:b6} {id:Id} {l:Li},σ[id]? =some (some (vec 1 intI l))→
  FnOk P f [.c (.own id 0 l.length)] σ fun r σ'=>r=.c (.own (σ.length,[]) 0 (Go.Lib.compact l).length)∧σ'=σ.put id none++[.one (vec 1 intI (Go.Lib.compact l))]
section
variable {P:Program}{σ0:b6}{sz:Nat}{Q:Post}{env:Env}{σv σ':b6}{ops:Array Oper}{rest:List Oper}{dst:Option Nat}{ty:Ti}{pos:String}{after:Array Edge}
theorem S.sort{x:Od}{al:List Od}{ats:Array Ti}{f:FuncId}{id:Id}{n:Nat}{l l':Li}(hs:sortL l=some l')(hf:SortOk P f)(hx:ev env x=some (.c (.fn f [])))(ha:evs env al=some [.c (.own id 0 n)])(hn:n=l.length)(hσ:σv[id]? =some (some (vec 1 intI l)))
  (hd:g8 sz dst=true) (hσ':putF σv id (some (vec 1 intI l'))=some σ') (h:AOps P σ0 sz ops Q rest (St.mk (putE env dst (.tup [])) σ')):
  AOps P σ0 sz ops Q (⟨dst,.call ⟨.value x,al.toArray,ats⟩,ty,pos,after,none⟩::rest) (St.mk env σv):=by
 have h2:=C7 hσ'
 subst h2 hn
 rw[sortL_srt] at hs
 split at hs
 ·cases hs
  refine AOps.callS hx ha hd (hf hσ ‹_›) ?_
  rintro r σ2 ⟨rfl,hl,he⟩
  refine AOps.sub (s':=⟨putE env dst (.tup []),σv.put id (some (vec 1 intI (srt l)))⟩) ?_ h
  have:=Sub.same (σ0:=σ0) (env:=putE env dst (.tup [])) (σ1:=σ2) (σ2:=σv.put id (some (vec 1 intI (srt l)))) (by rw[b6.length_put,hl]) he
  cases dst<;>exact this
 ·cases hs
theorem S.compact{x:Od}{al:List Od}{ats:Array Ti}{f:FuncId}{id n':Id}{n:Nat}{l:Li}{σ1:b6}(hf:CompactOk P f)(hx:ev env x=some (.c (.fn f [])))(ha:evs env al=some [.c (.own id 0 n)])(hn:n=l.length)(hσ:σv[id]? =some (some (vec 1 intI l)))
  (hd:g8 sz dst=true) (hid:newF σv=some n') (h1:putF σv id none=some σ1) (hσ':r9 σ1 (.one (vec 1 intI (ac8 l)))=some σ') (h:AOps P σ0 sz ops Q rest (St.mk (putE env dst (.c (.own n' 0 (ac8 l).length))) σ')):
  AOps P σ0 sz ops Q (⟨dst,.call ⟨.value x,al.toArray,ats⟩,ty,pos,after,none⟩::rest) (St.mk env σv):=by
 have h2:=C7 h1
 have h3:=A5 hid;have h4:=p7 hσ'
 subst hn h2 h3 h4
 refine AOps.callS hx ha hd (hf hσ) ?_
 rintro r σ2 ⟨rfl,rfl⟩
 cases dst<;>exact h
end
end Ab
end
section
namespace Ab
open Go Go.Sort
theorem putCellsG_size{α:Type}[Inhabited α]{enc:α→Vl}{off:Nat}{d:Array α}{arr:Array Vl}:(putCells enc off d arr).size=arr.size:=by simp[putCells]
theorem putCellsG_get{α:Type}[Inhabited α]{enc:α→Vl}{off:Nat}{d:List α}{arr:Array Vl}(h:off+d.length≤arr.size){j:Nat}{x:α}(hj:d[j]? =some x):(putCells enc off d.toArray arr)[off+j]? =some (enc x):=by
 have hjl:=(lG.1 hj).1
 have hx:=(lG.1 hj).2
 simp only[putCells,Array.getElem?_mapIdx]
 rw[Array.getElem?_eq_getElem (by omega)]
 simp only[Option.map_some,List.size_toArray]
 rw[if_pos (by omega)]
 simp[hjl,hx]
theorem putRowG_setRow{α:Type}[Inhabited α]{enc:α→Vl}{w:World}{b off:Nat}{arr:Array Vl}{ety:Ti}{fr:Nat×Nat}{d:Array α}(hb:w.heap[b]? =some (.cells arr ety fr)):
  putRow enc w b off d=w.setRow b (putCells enc off d arr):=by
 unfold putRow mapBlock World.setRow
 congr 1
 apply Array.ext_getElem?
 intro k
 simp only[Array.getElem?_modify]
 by_cases hk:b=k
 ·subst hk;simp only[if_true,hb,Option.map_some,onCells]
 ·simp[hk]
theorem putRowG_ahead{α:Type}[Inhabited α](enc:α→Vl)(w:World)(n b off:Nat)(d:Array α):putRow enc (Go.Sort.ahead w n) b off d=Go.Sort.ahead (putRow enc w b off d) n:=rfl
theorem putRow_other{α:Type}[Inhabited α](enc:α→Vl)(w:World)(b off:Nat)(d:Array α){k:Nat}(hk:k ≠ b):(putRow enc w b off d).heap[k]? =w.heap[k]? :=by
 unfold putRow mapBlock
 simp only[Array.getElem?_modify]
 rw[if_neg (fun e=>hk e.symm)]
theorem putRow_size{α:Type}[Inhabited α](enc:α→Vl)(w:World)(b off:Nat)(d:Array α):(putRow enc w b off d).heap.size=w.heap.size:=by simp[putRow,mapBlock]
theorem grow_of{W W':World}(h1:W'.os=W.os)(h2:W'.tape=W.tape)(h3:W.drawn≤W'.drawn)(h4:W'.output=W.output)(h5:W.heap.size≤W'.heap.size)(h6:∀k,k<W.heap.size→W'.heap[k]? =W.heap[k]?):∃q os,W'=Go.Sort.grow (W.drewN q) os:=by
 refine⟨W'.drawn - W.drawn,W'.heap.extract W.heap.size W'.heap.size,?_⟩
 have hh:W'.heap=W.heap++W'.heap.extract W.heap.size W'.heap.size:=by
  apply Array.ext_getElem?
  intro k
  rw[Array.getElem?_append]
  split
  ·exact h6 k ‹_›
  ·rw[Array.getElem?_extract]
   split
   ·congr 1;omega
   ·rw[Array.getElem?_eq_none (by omega)]
 obtain⟨heap,tape,drawn,os,output⟩:=W
 obtain⟨heap',tape',drawn',os',output'⟩:=W'
 dsimp only at h1 h2 h3 h4 hh
 subst h1 h2 h4
 unfold Go.Sort.grow World.drewN
 dsimp only
 rw[← hh]
 congr 1
 omega
section
variable {α:Type}
abbrev Shw(w:World)(A:Nat→Prop)(g0:α→I):={x:Vl×α // RelI w A (g0 x.2) x.1}
theorem perm_unique{le:α→α→Bool}(hanti:∀a b,le a b=true→le b a=true→a=b):∀{l m:List α},l.Pairwise (fun a b=>le a b=true)→m.Pairwise (fun a b=>le a b=true)→l.Perm m→l=m
 |[],m,_,_,hp=>(List.nil_perm.1 hp).symm
 |a::l,[],_,_,hp=>absurd hp.length_eq (by simp)
 |a::l,b::m,hl,hm,hp=>by
  obtain⟨l1,l2⟩:=List.pairwise_cons.1 hl
  obtain⟨m1,m2⟩:=List.pairwise_cons.1 hm
  have hab:a=b:=by
   rcases List.mem_cons.1 (hp.subset (List.mem_cons_self ..)) with e|e
   ·exact e
   ·rcases List.mem_cons.1 (hp.symm.subset (List.mem_cons_self ..)) with e'|e'
    ·exact e'.symm
    ·exact hanti a b (l1 b e') (m1 a e)
  subst hab
  rw[perm_unique hanti l2 m2 ((List.perm_cons a).1 hp)]
theorem sortF_fn{P:Program}{f g:FuncId}(hf:Y0 P f)(hgn:Y0 P g){g0:α→I}{cf:α→α→Int}(hO:SWO (Go.Proofs.ltOf cf))(hT:∀a b,¬ cf a b<0→¬ cf b a<0→a=b)
  (hg:∀a b,e8 P g [.c (.imm (g0 a)),.c (.imm (g0 b))] (.c (int (cf a b))))
  (hC:∀(β:Type) [Inhabited β] (enc:β→Vl),Go.Proofs.OneCell enc→∀(cf:β→β→Int),SWO (Go.Proofs.ltOf cf)→∀(g:Nat) (cb:Array Vl) (blk off cap:Nat) (d:Array β) (w:World),(∀args w,(callFunc g args).run P w=.ok (.enter g args) w)→Go.Proofs.CmpLays1 P g cb enc cf blk off d.size w→Holds enc w blk off d→blk<w.heap.size→d.size<4611686018427387904→
   Calls P f #[.slice (some ⟨blk,off,none⟩) d.size cap,.func (.func g) #[] cb] w fun e w'=>e=.returned (.tuple #[])∧∃d' n os,PermIn 0 d.size d d'∧SortedIn (Go.Proofs.ltOf cf) 0 d.size d'∧w'=Go.Proofs.sortWorld enc w blk off n d' os)
  (hC0:∀(p:Option Addr) (cap:Nat) (fv:Vl) (w:World),Calls P f #[.slice p 0 cap,fv] w fun e w'=>e=.returned (.tuple #[])∧w'=w)
  {σ:b6} {id:Id} {l:List α} (hσ:σ[id]? =some (some (vec 1 (fun a=>[g0 a]) l))) (hl:l.length<4611686018427387904):
  FnOk P f [.c (.own id 0 l.length),.c (.fn g [])] σ fun r σ'=>r=.tup []∧σ'.length=σ.length∧∀i:Id,σ'[i]? =(σ.put id (some (vec 1 (fun a=>[g0 a]) (l.mergeSort fun x y=>decide (¬ cf y x<0)))))[i]? :=by
 refine⟨hf,fun Γ vs hΓ hG hlen hrel=> ?_⟩
 subst hΓ
 match vs,hlen with
 |[u,fv],_=>
 have hu:=D2 (hrel 0 _ u rfl rfl) hσ
 have hfv:fv=.func (.func g) #[] #[]:=by
  have h:=hrel 1 _ fv rfl rfl
  cases h with|c h=>cases h with|fn us hr=>rfl
 subst hfv
 have tupR:∀{w φ σ A},RelT w φ σ A (.tup []) (.tuple #[]):=fun {w φ σ A}=>RelT.tup (ts:=[]) (fun _=>undef) fun i t h=>by simp at h
 have vlen:∀{m:List α},((m.map fun a=>[g0 a]).map (·.map C.imm)).length=m.length:=by simp
 rw[vlen] at hu
 have empty:∀(p:Option Addr) (cap:Nat),l=[]→Calls P f #[.slice p 0 cap,.func (.func g) #[] #[]] Γ.w0 fun e w'=>∃v r σ' φ',e=.returned v∧(r=.tup []∧σ'.length=Γ.σ0.length∧∀i:Id,σ'[i]? =(Γ.σ0.put id (some (vec 1 (fun a=>[g0 a]) (l.mergeSort fun x y=>decide (¬ cf y x<0)))))[i]?)∧RelT w' φ' σ' (Al Γ.N φ' σ') r v∧Rs Γ σ' φ' w':=fun p cap he=>by
  refine(hC0 p cap _ Γ.w0).mono ?_
  rintro e w' ⟨rfl,rfl⟩
  refine⟨_,.tup [],Γ.σ0,Γ.φ0,rfl,⟨rfl,rfl,fun i=> ?_⟩,tupR,Rs.refl hG⟩
  have:(l.mergeSort fun x y=>decide (¬ cf y x<0))=l:=by rw[he];simp
  rw[this]
  by_cases hi:i=id
  ·rw[hi,b6.get_put_eq hσ,hσ]
  ·rw[b6.get_put_ne hi]
 rcases hu with⟨_,hv,_,h0⟩|⟨b,base,cap,arr,ety,a,hp,hv,ha,hcap,hmax,hjn,hbk,hsz⟩
 ·have he:l=[]:=List.eq_nil_of_length_eq_zero (by omega)
  rw[hv]
  exact empty none 0 he
 ·rw[hv]
  by_cases hc0:0<cap
  ·have:=ha hc0
   subst this
   simp only[Nat.zero_mul,Nat.add_zero]
   have hR:=Rs.refl hG
   rcases hR.st.blk _ _ hσ with⟨h1,_⟩|⟨b',base',arr2,ety2,h1,h2,h3,h4,h5⟩
   ·rw[hp] at h1;cases h1
   ·rw[hp] at h1;cases h1
    rw[hbk] at h2;cases h2
    rw[vlen] at h3
    have hblk:=(Array.getElem?_eq_some_iff.1 hbk).1
    have hAne:∀k,Al Γ.N Γ.φ0 Γ.σ0 k→k ≠ b:=fun k hk e=>by subst e;exact hk.2 id _ base hσ hp
    -- the elements
    obtain⟨ds,d1,d2⟩:=ex_list (p:=fun j (x:Shw Γ.w0 (Al Γ.N Γ.φ0 Γ.σ0) g0)=>arr[base+j]? =some x.1.1∧l[j]? =some x.1.2) l.length fun j hj=>by
     obtain⟨u,hu1,hu2⟩:=h5 j _ 0 (.imm (g0 l[j])) (by simp[hj];rfl) rfl
     cases hu2 with|imm hu2=>exact⟨⟨(u,l[j]),hu2⟩,by simpa using hu1,by simp[hj]⟩
    have dl:ds.map (fun x=>x.1.2)=l:=by
     refine List.ext_getElem? fun j=> ?_
     rw[lM]
     by_cases hj:j<l.length
     ·obtain⟨x,hx⟩:∃x,ds[j]? =some x:=⟨ds[j],by simp[d1,hj]⟩
      rw[hx,(d2 j x hx).2];rfl
     ·rw[List.getElem?_eq_none (by omega),List.getElem?_eq_none (by omega)];rfl
    by_cases hl0:l=[]
    ·have hl1:l.length=0:=by rw[hl0];rfl
     rw[hl1]
     exact empty _ cap hl0
    ·obtain⟨x0,hx0⟩:∃x,ds[0]? =some x:=by
      have:0<ds.length:=by rw[d1];exact List.length_pos_iff.2 hl0
      exact⟨ds[0],by simp[this]⟩
     letI:Inhabited (Shw Γ.w0 (Al Γ.N Γ.φ0 Γ.σ0) g0):=⟨x0⟩
     have hH:Holds (fun x:Shw Γ.w0 (Al Γ.N Γ.φ0 Γ.σ0) g0=>x.1.1) Γ.w0 b base ds.toArray:=by
      intro j hj
      have hjl:j<ds.length:=by simpa using hj
      refine⟨?_,by simp[World.frozen?,hbk]⟩
      rw[World.cell?]
      simp only[hbk]
      rw[(d2 j ds[j] (by simp[hjl])).1]
      simp[hjl]
     have hcmp:Go.Proofs.CmpLays1 P g #[] (fun x:Shw Γ.w0 (Al Γ.N Γ.φ0 Γ.σ0) g0=>x.1.1) (fun x y=>cf x.1.2 y.1.2) b base ds.toArray.size Γ.w0:=by
      intro m os dk hdk x y
      have hW:∀k,Al Γ.N Γ.φ0 Γ.σ0 k→k<Γ.w0.heap.size→(Go.Proofs.sortWorld (fun x:Shw Γ.w0 (Al Γ.N Γ.φ0 Γ.σ0) g0=>x.1.1) Γ.w0 b base m dk os).heap[k]? =Γ.w0.heap[k]? :=fun k hk hlt=>by
       unfold Go.Proofs.sortWorld
       rw[heap_grow_old _ os (by rw[putRow_size];exact hlt),putRow_other _ _ _ _ _ (hAne k hk)];rfl
      have gd:∀W:World,Good ⟨W,fun _=>False,fun _=>none,[]⟩:=fun W=>⟨⟨fun i b h=>by simp at h,fun i j bi bj p q h=>by simp at h⟩,fun b h=>h.elim,fun i blk b base h=>by simp at h⟩
      have rel:∀z:Shw Γ.w0 (Al Γ.N Γ.φ0 Γ.σ0) g0,RelT (Go.Proofs.sortWorld (fun x:Shw Γ.w0 (Al Γ.N Γ.φ0 Γ.σ0) g0=>x.1.1) Γ.w0 b base m dk os) (fun _=>none) [] (Al (fun _=>False) (fun _=>none) []) (.c (.imm (g0 z.1.2))) z.1.1:=fun z=>
       .c (.imm (z.2.mono hW fun k _ _=>⟨_root_.id,fun i blk base h=>by simp at h⟩))
      refine((hg x.1.2 y.1.2).run ⟨Go.Proofs.sortWorld (fun x:Shw Γ.w0 (Al Γ.N Γ.φ0 Γ.σ0) g0=>x.1.1) Γ.w0 b base m dk os,fun _=>False,fun _=>none,[]⟩ [x.1.1,y.1.1] rfl (gd _) rfl (fun i t v hi hv=> ?_)).mono ?_
      ·match i with
       |0=>cases hi;cases hv;exact rel x
       |1=>cases hi;cases hv;exact rel y
       |i+2=>simp at hi
      ·rintro e w' ⟨v,r,σ',φ',rfl,rfl,hr,hs⟩
       refine⟨?_,grow_of hs.os hs.tape hs.drawn hs.output hs.size fun k hk=>hs.block k ⟨hk,fun i blk base h=>by simp at h⟩⟩
       cases hr with|c hr=>cases hr with|imm hr=>cases hr with|val=>rfl
     obtain⟨gf,gf1,gf2,gf3⟩:=hgn
     have hszd:ds.toArray.size=l.length:=by simp[d1]
     have key:=hC _ (fun x:Shw Γ.w0 (Al Γ.N Γ.φ0 Γ.σ0) g0=>x.1.1) (fun x=>x.2.one) (fun x y=>cf x.1.2 y.1.2) ⟨fun x=>hO.irrefl x.1.2,fun x y z=>hO.trans x.1.2 y.1.2 z.1.2,fun x y z=>hO.ntrans x.1.2 y.1.2 z.1.2⟩ g #[] b base cap ds.toArray Γ.w0 (fun args w=>by
      have h2':¬ gf.name= "runtime.NumGoroutine" :=by simpa using gf2
      have h3':¬ gf.body=none:=fun e=>by rw[e] at gf3;cases gf3
      simp[callFunc,gf1,h2',h3']) hcmp hH hblk (by rw[hszd];exact hl)
     rw[hszd] at key
     refine key.mono ?_
     rintro e w' ⟨rfl,d',n,os,hperm,hsort,rfl⟩
     obtain⟨p1,_,p3⟩:=hperm
     have dsz:d'.size=l.length:=by rw[p1];simp[d1]
     have e1:d'.toList.Perm ds:=by
      have a1:d'.extract 0 l.length=d':=by rw[← dsz];simp
      have a2:ds.toArray.extract 0 l.length=ds.toArray:=by rw[← hszd];simp
      rw[a1,a2] at p3
      simpa using p3
     have e2:(d'.toList.map fun x=>x.1.2)=l.mergeSort fun x y=>decide (¬ cf y x<0):=by
      refine perm_unique (le:=fun x y=>decide (¬ cf y x<0)) (fun a b h1 h2=> ?_) ?_ ?_ ?_
      ·simp only[decide_eq_true_eq] at h1 h2
       exact hT a b h2 h1
      ·rw[List.pairwise_map,List.pairwise_iff_getElem]
       intro i j hi hj hij
       have hj':j<d'.size:=by simpa using hj
       have:=hsort i j (by omega) hij (by rw[← dsz];exact hj')
       rw[getElem!_pos d' j hj',getElem!_pos d' i (by omega)] at this
       simpa[Go.Proofs.ltOf] using this
      ·refine List.pairwise_mergeSort (fun a b c h1 h2=> ?_) (fun a b=> ?_) l
       ·simp only[decide_eq_true_eq] at h1 h2 ⊢
        have:=hO.ntrans c b a (by simpa[Go.Proofs.ltOf] using h2) (by simpa[Go.Proofs.ltOf] using h1)
        simpa[Go.Proofs.ltOf] using this
       ·simp only[Bool.or_eq_true,decide_eq_true_eq]
        rcases Int.lt_or_le (cf b a) 0 with h|h
        ·right
         intro h'
         have:=hO.trans a b a (by simpa[Go.Proofs.ltOf] using h') (by simpa[Go.Proofs.ltOf] using h)
         rw[hO.irrefl] at this;cases this
        ·left;omega
      ·exact((e1.map _).trans (by rw[dl])).trans (List.mergeSort_perm ..).symm
     rw[← e2]
     have hW:=Rs.write (k:=1) (es':=((d'.toList.map fun x=>x.1.2).map fun a=>[g0 a]).map (·.map C.imm)) (arr':=putCells (fun x:Shw Γ.w0 (Al Γ.N Γ.φ0 Γ.σ0) g0=>x.1.1) base d' arr) hR hσ hp hbk (by rw[vlen,vlen];simp[dsz]) putCellsG_size (fun j e he=>by
       simp only[List.map_map,lM,oM] at he
       obtain⟨a,_,rfl⟩:=he;rfl) (by rw[vlen];omega) (fun j e o x he hx=>by
       simp only[List.map_map,lM,oM] at he
       obtain⟨z,hz,rfl⟩:=he
       match o with
       |0=>
        cases hx
        have:=putCellsG_get (enc:=fun x:Shw Γ.w0 (Al Γ.N Γ.φ0 Γ.σ0) g0=>x.1.1) (off:=base) (d:=d'.toList) (arr:=arr) (by simp[dsz];omega) hz
        exact⟨_,by simpa using this,.imm z.2⟩
       |o+1=>simp at hx)
     unfold Go.Proofs.sortWorld
     rw[putRowG_ahead,putRowG_setRow hbk]
     refine⟨_,.tup [],_,Γ.φ0,rfl,⟨rfl,?_,fun i=>rfl⟩,tupR,(hW.2.ahead n).grow os⟩
     rw[b6.length_put]
  ·have he:l=[]:=List.eq_nil_of_length_eq_zero (by omega)
   have hl0:l.length=0:=by rw[he];rfl
   rw[hl0]
   exact empty (some a) cap he
end
end Ab
end
section
namespace Ab
open Go
def vw{α:Type}(l:List α)(off len:Int):Option Unit:=if 0≤off∧0≤len∧off+len≤l.length then some () else none
def cutV(len lo hi:Int):Option Unit:=if 0≤lo∧lo≤hi∧hi≤len then some () else none
def ixV{α:Type}(l:List α)(off len i:Int):Option α:=if 0≤off∧0≤i∧i<len∧off+len≤l.length then ix l (off+i) else none
def r8{α:Type}(l:List α)(off len:Int):List α:=(l.drop off.toNat).take len.toNat
def clrL{α:Type}(l:List α)(off len:Int)(z:α):List α:=l.take off.toNat++List.replicate len.toNat z++l.drop (off.toNat+len.toNat)
theorem X2{α:Type}{l:List α}{off len:Int}{u:Unit}(h:vw l off len=some u):0≤off∧0≤len∧off+len≤l.length:=by
 unfold vw at h
 split at h
 ·assumption
 ·cases h
theorem an3{len lo hi:Int}{u:Unit}(h:cutV len lo hi=some u):0≤lo∧lo≤hi∧hi≤len:=by
 unfold cutV at h
 split at h
 ·assumption
 ·cases h
theorem ixV_get{α:Type}{l:List α}{off len i:Int}{a:α}(h:ixV l off len i=some a):(0≤off∧0≤i∧i<len∧off+len≤l.length)∧ix l (off+i)=some a:=by
 unfold ixV at h
 split at h
 ·exact⟨‹_›,h⟩
 ·cases h
theorem ixV_ix{α:Type}{l:List α}{off len i:Int}{a:α}(h:ixV l off len i=some a):ix l (off+i)=some a:=(ixV_get h).2
theorem viewL_len{α:Type}{l:List α}{off len:Int}{u:Unit}(h:vw l off len=some u):(r8 l off len).length=len.toNat:=by
 have:=X2 h
 simp[r8];omega
section
variable {α:Type}{f:α→List I}{l:List α}{P:Program}{σ0:b6}{sz:Nat}{Q:Post}{env env':Env}{σv σ':b6}{ops:Array Oper}{rest:List Oper}{dst:Option Nat}{ty:Ti}{pos:String}{after:Array Edge}{id:Id}{k:Nat}
theorem S.lenV{x:Od}{t e:Ti}{n:Int}{j:Nat}[ht:TyD P t (.slice e)](hn:0≤n)(hx:ev env x=some (.c (.own id j n.toNat)))(hσ:σv[id]? =some (some (vec k f l)))(hd:g8 sz dst=true)
  (h:n≤9223372036854775807→AOps P σ0 sz ops Q rest (St.mk (putE env dst (.c (int n))) σv)):AOps P σ0 sz ops Q (⟨dst,.call ⟨.builtin .len,#[x],#[t]⟩,ty,pos,after,none⟩::rest) (St.mk env σv):=
 AOps.lenOwnB hx hσ hd fun hb=>by
  have e1:((n.toNat:Nat):Int)=n:=by omega
  rw[e1]
  exact h (by omega)
theorem S.idxV{x y:Od}{t e:Ti}{bytes:Nat}{z:Vl}{kk:IntKind}{off len i:Int}{a:α}[ht:TyD P t (.slice e)][hs:TyS P e k bytes z]
  (he:ixV l off len i=some a) (hx:ev env x=some (.c (.own id off.toNat len.toNat))) (hσ:σv[id]? =some (some (vec k f l))) (hy:ev env y=some (.c (.imm (.val (.int kk i))))) (hd:g8 sz dst=true)
  (h:AOps P σ0 sz ops Q rest (St.mk (putE env dst (.c (.ptr id (off+i).toNat 0))) σv)):AOps P σ0 sz ops Q (⟨dst,.indexAddr t x y,ty,pos,after,none⟩::rest) (St.mk env σv):=by
 obtain⟨⟨h1,h2,h3,h4⟩,_⟩:=ixV_get he
 refine .indexAddrOwn hx hσ hy (by omega) hd ?_
 rw[show off.toNat+i.toNat=(off+i).toNat by omega]
 exact h
theorem S.vFrom{x y:Od}{t e:Ti}{bytes:Nat}{z:Vl}{kk:IntKind}{off len lo:Int}{j n:Nat}{u u':Unit}[ht:TyD P t (.slice e)][hs:TyS P e k bytes z]
  (hv:vw l off len=some u) (hc:cutV len lo len=some u') (hx:ev env x=some (.c (.own id j n))) (hj:j=off.toNat) (hn:n=len.toNat) (hσ:σv[id]? =some (some (vec k f l))) (hy:ev env y=some (.c (.imm (.val (.int kk lo))))) (hd:g8 sz dst=true)
  (h:AOps P σ0 sz ops Q rest (St.mk (putE env dst (.c (.own id (off+lo).toNat (len - lo).toNat))) σv)):AOps P σ0 sz ops Q (⟨dst,.slice t x (some y) none none,ty,pos,after,none⟩::rest) (St.mk env σv):=by
 have h1:=X2 hv;have h2:=an3 hc
 subst hj hn
 have e1:lo=((lo.toNat:Nat):Int):=by omega
 rw[e1] at hy
 refine AOps.sliceOwnFrom hx hσ hy (by omega) hd ?_
 rw[show off.toNat+lo.toNat=(off+lo).toNat by omega,show len.toNat - lo.toNat=(len - lo).toNat by omega]
 exact h
theorem S.vTo{x y:Od}{t e:Ti}{bytes:Nat}{z:Vl}{kk:IntKind}{off len hi:Int}{j n:Nat}{u u':Unit}[ht:TyD P t (.slice e)][hs:TyS P e k bytes z]
  (hv:vw l off len=some u) (hc:cutV len 0 hi=some u') (hx:ev env x=some (.c (.own id j n))) (hj:j=off.toNat) (hn:n=len.toNat) (hσ:σv[id]? =some (some (vec k f l))) (hy:ev env y=some (.c (.imm (.val (.int kk hi))))) (hd:g8 sz dst=true)
  (h:AOps P σ0 sz ops Q rest (St.mk (putE env dst (.c (.own id off.toNat hi.toNat))) σv)):AOps P σ0 sz ops Q (⟨dst,.slice t x none (some y) none,ty,pos,after,none⟩::rest) (St.mk env σv):=by
 have h1:=X2 hv;have h2:=an3 hc
 subst hj hn
 have e1:hi=((hi.toNat:Nat):Int):=by omega
 rw[e1] at hy
 exact AOps.sliceOwnTo hx hσ hy (by omega) hd h
theorem S.v3{x y y':Od}{t e:Ti}{bytes:Nat}{z:Vl}{kk kk':IntKind}{off len lo hi:Int}{j n:Nat}{u u':Unit}[ht:TyD P t (.slice e)][hs:TyS P e k bytes z]
  (hv:vw l off len=some u) (hc:cutV len lo hi=some u') (hx:ev env x=some (.c (.own id j n))) (hj:j=off.toNat) (hn:n=len.toNat) (hσ:σv[id]? =some (some (vec k f l))) (hy:ev env y=some (.c (.imm (.val (.int kk lo))))) (hy':ev env y'=some (.c (.imm (.val (.int kk' hi))))) (hd:g8 sz dst=true)
  (h:AOps P σ0 sz ops Q rest (St.mk (putE env dst (.c (.own id (off+lo).toNat (hi - lo).toNat))) σv)):AOps P σ0 sz ops Q (⟨dst,.slice t x (some y) (some y') none,ty,pos,after,none⟩::rest) (St.mk env σv):=by
 have h1:=X2 hv;have h2:=an3 hc
 subst hj hn
 refine AOps.sliceOwn hx hσ hy hy' (by omega) hd ?_
 rw[show off.toNat+lo.toNat=(off+lo).toNat by omega,show hi.toNat - lo.toNat=(hi - lo).toNat by omega]
 exact h
def ReE(env:Env)(t:Nat)(c':C):Env→Prop
 |[]=>True
 |(t',v)::r=>(t'=t∧v=.c c'∨lookup t' env=some v)∧ReE env t c' r
theorem ReE.get{t:Nat}{c':C}:∀{env':Env},ReE env t c' env'→∀t' v,lookup t' env'=some v→t'=t∧v=.c c'∨lookup t' env=some v
 |[],_,t,v,h=>by simp[lookup] at h
 |(k,x)::r,⟨h1,h2⟩,t',v,h=>by
  simp only[lookup] at h
  split at h
  ·cases h
   rename_i e
   have:k=t':=by simpa using e
   subst this
   exact h1
  ·exact ReE.get h2 t' v h
theorem Sub.reown{off len:Int}{j n:Nat}{n':Id}{σ1:b6}{u:Unit}(t:Nat)(hv:vw l off len=some u)(hx:lookup t env=some (.c (.own id j n)))(hj:j=off.toNat)(hn:n=len.toNat)(hσ:σv[id]? =some (some (vec k f l)))(h0:Nat.ble σ0.length id.1=true)(hid:newF σv=some n')
  (h1:putF σv id none=some σ1) (hσ':r9 σ1 (.one (vec k f (r8 l off len)))=some σ') (henv:ReE env t (.own n' 0 (r8 l off len).length) env'):Sub σ0 ⟨env,σv⟩ ⟨env',σ'⟩:=fun Γ sz φ a w hΓ hR=>by
 have h2:=C7 h1
 have h3:=A5 hid;have h4:=p7 hσ'
 have hvl:=viewL_len hv
 have hvg:=X2 hv
 subst hj hn h2 h3 h4
 have hidl:=b6.lt_of hσ
 have at_new:(σv.put id none++[.one (vec k f (r8 l off len))])[((σv.length,[]):Id)]? =some (some (vec k f (r8 l off len))):=by
  rw[b6.get_right (by simp)];simp;rfl
 obtain⟨u0,hu0,hrel⟩:=hR.env t _ hx
 have ho:=D2 hrel hσ
 have fin:∀(φ':Phi) (hk:Kept w w φ φ' σv (σv.put id none++[.one (vec k f (r8 l off len))]) (Al Γ.N φ σv) (Al Γ.N φ' (σv.put id none++[.one (vec k f (r8 l off len))]))) (hs:Rs Γ (σv.put id none++[.one (vec k f (r8 l off len))]) φ' w) (hview:U5 w (φ' (σv.length,[])) k (r8 l off len).length 0 (r8 l off len).length u0),
   R Γ sz ⟨env',σv.put id none++[.one (vec k f (r8 l off len))]⟩ φ' a w:=fun φ' hk hs hview=>by
  have hR1:=hR.of hk hs
  refine {toRs:=hs,defers:=hR1.defers,asize:=hR.asize,env:=fun t' v' ht'=> ?_}
  rcases henv.get t' v' ht' with⟨rfl,rfl⟩|h
  ·refine⟨u0,hu0,.c (.own (by simp) (by cases hrel with|c g2=>exact g2.one) fun k' es' he=> ?_)⟩
   rw[at_new] at he
   cases he
   simpa using hview
  ·obtain⟨u1,g1,g2⟩:=hR1.env t' v' h
   exact⟨u1,g1,g2⟩
 rcases ho with⟨p1,p2,p3,p4⟩|⟨b,base,cap,arr,ety,ad,hp,hvv,had,hcap,hmax,hjn,hbk,hsz⟩
 ·have hnil:r8 l off len=[]:=List.eq_nil_of_length_eq_zero (by rw[hvl,p4])
  have hK:=hR.toRs.kill id
  have hV:=hK.2.virt k
  have e1:σv.put id none++[.one (vec k f (r8 l off len))]=σv.put id none++[.one (.cells k [])]:=by rw[hnil];rfl
  rw[b6.length_put] at hV
  refine⟨fun i=>if i=(σv.length,[]) then none else φ i,?_⟩
  have:=fin (fun i=>if i=(σv.length,[]) then none else φ i) (by rw[e1];exact Kept.trans (Nat.le_refl _) hK.1 hV.1) (by rw[e1];exact hV.2) (.inl ⟨by simp,p2,rfl,by rw[hnil];rfl⟩)
  exact this
 ·obtain⟨arr2,ety2,q1,q2,q3,q4⟩:=I1 hR hσ hp
  rw[hbk] at q1;cases q1
  have hO:=Rs.reown (k:=k) (base':=base+off.toNat * k) (es':=((r8 l off len).map f).map (·.map C.imm)) (arr':=arr) hR.toRs hσ hp hbk (fun j e he=>by
    have:((r8 l off len).map f).map (·.map C.imm)=((((l.map f).map (·.map C.imm)).drop off.toNat).take len.toNat):=by simp[r8,List.map_drop,List.map_take]
    rw[this,List.getElem?_take] at he
    split at he
    ·rw[List.getElem?_drop] at he
     exact q3 _ e he
    ·cases he) (by
    simp only[List.length_map,hvl]
    have:(off.toNat+cap) * k=off.toNat * k+cap * k:=Nat.add_mul ..
    have:len.toNat * k≤cap * k:=Nat.mul_le_mul_right k hcap
    omega) (fun j e o x he hx=>by
    have:((r8 l off len).map f).map (·.map C.imm)=((((l.map f).map (·.map C.imm)).drop off.toNat).take len.toNat):=by simp[r8,List.map_drop,List.map_take]
    rw[this,List.getElem?_take] at he
    split at he
    ·rw[List.getElem?_drop] at he
     obtain⟨u2,g1,g2⟩:=q4 _ e o x he hx
     refine⟨u2,?_,g2⟩
     rw[← g1,Nat.add_mul]
     congr 1;omega
    ·cases he)
  rw[Go.setRow_self w b arr ety (0,0) hbk] at hO
  refine⟨fun i=>if i=(σv.length,[]) then some (b,base+off.toNat * k) else φ i,?_⟩
  refine fin _ hO.1 hO.2 (.inr ⟨b,base+off.toNat * k,cap,arr,ety,ad,by simp,?_,fun hc=> ?_,?_,hmax,by omega,hbk,?_⟩)
  ·rw[hvv,hvl]
  ·rw[had hc,Nat.zero_mul,Nat.add_zero]
  ·rw[hvl];exact hcap
  ·have:(off.toNat+cap) * k=off.toNat * k+cap * k:=Nat.add_mul ..
   rw[Nat.zero_add];omega
theorem AWP.reown{c:Code}{off len:Int}{j n:Nat}{n':Id}{σ1:b6}{u:Unit}(t:Nat)(hv:vw l off len=some u)(hx:lookup t env=some (.c (.own id j n)))(hj:j=off.toNat)(hn:n=len.toNat)(hσ:σv[id]? =some (some (vec k f l)))(h0:Nat.ble σ0.length id.1=true)(hid:newF σv=some n')
  (h1:putF σv id none=some σ1) (hσ':r9 σ1 (.one (vec k f (r8 l off len)))=some σ') (henv:ReE env t (.own n' 0 (r8 l off len).length) env') (h:AWP P σ0 sz c Q ⟨env',σ'⟩):AWP P σ0 sz c Q ⟨env,σv⟩:=
 AWP.sub (Sub.reown t hv hx hj hn hσ h0 hid h1 hσ' henv) h
theorem zeroCells_one{v:Vl}(n:Nat):(Builtin.zeroCells #[v] n).toList=List.replicate n v:=by
 refine List.ext_getElem? fun i=> ?_
 simp only[Builtin.zeroCells,Array.toList_map,lM,List.getElem?_replicate]
 by_cases h:i<n
 ·have:(Array.range (n * (#[v]:Array Vl).size)).toList[i]? =some i:=by simp[h]
  rw[this,if_pos h]
  simp[Nat.mod_one]
 ·have:(Array.range (n * (#[v]:Array Vl).size)).toList[i]? =none:=by simp;omega
  rw[this,if_neg h];rfl
theorem S.clear{x:Od}{t e:Ti}{bytes:Nat}{z:Vl}{off len:Int}{j n:Nat}{u:Unit}{a0:α}{c0:C}[ht:TyD P t (.slice e)][hs:TyS P e 1 bytes z](hz1:z.cells=#[z])(hzc:z.oneCell'=true)
  (hf:(f a0).map C.imm=[c0]) (hrel:∀w φ σ A,RelC w φ σ A c0 z)
  (hv:vw l off len=some u) (hx:ev env x=some (.c (.own id j n))) (hj:j=off.toNat) (hn:n=len.toNat) (hσ:σv[id]? =some (some (vec 1 f l))) (hσ':putF σv id (some (vec 1 f (clrL l off len a0)))=some σ')
  (h:AOps P σ0 sz ops Q rest (St.mk env σ')):AOps P σ0 sz ops Q (⟨none,.call ⟨.builtin .clear,#[x],#[t]⟩,ty,pos,after,none⟩::rest) (St.mk env σv):=by
 have hvg:=X2 hv
 have h2:=C7 hσ'
 subst hj hn h2
 refine .valueW rfl rfl (.tup []) (σv.put id (some (vec 1 f (clrL l off len a0)))) (fun Γ φ a w hR=> ?_) h
 have tupR:∀{w φ σ A},RelT w φ σ A (.tup []) (.tuple #[]):=fun {w φ σ A}=>RelT.tup (ts:=[]) (fun _=>undef) fun i t h=>by simp at h
 have ho:=D2 (j3 hR hx) hσ
 have clen:(clrL l off len a0).length=l.length:=by simp[clrL];omega
 have nothing:len.toNat=0→clrL l off len a0=l:=fun e=>by simp[clrL,e]
 have same:len.toNat=0→(execOp a.eval ⟨none,.call ⟨.builtin .clear,#[x],#[t]⟩,ty,pos,after,none⟩).run P w=.ok (.value (.tuple #[])) w→∃u w' φ',(execOp a.eval ⟨none,.call ⟨.builtin .clear,#[x],#[t]⟩,ty,pos,after,none⟩).run P w=.ok (.value u) w'∧RelT w' φ' (σv.put id (some (vec 1 f (clrL l off len a0)))) (Al Γ.N φ' (σv.put id (some (vec 1 f (clrL l off len a0))))) (.tup []) u∧R Γ sz ⟨env,σv.put id (some (vec 1 f (clrL l off len a0)))⟩ φ' a w':=fun e0 hrun=>by
  rw[nothing e0]
  have hsub:=Sub.blk (σ0:=Γ.σ0) (env:=env) (id:=id) (k:=1) (es:=(l.map f).map (·.map C.imm)) (es':=(l.map f).map (·.map C.imm)) hσ rfl (fun i e' he=>by
   rcases hR.st.blk _ _ hσ with⟨_,g2⟩|⟨_,_,_,_,_,_,_,g4,_⟩
   ·rw[g2] at he;simp at he
   ·exact g4 i e' he) (fun i e' o x' he hx'=>⟨e',x',he,hx',fun _ _ _ _ _ hr=>hr⟩)
  obtain⟨φ',hR'⟩:=hsub Γ sz φ a w rfl hR
  exact⟨_,w,φ',hrun,tupR,hR'⟩
 rcases ho with⟨p1,p2,p3,p4⟩|⟨b,base,cap,arr,ety,ad,hp,hvv,had,hcap,hmax,hjn,hbk,hsz⟩
 ·exact same p4 (by simp[execOp,resolve,invoke,builtin,p2,Builtin.clear_,run_underlying ht.h])
 ·by_cases e0:len.toNat=0
  ·refine same e0 ?_
   rw[e0] at hvv
   simp[execOp,resolve,invoke,builtin,hvv,Builtin.clear_,run_underlying ht.h]
  ·have hc0:0<cap:=by omega
   have:=had hc0
   subst this
   obtain⟨arr2,ety2,q1,q2,q3,q4⟩:=I1 hR hσ hp
   rw[hbk] at q1;cases q1
   simp only[List.length_map] at q2 hjn
   have hst:=run_storeCells_at P b (base+off.toNat * 1) ety (List.replicate len.toNat z) 0 arr w hbk (by simp;omega) (fun v hv=>by rw[List.eq_of_mem_replicate hv];exact hzc)
   simp only[Nat.add_zero,Nat.mul_one,List.length_replicate] at hst
   have hl1:∀b:α,((f b).map C.imm).length=(f b).length:=fun b=>by simp
   have hW:=Rs.write (k:=1) (es':=((clrL l off len a0).map f).map (·.map C.imm)) (arr':=(arr.toList.take (base+off.toNat)++List.replicate len.toNat z++arr.toList.drop (base+off.toNat+len.toNat)).toArray) hR.toRs hσ hp hbk (by simp[clen]) (by simp;omega) (fun i e' he=>by
     simp only[List.map_map,lM,oM] at he
     obtain⟨y,hy,rfl⟩:=he
     by_cases hyl:y ∈ l
     ·obtain⟨i',hi'⟩:=List.getElem?_of_mem hyl
      exact q3 i' _ (by simp[hi'])
     ·have hy:=List.mem_of_getElem? hy
      simp only[clrL,List.mem_append] at hy
      rcases hy with(hy|hy)|hy
      ·exact absurd (List.mem_of_mem_take hy) hyl
      ·rw[List.eq_of_mem_replicate hy]
       simp only[Function.comp_apply,hf];rfl
      ·exact absurd (List.mem_of_mem_drop hy) hyl) (by simp;omega) (fun i e' o x' he hx'=>by
     simp only[List.map_map,lM,oM,Function.comp_apply] at he
     obtain⟨y,hy,rfl⟩:=he
     simp only[List.getElem?_toArray]
     have hsp:=y4 arr.toList (List.replicate len.toNat z) (base+off.toNat) (base+(i * 1+o)) (by simp;omega)
     simp only[List.length_replicate] at hsp
     rw[hsp]
     have hy':(clrL l off len a0)[i]? =if off.toNat≤i∧i<off.toNat+len.toNat then some a0 else l[i]? :=by
      have:=y4 l (List.replicate len.toNat a0) off.toNat i (by simp;omega)
      simp only[List.length_replicate] at this
      rw[clrL,this]
      split
      ·rw[List.getElem?_replicate,if_pos (by omega)]
      ·rfl
     rw[hy'] at hy
     split at hy
     ·rename_i hi
      cases hy
      rw[hf] at hx'
      match o with
      |0=>
       cases hx'
       rw[if_pos (by omega),List.getElem?_replicate,if_pos (by omega)]
       exact⟨z,rfl,hrel _ _ _ _⟩
      |o+1=>simp at hx'
     ·rename_i hi
      have ho:o=0:=by
       have h1:=q3 i ((f y).map C.imm) (by simp[hy])
       have:=(lG.1 hx').1
       omega
      subst ho
      rw[if_neg (by omega)]
      obtain⟨u2,g1,g2⟩:=q4 i ((f y).map C.imm) 0 x' (by simp[hy]) hx'
      exact⟨u2,by simpa using g1,g2⟩)
   have hz:=ad5 (P:=P) (t:=e) w
   refine⟨.tuple #[],_,φ,?_,tupR,hR.of hW.1 hW.2⟩
   have hne:¬ (len.toNat=0):=e0
   simp[execOp,resolve,invoke,builtin,hvv,Builtin.clear_,run_underlying ht.h,hz,hz1,zeroCells_one,hst]
end
end Ab
end
section
namespace Ab
open Go Go.Sort
def CmpOk{α:Type}(cmp:α→α→Option Int)(cf:α→α→Int):Prop:=(∀a b,cmp a b=some (cf a b))∧SWO (Go.Proofs.ltOf cf)∧∀a b,¬ cf a b<0→¬ cf b a<0→a=b
noncomputable def sortFL{α:Type}(cmp:α→α→Option Int)(l:List α):Option (List α):=open Classical in
 if h:l.length<4611686018427387904∧∃cf,CmpOk cmp cf then some (l.mergeSort fun x y=>decide (¬ h.2.choose y x<0)) else none
theorem sortFL_eq{α:Type}{cmp:α→α→Option Int}{cf:α→α→Int}{l:List α}(h:l.length<4611686018427387904)(hc:CmpOk cmp cf):sortFL cmp l=some (l.mergeSort fun x y=>decide (¬ cf y x<0)):=by
 unfold sortFL
 have hx:l.length<4611686018427387904∧∃cf,CmpOk cmp cf:=⟨h,cf,hc⟩
 rw[dif_pos hx]
 have e:hx.2.choose=cf:=by
  funext a b
  have:=hx.2.choose_spec.1 a b
  rw[hc.1 a b] at this
  exact(Option.some.inj this).symm
 rw[e]
def lltB:Li→Li→Bool
 |[],[]=>false
 |[],_::_=>true
 |_::_,[]=>false
 |a::l,b::m=>if a<b then true else if a=b then lltB l m else false
def sortLL(l:LL):Option (LL):=if l.length<4611686018427387904 then some (srtB lltB l) else none
theorem sortFL_len{α:Type}{cmp:α→α→Option Int}{l l':List α}(h:sortFL cmp l=some l'):l.length=l'.length:=by
 unfold sortFL at h
 split at h
 ·cases h;simp
 ·cases h
def SortFOk(P:Program)(f:FuncId):Prop:=∀{α:Type} {g:FuncId} {g0:α→I} {cf:α→α→Int},Y0 P g→SWO (Go.Proofs.ltOf cf)→(∀a b,¬ cf a b<0→¬ cf b a<0→a=b)→(∀a b,e8 P g [.c (.imm (g0 a)),.c (.imm (g0 b))] (.c (int (cf a b))))→
 ∀{σ:b6} {id:Id} {l:List α},σ[id]? =some (some (vec 1 (fun a=>[g0 a]) l))→l.length<4611686018427387904→
  FnOk P f [.c (.own id 0 l.length),.c (.fn g [])] σ fun r σ'=>r=.tup []∧σ'.length=σ.length∧∀i:Id,σ'[i]? =(σ.put id (some (vec 1 (fun a=>[g0 a]) (l.mergeSort fun x y=>decide (¬ cf y x<0)))))[i]?
section
variable {P:Program}{σ0:b6}{sz:Nat}{Q:Post}{env:Env}{σv σ':b6}{ops:Array Oper}{rest:List Oper}{dst:Option Nat}{ty:Ti}{pos:String}{after:Array Edge}
theorem S.sortF{α:Type}{f:α→List I}(g0:α→I){cmp:α→α→Option Int}{x:Od}{al:List Od}{ats:Array Ti}{fs g:FuncId}{id:Id}{n:Nat}{l l':List α}(hs:sortFL cmp l=some l')(hfg:f=fun a=>[g0 a])
  (hcmp:∀{a b r},cmp a b=some r→e8 P g [.c (.imm (g0 a)),.c (.imm (g0 b))] (.c (int r))) (hf:SortFOk P fs) (hgn:Y0 P g) (hx:ev env x=some (.c (.fn fs []))) (ha:evs env al=some [.c (.own id 0 n),.c (.fn g [])]) (hn:n=l.length) (hσ:σv[id]? =some (some (vec 1 f l)))
  (hd:g8 sz dst=true) (hσ':putF σv id (some (vec 1 f l'))=some σ') (h:AOps P σ0 sz ops Q rest (St.mk (putE env dst (.tup [])) σ')):
  AOps P σ0 sz ops Q (⟨dst,.call ⟨.value x,al.toArray,ats⟩,ty,pos,after,none⟩::rest) (St.mk env σv):=by
 have h2:=C7 hσ'
 subst h2 hn hfg
 unfold sortFL at hs
 split at hs
 ·rename_i hx0
  cases hs
  obtain⟨c1,c2,c3⟩:=hx0.2.choose_spec
  refine AOps.callS hx ha hd (hf hgn c2 c3 (fun a b=>hcmp (c1 a b)) hσ hx0.1) ?_
  rintro r σ2 ⟨rfl,hl,he⟩
  refine AOps.sub (s':=⟨putE env dst (.tup []),σv.put id (some (vec 1 (fun a=>[g0 a]) (l.mergeSort fun x y=>decide (¬ hx0.2.choose y x<0))))⟩) ?_ h
  have:=Sub.same (σ0:=σ0) (env:=putE env dst (.tup [])) (σ1:=σ2) (σ2:=σv.put id (some (vec 1 (fun a=>[g0 a]) (l.mergeSort fun x y=>decide (¬ hx0.2.choose y x<0))))) (by rw[b6.length_put,hl]) he
  cases dst<;>exact this
 ·cases hs
end
/-! ### Views in chains -/
theorem D3{α:Type}(l:List α):vw l 0 (l.length:Int)=some ():=by unfold vw;rw[if_pos];omega
theorem ai9{α:Type}{l:List α}{off len lo hi:Int}{u u':Unit}(h:vw l off len=some u)(hc:cutV len lo hi=some u'):vw l (off+lo) (hi - lo)=some ():=by
 have:=X2 h;have:=an3 hc
 unfold vw;rw[if_pos];omega
theorem vw_to{α:Type}{l:List α}{off len hi:Int}{u u':Unit}(h:vw l off len=some u)(hc:cutV len 0 hi=some u'):vw l off hi=some ():=by
 have:=X2 h;have:=an3 hc
 unfold vw;rw[if_pos];omega
theorem clrL_len{α:Type}{l:List α}{off len:Int}{u:Unit}{z:α}(h:vw l off len=some u):(clrL l off len z).length=l.length:=by
 have:=X2 h
 simp[clrL];omega
end Ab
end
section
namespace Ab
open Go
def chkN(b:Int):Option Unit:=if b=0 then none else some ()
theorem chkN_get{b:Int}{u:Unit}(h:chkN b=some u):b ≠ 0:=by
 unfold chkN at h
 split at h
 ·cases h
 ·assumption
section
variable {P:Program}{σ0:b6}{sz:Nat}{Q:Post}{env:Env}{σv:b6}{ops:Array Oper}{rest:List Oper}{dst:Option Nat}{ty:Ti}{pos:String}{after:Array Edge}
theorem S.quo{t t':Ti}{x y:Od}{k:IntKind}{a b:Int}{u:Unit}(hb:chkN b=some u)(hx:ev env x=some (.c (.imm (.val (.int k a)))))(hy:ev env y=some (.c (.imm (.val (.int k b)))))(hd:g8 sz dst=true)
  (h:AOps P σ0 sz ops Q rest (St.mk (putE env dst (.c (.imm (.val (.int k (k.wrap (a.tdiv b))))))) σv)):AOps P σ0 sz ops Q (⟨dst,.binOp .quo t x y t',ty,pos,after,none⟩::rest) (St.mk env σv):=.quoW hx hy hd (chkN_get hb) h
theorem S.rem{t t':Ti}{x y:Od}{k:IntKind}{a b:Int}{u:Unit}(hb:chkN b=some u)(hx:ev env x=some (.c (.imm (.val (.int k a)))))(hy:ev env y=some (.c (.imm (.val (.int k b)))))(hd:g8 sz dst=true)
  (h:AOps P σ0 sz ops Q rest (St.mk (putE env dst (.c (.imm (.val (.int k (a.tmod b)))))) σv)):AOps P σ0 sz ops Q (⟨dst,.binOp .rem t x y t',ty,pos,after,none⟩::rest) (St.mk env σv):=.remW hx hy hd (chkN_get hb) h
end
section
variable {P:Program}{σ0:b6}{sz:Nat}{Q:Post}{env env':Env}{σv σ':b6}
theorem Sub.virtB{α:Type}(k:Nat)(f:α→List I){b n:Id}{kb o:Nat}{cs cs':List C}{σ1:b6}(hb:σv[b]? =some (some (.cells kb [cs])))(hc:cs[o]? =some (.imm (.val (.slice none 0 0))))(hn:newF σv=some n)(h1:r9 σv (.one (vec k f []))=some σ1)
  (hs:setF cs o (.own n 0 ([]:List α).length)=some cs') (hσ':putF σ1 b (some (.cells kb [cs']))=some σ'):Sub σ0 ⟨env,σv⟩ ⟨env,σ'⟩:=fun Γ sz φ a w hΓ hR=>by
 have g1:=A5 hn;have g2:=p7 h1;have g3:=K7 hs;have g4:=C7 hσ'
 obtain⟨g3,g3'⟩:=g3
 subst g1 g2 g3 g4
 have hbl:=b6.lt_of hb
 have hV:=hR.toRs.virt k
 have hb':(σv++[.one (vec k f [])])[b]? =some (some (.cells kb [cs])):=by rw[b6.get_left hbl];exact hb
 have e0:(σv++[.one (.cells k [])]:b6)=σv++[.one (vec k f [])]:=rfl
 rw[e0] at hV
 generalize hφ:(fun i=>if i=((σv.length,[]):Id) then none else φ i)=φ' at hV
 have φn:φ' (σv.length,[])=none:=by rw[← hφ];simp
 rcases hV.2.st.blk _ _ hb' with⟨_,g⟩|⟨b0,base,arr,ety,q1,q2,q3,q4,q5⟩
 ·cases g
 ·have hW:=Rs.write (k:=kb) (es':=[cs.set o (.own (σv.length,[]) 0 ([]:List α).length)]) (arr':=arr) hV.2 hb' q1 q2 rfl rfl (fun j e he=>by
   match j with
   |0=>
    cases he
    rw[lS]
    exact q4 0 cs rfl
   |j+1=>simp at he) (by simpa using q3) (fun j e i x he hx=>by
   match j with
   |0=>
    cases he
    rw[List.getElem?_set] at hx
    split at hx
    ·rename_i e
     subst e
     cases hx
     obtain⟨u,hu,hr⟩:=q5 0 cs o _ rfl hc
     refine⟨u,hu,?_⟩
     cases hr with|imm hr=>cases hr with|val h=>
      exact .own (by simp) rfl fun k' es' _=>.inl ⟨φn,rfl,rfl,rfl⟩
    ·exact q5 0 cs i x rfl hx
   |j+1=>simp at he)
  rw[Go.setRow_self w b0 arr ety (0,0) q2] at hW
  exact⟨φ',(hR.of hV.1 hV.2).of hW.1 hW.2⟩
theorem AWP.virtB{α:Type}{c:Code}(k:Nat)(f:α→List I){b n:Id}{kb o:Nat}{cs cs':List C}{σ1:b6}(hb:σv[b]? =some (some (.cells kb [cs])))(hc:cs[o]? =some (.imm (.val (.slice none 0 0))))(hn:newF σv=some n)(h1:r9 σv (.one (vec k f []))=some σ1)
  (hs:setF cs o (.own n 0 ([]:List α).length)=some cs') (hσ':putF σ1 b (some (.cells kb [cs']))=some σ') (h:AWP P σ0 sz c Q ⟨env,σ'⟩):AWP P σ0 sz c Q ⟨env,σv⟩:=AWP.sub (Sub.virtB k f hb hc hn h1 hs hσ') h
def NilB:List C→List C→Prop
 |[],[]=>True
 |c::r,c'::r'=>(c'=c∨c=.imm (.val (.slice none 0 0))∧∃k,c'=.imm (.sl k []))∧NilB r r'
 |_,_=>False
theorem NilB.len:∀{l l':List C},NilB l l'→l'.length=l.length
 |[],[],_=>rfl
 |_::r,_::r',⟨_,h⟩=>by simp[NilB.len h]
 |[],_::_,h=>h.elim
 |_::_,[],h=>h.elim
theorem NilB.get:∀{l l':List C},NilB l l'→∀(o:Nat) (x:C),l'[o]? =some x→∃x0,l[o]? =some x0∧(x=x0∨x0=.imm (.val (.slice none 0 0))∧∃k,x=.imm (.sl k []))
 |[],[],_,o,x,h=>by simp at h
 |c::r,c'::r',⟨h1,h2⟩,o,x,h=>by
  match o with
  |0=>cases h;exact⟨c,rfl,h1⟩
  |o+1=>simpa using NilB.get h2 o x (by simpa using h)
 |[],_::_,h,_,_,_=>h.elim
 |_::_,[],h,_,_,_=>h.elim
theorem Sub.nilB{b:Id}{kb:Nat}{cs:List C}(cs':List C)(hb:σv[b]? =some (some (.cells kb [cs])))(h:NilB cs cs')(hlen:cs.length=kb)(hσ':putF σv b (some (.cells kb [cs']))=some σ'):Sub σ0 ⟨env,σv⟩ ⟨env,σ'⟩:=by
 have g:=C7 hσ'
 subst g
 refine Sub.blk hb rfl (fun j e he=> ?_) (fun j e o x he hx=> ?_)
 ·match j with
  |0=>cases he;rw[h.len,hlen]
  |j+1=>simp at he
 ·match j with
  |0=>
   cases he
   obtain⟨x0,h1,h2⟩:=h.get o x hx
   refine⟨cs,x0,rfl,h1,fun w φ σ A u hr=> ?_⟩
   rcases h2 with rfl|⟨rfl,k,rfl⟩
   ·exact hr
   ·cases hr with|imm hr=>cases hr with|val=>exact .imm .slNil
  |j+1=>simp at he
theorem AWP.nilB{c:Code}{b:Id}{kb:Nat}{cs:List C}(cs':List C)(hb:σv[b]? =some (some (.cells kb [cs])))(h:NilB cs cs')(hlen:cs.length=kb)(hσ':putF σv b (some (.cells kb [cs']))=some σ')(hn:AWP P σ0 sz c Q ⟨env,σ'⟩):AWP P σ0 sz c Q ⟨env,σv⟩:=AWP.sub (Sub.nilB cs' hb h hlen hσ') hn
end
end Ab
end
section
namespace Ab
open Go
section
variable {P:Program}{σ0:b6}{sz:Nat}{Q:Post}{env env':Env}{σv σ':b6}{α:Type}{f:α→List I}{k:Nat}{l:List α}{id:Id}
end
end Ab
end
section
namespace Ab
open Go
section
variable {α:Type}{f:α→List I}{l:List α}{p m:Nat}{n id:Id}
abbrev vecS(f:α→List I)(l:List α)(p:Nat)(n:Id)(m:Nat):Blk:=.cells 1 (((l.map f).map (·.map C.imm)).set p [.own n 0 m])
theorem mem_set{β:Type}{x a:β}:∀{l:List β} {p:Nat},x ∈ l.set p a→x ∈ l∨x=a
 |[],_,h=>by simp at h
 |b::l,0,h=>by
  rcases List.mem_cons.1 h with h|h
  ·exact .inr h
  ·exact .inl (List.mem_cons_of_mem _ h)
 |b::l,p+1,h=>by
  rcases List.mem_cons.1 h with h|h
  ·exact .inl (h ▸ List.mem_cons_self ..)
  ·rcases mem_set h with h|h
   ·exact .inl (List.mem_cons_of_mem _ h)
   ·exact .inr h
theorem vs_ok{N:Nat}(h:Nat.blt n.1 N=true):(vecS f l p n m).ok N=true:=by
 simp only[Blk.ok,List.all_eq_true]
 intro e he
 rcases mem_set he with h1|rfl
 ·have:=P4 (n:=N) (g:=f) (l:=l) (k:=1)
  simp only[vec,Blk.im,Blk.ok,List.all_eq_true] at this
  exact this e h1
 ·simpa[C.okL,C.ok] using h
theorem vs_no(h:idb n id=false):(vecS f l p n m).no id=true:=by
 simp only[Blk.no,List.all_eq_true]
 intro e he
 rcases mem_set he with h1|rfl
 ·have:=Blk.im_no id 1 (l.map f)
  simp only[Blk.im,Blk.no,List.all_eq_true] at this
  exact this e h1
 ·simp[C.noL,C.no,h]
theorem vs_rl{r s:Nat}(q:Nat):(vecS f l p (s,[]) m).no (r,[q])=true:=vs_no (by simp[idb,lbeq])
theorem vs_frz{β:Type}{g:β→List I}{M:List β}{k:Nat}(hm:m=M.length){a:α}(hf:f a=[.sl k (M.map g)]):Blk.frz n k (M.map g) (vecS f l p n m)=vec 1 f (l.set p a):=by
 have h:Blk.frz n k (M.map g) (vec 1 f l)=vec 1 f l:=Blk.frz_no _ (Blk.im_no _ _ _)
 subst hm
 simp only[vec,Blk.im,Blk.frz,Blk.cells.injEq,true_and] at h ⊢
 rw[List.map_set,h,List.map_set,List.map_set,hf]
 congr 1
 simp[C.frzL,C.frz,N7.2 rfl,List.take_of_length_le]
theorem FrzB.vs{X:C→C→Prop}(h:idb n id=false):FrzB id X (.one (vecS f l p n m)) (.one (vecS f l p n m)):=by
 have hno:=vs_no (f:=f) (l:=l) (p:=p) (m:=m) h
 have imm:∀e ∈ ((l.map f).map (·.map C.imm)).set p [.own n 0 m],FrzL id X e e:=fun e he=>by
  rcases mem_set he with h1|rfl
  ·simp only[List.map_map,List.mem_map,Function.comp_apply] at h1
   obtain⟨a,_,rfl⟩:=h1
   exact FrzL.imm _
  ·exact⟨.inl ⟨rfl,by simp[C.no,h]⟩,Y⟩
 unfold FrzB
 split
 ·rename_i h1 _;cases h1
 ·rename_i k1 e k2 e' h1 h2
  simp only[Ent.one.injEq,Blk.cells.injEq] at h1 h2
  obtain⟨rfl,h1⟩:=h1
  obtain⟨rfl,h2⟩:=h2
  have:e=e':=by rw[h1] at h2;simpa using h2
  subst this
  exact⟨rfl,imm e (by rw[h1];simp)⟩
 ·rename_i h1 h2
  cases h1;cases h2
  exact⟨rfl,hno⟩
 ·rename_i h1;cases h1
 ·rename_i h1 h2 h3 h4
  first|exact(h3 _ _ rfl rfl).elim|exact(h4 _ _ rfl rfl).elim|exact(h2 _ _ rfl rfl).elim
end
section
variable {P:Program}{σ0:b6}{sz:Nat}{Q:Post}{env:Env}{σv σ':b6}{ops:Array Oper}{rest:List Oper}{dst:Option Nat}{ty:Ti}{pos:String}{after:Array Edge}
variable {α β:Type}{f:α→List I}{l:List α}{p m:Nat}{n id:Id}
inductive FrzE(id:Id)(k:Nat)(es:List (List I))(X:C→C→Prop):Ent→Ent→Prop
 |old {e e':Ent} (h:FrzB id X e e'):FrzE id k es X e e'
 |vs {α:Type} {f:α→List I} {l:List α} {p m:Nat} {b:Blk} (h:Blk.frz id k es (vecS f l p id m)=b):FrzE id k es X (.one (vecS f l p id m)) (.one b)
 |any {e e':Ent} (h:∀p,(e.sub p).map (Blk.frz id k es)=e'.sub p):FrzE id k es X e e'
def FrzS2(id:Id)(k:Nat)(es:List (List I))(X:C→C→Prop):b6→b6→Prop
 |[],[]=>True
 |b::r,b'::r'=>FrzE id k es X b b'∧FrzS2 id k es X r r'
 |_,_=>False
theorem FrzE.get{k:Nat}{es:List (List I)}{X:C→C→Prop}(hX:∀c c',X c c'→c.frz id k es=c'){e e':Ent}(h:FrzE id k es X e e')(p:List Nat):(e.sub p).map (Blk.frz id k es)=e'.sub p:=by
 cases h with
 |old h=>exact FrzB.get hX h p
 |any h=>exact h p
 |vs h=>
  cases p with
  |nil=>simp only[Ent.sub,Option.map_some,h]
  |cons=>rfl
theorem FrzS2.get{k:Nat}{es:List (List I)}{X:C→C→Prop}(hX:∀c c',X c c'→c.frz id k es=c'):∀{σ σ2:b6},FrzS2 id k es X σ σ2→∀i:Id,(σ[i]?).map (Option.map (Blk.frz id k es))=σ2[i]?
 |[],[],_,i=>rfl
 |[],_::_,h,_=>h.elim
 |_::_,[],h,_=>h.elim
 |e::r,e'::r',h,(0,p)=>by
  rw[b6.at_eq,b6.at_eq]
  simp only[b6.at,List.getElem?_cons_zero,Option.map_some,FrzE.get hX h.1 p]
 |e::r,e'::r',h,(i+1,p)=>by
  have:=FrzS2.get hX h.2 (i,p)
  rw[b6.at_eq,b6.at_eq] at this ⊢
  simpa[b6.at] using this
theorem FrzS2.len{k:Nat}{es:List (List I)}{X:C→C→Prop}:∀{σ σ2:b6},FrzS2 id k es X σ σ2→σ2.length=σ.length
 |[],[],_=>rfl
 |[],_::_,h=>h.elim
 |_::_,[],h=>h.elim
 |e::r,e'::r',h=>by simp[FrzS2.len h.2]
theorem Sub.frzW{g:β→List I}{M:List β}{k:Nat}{env2:Env}{σ1 σ2:b6}(hid:Nat.ble σ0.length id.1=true)(hσ:σv[id]? =some (some (vec k g M)))(henv:T2 id (XRow id M.length (row k g M)) env env2)(h1:putF σv id none=some σ1)(hst:FrzS2 id k (M.map g) (XRow id M.length (row k g M)) σ1 σ2):Sub σ0 ⟨env,σv⟩ ⟨env2,σ2⟩:=by
 have h2:=C7 h1
 subst h2
 have hX:=XRow.eq (f:=g) (l:=M) (id:=id) (k:=k)
 have hf:=Sub.frz (σ0:=σ0) (s:=⟨env,σv⟩) id k (M.map g) (Nat.le_of_ble_eq_true hid) hσ
 have hs:Sub σ0 (St.frz ⟨env,σv⟩ id k (M.map g)) ⟨env.map fun p=>(p.1,p.2.frz id k (M.map g)),σ2⟩:=Sub.same (by rw[hst.len];simp[St.frz]) (fun i=>by rw[← FrzS2.get hX hst i,b6.get_map])
 refine(hf.trans hs).trans (fun _ _ φ _ _ _ hR=>⟨φ,{toRs:=hR.toRs,defers:=hR.defers,asize:=hR.asize,env:=fun t v ht=>hR.env t v ?_}⟩)
 show lookup t (env.map fun p=>(p.1,p.2.frz id k (M.map g)))=some v
 rw[ag2 (fun v=>v.frz id k (M.map g))]
 exact T2.get hX henv t v ht
theorem S.storeS{x y:Od}{t:Ti}{bytes:Nat}{z:Vl}[hs:TyS P t 1 bytes z](hp:p<l.length)(hf:∀a,∃u,f a=[u])(hx:ev env x=some (.c (.ptr id p 0)))(hy:ev env y=some (.c (.own n 0 m)))
  (hσ:σv[id]? =some (some (vec 1 f l))) (hσ':putF σv id (some (vecS f l p n m))=some σ') (h:AOps P σ0 sz ops Q rest (St.mk env σ')):AOps P σ0 sz ops Q (⟨none,.store t x y,ty,pos,after,none⟩::rest) (St.mk env σv):=by
 have h2:=C7 hσ'
 subst h2
 obtain⟨u,hu⟩:=hf l[p]
 refine AOps.store (e:=[.imm u]) hx hy hσ ?_ (by simp) ?_
 ·simp[hp,hu]
 ·exact h
theorem S.loadS{x:Od}{t:Ti}{d:TypeDesc}[ht:TyD P t d](ha:A4 d=false)(hp:p<l.length)(hx:ev env x=some (.c (.ptr id p 0)))(hσ:σv[id]? =some (some (vecS f l p n m)))(hd:g8 sz dst=true)
  (h:AOps P σ0 sz ops Q rest (St.mk (putE env dst (.c (.own n 0 m))) σv)):AOps P σ0 sz ops Q (⟨dst,.load t x,ty,pos,after,none⟩::rest) (St.mk env σv):=
 AOps.load (e:=[.own n 0 m]) ha hx hσ (by simp[hp]) rfl hd h
theorem S.idxS{x y:Od}{t e:Ti}{bytes q:Nat}{z:Vl}{kk:IntKind}{i:Int}[ht:TyD P t (.slice e)][hs:TyS P e 1 bytes z]
  (hp:p<l.length) (hi:0≤i∧i.toNat=p) (hx:ev env x=some (.c (.own id 0 q))) (hn:q=l.length) (hσ:σv[id]? =some (some (vecS f l p n m))) (hy:ev env y=some (.c (.imm (.val (.int kk i))))) (hd:g8 sz dst=true)
  (h:AOps P σ0 sz ops Q rest (St.mk (putE env dst (.c (.ptr id p 0))) σv)):AOps P σ0 sz ops Q (⟨dst,.indexAddr t x y,ty,pos,after,none⟩::rest) (St.mk env σv):=
 .indexAddrOwn hx hσ hy (by obtain⟨h0,h1⟩:=hi;subst hn;omega) hd (by obtain⟨h0,h1⟩:=hi;rw[Nat.zero_add,h1];exact h)
theorem ix_pos{l:List α}{i:Int}{a:α}(h:ix l i=some a):0≤i∧i.toNat=i.toNat:=⟨(L8 h).1,rfl⟩
end
end Ab
end
section
namespace Ab
open Go
/-! ### What the slots hold that rounds read -/
section
variable {w:World}{φ:Phi}{σ:b6}{A:Nat→Prop}
end
section
variable {P:Program}{σ0:b6}{sz:Nat}{Q:Post}{env env':Env}{σv σ' σb:b6}{ops:Array Oper}{rest:List Oper}{dst:Option Nat}{ty:Ti}{pos:String}{after:Array Edge}
variable {szc:Nat}{ps:List Nat}{asg body:Code}{sh:List (Nat×Option Nat)}{cs:List C}
end
end Ab
end
section
namespace Ab
open Go
def DatL:List C→List I→Prop
 |[],[]=>True
 |c::r,x::s=>(c=.imm x∨c=.imm (.val (.slice none 0 0))∧∃k,x=.sl k [])∧DatL r s
 |_,_=>False
def DatLL:List (List C)→List (List I)→Prop
 |[],[]=>True
 |c::r,x::s=>DatL c x∧DatLL r s
 |_,_=>False
theorem DatL.get:∀{l:List C} {m:List I},DatL l m→l.length=m.length∧∀(i:Nat) (x:I),m[i]? =some x→∃c,l[i]? =some c∧∀{w:World} {φ:Phi} {σ:b6} {A:Nat→Prop} {u:Vl},RelC w φ σ A c u→RelI w A x u
 |[],[],_=>⟨rfl,fun i x h=>by simp at h⟩
 |[],_::_,h=>h.elim
 |_::_,[],h=>h.elim
 |c::r,x::s,⟨h1,h2⟩=>by
  obtain⟨g1,g2⟩:=DatL.get h2
  refine⟨by simp[g1],fun i y hy=> ?_⟩
  cases i with
  |zero=>
   simp only[List.getElem?_cons_zero,Option.some.injEq] at hy
   subst hy
   refine⟨c,rfl,fun {w φ σ A u} hr=> ?_⟩
   rcases h1 with rfl|⟨rfl,k,rfl⟩
   ·cases hr with|imm h=>exact h
   ·cases hr with|imm h=>cases h with|val=>exact .slNil
  |succ i=>simpa using g2 i y (by simpa using hy)
theorem DatLL.get:∀{l:List (List C)} {m:List (List I)},DatLL l m→l.length=m.length∧∀(i:Nat) (x:List I),m[i]? =some x→∃c,l[i]? =some c∧DatL c x
 |[],[],_=>⟨rfl,fun i x h=>by simp at h⟩
 |[],_::_,h=>h.elim
 |_::_,[],h=>h.elim
 |c::r,x::s,⟨h1,h2⟩=>by
  obtain⟨g1,g2⟩:=DatLL.get h2
  refine⟨by simp[g1],fun i y hy=> ?_⟩
  cases i with
  |zero=>simp only[List.getElem?_cons_zero,Option.some.injEq] at hy;subst hy;exact⟨c,rfl,h1⟩
  |succ i=>simpa using g2 i y (by simpa using hy)
section
variable {P:Program}{σ0:b6}{sz:Nat}{Q:Post}{env env':Env}{σv σ':b6}{ops:Array Oper}{rest:List Oper}{dst:Option Nat}{ty:Ti}{pos:String}{after:Array Edge}
end
end Ab
end
section
namespace Ab
open Go
section
variable {P:Program}{σ0:b6}{sz:Nat}{Q:Post}{env:Env}{σv:b6}{ops:Array Oper}{rest:List Oper}{dst:Option Nat}{ty:Ti}{pos:String}{after:Array Edge}
theorem AOps.max3{x y z:Od}{ts:Array Ti}{k:IntKind}{a1 a2 a3:Int}(h1:ev env x=some (.c (.imm (.val (.int k a1)))))(h2:ev env y=some (.c (.imm (.val (.int k a2)))))(h3:ev env z=some (.c (.imm (.val (.int k a3)))))(hd:g8 sz dst=true)
  (h:AOps P σ0 sz ops Q rest (St.mk (putE env dst (.c (.imm (.val (.int k (max (max a1 a2) a3)))))) σv)):AOps P σ0 sz ops Q (⟨dst,.call ⟨.builtin .max,#[x,y,z],ts⟩,ty,pos,after,none⟩::rest) (St.mk env σv):=
 .value rfl hd _ (fun _ _ a w hR=>⟨.int k (max (max a1 a2) a3),by
  simp[execOp,w6 hR h1,w6 hR h2,w6 hR h3,resolve,invoke,builtin,Builtin.max_,Builtin.max2]
  repeat' split
  all_goals omega,.c (.imm (.val rfl))⟩) h
end
end Ab
end
section
namespace Ab
open Go
section
variable {P:Program}{σ0:b6}{sz:Nat}{Q:Post}{env:Env}{σv:b6}{ops:Array Oper}{rest:List Oper}{dst:Option Nat}{ty:Ti}{pos:String}{after:Array Edge}
theorem AOps.makeFuncB{f:FuncId}{l:List Od}{cs:List C}(hl:evC env l=some cs)(hd:g8 sz dst=true)
  (h:AOps P σ0 sz ops Q rest (St.mk (putE env dst (.c (.fnb f cs))) σv)):AOps P σ0 sz ops Q (⟨dst,.makeFunc (.func f) l.toArray #[],ty,pos,after,none⟩::rest) (St.mk env σv):=
 .value rfl hd _ (fun Γ φ a w hR=>by
  obtain⟨g1,g2⟩:=evC_rel hR hl
  refine⟨.func (.func f) ((List.range cs.length).map fun i=>((l.map a.eval)[i]?).getD Go.undef).toArray #[],?_,.c (.fnb _ fun i c hi=> ?_)⟩
  ·have:(List.range cs.length).map (fun i=>((l.map a.eval)[i]?).getD Go.undef)=l.map a.eval:=by
    apply List.ext_getElem?
    intro i
    by_cases hi:i<l.length
    ·simp[g1,hi]
    ·simp[g1,hi]
   rw[this]
   simp[execOp,Instr.makeFunc]
  ·obtain⟨v,hv,hr⟩:=g2 i c hi
   rw[hv];exact hr) h
theorem fnb_inv{w:World}{φ:Phi}{σ:b6}{A:Nat→Prop}{f:FuncId}{caps:List C}{u:Vl}(h:RelT w φ σ A (.c (.fnb f caps)) u):∃vs:List Vl,u=.func (.func f) vs.toArray #[]∧vs.length=caps.length∧∀(i:Nat) (c:C) (v:Vl),caps[i]? =some c→vs[i]? =some v→RelC w φ σ A c v:=by
 cases h with|c h=>cases h with|fnb us hr=>
  refine⟨_,rfl,by simp,fun i c v hi hv=> ?_⟩
  rw[lM,oM] at hv
  obtain⟨j,hj,rfl⟩:=hv
  obtain⟨_,rfl⟩:=K0 hj
  exact hr i c hi
theorem call_enterB{Γ:Cx}{φ:Phi}{a:Act}{w:World}(hR:R Γ sz (St.mk env σv) φ a w){x:Od}{as':List Od}{ats:Array Ti}{f:FuncId}{caps:List C}{ts:List T}(hx:ev env x=some (.c (.fnb f caps)))(ha:evs env as'=some ts)
  (hfn : ∃ fn, P.funcs[f]? = some fn ∧ (fn.name == "runtime.NumGoroutine")=false∧fn.body.isNone=false):
  ∃vs:List Vl,(execOp a.eval ⟨dst,.call ⟨.value x,as'.toArray,ats⟩,ty,pos,after,none⟩).run P w=.ok (.enter f vs.toArray) w∧(caps.map T.c++ts).length=vs.length∧
   ∀(i:Nat) (t:T) (u:Vl),(caps.map T.c++ts)[i]? =some t→vs[i]? =some u→RelT w φ σv (Al Γ.N φ σv) t u:=by
 obtain⟨fn,h1,h2,h3⟩:=hfn
 obtain⟨cv,g1,g2,g3⟩:=fnb_inv (j3 hR hx)
 obtain⟨k1,k2⟩:=evs_rel hR ha
 refine⟨cv++as'.map a.eval,?_,by simp[k1,g2],fun i t u hi hu=> ?_⟩
 ·have h2':¬ fn.name= "runtime.NumGoroutine" :=by simpa using h2
  have h3':¬ fn.body=none:=fun e=>by rw[e] at h3;cases h3
  simp[execOp,resolve,g1,Deferred.ofValue,invoke,callFunc,h1,h2',h3']
 ·rw[List.getElem?_append] at hi hu
  by_cases hlt:i<caps.length
  ·rw[if_pos (by simpa using hlt)] at hi
   rw[if_pos (by omega)] at hu
   rw[lM,oM] at hi
   obtain⟨c,hc,rfl⟩:=hi
   exact .c (g3 i c u hc hu)
  ·rw[if_neg (by simpa using hlt)] at hi
   rw[if_neg (by omega)] at hu
   simp only[List.length_map] at hi
   rw[g2] at hu
   exact k2 _ t u hi hu
theorem AOps.callFB{x:Od}{as':List Od}{ats:Array Ti}{f:FuncId}{caps:List C}{ts:List T}{r2:T}{σ'':b6}(hx:ev env x=some (.c (.fnb f caps)))(ha:evs env as'=some ts)(hd:g8 sz dst=true)
  (hf:FnOk P f (caps.map T.c++ts) σv fun r s=>r=r2∧s=σ'') (h:AOps P σ0 sz ops Q rest (St.mk (putE env dst r2) σ'')):
  AOps P σ0 sz ops Q (⟨dst,.call ⟨.value x,as'.toArray,ats⟩,ty,pos,after,none⟩::rest) (St.mk env σv):=fun Γ φ a w hΓ hR ro=>by
  obtain⟨vs,h1,h2,h3⟩:=call_enterB (P:=P) (dst:=dst) (ty:=ty) (pos:=pos) (after:=after) (ats:=ats) hR hx ha hf.fn
  refine U6 rfl (ao1 h1 ?_)
  refine(hf.run ⟨w,Γ.N,φ,σv⟩ vs rfl hR.toRs.down h2 h3).mono ?_
  rintro e w' ⟨v,r,σ',φ',rfl,⟨rfl,rfl⟩,hr,hs⟩
  exact h Γ φ' _ w' hΓ ((hR.of hs.kept (hR.toRs.up hs)).put hd hr) ro
end
/-! ### Maps whose values are structs of plain cells -/
section
variable {P:Program}{σ0:b6}{sz:Nat}{Q:Post}{env:Env}{σv σ':b6}{ops:Array Oper}{rest:List Oper}{dst:Option Nat}{ty:Ti}{pos:String}{after:Array Edge}
variable {K V:Type}[DecidableEq K]{d:TypeDesc}{fk:K→Vl}{gv:V→List Vl}
end
end Ab
end
section
namespace Ab
open Go
theorem Rs.adopt{Γ:Cx}{σ:b6}{φ:Phi}{w w':World}(h:Rs Γ σ φ w)(hos:w'.os=w.os)(ht:w'.tape=w.tape)(hdr:w.drawn≤w'.drawn)(ho:w'.output=w.output)(hs:w.heap.size≤w'.heap.size)(hold:∀b,b<w.heap.size→w'.heap[b]? =w.heap[b]?)
  {k:Nat} {es:List (List C)} {q:Option (Nat×Nat)} (hq:∀b base,q=some (b,base)→w.heap.size≤b) (hblk:∀φ σ A,BlkR w' φ σ A q (.cells k es)):
  Kept w w' φ (fun i=>if i=(σ.length,[]) then q else φ i) σ (σ++[.one (.cells k es)]) (Al Γ.N φ σ) (Al Γ.N (fun i=>if i=(σ.length,[]) then q else φ i) (σ++[.one (.cells k es)]))∧
  Rs Γ (σ++[.one (.cells k es)]) (fun i=>if i=(σ.length,[]) then q else φ i) w':=by
 generalize hφ:(fun i=>if i=(σ.length,[]) then q else φ i)=φ'
 have plo:∀i:Id,i.1<σ.length→φ' i=φ i:=fun i hi=>by
  have:i ≠ (σ.length,[]):=fun e=>by rw[e] at hi;exact Nat.lt_irrefl _ hi
  rw[← hφ];simp[this]
 have pnew:φ' (σ.length,[])=q:=by rw[← hφ];simp
 have cases2:∀(i:Id) blk,(σ++[.one (.cells k es)])[i]? =some (some blk)→(i.1<σ.length∧σ[i]? =some (some blk))∨(i=(σ.length,[])∧blk=.cells k es):=fun i blk hi=>b6.get_new hi
 have A1:∀b,Al Γ.N φ σ b→b<w.heap.size→Al Γ.N φ' (σ++[.one (.cells k es)]) b:=fun b hb hl=>⟨hb.1,fun i blk base hi hp=>by
  rcases cases2 i blk hi with⟨h1,h2⟩|⟨rfl,rfl⟩
  ·rw[plo i h1] at hp;exact hb.2 i blk base h2 hp
  ·rw[pnew] at hp;have:=hq b base hp;omega⟩
 have hK:Kept w w' φ φ' σ (σ++[.one (.cells k es)]) (Al Γ.N φ σ) (Al Γ.N φ' (σ++[.one (.cells k es)])):=
  {imm:=fun b _ hl=>hold b hl,all:=A1,len:=by simp,
   cells:=fun i kk es' hi he=>by
    rw[b6.get_left hi] at he
    exact⟨es',he,rfl,plo i hi,fun b base arr ety hp hb=>⟨arr,(hold b (Al.own_lt h.st he hp)).trans hb,rfl⟩⟩,
   obj:=fun i p' cs' hi he=>by
    rw[b6.get_left hi] at he
    exact⟨plo i hi,p',cs',he⟩}
 refine⟨hK,?_⟩
 exact {
  good:=h.good
  st:=⟨fun i b hi=>by
    rcases cases2 i b hi with⟨h1,h2⟩|⟨rfl,rfl⟩
    ·rw[plo i h1]
     exact(h.st.blk i b h2).mono hK fun g base hp=>hold g (Al.own_lt h.st h2 hp)
    ·rw[pnew]
     exact hblk _ _ _,
   fun i j bi bj p1 q1 hi hj hp hq1 he=>by
    obtain⟨pb,po⟩:=p1
    obtain⟨qb,qo⟩:=q1
    dsimp only at he
    subst he
    rcases cases2 i bi hi with⟨h1,h2⟩|⟨rfl,rfl⟩<;>rcases cases2 j bj hj with⟨g1,g2⟩|⟨rfl,rfl⟩
    ·rw[plo i h1] at hp;rw[plo j g1] at hq1
     exact h.st.inj i j bi bj _ _ h2 g2 hp hq1 rfl
    ·rw[plo i h1] at hp;rw[pnew] at hq1
     have:=Al.own_lt h.st h2 hp;have:=hq _ _ hq1;omega
    ·rw[plo j g1] at hq1;rw[pnew] at hp
     have:=Al.own_lt h.st g2 hq1;have:=hq _ _ hp;omega
    ·rfl⟩
  keep:=fun i blk b base hi hp hKb=>by
   rcases cases2 i blk hi with⟨h1,h2⟩|⟨rfl,rfl⟩
   ·rw[plo i h1] at hp;exact h.keep i blk b base h2 hp hKb
   ·rw[pnew] at hp
    have:=hq _ _ hp
    have:=hKb.1;have:=h.size;omega
  os:=hos.trans h.os
  tape:=ht.trans h.tape
  drawn:=Nat.le_trans h.drawn hdr
  output:=ho.trans h.output
  size:=Nat.le_trans h.size hs
  block:=fun b hKb=>(hold b (Nat.lt_of_lt_of_le hKb.1 h.size)).trans (h.block b hKb)
  kept:=Kept.trans h.size h.kept hK}
section
variable {P:Program}{σ0:b6}{sz:Nat}{Q:Post}{env:Env}{σv σ':b6}{ops:Array Oper}{rest:List Oper}{dst:Option Nat}{ty:Ti}{pos:String}{after:Array Edge}
theorem S.freshL{α:Type}{g:α→List I}{l:List α}{x:Od}{as':List Od}{ats:Array Ti}{f:FuncId}{caps:List C}{ts ts':List T}{k:Nat}{n:Id}(hg:∀a,((g a).map C.imm).all C.scal=true)(hx:ev env x=some (.c (.fn f caps)))(ha:evs env as'=some ts)(hl:af5 σv (ts++caps.map T.c) ts')(hd:g8 sz dst=true)
  (hf:n7 P f ts' k (l.map g)) (hn:newF σv=some n) (hσ:r9 σv (.one (vec k g l))=some σ') (h:AOps P σ0 sz ops Q rest (St.mk (putE env dst (.c (.own n 0 l.length))) σ')):
  AOps P σ0 sz ops Q (⟨dst,.call ⟨.value x,as'.toArray,ats⟩,ty,pos,after,none⟩::rest) (St.mk env σv):=by
 have h1:=A5 hn;have h2:=p7 hσ
 subst h1 h2
 intro Γ φ a w hΓ hR ro
 obtain⟨vs,h1,h2,h3⟩:=al7 (P:=P) (dst:=dst) (ty:=ty) (pos:=pos) (after:=after) (ats:=ats) hR hx ha hf.fn
 obtain⟨l1,l2⟩:=hl.get
 refine U6 rfl (ao1 h1 ?_)
 refine(hf.run (Cx.open w) vs rfl (good_open w) (by rw[l1];exact h2) (fun i t u hi hu=> ?_)).mono ?_
 ·obtain⟨t0,ht0,hlend⟩:=l2 i t hi
  exact hlend.rel hR (al_open w) (h3 i t0 u ht0 hu)
 ·rintro e w' ⟨v,r',σ2,φ',rfl,⟨id',rfl,hid⟩,hrel,hs⟩
  have hview:=D2 hrel hid
  have hb:=hs.st.blk _ _ hid
  have hnew:∀b base,φ' id'=some (b,base)→w.heap.size≤b:=fun b base hp=>by
   have:=hs.keep id' _ b base hid hp
   rcases Nat.lt_or_ge b w.heap.size with c|c
   ·exact absurd ⟨c,fun i blk base hi=>by simp[Cx.open] at hi⟩ this
   ·exact c
  have scal:∀(j:Nat) (e:List C) (o:Nat) (y:C),((l.map g).map (·.map C.imm))[j]? =some e→e[o]? =some y→y.scal=true:=fun j e o y he hy=>by
   simp only[List.map_map,lM,oM,Function.comp_apply] at he
   obtain⟨z,_,rfl⟩:=he
   have:=List.all_eq_true.1 (hg z)
   exact this y (List.mem_of_getElem? hy)
  obtain⟨hK1,hR1⟩:=hR.toRs.adopt (w':=w') hs.os hs.tape hs.drawn hs.output hs.size (fun b hb=>hs.block b ⟨hb,fun i blk base hi=>by simp[Cx.open] at hi⟩) (k:=k) (es:=(l.map g).map (·.map C.imm)) (q:=φ' id') hnew (fun φ σ A=>by
   rcases hb with h|⟨b,base,arr,ety,p1,p2,p3,p4,p5⟩
   ·exact .inl h
   ·refine .inr ⟨b,base,arr,ety,p1,p2,p3,p4,fun j e o y he hy=> ?_⟩
    obtain⟨u,hu,hr⟩:=p5 j e o y he hy
    exact⟨u,hu,C.scal_rel (scal j e o y he hy) hr⟩)
  have hlen:(l.map g).length=l.length:=List.length_map ..
  refine h Γ _ _ w' hΓ ((hR.of hK1 hR1).put hd ?_) ro
  refine H2 (k:=k) (es:=(l.map g).map (·.map C.imm)) (b6.get_last _ _) (by cases hrel with|c hr=>exact hr.one) ?_
  rw[hlen] at hview
  simpa using hview
end
end Ab
end
section
namespace Ab
open Go
def mvr(r n:Nat)(i:Id):Id:=((match Nat.beq i.1 r with|true=>n|false=>i.1),i.2)
theorem au2{r n:Nat}{i:Id}(h:i.1=r):mvr r n i=(n,i.2):=by
 have:Nat.beq i.1 r=true:=by rw[h];exact Nat.beq_refl r
 simp only[mvr,this]
theorem mvr_ne{r n:Nat}{i:Id}(h:i.1 ≠ r):mvr r n i=i:=by
 have:Nat.beq i.1 r=false:=O4 h
 simp only[mvr,this]
section
variable {P:Program}{σ0:b6}{sz:Nat}{Q:Post}{env env':Env}{σv σ':b6}{ops:Array Oper}{rest:List Oper}{dst:Option Nat}{ty:Ti}{pos:String}{after:Array Edge}
inductive EntR(r n:Nat)(σ:b6)(m i:Nat):Ent→Prop
 |dead:EntR r n σ m i .dead
 |one {b:Blk} (h1:b.ok m=true) (h2:σ[mvr r n (i,[])]? =some (some (b.ren (mvr r n)))):EntR r n σ m i (.one b)
 |vec {α:Type} {k:Nat} {f:α→List I} {l:List α} (h2:σ[mvr r n (i,[])]? =some (some (vec k f l))):EntR r n σ m i (.one (vec k f l))
 |mat {α:Type} {k j:Nat} {f:α→List I} {M:List (List α)} (hj:(mvr r n (i,[])).1=j) (hi:Nat.blt i m=true) (h:σ[j]? =some (mat (j,[]) k f M)):EntR r n σ m i (mat (i,[]) k f M)
 |any {e:Ent} (h:∀p b,e.sub p=some b→b.ok m=true∧σ[mvr r n (i,p)]? =some (some (b.ren (mvr r n)))):EntR r n σ m i e
def StR_(r n:Nat)(σ:b6)(m:Nat):Nat→b6→Prop
 |_,[]=>True
 |i,e::l=>EntR r n σ m i e∧StR_ r n σ m (i+1) l
theorem EntR.get{r n:Nat}{σ:b6}{m i:Nat}{e:Ent}(h:EntR r n σ m i e){p:List Nat}{b:Blk}(hb:e.sub p=some b):b.ok m=true∧σ[mvr r n (i,p)]? =some (some (b.ren (mvr r n))):=by
 cases h with
 |dead=>cases p<;>cases hb
 |one h1 h2=>cases p with
  |nil=>cases hb;exact⟨h1,h2⟩
  |cons=>cases hb
 |vec h2=>cases p with
  |nil=>cases hb;exact⟨P4,by rw[Blk.im_ren];exact h2⟩
  |cons=>cases hb
 |@mat α k j f M hj hi h=>
  have hi':i<m:=by simpa using hi
  have e:∀q,mvr r n (i,q)=(j,q):=fun q=>by rw[← hj];rfl
  rw[e,q8 h]
  cases p with
  |nil=>
   cases hb
   refine⟨hdr_ok hi' _,?_⟩
   rw[mat_main]
   congr 2
   simp only[Blk.ren]
   congr 1
   apply List.ext_getElem?
   intro q
   rw[lM]
   simp only[hdr,List.getElem?_mapIdx,Option.map_map]
   cases M[q]? with
   |none=>rfl
   |some row=>simp[C.renL,C.ren,e]
  |cons a q=>
   rw[I8] at hb ⊢
   split at hb
   ·rename_i row hrow
    cases q with
    |cons b q=>cases hb
    |nil=>cases hb;exact⟨P4,by rw[Blk.im_ren]⟩
   ·cases hb
 |any h=>exact h p b hb
theorem StR_.get{r n m:Nat}{σ:b6}:∀{i:Nat} {σ':b6},StR_ r n σ m i σ'→∀(j:Nat) (p:List Nat) (b:Blk),σ'[((j,p):Id)]? =some (some b)→b.ok m=true∧σ[mvr r n (i+j,p)]? =some (some (b.ren (mvr r n)))
 |_,[],_,j,p,b,h=>by simp at h
 |i,e::l,h,0,p,b,hb=>by
  rw[b6.at_eq] at hb
  simp only[b6.at,List.getElem?_cons_zero,Option.some.injEq] at hb
  exact h.1.get hb
 |i,e::l,h,j+1,p,b,hb=>by
  have:=StR_.get (i:=i+1) h.2 j p b (by
   rw[b6.at_eq] at hb ⊢
   simpa[b6.at] using hb)
  rwa [show i+1+j=i+(j+1) by omega] at this
def EnvR(r n:Nat)(env:Env):Env→Prop
 |[]=>True
 |(t,v)::l=>lookup t env=some (v.ren (mvr r n))∧EnvR r n env l
theorem EnvR.get{r n:Nat}:∀{env':Env},EnvR r n env env'→∀t v,lookup t env'=some v→lookup t env=some (v.ren (mvr r n))
 |[],_,t,v,h=>by simp[lookup] at h
 |(k,x)::l,⟨h1,h2⟩,t,v,h=>by
  simp only[lookup] at h
  split at h
  ·rename_i he;cases h;rw[← Nat.eq_of_beq_eq_true he];exact h1
  ·exact EnvR.get h2 t v h
def deadR(σ:b6)(n:Nat):Bool:=match σ[n]? with
 |some .dead=>true
 |some _=>false
 |none=>true
theorem Sub.moveM(r n:Nat)(h0:Nat.ble σ0.length r=true)(hl:Nat.ble σ0.length σ'.length=true)(hn:deadR σ' n=true)(henv:EnvR r n env env')(he:V7 σ'.length env'=true)(hst:StR_ r n σv σ'.length 0 σ'):Sub σ0 ⟨env,σv⟩ ⟨env',σ'⟩:=by
 have h0':=Nat.le_of_ble_eq_true h0
 have hd:∀(p:List Nat) b,σ'[((n,p):Id)]? ≠ some (some b):=fun p b hb=>by
  rw[b6.at_eq] at hb
  simp only[b6.at] at hb
  simp only[deadR] at hn
  split at hb
  ·rename_i e hx
   rw[hx] at hn
   cases e with
   |dead=>cases p<;>cases hb
   |one=>cases hn
   |node=>cases hn
  ·cases hb
 refine Sub.mk (mvr r n) (fun i hi=>mvr_ne (fun e=>by omega)) (Nat.le_of_ble_eq_true hl) (fun i j b b' hi hj h=> ?_) (fun i b hi=> ?_) (fun t v ht=>⟨ae1 he t v ht,henv.get t v ht⟩)
 ·by_cases h1:i.1=r<;>by_cases h2:j.1=r
  ·rw[au2 h1,au2 h2] at h
   exact Prod.ext (h1.trans h2.symm) (Prod.mk.inj h).2
  ·rw[au2 h1,mvr_ne h2] at h
   subst h;exact absurd hj (hd _ _)
  ·rw[au2 h2,mvr_ne h1] at h
   subst h;exact absurd hi (hd _ _)
  ·rwa [mvr_ne h1,mvr_ne h2] at h
 ·have:=hst.get i.1 i.2 b hi
  rwa [Nat.zero_add] at this
theorem AWP.moveM{c:Code}(r n:Nat)(h0:Nat.ble σ0.length r=true)(hl:Nat.ble σ0.length σ'.length=true)(hn:deadR σ' n=true)(henv:EnvR r n env env')(he:V7 σ'.length env'=true)(hst:StR_ r n σv σ'.length 0 σ')(h:AWP P σ0 sz c Q (St.mk env' σ')):AWP P σ0 sz c Q (St.mk env σv):=
 AWP.sub (Sub.moveM r n h0 hl hn henv he hst) h
/-! ### A row of nothing appended to rows -/
end
end Ab
end
section
namespace Ab
open Go
section
variable {P:Program}{σ0:b6}{sz:Nat}{Q:Post}{env env':Env}{σv σ':b6}
theorem Sub.virtBM{α:Type}(k:Nat)(f:α→List I){b:Id}{n kb o:Nat}{cs cs':List C}{σ1 σ3 σ4:b6}(hb:σv[b]? =some (some (.cells kb [cs])))(hc:cs[o]? =some (.imm (.val (.slice none 0 0))))(hn:newF σv=some (n,[]))(h1:r9 σv (mat (n,[]) k f [])=some σ1)
  (hs:setF cs o (.own (n,[]) 0 ([]:List (List α)).length)=some cs') (hσ':putF σ1 b (some (.cells kb [cs']))=some σ') (h3:r9 σv (.one (vec 1 (fun _:α=>([]:List I)) ([]:List α)))=some σ3) (h4:putF σ3 b (some (.cells kb [cs']))=some σ4):Sub σ0 ⟨env,σv⟩ ⟨env,σ'⟩:=by
 have g1:=A5 hn;have g2:=p7 h1;have g4:=C7 hσ'
 cases g1
 subst g2 g4
 have e3:=p7 h3;have e4:=C7 h4
 subst e3 e4
 have hbl:=b6.lt_of hb
 have hb3:(σv++[.one (vec 1 (fun _:α=>([]:List I)) ([]:List α))])[b]? =some (some (.cells kb [cs])):=by rw[b6.get_left hbl];exact hb
 refine(Sub.virtB (α:=α) 1 (fun _=>[]) hb hc hn h3 hs h4).trans (Sub.same (by simp) fun i=> ?_)
 have hbm:(σv++[mat (σv.length,[]) k f ([]:List (List α))])[b]? =some (some (.cells kb [cs])):=by rw[b6.get_left hbl];exact hb
 by_cases hi:i=b
 ·subst hi
  rw[b6.get_put_eq hb3,b6.get_put_eq hbm]
 ·rw[b6.get_put_ne hi,b6.get_put_ne hi]
  rcases Nat.lt_or_ge i.1 σv.length with hl|hl
  ·rw[b6.get_left hl,b6.get_left hl]
  ·rw[b6.get_right hl,b6.get_right hl]
   obtain⟨i1,q⟩:=i
   rw[b6.at_eq,b6.at_eq]
   simp only[b6.at]
   cases i1 - σv.length with
   |zero=>cases q<;>rfl
   |succ m=>rfl
theorem AWP.virtBM{α:Type}{c:Code}(k:Nat)(f:α→List I){b:Id}{n kb o:Nat}{cs cs':List C}{σ1 σ3 σ4:b6}(hb:σv[b]? =some (some (.cells kb [cs])))(hc:cs[o]? =some (.imm (.val (.slice none 0 0))))(hn:newF σv=some (n,[]))(h1:r9 σv (mat (n,[]) k f [])=some σ1)
  (hs:setF cs o (.own (n,[]) 0 ([]:List (List α)).length)=some cs') (hσ':putF σ1 b (some (.cells kb [cs']))=some σ') (h3:r9 σv (.one (vec 1 (fun _:α=>([]:List I)) ([]:List α)))=some σ3) (h4:putF σ3 b (some (.cells kb [cs']))=some σ4) (h:AWP P σ0 sz c Q ⟨env,σ'⟩):AWP P σ0 sz c Q ⟨env,σv⟩:=AWP.sub (Sub.virtBM k f hb hc hn h1 hs hσ' h3 h4) h
end
end Ab
end
section
namespace Ab
open Go
section
variable {P:Program}{σ0:b6}{sz:Nat}{Q:Post}{env env':Env}{σv σ':b6}{ops:Array Oper}{rest:List Oper}{dst:Option Nat}{ty:Ti}{pos:String}{after:Array Edge}
/-! ### Calls through an interface -/
class MethF (P:Program) (t:Ti) (name:String) (f:outParam FuncId) (b:outParam Bool):Prop where
 h:((P.info? t).bind fun i=>(i.methods.find? (·.name==name)).map fun m=>(m.path.toList,m.func))=some ([],some (f,b))
theorem MethF.get{t:Ti}{name:String}{f:FuncId}{b:Bool}[h:MethF P t name f b]:∃i m,P.info? t=some i∧i.methods.find? (·.name==name)=some m∧m.path=#[]∧m.func=some (f,b):=by
 obtain⟨i,h1,h2⟩:=Option.bind_eq_some_iff.1 h.h
 obtain⟨m,h3,h4⟩:=oM.1 h2
 simp only[Prod.mk.injEq] at h4
 exact⟨i,m,h1,h3,by simpa using h4.1,h4.2⟩
/-! ### Maps: how many keys -/
/-! ### Maps whose values are nothing (sets) -/
end
/-! ### A struct without fields -/
/-! ### Contracts with two kinds of ends -/
end Ab
end
section
namespace Ab
open Go
section
variable {α:Type}
/-! ### Rows and maps of pointers among other blocks -/
section
variable {K:Type}{fk:K→Vl}{r:Nat}{m:List (K×Int)}
end
end
section
variable {P:Program}{σ0:b6}{sz:Nat}{Q:Post}{env env':Env}{σv σ':b6}{ops:Array Oper}{rest:List Oper}{dst:Option Nat}{ty:Ti}{pos:String}{after:Array Edge}
/-! ### Rows of pointers -/
/-! ### Entries -/
/-! ### Maps of pointers -/
section
variable {K:Type}[DecidableEq K]{V:Type}{fk:K→Vl}{d:TypeDesc}
end
/-! ### A view becomes a row of its own -/
/-! ### Places told by their bounds alone -/
end
end Ab
end
section
namespace Ab
open Go
section
variable {K α:Type}[DecidableEq K]
variable {fk:K→Vl}{f:α→List I}{m:List (K×List α)}{r k:Nat}
end
section
variable {P:Program}{σ0:b6}{sz:Nat}{Q:Post}{env env':Env}{σv σ':b6}{ops:Array Oper}{rest:List Oper}{dst:Option Nat}{ty:Ti}{pos:String}{after:Array Edge}
variable {K α:Type}[DecidableEq K]{fk:K→Vl}{d:TypeDesc}{f:α→List I}{m:List (K×List α)}{r k:Nat}
end
end Ab
end
section
namespace Ab
open Go
section
variable {P:Program}{σ0:b6}{sz:Nat}{Q:Post}{env:Env}{σv σ':b6}{ops:Array Oper}{rest:List Oper}{dst:Option Nat}{ty:Ti}{pos:String}{after:Array Edge}
theorem AOps.eqlNil{x y:Od}{t t' e:Ti}{k:Nat}{es:List (List I)}[ht:TyD P t (.slice e)](hx:ev env x=some (.c (.imm (.sl k es))))(hy:ev env y=some (.c (.imm (.val (.slice none 0 0)))))(hd:g8 sz dst=true)
  (h1:es=[]→AOps P σ0 sz ops Q rest (St.mk (putE env dst (.c (bool true))) σv)) (h2:AOps P σ0 sz ops Q rest (St.mk (putE env dst (.c (bool false))) σv)):
  AOps P σ0 sz ops Q (⟨dst,.binOp .eql t x y t',ty,pos,after,none⟩::rest) (St.mk env σv):=fun Γ φ a w hΓ hR ro=>by
  have hrel:=j3 hR hx
  have hyv:=w6 hR hy
  generalize hu:a.eval x=u at hrel
  cases hrel with|c hrel=>cases hrel with|imm hrel=>
  cases hrel with
  |slNil=>
   have hg:(eqGuard .eql t x y (.slice none 0 0) (.slice none 0 0)).run P w=.ok () w:=rfl
   have hr:(binOp .eql t (.slice none 0 0) (.slice none 0 0)).run P w=.ok (.bool true) w:=by
    show(do pure (Value.bool (← Op.equal t (.slice none 0 0) (.slice none 0 0)))).run P w=_
    simp[run_equal_slice_nil w t e none 0 0 ht.h]
   have hrun:(execOp a.eval ⟨dst,.binOp .eql t x y t',ty,pos,after,none⟩).run P w=.ok (.value (.bool true)) w:=by
    simp[execOp,hu,hyv,hg,hr]
   exact U6 rfl (val_in hrun (h1 rfl Γ φ _ w hΓ (hR.put hd (.c (.imm (.val rfl)))) ro))
  |@sl _ _ ad cap us _ _ _ _ _=>
   have hg:(eqGuard .eql t x y (.slice (some ad) es.length cap) (.slice none 0 0)).run P w=.ok () w:=rfl
   have hr:(binOp .eql t (.slice (some ad) es.length cap) (.slice none 0 0)).run P w=.ok (.bool false) w:=by
    show(do pure (Value.bool (← Op.equal t (.slice (some ad) es.length cap) (.slice none 0 0)))).run P w=_
    simp[run_equal_slice_nil w t e (some ad) es.length cap ht.h]
   have hrun:(execOp a.eval ⟨dst,.binOp .eql t x y t',ty,pos,after,none⟩).run P w=.ok (.value (.bool false)) w:=by
    simp[execOp,hu,hyv,hg,hr]
   exact U6 rfl (val_in hrun (h2 Γ φ _ w hΓ (hR.put hd (.c (.imm (.val rfl)))) ro))
end
end Ab
end
section
namespace Ab
open Go Go.Proofs
open Tryz
def v6(s:Li):Option Li:=app 8 [] s
theorem C6{s r:Li}(h:v6 s=some r):n7 prog 76 [.c (row 1 intI s)] 1 (List.map intI r):=by
 unfold v6 at h
 unfold n7
 refine FnOk.enter (rs:=[.t 2]) func76 rfl ntmps76 results76 rfl ⟨Y,Y⟩ (by kernel_rfl) rfl ?_
 refine AWP.e ?_
 refine AWP.O ?_
 refine AOps.u rfl rfl ?_
 refine AOps.nil ?_
 refine b5 ?_
 refine AWP.e ?_
 refine AWP.e ?_
 refine AWP.O ?_
 refine AOps.z rfl rfl ?_
 refine AOps.eqlNil rfl rfl rfl (fun he=> ?_) ?_
 ·have hs:s=[]:=by simpa using he
  subst hs
  have hr:r=[]:=by
   have:=am3 h
   simpa using this.2
  subst hr
  refine AOps.nil ?_
  refine b5 ?_
  refine AWP.condT rfl ?_
  refine AWP.e ?_
  refine AWP.O ?_
  refine AOps.u rfl rfl ?_
  refine AOps.nil ?_
  refine b5 ?_
  refine AWP.virtV 1 intI 2 rfl rfl rfl ?_
  refine AWP.ret ?_
  refine d9 ?_
  exact Done.ret rfl (Fresh.mk rfl rfl)
 ·refine AOps.nil ?_
  refine b5 ?_
  refine AWP.condF rfl ?_
  refine AWP.skip ?_
  refine b5 ?_
  refine AWP.e ?_
  refine AWP.O ?_
  refine S.lit (f:=intI) (l:=[]) (ess:=[]) rfl rfl rfl rfl rfl rfl rfl Y rfl rfl rfl ?_
  refine AOps.z rfl rfl ?_
  refine S.append (f:=intI) h rfl rfl rfl rfl rfl rfl .row rfl rfl rfl rfl ?_
  refine AOps.u rfl rfl ?_
  refine AOps.nil ?_
  refine b5 ?_
  refine AWP.ret ?_
  exact Done.ret rfl (Fresh.mk rfl rfl)
end Ab
end
section
namespace Ab
open Go Go.Proofs
open Tryz
abbrev rowI(l:Li):List I:=[.sl 1 (l.map intI)]
def x8(s:LL):Option (LL):=app 24 [] s
theorem L7{s r:LL}(h:x8 s=some r):n7 prog 38 [.c (row 1 rowI s)] 1 (List.map rowI r):=by
 unfold x8 at h
 unfold n7
 refine FnOk.enter (rs:=[.t 2]) func38 rfl ntmps38 results38 rfl ⟨Y,Y⟩ (by kernel_rfl) rfl ?_
 refine AWP.e ?_
 refine AWP.O ?_
 refine AOps.u rfl rfl ?_
 refine AOps.nil ?_
 refine b5 ?_
 refine AWP.e ?_
 refine AWP.e ?_
 refine AWP.O ?_
 refine AOps.z rfl rfl ?_
 refine AOps.eqlNil rfl rfl rfl (fun he=> ?_) ?_
 ·have hs:s=[]:=by simpa using he
  subst hs
  have hr:r=[]:=by
   have:=am3 h
   simpa using this.2
  subst hr
  refine AOps.nil ?_
  refine b5 ?_
  refine AWP.condT rfl ?_
  refine AWP.e ?_
  refine AWP.O ?_
  refine AOps.u rfl rfl ?_
  refine AOps.nil ?_
  refine b5 ?_
  refine AWP.virtV 1 rowI 2 rfl rfl rfl ?_
  refine AWP.ret ?_
  refine d9 ?_
  exact Done.ret rfl (Fresh.mk rfl rfl)
 ·refine AOps.nil ?_
  refine b5 ?_
  refine AWP.condF rfl ?_
  refine AWP.skip ?_
  refine b5 ?_
  refine AWP.e ?_
  refine AWP.O ?_
  refine S.lit (f:=rowI) (l:=[]) (ess:=[]) rfl rfl rfl rfl rfl rfl rfl Y rfl rfl rfl ?_
  refine AOps.z rfl rfl ?_
  refine S.append (f:=rowI) h rfl rfl rfl rfl rfl rfl .row rfl rfl rfl rfl ?_
  refine AOps.u rfl rfl ?_
  refine AOps.nil ?_
  refine b5 ?_
  refine AWP.ret ?_
  exact Done.ret rfl (Fresh.mk rfl rfl)
end Ab
end
section
namespace Ab
open Go Go.Proofs
open Tryz
set_option maxHeartbeats 4000000
attribute [local irreducible] AWP AOps thn inB Done e8 n7 Sub
abbrev u64(n:Int):C:=.imm (.val (.int .u64 n))
theorem and32(n:Nat)(hn:n≤4294967295):Go.bits .and .u64 (n:Int) 4294967295=n:=by
 have h:=bits_and_u64_nat n 4294967295 (by omega) (by omega)
 rw[show(4294967295:Nat)=2 ^ 32 - 1 from rfl,Nat.and_two_pow_sub_one_eq_mod] at h
 rw[show((4294967295:Int))=((2 ^ 32 - 1:Nat):Int) from rfl,h]
 omega
theorem small_facts(n:Nat)(hn:n≤4294967295):Go.bits .and .u64 (n:Int) 4294967295=n∧Int.fdiv (n:Int) (2 ^ (min (32:Int).toNat (IntKind.bits .u64)))=0∧IntKind.u64.wrap (1 * (n:Int))=n∧IntKind.u64.wrap (0 * (n:Int))=0:=by
 refine⟨and32 n hn,?_,?_,?_⟩
 ·show Int.fdiv (n:Int) 4294967296=0
  rw[Int.fdiv_eq_ediv_of_nonneg _ (by omega)];omega
 ·simp only[IntKind.wrap,IntKind.bits,IntKind.signed,Bool.false_and];simp;omega
 ·simp[IntKind.wrap,IntKind.bits,IntKind.signed]
theorem an1(n:Nat)(hn:n≤4294967295):e8 prog 143 [.c (u64 1),.c (u64 n)] (.tup [.c (u64 0),.c (u64 n)]):=by
 obtain⟨f1,f2,f3,f4⟩:=small_facts n hn
 unfold e8
 refine FnOk.enter (rs:=[.t 4,.t 5]) func143 rfl ntmps143 results143 rfl ⟨Y,Y,Y⟩ (by kernel_rfl) rfl ?_
 repeat (first|refine AOps.z rfl rfl ?_|refine AOps.u rfl rfl ?_|refine AOps.nil ?_|refine AWP.e ?_|refine AWP.O ?_|refine b5 ?_|refine AOps.andE (c:=(n:Int)) rfl rfl rfl f1 ?_|refine AOps.andE (c:=1) rfl rfl rfl (by decide) ?_|refine AOps.andE (c:=0) rfl rfl rfl (by decide) ?_|refine AOps.shr (c:=0) rfl rfl rfl (by decide) (by first|exact f2|decide) ?_|refine AOps.mulE (c:=(n:Int)) rfl rfl rfl f3 ?_|refine AOps.mulE (c:=0) rfl rfl rfl (by first|exact f4|decide) ?_|refine AOps.addE (c:=0) rfl rfl rfl (by decide) ?_)
 repeat (first|refine AWP.e ?_|refine AWP.ret ?_|refine d9 ?_|refine i4 ?_|refine AWP.skip ?_|refine b5 ?_|refine d6 ?_|refine AWP.exit ?_|refine i5 ?_|refine f9 ?_|refine ai5 rfl ?_)
 exact Done.ret rfl rfl
theorem mul_ok(n:Nat)(hn:n≤4294967295):e8 prog 120 [.c (u64 1),.c (u64 n)] (.tup [.c (u64 0),.c (u64 n)]):=by
 unfold e8
 refine FnOk.enter (rs:=[.t 4,.t 5]) func120 rfl ntmps120 results120 rfl ⟨Y,Y,Y⟩ (by kernel_rfl) rfl ?_
 repeat (first|refine AWP.e ?_|refine AWP.j ?_|refine AWP.skip ?_|refine b5 ?_|refine d6 ?_|refine AWP.condT rfl ?_|refine AWP.condF rfl ?_)
 refine AWP.O ?_
 refine AOps.u rfl rfl ?_
 refine AOps.u rfl rfl ?_
 refine AOps.nil ?_
 repeat (first|refine b5 ?_|refine d6 ?_)
 repeat (first|refine AWP.e ?_|refine AWP.j ?_|refine AWP.skip ?_|refine b5 ?_|refine d6 ?_|refine AWP.condT rfl ?_|refine AWP.condF rfl ?_)
 refine AWP.O ?_
 refine AOps.z rfl rfl ?_
 refine AOps.z rfl rfl ?_
 first|refine AOps.q rfl rfl rfl rfl (an1 n hn) rfl ?_|refine AOps.q rfl rfl rfl rfl (an1 n hn) rfl ?_|refine AOps.q rfl rfl rfl rfl (an1 n hn) rfl ?_|refine AOps.q rfl rfl rfl rfl (an1 n hn) rfl ?_|refine AOps.q rfl rfl rfl rfl (an1 n hn) rfl ?_
 refine AOps.z rfl rfl ?_
 refine AOps.extract rfl rfl rfl ?_
 refine AOps.extract rfl rfl rfl ?_
 refine AOps.u rfl rfl ?_
 refine AOps.u rfl rfl ?_
 refine AOps.nil ?_
 repeat (first|refine b5 ?_|refine d6 ?_)
 repeat (first|refine AWP.e ?_|refine AWP.j ?_|refine AWP.skip ?_|refine b5 ?_|refine d6 ?_|refine AWP.condT rfl ?_|refine AWP.condF rfl ?_)
 refine AWP.O ?_
 refine AOps.z rfl rfl ?_
 refine AOps.z rfl rfl ?_
 refine AOps.u rfl rfl ?_
 refine AOps.u rfl rfl ?_
 refine AOps.nil ?_
 repeat (first|refine b5 ?_|refine d6 ?_)
 repeat (first|refine AWP.e ?_|refine AWP.ret ?_|refine d9 ?_|refine i4 ?_|refine AWP.skip ?_|refine b5 ?_|refine d6 ?_|refine AWP.exit ?_|refine i5 ?_|refine f9 ?_|refine ai5 rfl ?_)
 exact Done.ret rfl rfl
theorem wrap_facts(n:Nat)(hn:n≤4294967295):IntKind.u64.wrap (n:Int)=n∧IntKind.i64.wrap (n:Int)=n:=by
 refine⟨?_,wrap_i64 (by omega)⟩
 simp only[IntKind.wrap,IntKind.bits,IntKind.signed,Bool.false_and];simp;omega
def repC(c:Int)(n i:Nat):List (List C):=(List.range n).map fun j=>[int (if j<i then c else 0)]
theorem rep_first{c:Int}{n:Nat}(h:1≤n):(List.replicate n [C.imm (.val (.int .i64 0))]).take 0++(([c]:Li).map intI|>.map (·.map C.imm)).take 1++(List.replicate n [C.imm (.val (.int .i64 0))]).drop (0+1)=repC c n 1:=by
 apply List.ext_getElem?
 intro j
 simp only[repC,lM]
 match j with
 |0=>simp[show 0<n by omega]
 |j+1=>
  simp only[List.take_zero,List.nil_append,List.map_cons,List.map_nil,List.take_succ_cons,List.take_nil,List.cons_append,List.getElem?_cons_succ,List.getElem?_drop,List.getElem?_replicate]
  by_cases hj:j+1<n
  ·rw[if_pos (by omega),List.getElem?_range hj];simp
  ·rw[if_neg (by omega),List.getElem?_eq_none (by simp;omega)];rfl
theorem rep_more{c:Int}{n i m:Nat}(h1:m≤i)(h2:i+m≤n):(repC c n i).take (0+i)++(((repC c n i).drop 0).take i).take m++(repC c n i).drop (0+i+m)=repC c n (i+m):=by
 apply List.ext_getElem?
 intro j
 have len:(repC c n i).length=n:=by simp[repC]
 have hg:∀k j,(repC c n k)[j]? =if j<n then some [int (if j<k then c else 0)] else none:=fun k j=>by
  simp only[repC,lM]
  by_cases hj:j<n
  ·rw[List.getElem?_range hj,if_pos hj];rfl
  ·rw[List.getElem?_eq_none (by simp;omega),if_neg hj];rfl
 rw[Nat.zero_add,List.drop_zero,hg]
 rcases Nat.lt_or_ge j i with hl|hl
 ·rw[List.append_assoc,List.getElem?_append_left (by simp[len];omega),List.getElem?_take,if_pos hl,hg]
  simp[show j<n by omega,hl,show j<i+m by omega]
 ·rcases Nat.lt_or_ge j (i+m) with hl2|hl2
  ·rw[List.getElem?_append_left (by simp[len];omega),List.getElem?_append_right (by simp[len];omega),List.getElem?_take,if_pos (by simp[len];omega),List.getElem?_take,if_pos (by simp[len];omega),hg]
   have e:(List.take i (repC c n i)).length=i:=by simp[len];omega
   rw[e,if_pos (by omega),if_pos (by omega),if_pos (by omega),if_pos (by omega)]
  ·rw[List.getElem?_append_right (by simp[len];omega),List.getElem?_drop,hg]
   have e:(List.take i (repC c n i)++List.take m (List.take i (repC c n i))).length=i+m:=by simp[len];omega
   rw[e,show i+m+(j - (i+m))=j by omega]
   split
   ·rw[if_neg (by omega),if_neg (by omega)]
   ·rfl
theorem rep_full(c:Int)(n:Nat):Blk.cells 1 (repC c n n)=Blk.im 1 (List.replicate n [.val (.int .i64 c)]):=by
 rw[Blk.im,repC]
 congr 1
 apply List.ext_getElem?
 intro j
 simp only[lM,List.getElem?_replicate]
 by_cases hj:j<n
 ·rw[List.getElem?_range hj,if_pos hj];simp[hj]
 ·rw[List.getElem?_eq_none (by simp;omega),if_neg hj];rfl
theorem repeat_ok(c:Int)(n:Nat)(h1:1≤n)(hn:n≤4294967295):n7 prog 83 [.c (ints [c]),.c (int n)] 1 (List.replicate n [.val (.int .i64 c)]):=by
 obtain⟨w1,w2⟩:=wrap_facts n hn
 unfold n7
 refine FnOk.enter (rs:=[.t 4]) func83 rfl ntmps83 results83 rfl ⟨Y,Y⟩ (by kernel_rfl) rfl ?_
 repeat (first|refine AWP.e ?_|refine AWP.j ?_|refine AWP.skip ?_|refine b5 ?_|refine d6 ?_|refine AWP.condT rfl ?_|refine AWP.condF rfl ?_)
 refine AWP.O ?_
 refine AOps.u rfl rfl ?_
 refine AOps.nil ?_
 repeat (first|refine b5 ?_|refine d6 ?_)
 have hd:decide ((n:Int)<0)=false:=decide_eq_false (by omega)
 repeat (first|refine AWP.e ?_|refine AWP.j ?_|refine AWP.skip ?_|refine b5 ?_|refine d6 ?_|refine AWP.condT rfl ?_|refine AWP.condF rfl ?_)
 refine AWP.O ?_
 refine AOps.z rfl rfl ?_
 refine AOps.lss rfl rfl rfl ?_
 refine AOps.nil ?_
 repeat (first|refine b5 ?_|refine d6 ?_)
 (repeat (refine AWP.e ?_));first|refine AWP.condD rfl (fun hc=> ?_) (fun hc=> ?_)|refine AWP.condN rfl (fun hc=> ?_) (fun hc=> ?_)|refine AWP.condE rfl (fun hc=> ?_) (fun hc hc'=> ?_)|refine AWP.condB rfl (fun hc=> ?_) (fun hc=> ?_)|refine AWP.cond rfl (fun hc=> ?_) (fun hc=> ?_)
 ·omega
 repeat (first|refine AWP.skip ?_|refine b5 ?_|refine d6 ?_|refine AWP.condT rfl ?_|refine AWP.condF rfl ?_)
 repeat (first|refine AWP.e ?_|refine AWP.j ?_|refine AWP.skip ?_|refine b5 ?_|refine d6 ?_|refine AWP.condT rfl ?_|refine AWP.condF rfl ?_)
 refine AWP.O ?_
 refine AOps.z rfl rfl ?_
 first|refine AOps.lenB rfl rfl (fun _=> ?_)|refine AOps.lenOwnB rfl rfl rfl (fun _=> ?_)|refine AOps.lenNil rfl rfl ?_
 refine AOps.convE (c:=1) rfl rfl (show IntKind.u64.wrap ((1:Nat):Int)=1 by decide) ?_
 refine AOps.z rfl rfl ?_
 refine AOps.convE (c:=(n:Int)) rfl rfl w1 ?_
 first|refine AOps.q rfl rfl rfl rfl (mul_ok n hn) rfl ?_|refine AOps.q rfl rfl rfl rfl (mul_ok n hn) rfl ?_|refine AOps.q rfl rfl rfl rfl (mul_ok n hn) rfl ?_|refine AOps.q rfl rfl rfl rfl (mul_ok n hn) rfl ?_|refine AOps.q rfl rfl rfl rfl (mul_ok n hn) rfl ?_
 refine AOps.z rfl rfl ?_
 refine AOps.extract rfl rfl rfl ?_
 refine AOps.extract rfl rfl rfl ?_
 refine AOps.u rfl rfl ?_
 refine AOps.u rfl rfl ?_
 refine AOps.nil ?_
 repeat (first|refine b5 ?_|refine d6 ?_)
 have hd2:decide ((0:Int)<0)=false:=by decide
 repeat (first|refine AWP.e ?_|refine AWP.j ?_|refine AWP.skip ?_|refine b5 ?_|refine d6 ?_|refine AWP.condT rfl ?_|refine AWP.condF rfl ?_)
 refine AWP.O ?_
 refine AOps.z rfl rfl ?_
 refine AOps.gtr rfl rfl rfl ?_
 refine AOps.z rfl rfl ?_
 first|(refine AOps.guardF rfl rfl rfl (by assumption) ?_)|(refine AOps.guardSkip rfl rfl rfl ?_)|(refine AOps.F rfl rfl rfl (by assumption) ?_;refine AOps.z rfl rfl ?_)
 first|(refine AOps.guardF rfl rfl rfl (by assumption) ?_)|(refine AOps.guardSkip rfl rfl rfl ?_)|(refine AOps.F rfl rfl rfl (by assumption) ?_;refine AOps.gtr rfl rfl rfl ?_)
 first|refine AOps.pickT rfl (by assumption) rfl rfl ?_|refine AOps.pickF rfl (by assumption) rfl rfl ?_
 refine AOps.nil ?_
 repeat (first|refine b5 ?_|refine d6 ?_)
 (repeat (refine AWP.e ?_));first|refine AWP.condD rfl (fun hc=> ?_) (fun hc=> ?_)|refine AWP.condN rfl (fun hc=> ?_) (fun hc=> ?_)|refine AWP.condE rfl (fun hc=> ?_) (fun hc hc'=> ?_)|refine AWP.condB rfl (fun hc=> ?_) (fun hc=> ?_)|refine AWP.cond rfl (fun hc=> ?_) (fun hc=> ?_)
 ·omega
 repeat (first|refine AWP.skip ?_|refine b5 ?_|refine d6 ?_|refine AWP.condT rfl ?_|refine AWP.condF rfl ?_)
 repeat (first|refine AWP.e ?_|refine AWP.j ?_|refine AWP.skip ?_|refine b5 ?_|refine d6 ?_|refine AWP.condT rfl ?_|refine AWP.condF rfl ?_)
 refine AWP.O ?_
 refine AOps.z rfl rfl ?_
 refine AOps.convE (c:=(n:Int)) rfl rfl w2 ?_
 refine W.make rfl rfl rfl (by omega) (by omega) rfl rfl rfl ?_
 refine AOps.u rfl rfl ?_
 refine AOps.nil ?_
 repeat (first|refine b5 ?_|refine d6 ?_)
 repeat (first|refine AWP.e ?_|refine AWP.j ?_|refine AWP.skip ?_|refine b5 ?_|refine d6 ?_|refine AWP.condT rfl ?_|refine AWP.condF rfl ?_)
 refine AWP.O ?_
 refine AOps.z rfl rfl ?_
 refine AOps.z rfl rfl ?_
 refine AOps.copyE (m:=1) (es':=repC c n 1) rfl rfl (by omega) rfl .imm rfl (Nat.min_eq_left h1) (rep_first h1) rfl ?_
 refine AOps.u rfl rfl ?_
 refine AOps.nil ?_
 repeat (first|refine b5 ?_|refine d6 ?_)
 refine AWP.e ?_
 refine AWP.j ?_
 refine AWP.loop (X:=Nat) (fun i=>⟨[(7,.c (.own 0 0 n)),(8,.c (int i))],[.one (.cells 1 (repC c n i))]⟩) (fun i=>1≤i∧i≤n) (fun i=>n - i) 1 (Sub.env ⟨rfl,rfl,Y⟩) ⟨Nat.le_refl _,h1⟩ ?_
 rintro i ⟨i1,i2⟩
 repeat (first|refine AWP.e ?_|refine AWP.j ?_|refine AWP.skip ?_|refine b5 ?_|refine d6 ?_|refine AWP.condT rfl ?_|refine AWP.condF rfl ?_)
 refine AWP.O ?_
 refine AOps.z rfl rfl ?_
 refine AOps.z rfl rfl ?_
 first|refine AOps.lenB rfl rfl (fun _=> ?_)|refine AOps.lenOwnB rfl rfl rfl (fun _=> ?_)|refine AOps.lenNil rfl rfl ?_
 refine AOps.lss rfl rfl rfl ?_
 refine AOps.nil ?_
 repeat (first|refine b5 ?_|refine d6 ?_)
 (repeat (refine AWP.e ?_));first|refine AWP.condD rfl (fun hc=> ?_) (fun hc=> ?_)|refine AWP.condN rfl (fun hc=> ?_) (fun hc=> ?_)|refine AWP.condE rfl (fun hc=> ?_) (fun hc hc'=> ?_)|refine AWP.condB rfl (fun hc=> ?_) (fun hc=> ?_)|refine AWP.cond rfl (fun hc=> ?_) (fun hc=> ?_)
 ·have hi:i<n:=by omega
  obtain⟨m,hm⟩:∃m,m=Nat.min i (n - i):=⟨_,rfl⟩
  have hm1:1≤m:=by rw[hm];exact Nat.le_min.2 ⟨i1,by omega⟩
  have hm2:m≤i∧i+m≤n:=by
   have:=Nat.min_le_left i (n - i)
   have:=Nat.min_le_right i (n - i)
   change m=min i (n - i) at hm
   omega
  have hcm:Nat.min (((repC c n i).drop 0).take i).length (n - i)=m:=by
   rw[hm]
   congr 1
   simp[repC];omega
  have hce:(repC c n i).take (0+i)++(((repC c n i).drop 0).take i).take m++(repC c n i).drop (0+i+m)=repC c n (i+m):=rep_more hm2.1 hm2.2
  repeat (first|refine AWP.skip ?_|refine b5 ?_|refine d6 ?_|refine AWP.condT rfl ?_|refine AWP.condF rfl ?_)
  repeat (first|refine AWP.e ?_|refine AWP.j ?_|refine AWP.skip ?_|refine b5 ?_|refine d6 ?_|refine AWP.condT rfl ?_|refine AWP.condF rfl ?_)
  refine AWP.drawEI [7] mixed rfl rfl rfl ?_
  apply b8.consN;exact rfl;exact rfl;intro E
  refine AOps.z rfl rfl ?_
  exact AOps.nil ⟨rfl,rfl⟩
  exact rfl
  apply b8.consN;exact rfl;exact rfl;intro E
  refine AOps.z rfl rfl ?_
  exact AOps.nil ⟨rfl,rfl⟩
  exact rfl
  apply b8.consN;exact rfl;exact rfl;intro E
  refine AOps.z rfl rfl ?_
  exact AOps.nil ⟨rfl,rfl⟩
  exact rfl
  apply b8.consN;exact rfl;exact rfl;intro E
  first|refine AOps.sliceArrI rfl (Nat.le_of_ble_eq_true rfl) rfl rfl ?_|refine AOps.sliceOwnTo rfl rfl rfl (by omega) rfl ?_|refine AOps.sliceOwnFrom rfl rfl rfl (by omega) rfl ?_
  exact AOps.nil ⟨rfl,rfl⟩
  exact rfl
  apply b8.consN;exact rfl;exact rfl;intro E
  refine AOps.z rfl rfl ?_
  exact AOps.nil ⟨rfl,rfl⟩
  exact rfl
  apply b8.consN;exact rfl;exact rfl;intro E
  refine AOps.z rfl rfl ?_
  exact AOps.nil ⟨rfl,rfl⟩
  exact rfl
  apply b8.consN;exact rfl;exact rfl;intro E
  first|refine AOps.sliceArrI rfl (Nat.le_of_ble_eq_true rfl) rfl rfl ?_|refine AOps.sliceOwnTo rfl rfl rfl (by omega) rfl ?_|refine AOps.sliceOwnFrom rfl rfl rfl (by omega) rfl ?_
  exact AOps.nil ⟨rfl,rfl⟩
  exact rfl
  apply b8.consE;exact rfl;exact rfl;intro E
  refine AOps.copyE rfl rfl (by omega) rfl (Src.own rfl) rfl hcm hce rfl ?_
  exact AOps.nil ⟨rfl,rfl⟩
  exact rfl
  exact rfl
  apply b8.consN;exact rfl;exact rfl;intro E
  refine AOps.add rfl rfl rfl (by omega) ?_
  exact AOps.nil ⟨rfl,rfl⟩
  exact rfl
  apply b8.consN;exact rfl;exact rfl;intro E
  refine AOps.u rfl rfl ?_
  exact AOps.nil ⟨rfl,rfl⟩
  exact rfl
  refine b8.done rfl ?_ ?_
  ·apply d8.cons;exact rfl;exact rfl
   first|refine i6.skip rfl ?_|(apply i6.go;exact rfl;exact rfl;intro E;(refine AOps.z rfl rfl ?_);exact AOps.nil ⟨rfl,rfl⟩)
   first|refine i6.skip rfl ?_|(apply i6.go;exact rfl;exact rfl;intro E;(refine AOps.z rfl rfl ?_);exact AOps.nil ⟨rfl,rfl⟩)
   exact i6.nil
   apply d8.cons;exact rfl;exact rfl
   first|refine i6.skip rfl ?_|(apply i6.go;exact rfl;exact rfl;intro E;(refine AOps.z rfl rfl ?_);exact AOps.nil ⟨rfl,rfl⟩)
   first|refine i6.skip rfl ?_|(apply i6.go;exact rfl;exact rfl;intro E;(refine AOps.z rfl rfl ?_);exact AOps.nil ⟨rfl,rfl⟩)
   exact i6.nil
   apply d8.cons;exact rfl;exact rfl
   first|refine i6.skip rfl ?_|(apply i6.go;exact rfl;exact rfl;intro E;(refine AOps.z rfl rfl ?_);exact AOps.nil ⟨rfl,rfl⟩)
   first|refine i6.skip rfl ?_|(apply i6.go;exact rfl;exact rfl;intro E;(refine AOps.z rfl rfl ?_);exact AOps.nil ⟨rfl,rfl⟩)
   exact i6.nil
   apply d8.cons;exact rfl;exact rfl
   first|refine i6.skip rfl ?_|(apply i6.go;exact rfl;exact rfl;intro E;(first|refine AOps.sliceArrI rfl (Nat.le_of_ble_eq_true rfl) rfl rfl ?_|refine AOps.sliceOwnTo rfl rfl rfl (by omega) rfl ?_|refine AOps.sliceOwnFrom rfl rfl rfl (by omega) rfl ?_);exact AOps.nil ⟨rfl,rfl⟩)
   first|refine i6.skip rfl ?_|(apply i6.go;exact rfl;exact rfl;intro E;(first|refine AOps.sliceArrI rfl (Nat.le_of_ble_eq_true rfl) rfl rfl ?_|refine AOps.sliceOwnTo rfl rfl rfl (by omega) rfl ?_|refine AOps.sliceOwnFrom rfl rfl rfl (by omega) rfl ?_);exact AOps.nil ⟨rfl,rfl⟩)
   exact i6.nil
   apply d8.cons;exact rfl;exact rfl
   first|refine i6.skip rfl ?_|(apply i6.go;exact rfl;exact rfl;intro E;(refine AOps.z rfl rfl ?_);exact AOps.nil ⟨rfl,rfl⟩)
   first|refine i6.skip rfl ?_|(apply i6.go;exact rfl;exact rfl;intro E;(refine AOps.z rfl rfl ?_);exact AOps.nil ⟨rfl,rfl⟩)
   exact i6.nil
   apply d8.cons;exact rfl;exact rfl
   first|refine i6.skip rfl ?_|(apply i6.go;exact rfl;exact rfl;intro E;(refine AOps.z rfl rfl ?_);exact AOps.nil ⟨rfl,rfl⟩)
   first|refine i6.skip rfl ?_|(apply i6.go;exact rfl;exact rfl;intro E;(refine AOps.z rfl rfl ?_);exact AOps.nil ⟨rfl,rfl⟩)
   exact i6.nil
   apply d8.cons;exact rfl;exact rfl
   first|refine i6.skip rfl ?_|(apply i6.go;exact rfl;exact rfl;intro E;(first|refine AOps.sliceArrI rfl (Nat.le_of_ble_eq_true rfl) rfl rfl ?_|refine AOps.sliceOwnTo rfl rfl rfl (by omega) rfl ?_|refine AOps.sliceOwnFrom rfl rfl rfl (by omega) rfl ?_);exact AOps.nil ⟨rfl,rfl⟩)
   first|refine i6.skip rfl ?_|(apply i6.go;exact rfl;exact rfl;intro E;(first|refine AOps.sliceArrI rfl (Nat.le_of_ble_eq_true rfl) rfl rfl ?_|refine AOps.sliceOwnTo rfl rfl rfl (by omega) rfl ?_|refine AOps.sliceOwnFrom rfl rfl rfl (by omega) rfl ?_);exact AOps.nil ⟨rfl,rfl⟩)
   exact i6.nil
   refine d8.skip rfl ?_
   apply d8.cons;exact rfl;exact rfl
   first|refine i6.skip rfl ?_|(apply i6.go;exact rfl;exact rfl;intro E;(refine AOps.add rfl rfl rfl (by omega) ?_);exact AOps.nil ⟨rfl,rfl⟩)
   first|refine i6.skip rfl ?_|(apply i6.go;exact rfl;exact rfl;intro E;(refine AOps.add rfl rfl rfl (by omega) ?_);exact AOps.nil ⟨rfl,rfl⟩)
   exact i6.nil
   apply d8.cons;exact rfl;exact rfl
   first|refine i6.skip rfl ?_|(apply i6.go;exact rfl;exact rfl;intro E;(refine AOps.u rfl rfl ?_);exact AOps.nil ⟨rfl,rfl⟩)
   first|refine i6.skip rfl ?_|(apply i6.go;exact rfl;exact rfl;intro E;(refine AOps.u rfl rfl ?_);exact AOps.nil ⟨rfl,rfl⟩)
   exact i6.nil
   exact d8.nil
  dsimp only[h9]
  repeat (first|refine b5 ?_|refine d6 ?_)
  exact⟨i+m,Sub.env ⟨rfl,rfl,Y⟩,⟨by omega,by omega⟩,by omega⟩
 repeat (first|refine AWP.e ?_|refine AWP.ret ?_|refine d9 ?_|refine i4 ?_|refine AWP.skip ?_|refine b5 ?_|refine d6 ?_|refine AWP.exit ?_|refine i5 ?_|refine f9 ?_|refine ai5 rfl ?_)
 repeat (first|refine AWP.e ?_|refine AWP.j ?_|refine AWP.skip ?_|refine b5 ?_|refine d6 ?_|refine AWP.condT rfl ?_|refine AWP.condF rfl ?_)
 refine AWP.O ?_
 refine AOps.z rfl rfl ?_
 refine AOps.u rfl rfl ?_
 refine AOps.nil ?_
 repeat (first|refine b5 ?_|refine d6 ?_)
 repeat (first|refine AWP.e ?_|refine AWP.ret ?_|refine d9 ?_|refine i4 ?_|refine AWP.skip ?_|refine b5 ?_|refine d6 ?_|refine AWP.exit ?_|refine i5 ?_|refine f9 ?_|refine ai5 rfl ?_)
 have hin:i=n:=by omega
 subst hin
 refine Done.ret rfl ⟨0,by simp,?_⟩
 show some (some (Blk.cells 1 (repC c i i)))=_
 rw[rep_full]
def J2(x:Li)(n:Int):Option Li:=match x with
 |[c]=>if 1≤n∧n≤4294967295 then some (List.replicate n.toNat c) else none
 |_=>none
theorem X5{x:Li}{n:Int}{r:Li}(h:J2 x n=some r):n7 prog 83 [.c (row 1 intI x),.c (int n)] 1 (List.map intI r):=by
 unfold J2 at h
 split at h
 ·rename_i c
  split at h
  ·rename_i hn
   cases h
   have:=repeat_ok c n.toNat (by omega) (by omega)
   rw[Int.toNat_of_nonneg (by omega)] at this
   rwa [List.map_replicate]
  ·cases h
 ·cases h
end Ab
end
section
set_option linter.all false
namespace Ab
open Go Go.Proofs Go.RowKit Go.Lib
open Tryz
def spl(arr:Array Vl)(o:Nat)(cs:List Vl):Array Vl:=(arr.toList.take o++cs++arr.toList.drop (o+cs.length)).toArray
theorem ah2{arr:Array Vl}{o:Nat}{cs:List Vl}(h:o+cs.length≤arr.size):(spl arr o cs).size=arr.size:=by simp[spl];omega
theorem spl_get{arr:Array Vl}{o:Nat}{cs:List Vl}(h:o+cs.length≤arr.size)(i:Nat):(spl arr o cs)[i]? =if o≤i∧i<o+cs.length then cs[i - o]? else arr[i]? :=by
 have:=y4 arr.toList cs o i (by simpa using h)
 simpa[spl] using this
theorem ap8{P:Program}{dT sT ty e:Ti}{k bytes:Nat}{z:Vl}[ht:TyD P dT (.slice e)][hs:TyS P e k bytes z](w:World)(g o dLen dCap:Nat)(a:Addr)(sLen sCap m:Nat)(cur:Array Vl)(t:Ti)(cs:List Vl)
  (hm:Nat.min sLen dLen=m) (hg:w.heap[g]? =some (.cells cur t (0,0))) (hn:cs.length=m * k) (hsrc:∀j v,cs[j]? =some v→w.cell? (a.add j)=some v) (hfit:o+cs.length≤cur.size) (h1:∀v ∈ cs,v.oneCell'=true):
  (Builtin.copy_ #[dT,sT] ty #[.slice (some ⟨g,o,none⟩) dLen dCap,.slice (some a) sLen sCap]).run P w=.ok (goInt m) (w.setRow g (spl cur o cs)):=by
 have hf:(Builtin.firstCells k m (.slice (some a) sLen sCap)).run P w=.ok cs.toArray w:=run_firstCells_some w k m a sLen sCap cs hn hsrc
 have hst:=run_storeCells_at P g o t cs 0 cur w hg (by simpa using hfit) h1
 have hz:=m7 (P:=P) (t:=e) w
 simp[Builtin.copy_,run_underlying ht.h,hz,Builtin.lenOf,hm,hf,hst,spl]
theorem setRow_alloc(w:World)(r r':Array Vl)(e:Ti):(w.alloc (.cells r e)).setRow w.heap.size r'=w.alloc (.cells r' e):=by
 unfold World.setRow World.alloc
 congr 1
 apply Array.ext_getElem?
 intro i
 simp only[Array.getElem?_modify,Array.getElem?_push]
 by_cases h:w.heap.size=i
 ·subst h;simp
 ·rw[if_neg h,if_neg (fun e=>h e.symm),if_neg (fun e=>h e.symm)]
section
variable {P:Program}
theorem wpL_copy(w:World){ops:Array Oper}{rest:List Oper}{o:Oper}{a:Act}{Q:Exit→Act→World→Prop}(hgd:o.guard=none)(d s:Od)(t t':Ti)
  (ho:o.op=.call {callee:=.builtin .copy,args:=#[d,s],argTypes:=#[t,t']}) {v u v':Vl} {w':World} (hd:a.eval d=v) (hs:a.eval s=u) (hr:(Builtin.copy_ #[t,t'] o.type #[v,u]).run P w=.ok v' w')
  (h:wpList P ops Q rest (a.put o.dst v') w'):wpList P ops Q (o::rest) a w:=
 wpList_plain hgd fun K hK=>by
  have:(execOp a.eval o).run P w=.ok (.value v') w':=by
   simp[execOp,ho,resolve,invoke,builtin,hd,hs,hr,Result.andThen]
  unfold Oper.wp
  rw[this]
  exact hK _ _ h
theorem wpS_copy{ops:Array Oper}{o:Oper}{a:Act}{w:World}{K:Act→World→Prop}{Q:Exit→Act→World→Prop}{E:Prop}(hgd:o.guard=none)(d s:Od)(t t':Ti)
  (ho:o.op=.call {callee:=.builtin .copy,args:=#[d,s],argTypes:=#[t,t']}) {v u v':Vl} {w':World} (hd:a.eval d=v) (hs:a.eval s=u) (hr:(Builtin.copy_ #[t,t'] o.type #[v,u]).run P w=.ok v' w')
  (hK:K (a.put o.dst v') w'):if Region.wanted o (yielded ops a.tmps)=true then Oper.wp P o a w K Q else E:=by
 have hw:Region.wanted o (yielded ops a.tmps)=true:=by simp[Region.wanted,hgd]
 have:(execOp a.eval o).run P w=.ok (.value v') w':=by
  simp[execOp,ho,resolve,invoke,builtin,hd,hs,hr,Result.andThen]
 rw[if_pos hw]
 unfold Oper.wp
 rw[this]
 exact hK
end
section
set_option maxHeartbeats 4000000
set_option maxRecDepth 100000
abbrev insF:Nat:=97
abbrev choT:Nat:=102
abbrev E7:Nat:=26
theorem ins_shift(b off n c i vb voff vc:Nat)(arr varr:Array Vl)(ety vety:Ti)(cs vs:List Vl)(w:World)(hi:i<n)(hroom:n+1≤c)(hc63:c≤9223372036854775807)(hvb:vb ≠ b)
  (hb:w.heap[b]? =some (.cells arr ety (0,0))) (hv:w.heap[vb]? =some (.cells varr vety (0,0))) (hfit:off+(n+1) * 2≤arr.size)
  (hcl:cs.length=(n - i) * 2) (hvl:vs.length=1 * 2) (hcs:∀j v,cs[j]? =some v→w.cell? (⟨b,off+i * 2+j,none⟩)=some v) (hvs:∀j v,vs[j]? =some v→w.cell? ⟨vb,voff+j,none⟩=some v) (h1c:∀v ∈ cs,v.oneCell'=true) (h1v:∀v ∈ vs,v.oneCell'=true):
  Calls prog insF #[.slice (some ⟨b,off,none⟩) n c,.int .i64 i,.slice (some ⟨vb,voff,none⟩) 1 vc] w fun e w'=>
   e=.returned (.slice (some ⟨b,off,none⟩) (n+1) c)∧w'=w.drew.setRow b (spl (spl arr (off+(i+1) * 2) cs) (off+i * 2) vs):=by
 have hz2:¬ ((i:Int)=(n:Int)):=by omega
 have hov:∀lb cb,(callFunc 127 #[.slice (some ⟨vb,voff,none⟩) 1 vc,.slice (some ⟨b,off+(i+1) * 2,none⟩) lb cb]).run prog w=.ok (.value (.bool false)) w:=fun lb cb=>by
  rw[run_callFunc_extern func127 (by kernel_rfl) (by kernel_rfl) (by kernel_rfl) (e:=Extern.SlicesOverlaps.overlaps #[E7,E7] #[4]) (by kernel_rfl),
   Lib.run_overlaps_apart w E7 4 choT underlying26 2 (fun w=>m7 w) ⟨vb,voff,none⟩ ⟨b,off+(i+1) * 2,none⟩ 1 vc lb cb hvb vety ety varr.size arr.size (by simp[World.shape?,hv]) (by simp[World.shape?,hb]) (by omega) (by simp[World.frozen?,hv]) (by simp[World.frozen?,hv])]
  rfl
 have mixed:prog.follows .mixedOrders=true:=by kernel_rfl
 have u26:=run_underlying underlying26
 have hw1:IntKind.i64.wrap ((i:Int)+(1:Int))=(i:Int)+(1:Int):=by rw[IntKind.wrap_i64];omega
 have hb1:(0:Int)≤(i:Int)+(1:Int):=by omega
 have hin:i≤n:=by omega
 have htn:((i:Int)+(1:Int)).toNat=i+1:=by omega
 have hb2:¬ (c=i+1):=by omega
 have hb3:(i:Int)≤(n:Int)+(1:Int):=by omega
 have hb4:¬ (c=i):=by omega
 have hcp1:∀ty dc sc,(Builtin.copy_ #[E7,E7] ty #[.slice (some ⟨b,off+(i+1) * 2,none⟩) (n - i) dc,.slice (some ⟨b,off+i * 2,none⟩) (n+1 - i) sc]).run prog w.drew=.ok (goInt (n - i:Nat)) (w.drew.setRow b (spl arr (off+(i+1) * 2) cs)):=fun ty dc sc=>
  ap8 (e:=choT) w.drew _ _ _ _ _ _ _ _ arr ety cs (by simp only[Nat.min_def];split<;>omega) hb hcl (fun j v hj=>by rw[Addr.add_lit];exact hcs j v hj) (by omega) h1c
 have hcp2:∀ty dc,(Builtin.copy_ #[E7,E7] ty #[.slice (some ⟨b,off+i * 2,none⟩) (n+1 - i) dc,.slice (some ⟨vb,voff,none⟩) 1 vc]).run prog (w.drew.setRow b (spl arr (off+(i+1) * 2) cs))=.ok (goInt 1) ((w.drew.setRow b (spl arr (off+(i+1) * 2) cs)).setRow b (spl (spl arr (off+(i+1) * 2) cs) (off+i * 2) vs)):=fun ty dc=>
  ap8 (e:=choT) _ _ _ _ _ _ _ _ _ _ ety vs (by simp only[Nat.min_def];split<;>omega) (setRow_heap w.drew b arr _ ety (0,0) hb) hvl (fun j v hj=>by
   rw[Addr.add_lit,World.cell?_of_block (setRow_other w.drew b vb _ hvb)];exact hvs j v hj) (by rw[ah2 (by omega)];omega) h1v
 go_enter func97,ntmps97
 go_wp2_with (simp only[hov])
 go_region_law_o (refine wpS_copy rfl _ _ E7 E7 rfl (by simp[Act.eval,Act.put]) (by simp[Act.eval,Act.put]) (hcp1 _ _ _) ?_)
 go_wp2_with (at_builtin;refine wpL_copy _ rfl _ _ E7 E7 rfl rfl rfl (hcp2 _ _) ?_)
 go_ret
 exact⟨rfl,by rw[setRow_setRow]⟩
theorem ins_grow(b off n c i vb voff vc:Nat)(os cs vs:List Vl)(w:World)(hi:i<n)(hnc:n≤c)(hroom:c<n+1)(hbig:(n+1) * 32≤140737488355328)(hbw:b<w.heap.size)(hvw:vb<w.heap.size)
  (hol:os.length=i * 2) (hcl:cs.length=(n - i) * 2) (hvl:vs.length=1 * 2)
  (hos:∀j v,os[j]? =some v→w.cell? (⟨b,off+j,none⟩)=some v) (hcs:∀j v,cs[j]? =some v→w.cell? (⟨b,off+i * 2+j,none⟩)=some v) (hvs:∀j v,vs[j]? =some v→w.cell? ⟨vb,voff+j,none⟩=some v)
  (h1c:∀v ∈ cs,v.oneCell'=true) (h1v:∀v ∈ vs,v.oneCell'=true):
  Calls prog insF #[.slice (some ⟨b,off,none⟩) n c,.int .i64 i,.slice (some ⟨vb,voff,none⟩) 1 vc] w fun e w'=>
   ∃(G:Nat) (ROW:Array Vl),n+1≤G∧G≤maxLen∧ROW.size=G * 2∧(∀(j:Nat) v,os[j]? =some v→ROW[j]? =some v)∧
   e=.returned (.slice (some ⟨w.heap.size,0,none⟩) (n+1) G)∧w'=w.drew.drew.alloc (.cells (spl (spl ROW (i * 2) vs) ((i+1) * 2) cs) choT):=by
 have hz2:¬ ((i:Int)=(n:Int)):=by omega
 have hz3:(c:Int)<(n:Int)+(1:Int):=by omega
 have mixed:prog.follows .mixedOrders=true:=by kernel_rfl
 have u26:=run_underlying underlying26
 obtain⟨inf,hi1,hi2,hi3,hi4⟩:=(inferInstance:TyS prog choT 2 32 _).h
 have hkk:(n:Int)+(1:Int) - (i:Int)=((n+1 - i:Nat):Int):=by omega
 have hik:i+(n+1 - i)=n+1:=by omega
 have hold:(Builtin.firstCells inf.size i (.slice (some ⟨b,off,none⟩) i c)).run prog w.drew=.ok os.toArray w.drew:=by
  rw[hi2]
  exact run_firstCells_some w.drew 2 i ⟨b,off,none⟩ i c os hol (fun j v hj=>by
   rw[Addr.add_lit]
   exact hos j v hj)
 obtain⟨G,hG⟩:∃G,G=grownCap w (n+1) c choT:=⟨_,rfl⟩
 obtain⟨ROW,hROW⟩:∃ROW:Array Vl,ROW=os.toArray++Builtin.zeroCells (Value.agg #[.slice none 0 0,.int .i64 0]).cells (n+1 - i)++Builtin.zeroCells (Value.agg #[.slice none 0 0,.int .i64 0]).cells (G - (n+1)):=⟨_,rfl⟩
 have hGn:n+1≤G:=by rw[hG];exact grownCap_ge w _ _ _
 have hGm:G≤maxLen:=by
  rw[hG]
  exact grownCap_le_maxLen w (n+1) c choT (by unfold maxLen;omega)
 have hG63:G≤9223372036854775807:=hGm
 have hRl:ROW.size=G * 2:=by
  rw[hROW]
  simp[Builtin.zeroCells,Value.cells,hol]
  omega
 have hRo:∀(j:Nat) v,os[j]? =some v→ROW[j]? =some v:=fun j v hj=>by
  rw[hROW,Array.append_assoc,Array.getElem?_append_left (by simpa using(lG.1 hj).1)]
  simpa using hj
 have hrz:∀ty,(Builtin.append_ #[E7,3] ty #[.slice (some ⟨b,off,none⟩) i c,.int .i64 ((n:Int)+(1:Int) - (i:Int))]).run prog w=
   .ok (.slice (some ⟨w.heap.size,0,none⟩) (n+1) G) (w.drew.alloc (.cells ROW choT)):=fun ty=>by
  have h:=Lib.run_append_grow_zeros w E7 3 ty choT inf _ .i64 .i64 underlying26 underlying3 hi1 hi4 (some ⟨b,off,none⟩) i c os hold (n+1 - i) (by omega) (by omega) (by omega) (by omega) (by rw[hi3];omega) (by rw[hi3,hik];exact growslice_fits hroom hbig)
  rw[hik,← hG] at h
  rw[hkk,hROW]
  exact h
 have hci:¬ (c=i):=by omega
 have hGi:¬ (G=i):=by omega
 have hGim:¬ (G=i+1):=by omega
 have hw1:IntKind.i64.wrap ((i:Int)+(1:Int))=(i:Int)+(1:Int):=by rw[IntKind.wrap_i64];omega
 have hb1:(0:Int)≤(i:Int)+(1:Int):=by omega
 have hin:i≤n:=by omega
 have htn:((i:Int)+(1:Int)).toNat=i+1:=by omega
 have hb3:(i:Int)≤(n:Int):=by omega
 have hcpA:∀ty dc,(Builtin.copy_ #[E7,E7] ty #[.slice (some ⟨w.heap.size,i * 2,none⟩) (n+1 - i) dc,.slice (some ⟨vb,voff,none⟩) 1 vc]).run prog (w.alloc (.cells ROW choT)).drew=.ok (goInt 1) ((w.alloc (.cells ROW choT)).drew.setRow w.heap.size (spl ROW (i * 2) vs)):=fun ty dc=>
  ap8 (e:=choT) _ _ _ _ _ _ _ _ _ ROW choT vs (by simp only[Nat.min_def];split<;>omega) (heap_alloc_new w.drew _) hvl (fun j v hj=>by
   rw[Addr.add_lit,World.cell?_of_block (show(w.alloc (.cells ROW choT)).drew.heap[vb]? =w.heap[vb]? from by first|exact heap_alloc_old w.drew _ hvw|exact heap_alloc_old w.drew _ _ hvw)];exact hvs j v hj) (by omega) h1v
 have hcpB:∀ty dc sc,(Builtin.copy_ #[E7,E7] ty #[.slice (some ⟨w.heap.size,(i+1) * 2,none⟩) (n - i) dc,.slice (some ⟨b,off+i * 2,none⟩) (n - i) sc]).run prog ((w.alloc (.cells ROW choT)).drew.setRow w.heap.size (spl ROW (i * 2) vs)).drew=.ok (goInt (n - i:Nat)) (((w.alloc (.cells ROW choT)).drew.setRow w.heap.size (spl ROW (i * 2) vs)).drew.setRow w.heap.size (spl (spl ROW (i * 2) vs) ((i+1) * 2) cs)):=fun ty dc sc=>
  ap8 (e:=choT) _ _ _ _ _ _ _ _ _ (spl ROW (i * 2) vs) choT cs (by simp only[Nat.min_def];split<;>omega) (setRow_heap _ _ ROW _ choT (0,0) (heap_alloc_new w.drew _)) hcl (fun j v hj=>by
   rw[Addr.add_lit,World.cell?_of_block (show((w.drew.alloc (.cells ROW choT)).setRow w.heap.size (spl ROW (i * 2) vs)).drew.heap[b]? =w.heap[b]? from(setRow_other _ w.heap.size b _ (by omega)).trans (by first|exact heap_alloc_old w.drew _ hbw|exact heap_alloc_old w.drew _ _ hbw))];exact hcs j v hj) (by rw[ah2 (by omega)];omega) h1c
 clear hkk hik hold hG hROW
 go_enter func97,ntmps97
 go_wp2_with (first
  |(at_builtin;refine Lib.wpList_append_run _ rfl _ _ _ _ rfl _ _ rfl rfl _ _ (hrz _) ?_)
  |(at_builtin;refine wpL_copy _ rfl _ _ E7 E7 rfl rfl rfl (hcpA _ _) ?_))
 go_region_law_o (refine wpS_copy rfl _ _ E7 E7 rfl (by simp[Act.eval,Act.put]) (by simp[Act.eval,Act.put]) (hcpB _ _ _) ?_)
 go_wp2
 go_ret
 refine⟨G,ROW,hGn,hGm,hRl,hRo,rfl,?_⟩
 exact(setRow_setRow (w.alloc (.cells ROW choT)).drew.drew w.heap.size (spl ROW (i * 2) vs) (spl (spl ROW (i * 2) vs) ((i+1) * 2) cs)).trans (setRow_alloc w.drew.drew ROW (spl (spl ROW (i * 2) vs) ((i+1) * 2) cs) choT)
theorem ins_end(base:Option Addr)(n c:Nat)(vv r:Vl)(w w':World)(hvv:∃b cv,vv=.slice b 1 cv)(hrun:∀ty,(Builtin.append_ #[E7,E7] ty #[.slice base n c,vv]).run prog w=.ok r w')(hnc:n≤c):
  Calls prog insF #[.slice base n c,.int .i64 n,vv] w fun e w2=>e=.returned r∧w2=w':=by
 obtain⟨vb,vc,rfl⟩:=hvv
 have mixed:prog.follows .mixedOrders=true:=by kernel_rfl
 have u26:=run_underlying underlying26
 go_enter func97,ntmps97
 cases base with
 |none=>
  go_wp2_with (at_builtin;refine Lib.wpList_append_run _ rfl _ _ _ _ rfl _ _ rfl rfl _ _ (hrun _) ?_)
  all_goals (go_ret;exact⟨rfl,rfl⟩)
 |some a=>
  obtain⟨ab,ao,asp⟩:=a
  go_wp2_with (at_builtin;refine Lib.wpList_append_run _ rfl _ _ _ _ rfl _ _ rfl rfl _ _ (hrun _) ?_)
  all_goals (go_ret;exact⟨rfl,rfl⟩)
end
structure Rw(w:World)(φ:Phi)(σ:b6)(A:Nat→Prop)(k:Nat)(es:List (List C))(us:List Vl):Prop where
 len:us.length=es.length * k
 hk:∀(j:Nat) (e:List C),es[j]? =some e→e.length=k
 rel:∀(j:Nat) (e:List C) (o:Nat) (x:C),es[j]? =some e→e[o]? =some x→∃u,us[j * k+o]? =some u∧RelC w φ σ A x u
theorem ab7.rw{w:World}{φ:Phi}{σ:b6}{A:Nat→Prop}{k:Nat}{es:List (List C)}{b:Option Addr}{us:List Vl}(h:ab7 w φ σ A k es b us):Rw w φ σ A k es us:=⟨h.len,h.hk,h.rel⟩
section
variable {w:World}{φ:Phi}{σ:b6}{A:Nat→Prop}{k:Nat}{es es2:List (List C)}{us us2:List Vl}
theorem Rw.append(h:Rw w φ σ A k es us)(g:Rw w φ σ A k es2 us2):Rw w φ σ A k (es++es2) (us++us2):=by
 refine⟨by rw[List.length_append,List.length_append,h.len,g.len,Nat.add_mul],fun j e he=> ?_,fun j e o x he hx=> ?_⟩
 ·rw[List.getElem?_append] at he
  split at he
  ·exact h.hk j e he
  ·exact g.hk _ e he
 ·rw[List.getElem?_append] at he
  split at he
  ·obtain⟨u,hu,hr⟩:=h.rel j e o x he hx
   exact⟨u,by rw[List.getElem?_append_left (lG.1 hu).1];exact hu,hr⟩
  ·rename_i hj
   obtain⟨u,hu,hr⟩:=g.rel _ e o x he hx
   have hl:=h.len
   have hm:es.length * k≤j * k:=Nat.mul_le_mul_right k (by omega)
   refine⟨u,?_,hr⟩
   rw[List.getElem?_append_right (by omega),hl]
   rw[Nat.sub_mul] at hu
   rw[← hu];congr 1;omega
theorem Rw.take(h:Rw w φ σ A k es us)(i:Nat)(hi:i≤es.length):Rw w φ σ A k (es.take i) (us.take (i * k)):=by
 have hl:=h.len
 have hm:i * k≤es.length * k:=Nat.mul_le_mul_right k hi
 refine⟨by rw[List.length_take,List.length_take,Nat.min_eq_left hi,Nat.min_eq_left (by omega)],fun j e he=> ?_,fun j e o x he hx=> ?_⟩
 ·rw[List.getElem?_take] at he
  split at he
  ·exact h.hk j e he
  ·cases he
 ·rw[List.getElem?_take] at he
  split at he
  ·rename_i hj
   obtain⟨u,hu,hr⟩:=h.rel j e o x he hx
   have:=h.hk j e he
   have:=(lG.1 hx).1
   have hm2:(j+1) * k≤i * k:=Nat.mul_le_mul_right k hj
   rw[Nat.add_mul] at hm2
   exact⟨u,by rw[List.getElem?_take,if_pos (by omega)];exact hu,hr⟩
  ·cases he
theorem Rw.drop(h:Rw w φ σ A k es us)(i:Nat)(hi:i≤es.length):Rw w φ σ A k (es.drop i) (us.drop (i * k)):=by
 have hl:=h.len
 refine⟨by rw[List.length_drop,List.length_drop,hl,Nat.sub_mul],fun j e he=> ?_,fun j e o x he hx=> ?_⟩
 ·rw[List.getElem?_drop] at he
  exact h.hk _ e he
 ·rw[List.getElem?_drop] at he
  obtain⟨u,hu,hr⟩:=h.rel _ e o x he hx
  refine⟨u,?_,hr⟩
  rw[List.getElem?_drop,← hu,Nat.add_mul,Nat.add_assoc]
theorem Rw.mono{w':World}{φ':Phi}{σ':b6}{A':Nat→Prop}(H:Kept w w' φ φ' σ σ' A A')(h:Rw w φ σ A k es us):Rw w' φ' σ' A' k es us:=
 ⟨h.len,h.hk,fun j e o x he hx=>let ⟨u,hu,hr⟩:=h.rel j e o x he hx; ⟨u,hu,hr.mono H⟩⟩
end
theorem ins_lists{α:Type}{f:α→List I}{l:List α}{x:α}{i:Nat}:(((l.map f).map (·.map C.imm)).take i++(([x].map f).map (·.map C.imm))++((l.map f).map (·.map C.imm)).drop i)=((l.take i++x::l.drop i).map f).map (·.map C.imm):=by
 simp[List.map_take,List.map_drop]
set_option maxRecDepth 100000 in
theorem ins_fn{α:Type}{f:α→List I}{σ:b6}{id id2:Id}{l:List α}{x:α}{i:Int}(hσ:σ[id]? =some (some (vec 2 f l)))(hσ2:σ[id2]? =some (some (vec 2 f [x])))(hne:id2 ≠ id)(hb:(l.length+1) * 32≤140737488355328)(h0:0≤i)(h1:i≤l.length):
  FnOk prog insF [.c (.own id 0 l.length),.c (int i),.c (.own id2 0 1)] σ fun r σ'=>r=.c (.own (σ.length,[]) 0 (l.take i.toNat++x::l.drop i.toNat).length)∧σ'=σ.put id none++[.one (vec 2 f (l.take i.toNat++x::l.drop i.toNat))]:=by
 refine⟨⟨_,func97,rfl,rfl⟩,fun Γ vs hΓ hG hlen hrel=> ?_⟩
 subst hΓ
 match vs,hlen with
 |[u,iv,v],_=>
 have hu:=D2 (hrel 0 _ u rfl rfl) hσ
 have hv:=D2 (hrel 2 _ v rfl rfl) hσ2
 have hiv:iv=.int .i64 i:=by
  have h:=hrel 1 _ iv rfl rfl
  cases h with|c h=>cases h with|imm h=>cases h with|val=>rfl
 subst hiv
 obtain⟨ni,rfl⟩:∃ni:Nat,i=ni:=⟨i.toNat,by omega⟩
 have hR:R Γ 3 ⟨[(0,.c (.own id 0 l.length)),(1,.c (int ni)),(2,.c (.own id2 0 1))],Γ.σ0⟩ Γ.φ0 ⟨#[u,.int .i64 ni,v],[]⟩ Γ.w0:=
  {toRs:=Rs.refl hG,defers:=.nil,asize:=rfl,env:=fun t x hx=>by
    simp only[lookup] at hx
    split at hx
    ·rename_i e;cases hx
     have:=Nat.eq_of_beq_eq_true e;subst this
     exact⟨u,rfl,hrel 0 _ u rfl rfl⟩
    ·split at hx
     ·rename_i e;cases hx
      have:=Nat.eq_of_beq_eq_true e;subst this
      exact⟨_,rfl,hrel 1 _ _ rfl rfl⟩
     ·split at hx
      ·rename_i e;cases hx
       have:=Nat.eq_of_beq_eq_true e;subst this
       exact⟨v,rfl,hrel 2 _ v rfl rfl⟩
      ·cases hx}
 have vlen:∀{m:List α},((m.map f).map (·.map C.imm)).length=m.length:=by simp
 have nlen:(l.take ni++x::l.drop ni).length=l.length+1:=by simp;omega
 simp only[Int.toNat_natCast] at *
 rw[nlen]
 by_cases hend:ni=l.length
 · -- at the end
  subst hend
  obtain⟨v',w',φ',g1,g2,g3⟩:=append_R (P:=prog) (t:=E7) (e:=choT) (ty:=0) (x:=.tmp 0) (y:=.tmp 2) (new:=([x].map f).map (·.map C.imm)) rfl rfl rfl hσ rfl (by
   have h:=Src.own (j:=0) (n:=1) hσ2
   rwa [List.drop_zero,List.take_of_length_le (by simp)] at h) (by simpa using hb) hR
  obtain⟨b0,cap0,us0,hx1,_,_⟩:=P2 hR hσ hu
  obtain⟨b2,cap2,us2,hy1,_,_⟩:=P2 hR hσ2 hv
  have hnc:l.length≤cap0:=by
   rcases hu with⟨_,h2,_,h4⟩|⟨_,_,cap,_,_,_,_,h2,_,h3,_⟩
   ·rw[hx1] at h2;injection h2 with q1 q2 q3;omega
   ·rw[hx1] at h2;injection h2 with q1 q2 q3;omega
  have e1:(⟨#[u,.int .i64 (l.length:Int),v],[]⟩:Act).eval (.tmp 0)=u:=rfl
  have e2:(⟨#[u,.int .i64 (l.length:Int),v],[]⟩:Act).eval (.tmp 2)=v:=rfl
  rw[e1,e2,hx1] at g1
  have hc:=ins_end b0 l.length cap0 v v' Γ.w0 w' ⟨b2,cap2,hy1⟩ (fun _=>g1) hnc
  rw[hx1]
  refine hc.mono ?_
  rintro e w2 ⟨rfl,rfl⟩
  have e3:=ins_lists (f:=f) (l:=l) (x:=x) (i:=l.length)
  have e4:((((l.map f).map (·.map C.imm)).drop 0).take l.length++([x].map f).map (·.map C.imm))=((l.take l.length++x::l.drop l.length).map f).map (·.map C.imm):=by
   rw[← e3,List.drop_zero,List.drop_of_length_le (by simp),List.append_nil]
  have e5:l.length+(([x].map f).map (·.map C.imm)).length=l.length+1:=by simp
  rw[e4] at g2 g3
  rw[e5] at g2
  exact⟨v',.c (.own (Γ.σ0.length,[]) 0 (l.length+1)),_,φ',rfl,⟨rfl,rfl⟩,g2,g3.toRs⟩
 ·have hi:ni<l.length:=by omega
  obtain⟨b0,cap0,us0,hx1,hx2,hx3⟩:=P2 hR hσ hu
  obtain⟨b2,cap2,us2,hy1,hy2,hy3⟩:=P2 hR hσ2 hv
  rcases hu with⟨_,_,_,h4⟩|⟨b,base,cap,arr,ety,ad,hp,hvv,had,hcap,hmax,hjn,hbk,hsz⟩
  ·omega
  rcases hv with⟨_,_,_,h4⟩|⟨c2,base2,cap2',arr2,ety2,ad2,hp2,hvv2,had2,hcap2,hmax2,hjn2,hbk2,hsz2⟩
  ·omega
  rw[hx1] at hvv;cases hvv
  rw[hy1] at hvv2;cases hvv2
  have:=had (by omega);subst this
  have:=had2 (by omega);subst this
  simp only[Nat.zero_mul,Nat.add_zero,Nat.zero_add,vlen,List.drop_zero] at *
  have hvb:c2 ≠ b:=fun e=>hne (hR.st.inj id2 id _ _ _ _ hσ2 hσ hp2 hp (by simpa using e))
  have r1:Rw Γ.w0 Γ.φ0 Γ.σ0 (Al Γ.N Γ.φ0 Γ.σ0) 2 ((l.map f).map (·.map C.imm)) us0:=by
   have:=hx3.rw
   rwa [List.take_of_length_le (by simp)] at this
  have r2:Rw Γ.w0 Γ.φ0 Γ.σ0 (Al Γ.N Γ.φ0 Γ.σ0) 2 (([x].map f).map (·.map C.imm)) us2:=by
   have:=hy3.rw
   rwa [List.take_of_length_le (by simp)] at this
  have r3:=((r1.take ni (by simp;omega)).append r2).append (r1.drop ni (by simp;omega))
  rw[ins_lists] at r3
  have u0l:us0.length=l.length * 2:=by rw[r1.len];simp
  have u2l:us2.length=1 * 2:=by rw[r2.len];simp
  have cellA:∀j v,us0[j]? =some v→Γ.w0.cell? ⟨b,base+j,none⟩=some v:=fun j v hj=>by
   have:=hx3.cell _ rfl j v hj
   rwa [Addr.add_lit] at this
  have cellB:∀j v,us2[j]? =some v→Γ.w0.cell? ⟨c2,base2+j,none⟩=some v:=fun j v hj=>by
   have:=hy3.cell _ rfl j v hj
   rwa [Addr.add_lit] at this
  have one1:∀v ∈ us0,v.oneCell'=true:=hx3.one
  have one2:∀v ∈ us2,v.oneCell'=true:=hy3.one
  have hdl:(us0.drop (ni * 2)).length=(l.length - ni) * 2:=by rw[List.length_drop,u0l,Nat.sub_mul]
  have htl:(us0.take (ni * 2)).length=ni * 2:=by rw[List.length_take];omega
  have cellD:∀j v,(us0.drop (ni * 2))[j]? =some v→Γ.w0.cell? ⟨b,base+ni * 2+j,none⟩=some v:=fun j v hj=>by
   rw[List.getElem?_drop] at hj
   rw[Nat.add_assoc];exact cellA _ v hj
  have hids:id.1<Γ.σ0.length:=b6.lt_of hσ
  rw[hx1,hy1]
  by_cases hroom:l.length+1≤cap0
  · -- room
   have hc:=ins_shift b base l.length cap0 ni c2 base2 cap2 arr arr2 ety ety2 (us0.drop (ni * 2)) us2 Γ.w0 hi hroom (by unfold maxLen at hmax;omega) hvb hbk hbk2 (by omega) hdl u2l cellD cellB (fun v hv=>one1 v (List.mem_of_mem_drop hv)) one2
   refine hc.mono ?_
   rintro e w2 ⟨rfl,rfl⟩
   have hK0:=Kept.drew Γ.w0 Γ.φ0 Γ.σ0 (Al Γ.N Γ.φ0 Γ.σ0)
   have s1:(spl arr (base+(ni+1) * 2) (us0.drop (ni * 2))).size=arr.size:=ah2 (by omega)
   have s2:(spl (spl arr (base+(ni+1) * 2) (us0.drop (ni * 2))) (base+ni * 2) us2).size=arr.size:=by rw[ah2 (by omega),s1]
   have hO:=Rs.reown (k:=2) (base':=base) (es':=((l.take ni++x::l.drop ni).map f).map (·.map C.imm)) (arr':=spl (spl arr (base+(ni+1) * 2) (us0.drop (ni * 2))) (base+ni * 2) us2) hR.toRs.drew hσ hp hbk (r3.hk) (by rw[s2];simp only[List.length_map,nlen];omega) (fun j e o y he hy=>by
    obtain⟨uu,hu,hr⟩:=r3.rel j e o y he hy
    refine⟨uu,?_,hr.mono hK0⟩
    have hlt:=(lG.1 hu).1
    simp only[List.length_append,htl,hdl,u2l] at hlt
    rw[spl_get (by omega),spl_get (by omega)]
    by_cases c1:j * 2+o<ni * 2
    ·rw[if_neg (by omega),if_neg (by omega)]
     rw[List.append_assoc,List.getElem?_append_left (by omega),List.getElem?_take,if_pos c1] at hu
     have:=cellA _ _ hu
     rw[N6 hbk] at this
     simpa using this
    ·by_cases c2:j * 2+o<ni * 2+2
     ·rw[if_pos (by omega)]
      rw[List.append_assoc,List.getElem?_append_right (by omega),List.getElem?_append_left (by omega),htl] at hu
      rw[← hu];congr 1;omega
     ·rw[if_neg (by omega),if_pos (by omega)]
      rw[List.getElem?_append_right (by simp[htl,u2l];omega)] at hu
      rw[← hu]
      simp only[List.length_append,htl,u2l]
      congr 1;omega)
   refine⟨_,_,_,_,rfl,⟨rfl,rfl⟩,?_,hO.2⟩
   refine H2 (k:=2) (es:=((l.take ni++x::l.drop ni).map f).map (·.map C.imm)) (by rw[← b6.length_put Γ.σ0 id none];exact b6.get_last _ _) rfl (.inr ⟨b,base,cap0,_,ety,⟨b,base,none⟩,by simp,rfl,fun _=>by simp,hroom,hmax,by simp only[List.length_map,nlen];omega,setRow_heap Γ.w0.drew b arr _ ety (0,0) hbk,by rw[s2];omega⟩)
  ·have hc:=ins_grow b base l.length cap0 ni c2 base2 cap2 (us0.take (ni * 2)) (us0.drop (ni * 2)) us2 Γ.w0 hi hcap (by omega) hb (hR.toRs.blk_lt hσ hp) (hR.toRs.blk_lt hσ2 hp2) htl hdl u2l (fun j v hj=>by
    rw[List.getElem?_take] at hj
    split at hj
    ·exact cellA _ v hj
    ·cases hj) cellD cellB (fun v hv=>one1 v (List.mem_of_mem_drop hv)) one2
   refine hc.mono ?_
   rintro e w2 ⟨G,ROW,g1,g2,g3,g4,rfl,rfl⟩
   obtain⟨hK1,hR1⟩:=hR.toRs.drew.drew.kill id
   have hK0:Kept Γ.w0 Γ.w0.drew.drew Γ.φ0 Γ.φ0 Γ.σ0 Γ.σ0 (Al Γ.N Γ.φ0 Γ.σ0) (Al Γ.N Γ.φ0 Γ.σ0):=Kept.trans (show Γ.w0.heap.size≤Γ.w0.drew.heap.size from Nat.le_refl _) (Kept.drew Γ.w0 Γ.φ0 Γ.σ0 _) (Kept.drew Γ.w0.drew Γ.φ0 Γ.σ0 _)
   have hK01:=Kept.trans (show Γ.w0.heap.size≤Γ.w0.drew.drew.heap.size from Nat.le_refl _) hK0 hK1
   have s1:(spl ROW (ni * 2) us2).size=G * 2:=by rw[ah2 (by omega)];exact g3
   have s2:(spl (spl ROW (ni * 2) us2) ((ni+1) * 2) (us0.drop (ni * 2))).size=G * 2:=by rw[ah2 (by omega),s1]
   have hA:=Rs.alloc (k:=2) (es:=((l.take ni++x::l.drop ni).map f).map (·.map C.imm)) (arr:=spl (spl ROW (ni * 2) us2) ((ni+1) * 2) (us0.drop (ni * 2))) (ety:=choT) hR1 r3.hk (by rw[s2];simp only[List.length_map,nlen];omega) (fun j e o y he hy=>by
    obtain⟨uu,hu,hr⟩:=r3.rel j e o y he hy
    refine⟨uu,?_,hr.mono hK01⟩
    have hlt:=(lG.1 hu).1
    simp only[List.length_append,htl,hdl,u2l] at hlt
    rw[spl_get (by omega),spl_get (by omega)]
    by_cases c1:j * 2+o<ni * 2
    ·rw[if_neg (by omega),if_neg (by omega)]
     rw[List.append_assoc,List.getElem?_append_left (by omega)] at hu
     exact g4 _ _ hu
    ·by_cases c2:j * 2+o<ni * 2+2
     ·rw[if_neg (by omega),if_pos (by omega)]
      rw[List.append_assoc,List.getElem?_append_right (by omega),List.getElem?_append_left (by omega),htl] at hu
      exact hu
     ·rw[if_pos (by omega)]
      rw[List.getElem?_append_right (by simp[htl,u2l];omega)] at hu
      rw[← hu]
      simp only[List.length_append,htl,u2l]
      congr 1;omega)
   rw[b6.length_put] at hA
   refine⟨_,_,_,_,rfl,⟨rfl,rfl⟩,?_,hA.2⟩
   refine H2 (k:=2) (es:=((l.take ni++x::l.drop ni).map f).map (·.map C.imm)) (by rw[← b6.length_put Γ.σ0 id none];exact b6.get_last _ _) rfl (.inr ⟨Γ.w0.heap.size,0,G,_,choT,⟨Γ.w0.heap.size,0,none⟩,by simp[n9],rfl,fun _=>by simp,g1,g2,by simp only[List.length_map,nlen];omega,heap_alloc_new Γ.w0.drew.drew _,by rw[s2];omega⟩)
end Ab
end
section
namespace Ab
open Go Go.Proofs
open Tryz
def insL{α:Type}(l:List α)(i:Int)(x:α):Option (List α):=if 0≤i∧i≤l.length∧(l.length+1) * 32≤140737488355328 then some (l.take i.toNat++x::l.drop i.toNat) else none
section
variable {σ0:b6}{sz:Nat}{Q:Post}{env:Env}{σv σ':b6}{ops:Array Oper}{rest:List Oper}{dst:Option Nat}{ty:Ti}{pos:String}{after:Array Edge}
theorem S.insert{α:Type}{f:α→List I}{x:Od}{al:List Od}{ats:Array Ti}{id id2 n':Id}{n m:Nat}{i:Int}{l l':List α}{y:α}{σ1:b6}(hl:insL l i y=some l')(hx:ev env x=some (.c (.fn insF [])))
  (ha:evs env al=some [.c (.own id 0 n),.c (int i),.c (.own id2 0 m)]) (hn:n=l.length) (hm:m=1) (hne:(id2.1==id.1)=false) (hσ:σv[id]? =some (some (vec 2 f l))) (hσ2:σv[id2]? =some (some (vec 2 f [y])))
  (hd:g8 sz dst=true) (hid:newF σv=some n') (h1:putF σv id none=some σ1) (hσ':r9 σ1 (.one (vec 2 f l'))=some σ') (h:AOps prog σ0 sz ops Q rest (St.mk (putE env dst (.c (.own n' 0 l'.length))) σ')):
  AOps prog σ0 sz ops Q (⟨dst,.call ⟨.value x,al.toArray,ats⟩,ty,pos,after,none⟩::rest) (St.mk env σv):=by
 have h2:=C7 h1
 have h3:=A5 hid;have h4:=p7 hσ'
 subst hn hm h2 h3 h4
 unfold insL at hl
 split at hl
 ·rename_i c
  cases hl
  refine AOps.callS hx ha hd (ins_fn hσ hσ2 (fun e=>by rw[e] at hne;simp at hne) c.2.2 c.1 c.2.1) ?_
  rintro r σ2 ⟨rfl,rfl⟩
  cases dst<;>exact h
 ·cases hl
end
end Ab
end
section
namespace Ab
open Go Go.Sort
section
variable {P:Program}{σ0:b6}{sz:Nat}{Q:Post}{env:Env}{σv σ':b6}{ops:Array Oper}{rest:List Oper}{dst:Option Nat}{ty:Ti}{pos:String}{after:Array Edge}
end
end Ab
end
section
namespace Ab
open Go
section
variable {α β:Type}{pre post:α→List I}{g:α→List β}{kb k r:Nat}{fb:β→List I}{M:List α}
def oc(pre post:α→List I)(c:C)(a:α):List C:=(pre a).map .imm++c::(post a).map .imm
def ohdr(pre post:α→List I)(g:α→List β)(r:Nat)(M:List α):List (List C):=M.mapIdx fun i a=>oc pre post (.own (r,[i]) 0 (g a).length) a
def omat(r k:Nat)(pre post:α→List I)(g:α→List β)(kb:Nat)(fb:β→List I)(M:List α):Ent:=.node (some (.cells k (ohdr pre post g r M))) (M.map fun a=>.one (vec kb fb (g a)))
theorem oc_ren{π:Id→Id}{c:C}{a:α}:C.renL π (oc pre post c a)=oc pre post (c.ren π) a:=by
 have h:∀l:List I,C.renL π (l.map .imm)=l.map .imm:=fun l=>by
  induction l with
  |nil=>rfl
  |cons x l ih=>simp[C.renL,C.ren,ih]
 have h2:∀(l:List I) (m:List C),C.renL π (l.map .imm++m)=l.map .imm++C.renL π m:=fun l m=>by
  induction l with
  |nil=>rfl
  |cons x l ih=>simp[C.renL,C.ren,ih]
 simp only[oc,h2,C.renL,h]
theorem oc_all(p:C→Bool)(hp:∀x:I,p (.imm x)=true){c:C}{a:α}:(oc pre post c a).all p=p c:=by
 have h:∀l:List I,(l.map C.imm).all p=true:=fun l=>by simp[List.all_eq_true,hp]
 simp only[oc,List.all_append,List.all_cons,h,Bool.true_and,Bool.and_true]
theorem oc_ok{n:Nat}{c:C}{a:α}:C.okL n (oc pre post c a)=c.ok n:=by
 rw[I4];exact oc_all _ (fun _=>rfl)
theorem oc_no{id:Id}{c:C}{a:α}:C.noL id (oc pre post c a)=c.no id:=by
 rw[noL_eq];exact oc_all _ (fun _=>rfl)
theorem ohdr_len:(ohdr pre post g r M).length=M.length:=by simp[ohdr]
theorem ohdr_get{i:Nat}{e:List C}(h:(ohdr pre post g r M)[i]? =some e):∃a,M[i]? =some a∧e=oc pre post (.own (r,[i]) 0 (g a).length) a:=by
 simp only[ohdr,List.getElem?_mapIdx,oM] at h
 obtain⟨a,h1,h2⟩:=h
 exact⟨a,h1,h2.symm⟩
theorem om_sub{q:List Nat}{b:Blk}(h:(omat r k pre post g kb fb M).sub q=some b):(q=[]∧b=.cells k (ohdr pre post g r M))∨∃i a,q=[i]∧M[i]? =some a∧b=vec kb fb (g a):=by
 cases q with
 |nil=>exact .inl ⟨rfl,by simpa[omat,Ent.sub] using h.symm⟩
 |cons i q=>
  simp only[omat,Ent.sub,lM] at h
  cases hi:M[i]? with
  |none=>simp[hi] at h
  |some p=>
   rw[hi] at h
   cases q with
   |nil=>simp only[Option.map_some,Ent.sub,Option.some.injEq] at h;exact .inr ⟨i,p,rfl,hi,h.symm⟩
   |cons=>simp[Ent.sub] at h
theorem om_main:(omat r k pre post g kb fb M).sub []=some (.cells k (ohdr pre post g r M)):=rfl
theorem om_row{i:Nat}{a:α}(h:M[i]? =some a):(omat r k pre post g kb fb M).sub [i]=some (vec kb fb (g a)):=by simp[omat,Ent.sub,h]
theorem om_ok{n:Nat}(h:Nat.blt r n=true):∀q b,(omat r k pre post g kb fb M).sub q=some b→b.ok n=true:=fun q b hb=>by
 rcases om_sub hb with⟨_,rfl⟩|⟨i,p,_,_,rfl⟩
 ·simp only[Blk.ok,List.all_eq_true]
  intro e he
  obtain⟨i,hi⟩:=List.getElem?_of_mem he
  obtain⟨a,_,rfl⟩:=ohdr_get hi
  rw[oc_ok];simpa[C.ok] using h
 ·exact P4
theorem om_no{id:Id}(h:id.1 ≠ r):∀q b,(omat r k pre post g kb fb M).sub q=some b→b.no id=true:=fun q b hb=>by
 rcases om_sub hb with⟨_,rfl⟩|⟨i,p,_,_,rfl⟩
 ·simp only[Blk.no,List.all_eq_true]
  intro e he
  obtain⟨i,hi⟩:=List.getElem?_of_mem he
  obtain⟨a,_,rfl⟩:=ohdr_get hi
  have:idb ((r,[i]):Id) id=false:=ag6 (fun e=>h (by rw[← e]))
  rw[oc_no];simp[C.no,this]
 ·exact Blk.im_no _ _ _
theorem ohdr_ren{π:Id→Id}{r':Nat}(h:∀q,π (r,q)=(r',q)):(Blk.cells k (ohdr pre post g r M)).ren π=.cells k (ohdr pre post g r' M):=by
 simp only[Blk.ren]
 congr 1
 apply List.ext_getElem?
 intro j
 simp only[ohdr,lM,List.getElem?_mapIdx]
 cases M[j]? with
 |none=>rfl
 |some a=>simp[oc_ren,C.ren,h]
theorem EntMv.omat{id n:Id}{mx:Nat}{σ:b6}(h:Nat.beq id.1 r=false)(hr:Nat.blt r mx=true)(hσ:σ[r]? =some (Ab.omat r k pre post g kb fb M)):EntMv id n σ mx r (Ab.omat r k pre post g kb fb M):=by
 have hne:id.1 ≠ r:=fun e=>by simp[e] at h
 show ∀(p:List Nat) (b:Blk),(Ab.omat r k pre post g kb fb M).sub p=some b→_
 intro p b hb
 have hm:mv id n (r,p)=(r,p):=by
  have:(r,p) ≠ id:=fun e=>hne (by rw[← e])
  simp[mv,ag6 this]
 rw[hm,q8 hσ,hb]
 exact⟨om_ok hr p b hb,by rw[Blk.ren_no _ (om_no hne p b hb)]⟩
theorem EntR.omat{r0 n mx i j:Nat}{σ:b6}(hj:(mvr r0 n (i,[])).1=j)(hr:Nat.blt i mx=true)(hσ:σ[j]? =some (Ab.omat j k pre post g kb fb M)):EntR r0 n σ mx i (Ab.omat i k pre post g kb fb M):=.any fun p b hb=>by
 have e:∀q,mvr r0 n (i,q)=(j,q):=fun q=>by rw[← hj];rfl
 rw[e,q8 hσ]
 refine⟨om_ok hr p b hb,?_⟩
 rcases om_sub hb with⟨rfl,rfl⟩|⟨q,p',rfl,hq,rfl⟩
 ·rw[om_main,ohdr_ren e]
 ·rw[om_row hq,ad9]
theorem RenE.omat{r':Nat}{π:Id→Id}(h:∀q,π (r,q)=(r',q)):RenE π r (Ab.omat r k pre post g kb fb M) r' (Ab.omat r' k pre post g kb fb M):=.any (fun p b hb=>by
  rcases om_sub hb with⟨rfl,rfl⟩|⟨q,p',rfl,hq,rfl⟩
  ·rw[om_main,ohdr_ren h]
  ·rw[om_row hq,ad9]) (fun p b hb=>by
  rcases om_sub hb with⟨rfl,rfl⟩|⟨q,p',rfl,hq,rfl⟩
  ·exact⟨_,om_main,(ohdr_ren h).symm⟩
  ·exact⟨_,om_row hq,ad9.symm⟩)
theorem FrzB.omat{id:Id}{X:C→C→Prop}(h:Nat.beq id.1 r=false):FrzB id X (Ab.omat r k pre post g kb fb M) (Ab.omat r k pre post g kb fb M):=by
 have hne:id.1 ≠ r:=fun e=>by simp[e] at h
 show _=_∧_
 exact⟨rfl,fun p b h=>om_no hne p b h⟩
end
section
variable {P:Program}{σ0:b6}{sz:Nat}{Q:Post}{env env':Env}{σv σ':b6}{ops:Array Oper}{rest:List Oper}{dst:Option Nat}{ty:Ti}{pos:String}{after:Array Edge}
variable {α β:Type}{pre post:α→List I}{g:α→List β}{kb k r:Nat}{fb:β→List I}{M:List α}
theorem om_head(h:σv[r]? =some (omat r k pre post g kb fb M)):σv[((r,[]):Id)]? =some (some (.cells k (ohdr pre post g r M))):=by rw[q8 h];rfl
theorem S.appendO{x y:Od}{t e:Ti}{bytes m n s t0 q:Nat}{z:Vl}{a:α}{M':List α}{σ1 σ2:b6}[ht:TyD P t (.slice e)][hts:TyS P e k bytes z]
  (ha:app bytes M [a]=some M') (hzk:(z.cells.size==k)=true) (hbp:Nat.blt 0 bytes=true) (hx:ev env x=some (.c (.own (r,[]) 0 m))) (hm:m=M.length) (hσ:σv[r]? =some (omat r k pre post g kb fb M))
  (hy:ev env y=some (.c (.own (t0,[]) 0 1))) (ht0:σv[((t0,[]):Id)]? =some (some (.cells k [oc pre post (.own (s,[]) 0 q) a]))) (hq:q=(g a).length) (hs:σv[((s,[]):Id)]? =some (some (vec kb fb (g a)))) (hsr:Nat.beq s r=false)
  (hn:newF σv=some (n,[])) (h1:setF σv r .dead=some σ1) (h2:setF σ1 s .dead=some σ2) (hσ':r9 σ2 (omat n k pre post g kb fb M')=some σ') (hd:g8 sz dst=true) (h0:Nat.ble σ0.length n=true)
  (h:AOps P σ0 sz ops Q rest (St.mk (putE env dst (.c (.own (n,[]) 0 M'.length))) σ')):
  AOps P σ0 sz ops Q (⟨dst,.call ⟨.builtin .append,#[x,y],#[t,t]⟩,ty,pos,after,none⟩::rest) (St.mk env σv):=by
 have h2':=(K7 h1).1;have h2s:=(K7 h2).1;have h3:=A5 hn;have h4:=p7 hσ'
 cases h3
 subst h2' h2s h4 hm hq
 obtain⟨hb,rfl⟩:=am3 ha
 have hsr':s ≠ r:=fun e=>by simp[e] at hsr
 have hrl:=(lG.1 hσ).1
 have hsl:s<σv.length:=b6.lt_of hs
 have h0':=Nat.le_of_ble_eq_true h0
 intro Γ0 φ0 a0 w0 hΓ0 hR0
 have hsrc:Src σv k (.c (.own (t0,[]) 0 1)) [oc pre post (.own (s,[]) 0 (g a).length) a]:=.own (j:=0) (n:=1) ht0
 refine AOps.append hzk hbp hx (om_head hσ) hy hsrc (by simpa using hb) hd ?_ Γ0 φ0 a0 w0 hΓ0 hR0
 have e1:((ohdr pre post g r M).drop 0).take M.length=ohdr pre post g r M:=by rw[List.drop_zero,List.take_of_length_le (by simp[ohdr_len])]
 rw[e1]
 generalize hX:σv.put (r,[]) none++[Ent.one (.cells k (ohdr pre post g r M++[oc pre post (.own (s,[]) 0 (g a).length) a]))]=σX
 have e5:(St.mk env σX).put dst (.c (.own (σv.length,[]) 0 (M.length+[oc pre post (.own (s,[]) 0 (g a).length) a].length)))=⟨putE env dst (.c (.own (σv.length,[]) 0 (M++[a]).length)),σX⟩:=by
  rw[show M.length+[oc pre post (.own (s,[]) 0 (g a).length) a].length=(M++[a]).length by simp]
  cases dst<;>rfl
 rw[e5]
 have xn:σX[((σv.length,[]):Id)]? =some (some (.cells k (ohdr pre post g r M++[oc pre post (.own (s,[]) 0 (g a).length) a]))):=by
  rw[← hX,b6.get_right (by simp)];simp[b6.at_eq,b6.at,Ent.sub]
 have xo:∀i:Id,i.1<σv.length→i ≠ (r,[])→σX[i]? =σv[i]? :=fun i hi hne=>by
  rw[← hX,b6.get_left (by simpa using hi),b6.get_put_ne hne]
 generalize hπ:(fun i:Id=>if i.1=σv.length then(if i.2=[] then(σv.length,[]) else if i.2=[M.length] then(s,[]) else(r,i.2)) else i)=π
 have π0:∀i:Id,i.1 ≠ σv.length→π i=i:=fun i hi=>by rw[← hπ];simp[hi]
 have πn:π (σv.length,[])=(σv.length,[]):=by rw[← hπ];simp
 have πv:π (σv.length,[M.length])=(s,[]):=by rw[← hπ];simp
 have πr:∀q,q<M.length→π (σv.length,[q])=(r,[q]):=fun q hq=>by rw[← hπ];simp;omega
 have hMlen:(M++[a]).length=M.length+1:=by simp
 have dead:∀(i:Id) b,((σv.set r .dead).set s .dead)[i]? =some (some b)→i.1 ≠ r∧i.1 ≠ s∧σv[i]? =some (some b):=fun i b hi=>by
  obtain⟨i1,q⟩:=i
  rw[b6.at_eq] at hi
  simp only[b6.at,List.getElem?_set,lS] at hi
  by_cases e1:s=i1
  ·subst e1;simp[hsl,Ent.sub] at hi
  ·rw[if_neg e1] at hi
   by_cases e2:r=i1
   ·subst e2;simp[hrl,Ent.sub] at hi
   ·rw[if_neg e2] at hi
    exact⟨fun e=>e2 e.symm,fun e=>e1 e.symm,by rw[b6.at_eq];exact hi⟩
 have cases3:∀(i:Id) b,((σv.set r .dead).set s .dead++[omat σv.length k pre post g kb fb (M++[a])])[i]? =some (some b)→
   (i.1<σv.length∧i.1 ≠ r∧i.1 ≠ s∧σv[i]? =some (some b))∨(i=(σv.length,[])∧b=.cells k (ohdr pre post g σv.length (M++[a])))∨(∃q c,i=(σv.length,[q])∧(M++[a])[q]? =some c∧b=vec kb fb (g c)):=fun i b hi=>by
  rcases Nat.lt_or_ge i.1 σv.length with hl|hl
  ·rw[b6.get_left (by simpa using hl)] at hi
   obtain⟨g1,g2,g3⟩:=dead i b hi
   exact .inl ⟨hl,g1,g2,g3⟩
  ·rw[b6.get_right (by simpa using hl)] at hi
   obtain⟨i1,q⟩:=i
   simp only[lS] at hi hl
   have hz:i1=σv.length:=by
    have:=b6.lt_of hi
    simp at this;simp at hl;omega
   subst hz
   rw[Nat.sub_self,q8 (e:=omat σv.length k pre post g kb fb (M++[a])) rfl] at hi
   simp only[Option.some.injEq] at hi
   rcases om_sub hi with⟨rfl,rfl⟩|⟨q',c,rfl,hc,rfl⟩
   ·exact .inr (.inl ⟨rfl,rfl⟩)
   ·exact .inr (.inr ⟨q',c,rfl,hc,rfl⟩)
 refine AOps.sub (s':=⟨putE env dst (.c (.own (σv.length,[]) 0 (M++[a]).length)),(σv.set r .dead).set s .dead++[omat σv.length k pre post g kb fb (M++[a])]⟩) ?_ h
 have hlen':((σv.set r .dead).set s .dead++[omat σv.length k pre post g kb fb (M++[a])]).length=σv.length+1:=by simp
 have hqb:∀{q:Nat} {c:α},(M++[a])[q]? =some c→q<M.length+1:=fun hc=>by rw[← hMlen];exact(lG.1 hc).1
 refine Sub.mk π (fun i hi=>π0 i (by omega)) (by rw[hlen'];omega) (fun i j b b' hi hj he=> ?_) (fun i b hi=> ?_) (fun t v ht=> ?_)
 ·rcases cases3 i b hi with⟨g1,g2,g2s,_⟩|⟨rfl,_⟩|⟨q,row,rfl,g1,_⟩<;>rcases cases3 j b' hj with⟨k1,k2,k2s,_⟩|⟨rfl,_⟩|⟨q',row',rfl,k1,_⟩
  ·rwa [π0 i (by omega),π0 j (by omega)] at he
  ·rw[π0 i (by omega),πn] at he;subst he;simp at g1
  ·rw[π0 i (by omega)] at he
   have hq:=hqb k1
   by_cases e:q'=M.length
   ·subst e;rw[πv] at he;subst he;exact absurd rfl g2s
   ·rw[πr q' (by omega)] at he;subst he;exact absurd rfl g2
  ·rw[π0 j (by omega),πn] at he;subst he;simp at k1
  ·rfl
  ·have hq:=hqb k1
   by_cases e:q'=M.length
   ·subst e;rw[πn,πv] at he;simp at he;omega
   ·rw[πn,πr q' (by omega)] at he;simp at he
  ·rw[π0 j (by omega)] at he
   have hq:=hqb g1
   by_cases e:q=M.length
   ·subst e;rw[πv] at he;subst he;exact absurd rfl k2s
   ·rw[πr q (by omega)] at he;subst he;exact absurd rfl k2
  ·have hq:=hqb g1
   by_cases e:q=M.length
   ·subst e;rw[πn,πv] at he;simp at he;omega
   ·rw[πn,πr q (by omega)] at he;simp at he
  ·have hq:=hqb g1
   have hq':=hqb k1
   by_cases e:q=M.length<;>by_cases e':q'=M.length
   ·rw[e,e']
   ·rw[e,πv,πr q' (by omega)] at he;simp at he
   ·rw[e',πv,πr q (by omega)] at he;simp at he
   ·rw[πr q (by omega),πr q' (by omega)] at he
    simp at he;rw[he]
 ·dsimp only
  rw[hlen']
  rcases cases3 i b hi with⟨g1,g2,g2s,g3⟩|⟨rfl,rfl⟩|⟨q,c,rfl,g1,rfl⟩
  ·have hok:=hR0.st.okB g3
   have hren:b.ren π=b:=Blk.ren_ok (m:=σv.length) (fun i hi=>π0 i (by omega)) b hok
   refine⟨Blk.ok_mono (Nat.le_succ _) b hok,?_⟩
   rw[π0 i (by omega),hren,xo i g1 (fun e=>g2 (by rw[e]))]
   exact g3
  ·refine⟨om_ok (r:=σv.length) (kb:=kb) (fb:=fb) (by simp) [] _ om_main,?_⟩
   rw[πn,xn]
   congr 2
   simp only[Blk.ren]
   congr 1
   apply List.ext_getElem?
   intro q
   rw[lM]
   simp only[ohdr,List.getElem?_mapIdx,Option.map_map,List.getElem?_append,List.length_mapIdx]
   by_cases hq:q<M.length
   ·rw[if_pos hq,if_pos hq]
    cases hM:M[q]? with
    |none=>rfl
    |some row=>simp[oc_ren,C.ren,πr q hq]
   ·rw[if_neg hq,if_neg hq]
    by_cases hq2:q=M.length
    ·subst hq2;simp[oc_ren,C.ren,πv]
    ·cases hz:q - M.length with
     |zero=>omega
     |succ x=>simp
  ·have hq:=hqb g1
   refine⟨P4,?_⟩
   rw[ad9]
   by_cases e:q=M.length
   ·subst e
    rw[πv,xo (s,[]) hsl (fun e=>hsr' (by cases e;rfl)),hs]
    rw[List.getElem?_append_right (Nat.le_refl _),Nat.sub_self] at g1
    cases g1;rfl
   ·rw[πr q (by omega),xo (r,[q]) hrl (by simp)]
    rw[List.getElem?_append_left (by omega)] at g1
    rw[q8 hσ,om_row g1]
 ·dsimp only at ht ⊢
  rw[hlen']
  have old:∀v,lookup t env=some v→v.ok (σv.length+1)=true∧lookup t env=some (v.ren π):=fun v hv=>by
   obtain⟨u,_,hr⟩:=hR0.env t v hv
   have hok:=hr.ok
   exact⟨T.ok_mono (Nat.le_succ _) v hok,by rw[T.ren_ok (m:=σv.length) (fun i hi=>π0 i (by omega)) v hok];exact hv⟩
  cases hdst:dst with
  |none=>rw[hdst] at ht;exact old v ht
  |some d=>
   rw[hdst] at ht
   simp only[putE,lookup] at ht ⊢
   split at ht
   ·cases ht
    refine⟨by simp[T.ok,C.ok],?_⟩
    simp[T.ren,C.ren,πn]
   ·exact old v ht
/-! ### Rows cease to change -/
theorem ah4.set{e:Ent}(h:ah4 r σv):ah4 r (σv.set r e):=fun i b hi hb q=>by
 refine h i b hi ?_ q
 obtain⟨i1,l⟩:=i
 rw[b6.at_eq] at hb ⊢
 simp only[b6.at,List.getElem?_set] at hb ⊢
 rwa [if_neg (fun e=>hi e.symm)] at hb
/-! ### The block with one cell owned elsewhere: looked at, written -/
end
end Ab
end
section
namespace Ab
open Go
section
variable {P:Program}{σ0:b6}{sz:Nat}{Q:Post}{env:Env}{σv σ':b6}{ops:Array Oper}{rest:List Oper}{dst:Option Nat}{ty:Ti}{pos:String}{after:Array Edge}
variable {β:Type}{k r:Nat}{f:β→List I}{M:List (List β)}
theorem S.appendMR{x y:Od}{t e:Ti}{bytes m n s t0 q:Nat}{z:Vl}{a:List β}{M':List (List β)}{σ1 σ2:b6}[ht:TyD P t (.slice e)][hts:TyS P e 1 bytes z]
  (ha:app bytes M [a]=some M') (hzk:(z.cells.size==1)=true) (hbp:Nat.blt 0 bytes=true) (hx:ev env x=some (.c (.own (r,[]) 0 m))) (hm:m=M.length) (hσ:σv[r]? =some (mat (r,[]) k f M))
  (hy:ev env y=some (.c (.own (t0,[]) 0 1))) (ht0:σv[((t0,[]):Id)]? =some (some (.cells 1 [[.own (s,[]) 0 q]]))) (hq:q=a.length) (hs:σv[((s,[]):Id)]? =some (some (vec k f a))) (hsr:Nat.beq s r=false)
  (hn:newF σv=some (n,[])) (h1:setF σv r .dead=some σ1) (h2:setF σ1 s .dead=some σ2) (hσ':r9 σ2 (mat (n,[]) k f M')=some σ') (hd:g8 sz dst=true) (h0:Nat.ble σ0.length n=true)
  (h:AOps P σ0 sz ops Q rest (St.mk (putE env dst (.c (.own (n,[]) 0 M'.length))) σ')):
  AOps P σ0 sz ops Q (⟨dst,.call ⟨.builtin .append,#[x,y],#[t,t]⟩,ty,pos,after,none⟩::rest) (St.mk env σv):=
 S.appendO (pre:=fun _=>[]) (post:=fun _=>[]) (g:=fun a=>a) (kb:=k) (fb:=f) (k:=1) ha hzk hbp hx hm hσ hy ht0 hq hs hsr hn h1 h2 hσ' hd h0 h
theorem Sub.virtVM(k:Nat)(f:β→List I)(t:Nat){n:Nat}{σ3:b6}(ht:lookup t env=some (.c (.imm (.val (.slice none 0 0)))))(hn:newF σv=some (n,[]))(hσ':r9 σv (mat (n,[]) k f [])=some σ')
  (h3:r9 σv (.one (vec 1 (fun _:List β=>([]:List I)) []))=some σ3):Sub σ0 ⟨env,σv⟩ ⟨(t,.c (.own (n,[]) 0 ([]:List (List β)).length))::env,σ'⟩:=by
 have g1:=A5 hn;have g2:=p7 hσ';have e3:=p7 h3
 cases g1
 subst g2
 refine(Sub.virtV (α:=List β) 1 (fun _=>[]) t ht hn h3).trans (Sub.same (by subst e3;simp) fun i=> ?_)
 subst e3
 rcases Nat.lt_or_ge i.1 σv.length with hl|hl
 ·rw[b6.get_left hl,b6.get_left hl]
 ·rw[b6.get_right hl,b6.get_right hl]
  obtain⟨i1,q⟩:=i
  rw[b6.at_eq,b6.at_eq]
  simp only[b6.at]
  cases i1 - σv.length with
  |zero=>cases q<;>rfl
  |succ m=>rfl
theorem AWP.virtVM{c:Code}{Q:Post}(k:Nat)(f:β→List I)(t:Nat){n:Nat}{σ3:b6}(ht:lookup t env=some (.c (.imm (.val (.slice none 0 0)))))(hn:newF σv=some (n,[]))(hσ':r9 σv (mat (n,[]) k f [])=some σ')
  (h3:r9 σv (.one (vec 1 (fun _:List β=>([]:List I)) []))=some σ3) (h:AWP P σ0 sz c Q (St.mk ((t,.c (.own (n,[]) 0 ([]:List (List β)).length))::env) σ')):AWP P σ0 sz c Q (St.mk env σv):=AWP.sub (Sub.virtVM k f t ht hn hσ' h3) h
theorem S.storeHS{x y:Od}{t:Ti}{bytes:Nat}{z:Vl}{i:Int}{row:List β}[hs:TyS P t 1 bytes z](he:ix M i=some row)(hx:ev env x=some (.c (.ptr (r,[]) i.toNat 0)))(hy:ev env y=some (.c (.own (r,[i.toNat]) 0 row.length)))
  (hσ:σv[r]? =some (mat (r,[]) k f M)) (h:AOps P σ0 sz ops Q rest (St.mk env σv)):AOps P σ0 sz ops Q (⟨none,.store t x y,ty,pos,after,none⟩::rest) (St.mk env σv):=by
 have he:=(L8 he).2
 refine AOps.store hx hy (an8 hσ) (hdr_get he) (by simp) ?_
 refine AOps.sub (Sub.same (by simp) fun j=> ?_) h
 have e:(hdr (r,[]) M).set i.toNat [.own (r,[i.toNat]) 0 row.length]=hdr (r,[]) M:=(hdr_set (id:=(r,[]))).symm.trans (hdr_same he rfl)
 by_cases hj:j=(r,[])
 ·subst hj
  rw[b6.get_put_eq (an8 hσ),an8 hσ]
  exact congrArg (fun l=>some (some (Blk.cells 1 l))) e
 ·rw[b6.get_put_ne hj]
end
end Ab
end
section
namespace Ab
open Go Go.Proofs
set_option linter.all false
abbrev b9(l:Li):List I:=[.sl 1 (l.map intI)]
structure j6 where
  add:Li
  del:Li
  weight:Int
abbrev p8(v:j6):List I:=[.sl 1 (List.map intI v.add),.sl 1 (List.map intI v.del),.val (.int .i64 v.weight)]
structure g9 where
  pre:Li
  outcomes:List j6
  cost:Int
abbrev d7(v:g9):List I:=[.sl 1 (List.map intI v.pre),.sl 3 (List.map p8 v.outcomes),.val (.int .i64 v.cost)]
structure d5 where
  facts:Int
  init:Li
  goal:Li
  operators:List g9
abbrev eTOpenTask(v:d5):List I:=[.val (.int .i64 v.facts),.sl 1 (List.map intI v.init),.sl 1 (List.map intI v.goal),.sl 3 (List.map d7 v.operators)]
structure j8 where
  code:Int
  index:Int
abbrev D6(l:LL):List I:=[.sl 1 (l.map b9)]
structure ak4 where
  fx:Int
  fy:Int
  signed:Bool
  code:Int
structure Truntime_boundsError where
  fx:Int
  fy:Int
  signed:Bool
  code:Int
structure ai4 where
  facts:Int
  init:Li
  goal:Li
  operators:List g9
structure e9 where
  state:Li
  operator:Int
abbrev f8(v:e9):List I:=[.sl 1 (List.map intI v.state),.val (.int .i64 v.operator)]
abbrev eLTChoice(l:List e9):List I:=[.sl 2 (l.map f8)]
structure TNum_int_Den_int where
  num:Int
  den:Int
structure m9 where
  num:Int
  den:Int
structure TCode_int_Index_int where
  code:Int
  index:Int
structure aw3 where
  pre:Li
  outcomes:List j6
  cost:Int
structure R5 where
  pre:Li
  add:Li
  del:Li
  cost:Int
structure ak2 where
  facts:Int
  init:Li
  goal:Li
  operators:List R5
structure TTask where
  facts:Int
  init:Li
  goal:Li
  operators:List R5
structure al0 where
  fo:d5
  states:LL
  ops:Li
  num:Li
  den:Int
structure Tchance_chooser where
  fo:d5
  states:LL
  ops:Li
  num:Li
  den:Int
structure Tstates_int_rows_int where
  states:LL
  rows:LL
structure Tchance_system where
  states:LL
  rows:LL
structure TAdd_int_Del_int_Weight_int where
  add:Li
  del:Li
  weight:Int
structure TState_int_Operator_int where
  state:Li
  operator:Int
structure ay6 where
  pre:Li
  add:Li
  del:Li
  cost:Int
structure Tspace_arc where
  ffrom:Int
  cost:Int
structure Tspace_Step_uint32 where
  op:Int
  cost:Int
  to:Int
structure TOp_int_Cost_int_To_uint32 where
  op:Int
  cost:Int
  to:Int
structure Tfrom_uint32_cost_int where
  ffrom:Int
  cost:Int
structure aw7 where
  pre:Int
  add:Int
  del:Int
  cost:Int
structure as9 where
  start:Int
  goal:Int
  ops:List aw7
structure Tspace_Words where
  start:Int
  goal:Int
  ops:List aw7
structure as3 where
  pre:Int
  add:Int
  del:Int
  cost:Int
structure ax4 where
  item:Int
  key:Int
  time:Int
  fat:Int
structure Topenlist_entry_uint32 where
  item:Int
  key:Int
  time:Int
  fat:Int
def W2(l:Li)(nv:Int):Int→Unit→Option (Unit⊕Bool):=fun t3 _=>Option.bind (ix l t3) fun a12=>Option.bind (if a12<0 then some true else if nv≤a12 then some true else if 0<t3 then Option.bind (ix l (t3 - 1)) fun a29=>some (decide (a12≤a29)) else some false) fun t4=>if t4=true then some (.inr false) else some (.inl ())
def D8(l:Li)(nv:Int):Option Bool:=(Option.bind (rngX 0 (l.length:Int) (W2 l nv) ()) fun| .inl _=>some true| .inr x=>some x)
def G3(xv:Int):Option Bool:=some (!(decide (xv=xv)))
def X9(xv:Int)(yv:Int):Option Bool:=Option.bind (Option.bind (G3 xv) fun a6=>if a6=true then Option.bind (G3 yv) fun a9=>if(!a9)=true then some true else some (decide (xv<yv)) else some (decide (xv<yv))) fun t3=>some t3
def L6(xv:Int):Option Bool:=some (!(decide (xv=xv)))
def A9(xv:Li)(target:Int):(Int×Int)→Option ((Int×Int)⊕Int):=fun(iv3,j4)=>if iv3<j4 then Option.bind (ix xv (w64 (shrW .u64 ((IntKind.u64).wrap (w64 (iv3+j4))) 1))) fun a24=>Option.bind (X9 a24 target) fun a27=>if a27=true then some (.inl (w64 ((w64 (shrW .u64 ((IntKind.u64).wrap (w64 (iv3+j4))) 1))+1),j4)) else some (.inl (iv3,w64 (shrW .u64 ((IntKind.u64).wrap (w64 (iv3+j4))) 1))) else some (.inr iv3)
noncomputable def s8(xv:Li)(target:Int):Option (Int×Bool):=Option.bind (Loop (A9 xv target) (0,(xv.length:Int))) fun iv5=>Option.bind (if iv5<(xv.length:Int) then Option.bind (ix xv iv5) fun a38=>if a38=target then some true else Option.bind (ix xv iv5) fun a45=>Option.bind (L6 a45) fun a47=>if a47=true then Option.bind (L6 target) fun a50=>some a50 else some false else some false) fun t8=>some (iv5,t8)
noncomputable def Y3(xv:Int)(c2:Li):Option Bool:=Option.bind (s8 c2 xv) fun a9=>some a9.2
def C8(sv:Li)(fv:Int→Option Bool):Int→Unit→Option (Unit⊕Int):=fun t3 _=>Option.bind (ix sv t3) fun a14=>Option.bind (fv a14) fun a16=>if a16=true then some (.inr t3) else some (.inl ())
def F9(sv:Li)(fv:Int→Option Bool):Option Int:=(Option.bind (rngX 0 (sv.length:Int) (C8 sv fv) ()) fun| .inl _=>some (-1)| .inr x=>some x)
def u3(sv:Li)(fv:Int→Option Bool):Option Bool:=Option.bind (F9 sv fv) fun a7=>some (decide (0≤a7))
noncomputable def X1(av:Li)(bv:Li):Option Bool:=Option.bind (u3 av (fun y1=>Y3 y1 bv)) fun a7=>some a7
noncomputable def F7(ov:g9)(facts:Int):Int→Unit→Option (Unit⊕Int):=fun t6 _=>Option.bind (ix ov.outcomes t6) fun a38=>Option.bind (Option.bind (D8 a38.add facts) fun a44=>if(!a44)=true then some true else Option.bind (D8 a38.del facts) fun a50=>if(!a50)=true then some true else Option.bind (X1 a38.add a38.del) fun a58=>some a58) fun t7=>if t7=true then some (.inr 5) else if((decide (a38.weight<1))||(decide (6<a38.weight)))=true then some (.inr 3) else some (.inl ())
noncomputable def J6(ov:g9)(facts:Int):Option Int:=Option.bind (D8 ov.pre facts) fun a11=>if(!a11)=true then some 5 else if((decide (ov.cost<0))||(decide (100<ov.cost)))=true then some 3 else if((decide ((ov.outcomes.length:Int)=0))||(decide (4<(ov.outcomes.length:Int))))=true then some 9 else(Option.bind (rngX 0 (ov.outcomes.length:Int) (F7 ov facts) ()) fun| .inl _=>some 0| .inr x=>some x)
noncomputable def M0(ov:d5):Int→Unit→Option (Unit⊕j8):=fun t6 _=>Option.bind (ix ov.operators t6) fun a44=>Option.bind (J6 a44 ov.facts) fun a49=>if a49=0 then some (.inl ()) else some (.inr (⟨a49,t6⟩:j8))
noncomputable def N3(ov:d5):Option j8:=if((decide (ov.facts<0))||(decide (24<ov.facts)))=true then some (⟨3, -1⟩:j8) else Option.bind (D8 ov.init ov.facts) fun a21=>if(!a21)=true then some (⟨5, -2⟩:j8) else Option.bind (D8 ov.goal ov.facts) fun a29=>if(!a29)=true then some (⟨5, -3⟩:j8) else if 40<(ov.operators.length:Int) then some (⟨2, -1⟩:j8) else(Option.bind (rngX 0 (ov.operators.length:Int) (M0 ov) ()) fun| .inl _=>some (⟨0,0⟩:j8)| .inr x=>some x)
def P8(iv:Int):Option ByteArray:=if iv<10 then Option.bind (subS (⟨#[48,49,50,51,52,53,54,55,56,57,97,98,99,100,101,102,103,104,105,106,107,108,109,110,111,112,113,114,115,116,117,118,119,120,121,122]⟩:ByteArray) iv (w64 (iv+1))) fun a8=>some a8 else Option.bind (subS (⟨#[48,48,48,49,48,50,48,51,48,52,48,53,48,54,48,55,48,56,48,57,49,48,49,49,49,50,49,51,49,52,49,53,49,54,49,55,49,56,49,57,50,48,50,49,50,50,50,51,50,52,50,53,50,54,50,55,50,56,50,57,51,48,51,49,51,50,51,51,51,52,51,53,51,54,51,55,51,56,51,57,52,48,52,49,52,50,52,51,52,52,52,53,52,54,52,55,52,56,52,57,53,48,53,49,53,50,53,51,53,52,53,53,53,54,53,55,53,56,53,57,54,48,54,49,54,50,54,51,54,52,54,53,54,54,54,55,54,56,54,57,55,48,55,49,55,50,55,51,55,52,55,53,55,54,55,55,55,56,55,57,56,48,56,49,56,50,56,51,56,52,56,53,56,54,56,55,56,56,56,57,57,48,57,49,57,50,57,51,57,52,57,53,57,54,57,55,57,56,57,57]⟩:ByteArray) (w64 (iv * 2)) (w64 ((w64 (iv * 2))+2))) fun a14=>some a14
abbrev ab2(iv:Int)(base:Int)(l:Li):b6:=[.one (vec 1 eU8 l)]
def F2(iv:Int)(base:Int)(l:Li):Option Li:=if base=10 then if iv<100 then Option.bind (P8 (w64 iv)) fun a16=>Option.bind (app 1 l (strL a16)) fun a17=>some a17 else none else none
abbrev ac9(iv:Int)(base:Int)(l:Li):b6:=[.one (vec 1 eU8 l)]
def G5(iv:Int)(base:Int)(l:Li):Option Li:=Option.bind (if iv<0 then none else some ()) fun _=>Option.bind (F2 ((IntKind.u64).wrap iv) base l) fun a20=>some a20
abbrev ao5(iv:Int)(base:Int)(l:Li):b6:=[.one (vec 1 eU8 l)]
def S2(iv:Int)(base:Int)(l:Li):Option Li:=Option.bind (G5 iv base l) fun a10=>some a10
def av8(a12:Li):Int→Li→Option Li:=fun t5 c4=>Option.bind (ix a12 t5) fun a18=>Option.bind (S2 a18 10 c4) fun a22=>Option.bind (app 1 a22 [44]) fun a24=>some a24
def aw1(l:LL):Int→Li→Option Li:=fun t3 c2=>Option.bind (ix l t3) fun a12=>(Option.bind (forR 0 (a12.length:Int) (av8 a12) c2) fun c4=>Option.bind (app 1 c4 [59]) fun a28=>some a28)
def al5(l:LL):Option ByteArray:=(Option.bind (forR 0 (l.length:Int) (aw1 l) []) fun c2=>some (strB c2))
def I2(sv:Li)(a12:Int):Int→Option (Int⊕Int):=fun iv5=>Option.bind (if iv5<(sv.length:Int) then Option.bind (ix sv iv5) fun a21=>some (decide (a21<a12)) else some false) fun t7=>if t7=true then some (.inl (w64 (iv5+1))) else some (.inr iv5)
noncomputable def O3(sv:Li)(part:Li):Int→Int→Option (Int⊕Bool):=fun t4 iv3=>Option.bind (ix part t4) fun a12=>Option.bind (Loop (I2 sv a12) iv3) fun iv6=>Option.bind (if iv6=(sv.length:Int) then some true else Option.bind (ix sv iv6) fun a35=>some (!(decide (a35=a12)))) fun t11=>if t11=true then some (.inr false) else some (.inl iv6)
noncomputable def k9(sv:Li)(part:Li):Option Bool:=(Option.bind (rngX 0 (part.length:Int) (O3 sv part) 0) fun| .inl iv3=>some true| .inr x=>some x)
noncomputable def S8(ov:d5)(sv:Li)(op:Int):Option Bool:=Option.bind (ix ov.operators op) fun a11=>Option.bind (k9 sv a11.pre) fun a14=>some a14
noncomputable def ad7(sv:Li)(del:Li):Int→Li→Option Li:=fun t5 c4=>Option.bind (Option.bind (ix sv t5) fun a16=>Option.bind (s8 del a16) fun a21=>if(!a21.2)=true then Option.bind (app 8 c4 [a16]) fun a29=>some a29 else some c4) fun c6=>some c6
noncomputable def J4(sv:Li)(add:Li)(del:Li):Option Li:=(Option.bind (forR 0 (sv.length:Int) (ad7 sv del) []) fun c4=>Option.bind (app 8 c4 add) fun a33=>Option.bind (sortL a33) fun a35=>some (ac8 a35))
def O6(xv:Int)(yv:Int):Option Int:=Option.bind (G3 xv) fun a8=>Option.bind (G3 yv) fun a10=>if a8=true then if a10=true then some 0 else some (-1) else if a10=true then some 1 else if xv<yv then some (-1) else if yv<xv then some 1 else some 0
def E8(s11:Li)(s22:Li):Int→Unit→Option (Unit⊕Int):=fun t3 _=>Option.bind (ix s11 t3) fun a14=>if(s22.length:Int)≤t3 then some (.inr 1) else Option.bind (ix s22 t3) fun a22=>Option.bind (O6 a14 a22) fun a26=>if a26=0 then some (.inl ()) else some (.inr a26)
def slices_Compare_int_int(s11:Li)(s22:Li):Option Int:=(Option.bind (rngX 0 (s11.length:Int) (E8 s11 s22) ()) fun| .inl _=>if(s11.length:Int)<(s22.length:Int) then some (-1) else some 0| .inr x=>some x)
def N0(s11:Li)(s22:Li):Int→Unit→Option (Unit⊕Bool):=fun t4 _=>Option.bind (ix s11 t4) fun a18=>Option.bind (ix s22 t4) fun a22=>if a18=a22 then some (.inl ()) else some (.inr false)
def z6(s11:Li)(s22:Li):Option Bool:=if(s11.length:Int)=(s22.length:Int) then(Option.bind (rngX 0 (s11.length:Int) (N0 s11 s22) ()) fun| .inl _=>some true| .inr x=>some x) else some false
def G9(xv:LL)(target:Li)(cmp:Li→Li→Option Int):(Int×Int)→Option ((Int×Int)⊕Int):=fun(iv4,j5)=>if iv4<j5 then Option.bind (ix xv (w64 (shrW .u64 ((IntKind.u64).wrap (w64 (iv4+j5))) 1))) fun a27=>Option.bind (cmp a27 target) fun a30=>if a30<0 then some (.inl (w64 ((w64 (shrW .u64 ((IntKind.u64).wrap (w64 (iv4+j5))) 1))+1),j5)) else some (.inl (iv4,w64 (shrW .u64 ((IntKind.u64).wrap (w64 (iv4+j5))) 1))) else some (.inr iv4)
noncomputable def l9(xv:LL)(target:Li)(cmp:Li→Li→Option Int):Option (Int×Bool):=Option.bind (Loop (G9 xv target cmp) (0,(xv.length:Int))) fun iv6=>Option.bind (if iv6<(xv.length:Int) then Option.bind (ix xv iv6) fun a43=>Option.bind (cmp a43 target) fun a46=>some (decide (a46=0)) else some false) fun t9=>some (iv6,t9)
abbrev E9(l:LL):b6:=[.one (vec 1 b9 l)]
def w9(l:LL)(kv54:Int):Int→((LL)×Int)→Option ((LL)×Int):=fun k258 (c56,kv57)=>Option.bind (Option.bind (ixV c56 (0+kv54) ((l.length:Int) - kv54) k258) fun a41=>Option.bind (ixV c56 (0+kv54) ((l.length:Int) - kv54) (k258 - 1)) fun a46=>Option.bind (z6 a41 a46) fun a48=>if(!a48)=true then Option.bind (ixV c56 (0+kv54) ((l.length:Int) - kv54) k258) fun a54=>Option.bind (ix c56 kv57) fun a56=>some (c56.set kv57.toNat a54,w64 (kv57+1)) else some (c56,kv57)) fun⟨c59,kv60⟩=>some (c59,kv60)
def s7(l:LL):Int→Unit→Option (Unit⊕(LL)):=fun kv54 _=>Option.bind (ix l kv54) fun a21=>Option.bind (ix l (kv54 - 1)) fun a26=>Option.bind (z6 a21 a26) fun a28=>if a28=true then Option.bind (cutV (l.length:Int) kv54 (l.length:Int)) fun u31=>(Option.bind (forR 1 ((l.length:Int) - kv54) (w9 l kv54) (l,kv54)) fun⟨c56,kv57⟩=>Option.bind (cutV (c56.length:Int) kv57 (c56.length:Int)) fun u61=>Option.bind (cutV ((clrL c56 (0+kv57) ((c56.length:Int) - kv57) []).length:Int) 0 kv57) fun u64=>some (.inr (r8 (clrL c56 (0+kv57) ((c56.length:Int) - kv57) []) 0 kv57))) else some (.inl ())
def x9(l:LL):Option (LL):=if(l.length:Int)<2 then some l else(Option.bind (rngX 1 (l.length:Int) (s7 l) ()) fun| .inl _=>some l| .inr x=>some x)
abbrev aw8(l:LL):b6:=[.one (vec 1 b9 l)]
def G0(l:LL):Option (LL):=Option.bind (sortLL l) fun a4=>Option.bind (x9 a4) fun a6=>some a6
noncomputable def O8(sv:Li)(a20:g9):Int→(LL)→Option (LL):=fun t5 c4=>Option.bind (ix a20.outcomes t5) fun a26=>Option.bind (J4 sv a26.add a26.del) fun a34=>Option.bind (app 24 c4 [a34]) fun a36=>some a36
noncomputable def D0(c4:LL)(a40:(LL))(a47:g9):Int→Li→Option Li:=fun t7 c6=>Option.bind (ix a47.outcomes t7) fun a54=>Option.bind (ix c4 t7) fun a60=>Option.bind (l9 a40 a60 slices_Compare_int_int) fun a62=>Option.bind (ix c6 a62.1) fun a67=>Option.bind (ix c6 a62.1) fun a72=>some (c6.set a62.1.toNat (w64 (a67+a54.weight)))
noncomputable def u4(ov:d5)(sv:Li)(op:Int):Option ((LL)×Li):=Option.bind (ix ov.operators op) fun a20=>(Option.bind (forR 0 (a20.outcomes.length:Int) (O8 sv a20) []) fun c4=>Option.bind (x8 c4) fun a39=>Option.bind (G0 a39) fun a40=>Option.bind (mkL 8 (a40.length:Int) 0) fun a43=>Option.bind (ix ov.operators op) fun a47=>(Option.bind (forR 0 (a47.outcomes.length:Int) (D0 c4 a40 a47) a43) fun c6=>some (a40,c6)))
def ab8:((LL)×(List (ByteArray×Int)))→Option (((LL)×(List (ByteArray×Int)))⊕((LL)×Bool)):=fun(c10,c11)=>some (.inl (c10,c11))
def ac2:((LL)×(List (ByteArray×Int)))→Option (((LL)×(List (ByteArray×Int)))⊕((LL)×Bool)):=fun(c16,c17)=>some (.inl (c16,c17))
def av4(a48:(LL)×Li):Int→((LL)×(List (ByteArray×Int)))→Option (((LL)×(List (ByteArray×Int)))⊕((LL)×Bool)):=fun t15 (c13,c14)=>Option.bind (ix a48.1 t15) fun a55=>Option.bind (al5 [a55]) fun a59=>if 0<Option.getD (mget c14 a59) 0 then ac2 (c13,c14) else if(c13.length:Int)=2000 then some (.inr ([],false)) else Option.bind (app 24 c13 [a55]) fun a72=>ac2 (a72,mset c14 a59 1)
noncomputable def av6(ov:d5)(atv4:Int):Int→((LL)×(List (ByteArray×Int)))→Option (((LL)×(List (ByteArray×Int)))⊕((LL)×Bool)):=fun t9 (c7,c8)=>Option.bind (ix c7 atv4) fun a36=>Option.bind (S8 ov a36 t9) fun a39=>if(!a39)=true then ab8 (c7,c8) else Option.bind (ix c7 atv4) fun a45=>Option.bind (u4 ov a45 t9) fun a48=>(Option.bind (rngX 0 (a48.1.length:Int) (av4 a48) (c7,c8)) fun| .inl (c13,c14)=>ab8 (c13,c14)| .inr x=>some (.inr x))
noncomputable def av2(ov:d5):((LL)×(List (ByteArray×Int))×Int)→Option (((LL)×(List (ByteArray×Int))×Int)⊕((LL)⊕((LL)×Bool))):=fun(c2,c3,atv4)=>if atv4<(c2.length:Int) then(Option.bind (rngX 0 (ov.operators.length:Int) (av6 ov atv4) (c2,c3)) fun| .inl (c7,c8)=>some (.inl (c7,c8,w64 (atv4+1)))| .inr x=>some (.inr (.inr x))) else some (.inr (.inl c2))
noncomputable def at2(ov:d5):Option ((LL)×Bool):=Option.bind (v6 ov.init) fun a15=>Option.bind (al5 [a15]) fun a19=>Option.bind (Loop (av2 ov) ([a15],mset ([]:List (ByteArray×Int)) a19 1,0)) fun| .inl c5=>Option.bind (G0 c5) fun a76=>some (a76,true)| .inr x=>some x
noncomputable def af6(ov:d5):Option ((LL)×j8):=Option.bind (N3 ov) fun a8=>if(!((decide (a8.code=0)) && (decide (a8.index=0))))=true then some ([],a8) else Option.bind (at2 ov) fun a15=>if(!a15.2)=true then some ([],(⟨10, -7⟩:j8)) else some (a15.1,(⟨0,0⟩:j8))
def z7(sv:List g9)(fv:g9→Option Bool):Int→Unit→Option (Unit⊕Int):=fun t3 _=>Option.bind (ix sv t3) fun a14=>Option.bind (fv a14) fun a16=>if a16=true then some (.inr t3) else some (.inl ())
def u9(sv:List g9)(fv:g9→Option Bool):Option Int:=(Option.bind (rngX 0 (sv.length:Int) (z7 sv fv) ()) fun| .inl _=>some (-1)| .inr x=>some x)
def u5(sv:List g9)(fv:g9→Option Bool):Option Bool:=Option.bind (u9 sv fv) fun a7=>some (decide (0≤a7))
def aj6(xv:g9):Option Bool:=some (decide (xv.cost=0))
noncomputable def y8(all:LL)(sv:Li):Option Int:=Option.bind (l9 all sv slices_Compare_int_int) fun a10=>some a10.1
noncomputable def as2(all:LL)(t6:Int)(a45:(LL)×Li):Int→(LL)→Option (LL):=fun t11 c10=>Option.bind (ix a45.1 t11) fun a52=>Option.bind (ix c10 t6) fun a64=>Option.bind (y8 all a52) fun a68=>Option.bind (app 8 a64 [a68]) fun a70=>Option.bind (ix c10 t6) fun a71=>some (c10.set t6.toNat a70)
noncomputable def ar6(ov:d5)(all:LL)(a21:Li):Int→(LL)→Option (LL):=fun t6 c5=>Option.bind (Option.bind (S8 ov a21 t6) fun a39=>if(!a39)=true then some c5 else Option.bind (u4 ov a21 t6) fun a45=>(Option.bind (forR 0 (a45.1.length:Int) (as2 all t6 a45) c5) fun c10=>some c10)) fun c7=>some c7
noncomputable def as5(ov:d5)(all:LL):Int→(List (LL))→Option (List (LL)):=fun t4 c3=>Option.bind (ix all t4) fun a21=>Option.bind (mkL 24 (ov.operators.length:Int) ([]:Li)) fun a28=>Option.bind (ix c3 t4) fun a29=>(Option.bind (forR 0 (ov.operators.length:Int) (ar6 ov all a21) a28) fun c5=>some (c3.set t4.toNat c5))
noncomputable def ar1(ov:d5)(all:LL):Option (List (LL)):=Option.bind (mkL 24 (all.length:Int) []) fun a15=>(Option.bind (forR 0 (all.length:Int) (as5 ov all) a15) fun c3=>some c3)
def af2(iv:Int)(c2:Li):Option Bool:=Option.bind (ix c2 iv) fun a6=>some (decide (a6=0))
def aj8(l:Li)(safe:Li):Option Bool:=Option.bind (if 0<(l.length:Int) then Option.bind (u3 l (fun y1=>af2 y1 safe)) fun a11=>some (!a11) else some false) fun t3=>some t3
def W4(kv:Int)(c2:Li)(c3:Int):Option Bool:=Option.bind (ix c2 kv) fun a7=>some (decide (a7=w64 (c3 - 1)))
def ac7(l:Li)(c2:Li)(c3:Li)(c4:Int):Option Bool:=Option.bind (Option.bind (aj8 l c2) fun a8=>if a8=true then Option.bind (u3 l (fun y1=>W4 y1 c3 c4)) fun a12=>some a12 else some false) fun t2=>some t2
def x6(sv:LL)(fv:Li→Option Bool):Int→Unit→Option (Unit⊕Int):=fun t3 _=>Option.bind (ix sv t3) fun a14=>Option.bind (fv a14) fun a16=>if a16=true then some (.inr t3) else some (.inl ())
def w5(sv:LL)(fv:Li→Option Bool):Option Int:=(Option.bind (rngX 0 (sv.length:Int) (x6 sv fv) ()) fun| .inl _=>some (-1)| .inr x=>some x)
def x7(sv:LL)(fv:Li→Option Bool):Option Bool:=Option.bind (w5 sv fv) fun a7=>some (decide (0≤a7))
noncomputable def ak3(ov:d5)(all:LL):Int→Li→Option Li:=fun t6 c5=>Option.bind (Option.bind (ix all t6) fun a23=>Option.bind (k9 a23 ov.goal) fun a28=>if a28=true then Option.bind (ix c5 t6) fun a31=>some (c5.set t6.toNat 0) else some c5) fun c7=>some c7
def ak0(nextv:List (LL))(safe:Li)(c11:Int):Int→Li→Option Li:=fun t15 c14=>Option.bind (Option.bind (Option.bind (ix c14 t15) fun a46=>if 0≤a46 then some true else Option.bind (ix safe t15) fun a52=>some (decide (a52=0))) fun t18=>if t18=true then some c14 else Option.bind (ix nextv t15) fun a58=>Option.bind (x7 a58 (fun y1=>ac7 y1 safe c14 c11)) fun a61=>if a61=true then Option.bind (ix c14 t15) fun a65=>some (c14.set t15.toNat c11) else some c14) fun c16=>some c16
def ak5(all:LL)(nextv:List (LL))(safe:Li):(Li×Int)→Option ((Li×Int)⊕Li):=fun(c10,c11)=>if c11≤(all.length:Int) then(Option.bind (forR 0 (all.length:Int) (ak0 nextv safe c11) c10) fun c14=>some (.inl (c14,w64 (c11+1)))) else some (.inr c10)
noncomputable def ah6(ov:d5)(all:LL)(nextv:List (LL))(safe:Li):Option Li:=Option.bind (J2 [-1] (all.length:Int)) fun a17=>(Option.bind (forR 0 (all.length:Int) (ak3 ov all) a17) fun c5=>Option.bind (Loop (ak5 all nextv safe) (c5,1)) fun c12=>some c12)
def ag9(a21:Li):Int→(Li×Bool)→Option (Li×Bool):=fun t6 (c4,same5)=>Option.bind (if same5=true then Option.bind (ix a21 t6) fun a31=>Option.bind (ix c4 t6) fun a36=>some (decide ((decide (0≤a31))=(decide (0<a36)))) else some false) fun same7=>Option.bind (ix a21 t6) fun a45=>Option.bind (ix c4 t6) fun a49=>some (c4.set t6.toNat (min 1 (w64 (a45+1))),same7)
noncomputable def ag7(ov:d5)(all:LL)(a12:(List (LL))):Li→Option (Li⊕Li):=fun c3=>Option.bind (ah6 ov all a12 c3) fun a21=>(Option.bind (forR 0 (a21.length:Int) (ag9 a21) (c3,true)) fun⟨c4,same5⟩=>if same5=true then some (.inr a21) else some (.inl c4))
noncomputable def S7(ov:d5)(all:LL):Option Li:=Option.bind (ar1 ov all) fun a12=>Option.bind (J2 [1] (all.length:Int)) fun a16=>Option.bind (Loop (ag7 ov all a12) a16) fun x=>some x
noncomputable def ac0(sv:Li)(c2:Li)(c3:LL):Option Bool:=Option.bind (y8 c3 sv) fun a8=>Option.bind (ix c2 a8) fun a9=>some (decide (a9<0))
noncomputable def H5(sv:Li)(c2:d5):Option Bool:=Option.bind (k9 sv c2.goal) fun a7=>some a7
def N9:Unit→Option (Unit⊕Int):=fun _=>some (.inl ())
noncomputable def aj2(c2:Li)(c3:LL)(a19:Int)(a36:(LL)×Li):Int→(Bool×Bool)→Option (Bool×Bool):=fun t6 (sure4,near5)=>Option.bind (Option.bind (ix a36.1 t6) fun a43=>Option.bind (y8 c3 a43) fun a48=>Option.bind (ix c2 a48) fun a49=>if sure4=true then if near5=true then some (decide (0≤a49),true) else some (decide (0≤a49),decide (a49=w64 (a19 - 1))) else if near5=true then some (false,true) else some (false,decide (a49=w64 (a19 - 1)))) fun⟨sure7,near8⟩=>some (sure7,near8)
noncomputable def ai6(sv:Li)(c2:Li)(c3:LL)(c4:d5)(a19:Int):Int→Unit→Option (Unit⊕Int):=fun t2 _=>Option.bind (S8 c4 sv t2) fun a30=>if(!a30)=true then N9 () else Option.bind (u4 c4 sv t2) fun a36=>(Option.bind (forR 0 (a36.1.length:Int) (aj2 c2 c3 a19 a36) (true,false)) fun⟨sure4,near5⟩=>if(sure4 && near5)=true then some (.inr t2) else N9 ())
noncomputable def af8(sv:Li)(c2:Li)(c3:LL)(c4:d5):Option Int:=Option.bind (y8 c3 sv) fun a18=>Option.bind (ix c2 a18) fun a19=>(Option.bind (rngX 0 (c4.operators.length:Int) (ai6 sv c2 c3 c4 a19) ()) fun| .inl _=>some (-1)| .inr x=>some x)
def A0(xv:List e9)(target:Li)(cmp:e9→Li→Option Int):(Int×Int)→Option ((Int×Int)⊕Int):=fun(iv4,j5)=>if iv4<j5 then Option.bind (ix xv (w64 (shrW .u64 ((IntKind.u64).wrap (w64 (iv4+j5))) 1))) fun a27=>Option.bind (cmp a27 target) fun a30=>if a30<0 then some (.inl (w64 ((w64 (shrW .u64 ((IntKind.u64).wrap (w64 (iv4+j5))) 1))+1),j5)) else some (.inl (iv4,w64 (shrW .u64 ((IntKind.u64).wrap (w64 (iv4+j5))) 1))) else some (.inr iv4)
noncomputable def j9(xv:List e9)(target:Li)(cmp:e9→Li→Option Int):Option (Int×Bool):=Option.bind (Loop (A0 xv target cmp) (0,(xv.length:Int))) fun iv6=>Option.bind (if iv6<(xv.length:Int) then Option.bind (ix xv iv6) fun a43=>Option.bind (cmp a43 target) fun a46=>some (decide (a46=0)) else some false) fun t9=>some (iv6,t9)
def open_Chosen_1(c:e9)(sv:Li):Option Int:=Option.bind (slices_Compare_int_int c.state sv) fun a8=>some a8
noncomputable def E0(policy:List e9)(sv:Li):Option Int:=Option.bind (j9 policy sv open_Chosen_1) fun a10=>if(!a10.2)=true then some (-1) else Option.bind (ix policy a10.1) fun a17=>some a17.operator
def Y2(c:e9)(sv:Li):Option Int:=Option.bind (slices_Compare_int_int c.state sv) fun a8=>some a8
def V6(atv5:Int):((LL)×(List e9))→Option (((LL)×(List e9)×Int)⊕((List e9)⊕((List e9)×Bool))):=fun(c8,c9)=>some (.inl (c8,c9,w64 (atv5+1)))
noncomputable def ap6(ov:d5)(choose:Li→Option Int):((LL)×(List e9)×Int)→Option (((LL)×(List e9)×Int)⊕((List e9)⊕((List e9)×Bool))):=fun(c3,c4,atv5)=>if atv5<(c3.length:Int) then Option.bind (ix c3 atv5) fun a26=>Option.bind (Option.bind (k9 a26 ov.goal) fun a31=>if a31=true then some true else Option.bind (E0 c4 a26) fun a35=>some (decide (0≤a35))) fun t10=>if t10=true then(V6 atv5) (c3,c4) else if(c4.length:Int)=200 then some (.inr (.inr ([],false))) else Option.bind (choose a26) fun a43=>Option.bind (j9 c4 a26 Y2) fun a47=>Option.bind (v6 a26) fun a53=>Option.bind (insL c4 a47.1 (⟨a53,a43⟩:e9)) fun a57=>Option.bind (u4 ov a26 a43) fun a62=>Option.bind (app 24 c3 a62.1) fun a67=>(V6 atv5) (a67,a57) else some (.inr (.inl c4))
noncomputable def am8(ov:d5)(choose:Li→Option Int):Option ((List e9)×Bool):=Option.bind (Loop (ap6 ov choose) ([ov.init],[],0)) fun| .inl c6=>some (c6,true)| .inr x=>some x
noncomputable def aj7(ov:d5):Option ((List e9)×Bool×j8):=Option.bind (af6 ov) fun a12=>if(!((decide (a12.2.code=0)) && (decide (a12.2.index=0))))=true then some ([],false,a12.2) else Option.bind (S7 ov a12.1) fun a21=>Option.bind (y8 a12.1 ov.init) fun a26=>Option.bind (ix a21 a26) fun a27=>if a27<0 then some ([],false,(⟨0,0⟩:j8)) else Option.bind (am8 ov (fun y1=>af8 y1 a21 a12.1 ov)) fun a34=>if(!a34.2)=true then some ([],false,(⟨10, -8⟩:j8)) else some (a34.1,true,(⟨0,0⟩:j8))
noncomputable def M7(ov:d5)(states:LL)(t5:Int)(a31:Int)(a36:(LL)×Li):Int→Li→Option Li:=fun t7 c6=>Option.bind (Option.bind (ix a36.1 t7) fun a44=>Option.bind (ix c6 t5) fun a48=>Option.bind (ix a36.2 t7) fun a52=>Option.bind (ix c6 t5) fun a55=>Option.bind (ix (c6.set t5.toNat (w64 (a48+a52))) (states.length:Int)) fun a59=>Option.bind (ix a36.2 t7) fun a63=>Option.bind (ix ov.operators a31) fun a68=>Option.bind (ix (c6.set t5.toNat (w64 (a48+a52))) (states.length:Int)) fun a73=>Option.bind (k9 a44 ov.goal) fun a77=>if(!a77)=true then Option.bind (y8 states a44) fun a82=>Option.bind (ix ((c6.set t5.toNat (w64 (a48+a52))).set ((states.length:Int).toNat) (w64 (a59+(w64 (a63 * a68.cost))))) a82) fun a83=>Option.bind (ix a36.2 t7) fun a87=>Option.bind (ix ((c6.set t5.toNat (w64 (a48+a52))).set ((states.length:Int).toNat) (w64 (a59+(w64 (a63 * a68.cost))))) a82) fun a90=>some (((c6.set t5.toNat (w64 (a48+a52))).set ((states.length:Int).toNat) (w64 (a59+(w64 (a63 * a68.cost))))).set a82.toNat (w64 (a83 - a87))) else some ((c6.set t5.toNat (w64 (a48+a52))).set ((states.length:Int).toNat) (w64 (a59+(w64 (a63 * a68.cost)))))) fun c8=>some c8
noncomputable def D1(ov:d5)(states:LL)(choose:Li→Option Int):Int→(LL)→Option (LL):=fun t5 c4=>Option.bind (ix states t5) fun a23=>Option.bind (mkL 8 (w64 ((states.length:Int)+1)) 0) fun a28=>Option.bind (choose a23) fun a31=>Option.bind (u4 ov a23 a31) fun a36=>(Option.bind (forR 0 (a36.1.length:Int) (M7 ov states t5 a31 a36) a28) fun c6=>Option.bind (app 24 c4 [c6]) fun a96=>some a96)
def L9:(Int×Int)→Option ((Int×Int)⊕Int):=fun(av7,bv8)=>if 0<bv8 then Option.bind (chkN bv8) fun u25=>some (.inl (bv8,(av7).tmod bv8)) else some (.inr av7)
noncomputable def B9(num:Int)(den:Int):Option (m9×Bool):=Option.bind (if den<0 then some (w64 (0 - num),w64 (0 - den)) else some (num,den)) fun⟨num3,den4⟩=>Option.bind (Loop L9 (max num3 (w64 (0 - num3)),den4)) fun av9=>Option.bind (chkN av9) fun u28=>Option.bind (chkN av9) fun u31=>some ((⟨w64 ((num3).tdiv av9),w64 ((den4).tdiv av9)⟩:m9),decide (max (max (w64 ((num3).tdiv av9)) (w64 (0 - (w64 ((num3).tdiv av9))))) (w64 ((den4).tdiv av9))≤1000000000))
noncomputable def N2(num:Int)(den:Int):Option (m9×j8):=Option.bind (B9 num den) fun a11=>if(!a11.2)=true then some ((⟨0,0⟩:m9),(⟨10, -2⟩:j8)) else some (a11.1,(⟨0,0⟩:j8))
abbrev P3(l:LL)(c:LL)(l3:Li):b6:=[.one (vec 1 b9 l),.one (.cells 1 [[.own 3 0 l3.length]]),.one (.cells 1 [[row 1 b9 c]]),.one (vec 1 intI l3)]
noncomputable def O2(c:LL)(l3:Li):((LL)×Int×Int)→Option (((LL)×Int×Int)⊕((LL)×Int)):=fun(c56,iv57,j58)=>if j58<(c56.length:Int) then Option.bind (Option.bind (ix c56 j58) fun a24=>Option.bind (ac0 a24 l3 c) fun a28=>if(!a28)=true then Option.bind (ix c56 iv57) fun a33=>some (c56.set iv57.toNat a24,w64 (iv57+1)) else some (c56,iv57)) fun⟨c62,iv63⟩=>some (.inl (c62,iv63,w64 (j58+1))) else some (.inr (c56,iv57))
noncomputable def I5(l:LL)(c:LL)(l3:Li):Option (LL):=Option.bind (w5 l (fun y1=>ac0 y1 l3 c)) fun a10=>if a10=(-1) then some l else Option.bind (Loop (O2 c l3) (l,a10,w64 (a10+1))) fun⟨c59,iv60⟩=>Option.bind (cutV (c59.length:Int) iv60 (c59.length:Int)) fun u38=>Option.bind (cutV ((clrL c59 (0+iv60) ((c59.length:Int) - iv60) []).length:Int) 0 iv60) fun u41=>some (r8 (clrL c59 (0+iv60) ((c59.length:Int) - iv60) []) 0 iv60)
abbrev M8(l:LL)(Facts:Int)(Init:Li)(Goal:Li)(Operators:List g9):b6:=[.one (vec 1 b9 l),.one (.cells 4 [[int Facts,row 1 intI Init,row 1 intI Goal,row 3 d7 Operators]])]
noncomputable def M9(Facts:Int)(Init:Li)(Goal:Li)(Operators:List g9):((LL)×Int×Int)→Option (((LL)×Int×Int)⊕((LL)×Int)):=fun(c58,iv59,j60)=>if j60<(c58.length:Int) then Option.bind (Option.bind (ix c58 j60) fun a24=>Option.bind (H5 a24 (⟨Facts,Init,Goal,Operators⟩:d5)) fun a28=>if(!a28)=true then Option.bind (ix c58 iv59) fun a33=>some (c58.set iv59.toNat a24,w64 (iv59+1)) else some (c58,iv59)) fun⟨c64,iv65⟩=>some (.inl (c64,iv65,w64 (j60+1))) else some (.inr (c58,iv59))
noncomputable def H0(l:LL)(Facts:Int)(Init:Li)(Goal:Li)(Operators:List g9):Option (LL):=Option.bind (w5 l (fun y1=>H5 y1 (⟨Facts,Init,Goal,Operators⟩:d5))) fun a10=>if a10=(-1) then some l else Option.bind (Loop (M9 Facts Init Goal Operators) (l,a10,w64 (a10+1))) fun⟨c61,iv62⟩=>Option.bind (cutV (c61.length:Int) iv62 (c61.length:Int)) fun u38=>Option.bind (cutV ((clrL c61 (0+iv62) ((c61.length:Int) - iv62) []).length:Int) 0 iv62) fun u41=>some (r8 (clrL c61 (0+iv62) ((c61.length:Int) - iv62) []) 0 iv62)
abbrev aw4(ov:d5)(l:LL):b6:=[.one (vec 1 b9 l)]
noncomputable def E2(ov:d5)(l:LL):Option (LL):=Option.bind (H0 l ov.facts ov.init ov.goal ov.operators) fun a7=>some a7
abbrev M5(states:LL)(l:LL):b6:=[mat (0,[]) 1 intI l]
def B6(l:LL)(t57:Int)(c55:LL):Unit→Option (Unit⊕Unit):=fun _=>Option.bind (if t57<(l.length:Int) - 1 then Option.bind (ix c55 t57) fun a30=>Option.bind (ix a30 t57) fun a33=>some (decide (a33=0)) else some false) fun t58=>if t58=true then none else some (.inr ())
def B5(t57:Int)(last56:Int)(t63:Int):((LL)×Int)→Option (((LL)×Int)⊕(LL)):=fun(c67,j68)=>if 0≤j68 then Option.bind (if j68=t57 then some c67 else Option.bind (ix c67 t63) fun a70=>Option.bind (ix c67 t57) fun a75=>Option.bind (ix a75 t57) fun a78=>Option.bind (ix c67 t63) fun a82=>Option.bind (ix a82 j68) fun a85=>Option.bind (ix c67 t63) fun a90=>Option.bind (ix a90 t57) fun a93=>Option.bind (ix c67 t57) fun a97=>Option.bind (ix a97 j68) fun a100=>Option.bind (chkN last56) fun u105=>Option.bind (ix a70 j68) fun a106=>some (c67.set t63.toNat (a70.set j68.toNat (w64 ((w64 ((w64 (a78 * a85)) - (w64 (a93 * a100)))).tdiv last56))))) fun c71=>some (.inl (c71,w64 (j68 - 1))) else some (.inr c67)
noncomputable def B8(l:LL)(t57:Int)(last56:Int):Int→(LL)→Option (LL):=fun t63 c62=>Option.bind (if t63=t57 then some c62 else Option.bind (Loop (B5 t57 last56 t63) (c62,(l.length:Int))) fun c69=>Option.bind (ix c69 t63) fun a109=>Option.bind (ix a109 t57) fun a112=>some (c69.set t63.toNat (a109.set t57.toNat 0))) fun c64=>some c64
noncomputable def B4(l:LL):Int→((LL)×Int)→Option ((LL)×Int):=fun t57 (c55,last56)=>Option.bind (Loop (B6 l t57 c55) ()) fun _=>Option.bind (ix c55 t57) fun a45=>Option.bind (ix c55 t57) fun a49=>Option.bind (ix c55 t57) fun a51=>Option.bind (ix c55 t57) fun a52=>(Option.bind (forR 0 (l.length:Int) (B8 l t57 last56) c55) fun c62=>Option.bind (ix c62 t57) fun a116=>Option.bind (ix a116 t57) fun a119=>some (c62,a119))
def F5(l:LL)(c55:LL):Int→Li→Option Li:=fun t75 c74=>Option.bind (ix c55 t75) fun a133=>Option.bind (ix a133 (l.length:Int)) fun a136=>Option.bind (ix c74 t75) fun a138=>some (c74.set t75.toNat a136)
noncomputable def w8(states:LL)(l:LL):Option (Li×Int):=(Option.bind (forR 0 (l.length:Int) (B4 l) (l,1)) fun⟨c55,last56⟩=>Option.bind (mkL 8 (l.length:Int) 0) fun a123=>(Option.bind (forR 0 (a123.length:Int) (F5 l c55) a123) fun c74=>some (c74,last56)))
abbrev V5(sv:Li)(op:Int)(ov:d5)(states:LL)(den:Int)(l:Li)(l7:Li):b6:=[.one (.cells 8 [[int ov.facts,row 1 intI ov.init,row 1 intI ov.goal,row 3 d7 ov.operators,row 1 b9 states,.own 1 0 l.length,.own 2 0 l7.length,int den]]),.one (vec 1 intI l),.one (vec 1 intI l7)]
def E6:(Int×Int)→Option ((Int×Int)⊕(Int×Int×Bool)):=fun(sum64,all65)=>some (.inl (sum64,all65))
noncomputable def W0(ov:d5)(states:LL)(l7:Li)(a24:(LL)×Li):Int→(Int×Int)→Option ((Int×Int)⊕(Int×Int×Bool)):=fun t63 (sum61,all62)=>Option.bind (ix a24.1 t63) fun a32=>Option.bind (ix a24.2 t63) fun a37=>Option.bind (k9 a32 ov.goal) fun a46=>if a46=true then E6 (sum61,w64 (all62+a37)) else Option.bind (l9 states a32 slices_Compare_int_int) fun a53=>if(!a53.2)=true then some (.inr (0,0,false)) else Option.bind (ix a24.2 t63) fun a61=>Option.bind (ix l7 a53.1) fun a68=>E6 (w64 (sum61+(w64 (a61 * a68))),w64 (all62+a37))
noncomputable def P7(sv:Li)(op:Int)(ov:d5)(states:LL)(den:Int)(l:Li)(l7:Li):Option (Int×Int×Bool):=Option.bind (u4 ov sv op) fun a24=>(Option.bind (rngX 0 (a24.1.length:Int) (W0 ov states l7 a24) (0,0)) fun| .inl (sum61,all62)=>Option.bind (ix ov.operators op) fun a81=>some (w64 (sum61+(w64 ((w64 (all62 * a81.cost)) * den))),all62,true)| .inr x=>some x)
abbrev aj0(ov:d5)(states:LL)(den:Int)(l:Li)(l5:Li):b6:=[.one (.cells 8 [[int ov.facts,row 1 intI ov.init,row 1 intI ov.goal,row 3 d7 ov.operators,row 1 b9 states,.own 1 0 l.length,.own 2 0 l5.length,int den]]),.one (vec 1 intI l),.one (vec 1 intI l5)]
noncomputable def R8(ov:d5)(states:LL)(den:Int)(l:Li)(l5:Li)(a27:Li):Int→(Int×Int×Int)→Option (Int×Int×Int):=fun t64 (found61,num62,den63)=>Option.bind (Option.bind (S8 ov a27 t64) fun a44=>if(!a44)=true then some (found61,num62,den63) else Option.bind (P7 a27 t64 ov states den l l5) fun a50=>if(a50.2.2 && ((decide (found61<0))||(decide (w64 (a50.1 * den63)<w64 (num62 * a50.2.1)))))=true then some (t64,a50.1,a50.2.1) else some (found61,num62,den63)) fun⟨found65,num66,den67⟩=>some (found65,num66,den67)
noncomputable def R6(ov:d5)(states:LL)(den:Int)(l:Li)(l5:Li):Int→(Li×Bool)→Option (Li×Bool):=fun t60 (c58,better59)=>Option.bind (ix states t60) fun a27=>(Option.bind (forR 0 (ov.operators.length:Int) (R8 ov states den l l5 a27) (-1,0,1)) fun⟨found61,num62,den63⟩=>Option.bind (if better59=true then some true else Option.bind (ix l5 t60) fun a80=>some (decide (num62<w64 (a80 * den63)))) fun better71=>Option.bind (ix c58 t60) fun a89=>some (c58.set t60.toNat found61,better71))
noncomputable def L3(ov:d5)(states:LL)(den:Int)(l:Li)(l5:Li):Option (Li×Bool):=Option.bind (v6 l) fun a18=>(Option.bind (forR 0 (states.length:Int) (R6 ov states den l l5) (a18,false)) fun⟨c58,better59⟩=>some (c58,better59))
abbrev ao4(sv:Li)(ov:d5)(states:LL)(den:Int)(l:Li)(l6:Li):b6:=[.one (.cells 8 [[int ov.facts,row 1 intI ov.init,row 1 intI ov.goal,row 3 d7 ov.operators,row 1 b9 states,.own 1 0 l.length,.own 2 0 l6.length,int den]]),.one (vec 1 intI l),.one (vec 1 intI l6)]
noncomputable def J9(sv:Li)(ov:d5)(states:LL)(den:Int)(l:Li)(l6:Li):Option Int:=Option.bind (y8 states sv) fun a14=>Option.bind (ix l a14) fun a15=>some a15
abbrev aq7(ov:d5)(states:LL)(ov3:d5)(states4:LL)(den:Int)(l:Li)(l7:Li):b6:=[.one (.cells 8 [[int ov3.facts,row 1 intI ov3.init,row 1 intI ov3.goal,row 3 d7 ov3.operators,row 1 b9 states4,.own 1 0 l.length,.own 2 0 l7.length,int den]]),.one (vec 1 intI l),.one (vec 1 intI l7)]
noncomputable def ab3(ov:d5)(states:LL)(t60:Int)(a31:Int)(a36:(LL)×Li):Int→Li→Option Li:=fun t62 c61=>Option.bind (Option.bind (ix a36.1 t62) fun a44=>Option.bind (ix c61 t60) fun a48=>Option.bind (ix a36.2 t62) fun a52=>Option.bind (ix c61 t60) fun a55=>Option.bind (ix (c61.set t60.toNat (w64 (a48+a52))) (states.length:Int)) fun a59=>Option.bind (ix a36.2 t62) fun a63=>Option.bind (ix ov.operators a31) fun a68=>Option.bind (ix (c61.set t60.toNat (w64 (a48+a52))) (states.length:Int)) fun a73=>Option.bind (k9 a44 ov.goal) fun a77=>if(!a77)=true then Option.bind (y8 states a44) fun a82=>Option.bind (ix ((c61.set t60.toNat (w64 (a48+a52))).set ((states.length:Int).toNat) (w64 (a59+(w64 (a63 * a68.cost))))) a82) fun a83=>Option.bind (ix a36.2 t62) fun a87=>Option.bind (ix ((c61.set t60.toNat (w64 (a48+a52))).set ((states.length:Int).toNat) (w64 (a59+(w64 (a63 * a68.cost))))) a82) fun a90=>some (((c61.set t60.toNat (w64 (a48+a52))).set ((states.length:Int).toNat) (w64 (a59+(w64 (a63 * a68.cost))))).set a82.toNat (w64 (a83 - a87))) else some ((c61.set t60.toNat (w64 (a48+a52))).set ((states.length:Int).toNat) (w64 (a59+(w64 (a63 * a68.cost)))))) fun c63=>some c63
noncomputable def aa9(ov:d5)(states:LL)(ov3:d5)(states4:LL)(den:Int)(l:Li)(l7:Li):Int→(LL)→Option (LL):=fun t60 c59=>Option.bind (ix states t60) fun a23=>Option.bind (mkL 8 (w64 ((states.length:Int)+1)) 0) fun a28=>Option.bind (J9 a23 ov3 states4 den l l7) fun a31=>Option.bind (u4 ov a23 a31) fun a36=>(Option.bind (forR 0 (a36.1.length:Int) (ab3 ov states t60 a31 a36) a28) fun c61=>Option.bind (app 24 c59 [c61]) fun a96=>some a96)
noncomputable def U8(ov:d5)(states:LL)(ov3:d5)(states4:LL)(den:Int)(l:Li)(l7:Li):Option (LL):=(Option.bind (forR 0 (states.length:Int) (aa9 ov states ov3 states4 den l l7) ([]:LL)) fun c59=>some c59)
abbrev aa2(ov:d5)(ov2:d5)(states:LL)(den:Int)(l:Li)(l6:Li):b6:=[.one (.cells 8 [[int ov2.facts,row 1 intI ov2.init,row 1 intI ov2.goal,row 3 d7 ov2.operators,row 1 b9 states,.own 1 0 l.length,.own 2 0 l6.length,int den]]),.one (vec 1 intI l),.one (vec 1 intI l6)]
def Q1(atv61:Int):((LL)×(List e9))→Option (((LL)×(List e9)×Int)⊕((List e9)⊕((List e9)×Bool))):=fun(c64,c65)=>some (.inl (c64,c65,w64 (atv61+1)))
noncomputable def ak6(ov:d5)(ov2:d5)(states:LL)(den:Int)(l:Li)(l6:Li):((LL)×(List e9)×Int)→Option (((LL)×(List e9)×Int)⊕((List e9)⊕((List e9)×Bool))):=fun(c59,c60,atv61)=>if atv61<(c59.length:Int) then Option.bind (ix c59 atv61) fun a26=>Option.bind (Option.bind (k9 a26 ov.goal) fun a31=>if a31=true then some true else Option.bind (E0 c60 a26) fun a35=>some (decide (0≤a35))) fun t66=>if t66=true then(Q1 atv61) (c59,c60) else if(c60.length:Int)=200 then some (.inr (.inr ([],false))) else Option.bind (J9 a26 ov2 states den l l6) fun a43=>Option.bind (j9 c60 a26 Y2) fun a47=>Option.bind (v6 a26) fun a53=>Option.bind (insL c60 a47.1 (⟨a53,a43⟩:e9)) fun a57=>Option.bind (u4 ov a26 a43) fun a62=>Option.bind (app 24 c59 a62.1) fun a67=>(Q1 atv61) (a67,a57) else some (.inr (.inl c60))
noncomputable def ah8(ov:d5)(ov2:d5)(states:LL)(den:Int)(l:Li)(l6:Li):Option ((List e9)×Bool):=Option.bind (Loop (ak6 ov ov2 states den l l6) ([ov.init],[],0)) fun| .inl c62=>some (c62,true)| .inr x=>some x
noncomputable def as7(ov:d5)(a47:(LL)):Int→Li→Option Li:=fun t8 c7=>Option.bind (ix a47 t8) fun a85=>Option.bind (aj7 (⟨ov.facts,a85,ov.goal,ov.operators⟩:d5)) fun a92=>Option.bind (E0 a92.1 a85) fun a103=>Option.bind (app 8 c7 [a103]) fun a105=>some a105
def ar5:Int→Li→Option Li:=fun t22 c21=>Option.bind (ix c21 t22) fun a159=>Option.bind (ix c21 t22) fun a162=>some (c21.set t22.toNat (w64 (0 - a159)))
noncomputable def as4(ov:d5)(a47:(LL)):(Int×Li×Li×Bool)→Option ((Int×Li×Li×Bool)⊕(Int×Li×Li)):=fun(c9,c10,c11,again12)=>if again12=true then Option.bind (U8 ov a47 ov a47 c9 c10 c11) fun a120=>Option.bind (w8 a47 a120) fun a121=>Option.bind (if a121.2<0 then(Option.bind (forR 0 (a121.1.length:Int) ar5 a121.1) fun c21=>some (w64 (0 - a121.2),c21)) else some (a121.2,a121.1)) fun⟨c17,c18⟩=>Option.bind (L3 ov a47 c17 c10 c18) fun a165=>some (.inl (c17,a165.1,c18,a165.2)) else some (.inr (c9,c10,c11))
noncomputable def aq4(ov:d5):Option ((List e9)×m9×Bool×j8):=Option.bind (af6 ov) fun a24=>if(!((decide (a24.2.code=0)) && (decide (a24.2.index=0))))=true then some ([],(⟨0,0⟩:m9),false,a24.2) else Option.bind (u5 ov.operators aj6) fun a34=>if a34=true then some ([],(⟨0,0⟩:m9),false,(⟨3, -5⟩:j8)) else Option.bind (S7 ov a24.1) fun a39=>Option.bind (x8 a24.1) fun a41=>Option.bind (I5 a41 a24.1 a39) fun a43=>Option.bind (E2 ov a43) fun a47=>Option.bind (x8 a24.1) fun a53=>Option.bind (E2 ov a53) fun a54=>if 5<(a54.length:Int) then some ([],(⟨0,0⟩:m9),false,(⟨10, -7⟩:j8)) else Option.bind (y8 a24.1 ov.init) fun a64=>Option.bind (ix a39 a64) fun a65=>if a65<0 then some ([],(⟨0,0⟩:m9),false,(⟨0,0⟩:j8)) else Option.bind (k9 ov.init ov.goal) fun a75=>if a75=true then some ([],(⟨0,1⟩:m9),true,(⟨0,0⟩:j8)) else(Option.bind (forR 0 (a47.length:Int) (as7 ov a47) []) fun c7=>Option.bind (Loop (as4 ov a47) (0,c7,[],true)) fun⟨c13,c14,c15⟩=>Option.bind (y8 a47 ov.init) fun a177=>Option.bind (ix c15 a177) fun a178=>Option.bind (N2 a178 c13) fun a184=>if(!((decide (a184.2.code=0)) && (decide (a184.2.index=0))))=true then some ([],(⟨0,0⟩:m9),false,a184.2) else Option.bind (ah8 ov ov a47 c13 c14 c15) fun a196=>some (a196.1,a184.1,true,(⟨0,0⟩:j8)))
def U2(nv:Int)(low:Int)(high:Int):Option Bool:=some ((decide (low≤nv)) && (decide (nv≤high)))
def H1(code:Int)(index:Int):Option j8:=some (⟨code,index⟩:j8)
def ac4(l:Li)(nv:Int):Int→Unit→Option (Unit⊕Bool):=fun iv3 _=>Option.bind (Option.bind (ix l iv3) fun a14=>Option.bind (U2 a14 0 (w64 (nv - 1))) fun a18=>if(!a18)=true then some true else if 0<iv3 then Option.bind (ix l iv3) fun a26=>Option.bind (ix l (iv3 - 1)) fun a31=>some (decide (a26≤a31)) else some false) fun t4=>if t4=true then some (.inr false) else some (.inl ())
def H8(l:Li)(nv:Int):Option Bool:=(Option.bind (rngX 0 (l.length:Int) (ac4 l nv) ()) fun| .inl _=>some true| .inr x=>some x)
def ar2(l:Li)(nv:Int):Int→Unit→Option (Unit⊕Bool):=fun iv3 _=>Option.bind (ix l iv3) fun a14=>if a14=nv then some (.inr true) else some (.inl ())
def S3(l:Li)(nv:Int):Option Bool:=(Option.bind (rngX 0 (l.length:Int) (ar2 l nv) ()) fun| .inl _=>some false| .inr x=>some x)
def ad6(av:Li)(bv:Li):Int→Unit→Option (Unit⊕Bool):=fun iv3 _=>Option.bind (ix av iv3) fun a15=>Option.bind (S3 bv a15) fun a17=>if a17=true then some (.inr false) else some (.inl ())
def T1(av:Li)(bv:Li):Option Bool:=(Option.bind (rngX 0 (av.length:Int) (ad6 av bv) ()) fun| .inl _=>some true| .inr x=>some x)
def A6(ov:d5)(a42:g9):(Int×Int)→Option ((Int×Int)⊕Int):=fun(ev12,kv13)=>if((decide (kv13<(a42.outcomes.length:Int))) && (decide (ev12=0)))=true then Option.bind (Option.bind (ix a42.outcomes kv13) fun a73=>Option.bind (Option.bind (H8 a73.add ov.facts) fun a79=>if(!a79)=true then some true else Option.bind (H8 a73.del ov.facts) fun a86=>if(!a86)=true then some true else Option.bind (T1 a73.add a73.del) fun a94=>some (!a94)) fun t18=>if t18=true then some 5 else Option.bind (U2 a73.weight 1 6) fun a99=>if(!a99)=true then some 3 else some ev12) fun ev16=>some (.inl (ev16,w64 (kv13+1))) else some (.inr ev12)
noncomputable def G1(ov:d5):Int→Unit→Option (Unit⊕j8):=fun iv6 _=>Option.bind (ix ov.operators iv6) fun a42=>Option.bind (Option.bind (H8 a42.pre ov.facts) fun a48=>if(!a48)=true then some 5 else Option.bind (U2 a42.cost 0 100) fun a52=>if(!a52)=true then some 3 else Option.bind (U2 (a42.outcomes.length:Int) 1 4) fun a57=>if(!a57)=true then some 9 else some 0) fun ev7=>Option.bind (Loop (A6 ov a42) (ev7,0)) fun ev14=>if ev14=0 then some (.inl ()) else Option.bind (H1 ev14 iv6) fun a105=>some (.inr a105)
noncomputable def Q8(ov:d5):Option j8:=Option.bind (U2 ov.facts 0 24) fun a10=>if(!a10)=true then Option.bind (H1 3 (-1)) fun a12=>some a12 else Option.bind (H8 ov.init ov.facts) fun a17=>if(!a17)=true then Option.bind (H1 5 (-2)) fun a19=>some a19 else Option.bind (H8 ov.goal ov.facts) fun a24=>if(!a24)=true then Option.bind (H1 5 (-3)) fun a26=>some a26 else if 40<(ov.operators.length:Int) then Option.bind (H1 2 (-1)) fun a31=>some a31 else(Option.bind (rngX 0 (ov.operators.length:Int) (G1 ov) ()) fun| .inl _=>some (⟨0,0⟩:j8)| .inr x=>some x)
def ah1(part:Li)(l:Li):Int→Unit→Option (Unit⊕Bool):=fun iv3 _=>Option.bind (ix part iv3) fun a15=>Option.bind (S3 l a15) fun a17=>if(!a17)=true then some (.inr false) else some (.inl ())
def T9(part:Li)(l:Li):Option Bool:=(Option.bind (rngX 0 (part.length:Int) (ah1 part l) ()) fun| .inl _=>some true| .inr x=>some x)
def X4(ov:d5)(sv:Li)(op:Int):Option Bool:=Option.bind (ix ov.operators op) fun a10=>Option.bind (T9 a10.pre sv) fun a14=>some a14
def ai1(sv:Li)(xv:j6):Int→Li→Option Li:=fun p5 c4=>Option.bind (Option.bind (Option.bind (S3 xv.add p5) fun a18=>if a18=true then some true else Option.bind (S3 sv p5) fun a22=>if a22=true then Option.bind (S3 xv.del p5) fun a27=>some (!a27) else some false) fun t8=>if t8=true then Option.bind (app 8 c4 [p5]) fun a34=>some a34 else some c4) fun c6=>some c6
def U1(ov:d5)(sv:Li)(xv:j6):Option Li:=if ov.facts≤9223372036854775807 then(Option.bind (forR 0 ov.facts (ai1 sv xv) []) fun c4=>some c4) else none
def aa0(av:Li)(bv:Li):Int→Option (Int⊕(Unit⊕Bool)):=fun iv3=>if((decide (iv3<(av.length:Int))) && (decide (iv3<(bv.length:Int))))=true then Option.bind (ix av iv3) fun a20=>Option.bind (ix bv iv3) fun a24=>if a20=a24 then some (.inl (w64 (iv3+1))) else Option.bind (ix av iv3) fun a29=>Option.bind (ix bv iv3) fun a33=>some (.inr (.inr (decide (a29<a33)))) else some (.inr (.inl ()))
noncomputable def P6(av:Li)(bv:Li):Option Bool:=Option.bind (Loop (aa0 av bv) 0) fun| .inl _=>some (decide ((av.length:Int)<(bv.length:Int)))| .inr x=>some x
def ao2(av:Li)(bv:Li):Int→Unit→Option (Unit⊕Bool):=fun iv4 _=>Option.bind (ix av iv4) fun a19=>Option.bind (ix bv iv4) fun a23=>if a19=a23 then some (.inl ()) else some (.inr false)
def K5(av:Li)(bv:Li):Option Bool:=if(av.length:Int)=(bv.length:Int) then(Option.bind (rngX 0 (av.length:Int) (ao2 av bv) ()) fun| .inl _=>some true| .inr x=>some x) else some false
noncomputable def Y4(l:LL)(sv:Li):Int→Option (Int⊕Int):=fun kv3=>Option.bind (if kv3<(l.length:Int) then Option.bind (ix l kv3) fun a13=>Option.bind (P6 a13 sv) fun a16=>some a16 else some false) fun t5=>if t5=true then some (.inl (w64 (kv3+1))) else some (.inr kv3)
noncomputable def U3(l:LL)(sv:Li):Option (LL):=Option.bind (Loop (Y4 l sv) 0) fun kv4=>Option.bind (if kv4<(l.length:Int) then Option.bind (ix l kv4) fun a27=>Option.bind (K5 a27 sv) fun a30=>some a30 else some false) fun t9=>if t9=true then some l else Option.bind (subL l 0 kv4) fun a36=>Option.bind (app 24 ([]:LL) a36) fun a37=>Option.bind (app 24 a37 [sv]) fun a40=>Option.bind (subL l kv4 (l.length:Int)) fun a43=>Option.bind (app 24 a40 a43) fun a44=>some a44
def ab4(l:LL)(sv:Li):Int→Unit→Option (Unit⊕Int):=fun iv3 _=>Option.bind (ix l iv3) fun a14=>Option.bind (K5 a14 sv) fun a17=>if a17=true then some (.inr iv3) else some (.inl ())
def H7(l:LL)(sv:Li):Option Int:=(Option.bind (rngX 0 (l.length:Int) (ab4 l sv) ()) fun| .inl _=>some (-1)| .inr x=>some x)
noncomputable def ab9(ov:d5)(sv:Li)(a17:g9):Int→(LL)→Option (LL):=fun kv5 states4=>Option.bind (ix a17.outcomes kv5) fun a31=>Option.bind (U1 ov sv a31) fun a33=>Option.bind (U3 states4 a33) fun a34=>some a34
def ab6(ov:d5)(sv:Li)(a17:g9)(states4:LL):Int→Li→Option Li:=fun kv7 c6=>Option.bind (ix a17.outcomes kv7) fun a49=>Option.bind (U1 ov sv a49) fun a51=>Option.bind (H7 states4 a51) fun a52=>Option.bind (ix c6 a52) fun a57=>Option.bind (ix a17.outcomes kv7) fun a61=>Option.bind (ix c6 a52) fun a65=>some (c6.set a52.toNat (w64 (a57+a61.weight)))
noncomputable def S5(ov:d5)(sv:Li)(op:Int):Option ((LL)×Li):=Option.bind (ix ov.operators op) fun a17=>(Option.bind (forR 0 (a17.outcomes.length:Int) (ab9 ov sv a17) []) fun states4=>Option.bind (mkL 8 (states4.length:Int) 0) fun a37=>(Option.bind (forR 0 (a17.outcomes.length:Int) (ab6 ov sv a17 states4) a37) fun c6=>some (states4,c6)))
def law8_coin:Option d5:=some (⟨1,[],[0],[(⟨[],[(⟨[0],[],1⟩:j6),(⟨[],[],2⟩:j6)],1⟩:g9)]⟩:d5)
def ao7(av:List e9)(bv:List e9):Int→Unit→Option (Unit⊕Bool):=fun iv4 _=>Option.bind (Option.bind (ix av iv4) fun a19=>Option.bind (ix bv iv4) fun a24=>if(!(decide (a19.operator=a24.operator)))=true then some true else Option.bind (ix av iv4) fun a31=>Option.bind (ix bv iv4) fun a36=>Option.bind (K5 a31.state a36.state) fun a39=>some (!a39)) fun t5=>if t5=true then some (.inr false) else some (.inl ())
def am9(av:List e9)(bv:List e9):Option Bool:=if(av.length:Int)=(bv.length:Int) then(Option.bind (rngX 0 (av.length:Int) (ao7 av bv) ()) fun| .inl _=>some true| .inr x=>some x) else some false
noncomputable def Q5:Option Bool:=Option.bind (law8_coin) fun a6=>Option.bind (aq4 a6) fun a7=>Option.bind (if a7.2.2.2.code=0 then if a7.2.2.1=true then if((decide (a7.2.1.num=3)) && (decide (a7.2.1.den=1)))=true then Option.bind (am9 a7.1 ([(⟨[],0⟩:e9)])) fun a27=>some a27 else some false else some false else some false) fun t1=>some t1
def G4(ov:d5)(sv:Li):Option Bool:=Option.bind (T9 ov.goal sv) fun a8=>some a8
def V2(ov:d5)(l:LL):Int→(LL)→Option (LL):=fun iv4 c3=>Option.bind (Option.bind (ix l iv4) fun a16=>Option.bind (G4 ov a16) fun a18=>if(!a18)=true then Option.bind (ix l iv4) fun a23=>Option.bind (app 24 c3 [a23]) fun a26=>some a26 else some c3) fun c5=>some c5
def X3(ov:d5)(l:LL):Option (LL):=(Option.bind (forR 0 (l.length:Int) (V2 ov l) []) fun c3=>some c3)
def ac3(all:LL)(value:Li)(a20:(LL)×Li):Int→Int→Option Int:=fun kv7 nv6=>Option.bind (Option.bind (ix a20.1 kv7) fun a33=>Option.bind (H7 all a33) fun a35=>Option.bind (ix value a35) fun a36=>if a36<nv6 then some a36 else some nv6) fun nv8=>some nv8
noncomputable def ag3(ov:d5)(all:LL)(value:Li)(sv:Li)(op:Int):Option Int:=Option.bind (S5 ov sv op) fun a20=>(Option.bind (forR 0 (a20.1.length:Int) (ac3 all value a20) 1000000000) fun nv6=>some nv6)
def Y5(p:List e9)(sv:Li):Int→Unit→Option (Unit⊕Int):=fun iv3 _=>Option.bind (ix p iv3) fun a14=>Option.bind (K5 a14.state sv) fun a18=>if a18=true then Option.bind (ix p iv3) fun a21=>some (.inr a21.operator) else some (.inl ())
def F0(p:List e9)(sv:Li):Option Int:=(Option.bind (rngX 0 (p.length:Int) (Y5 p sv) ()) fun| .inl _=>some (-1)| .inr x=>some x)
noncomputable def O7(a45:(LL)×Li):Int→((LL)×Bool)→Option ((LL)×Bool):=fun kv22 (all20,again21)=>Option.bind (Option.bind (ix a45.1 kv22) fun a57=>Option.bind (H7 all20 a57) fun a59=>if a59<0 then Option.bind (ix a45.1 kv22) fun a64=>Option.bind (U3 all20 a64) fun a66=>some (a66,true) else some (all20,again21)) fun⟨all23,again24⟩=>some (all23,again24)
noncomputable def V9(ov:d5)(p:List e9):((LL)×Bool×Int)→Option (((LL)×Bool×Int)⊕((LL)×Bool)):=fun(all7,again8,iv9)=>if iv9<(all7.length:Int) then Option.bind (Option.bind (ix all7 iv9) fun a25=>Option.bind (F0 p a25) fun a27=>Option.bind (if a27<0 then some true else Option.bind (ix all7 iv9) fun a34=>Option.bind (G4 ov a34) fun a36=>some a36) fun t16=>if t16=true then some (all7,again8) else Option.bind (ix all7 iv9) fun a42=>Option.bind (S5 ov a42 a27) fun a45=>(Option.bind (forR 0 (a45.1.length:Int) (O7 a45) (all7,again8)) fun⟨all20,again21⟩=>some (all20,again21))) fun⟨all13,again14⟩=>some (.inl (all13,again14,w64 (iv9+1))) else some (.inr (all7,again8))
noncomputable def V4(ov:d5)(p:List e9):((LL)×Bool)→Option (((LL)×Bool)⊕(LL)):=fun(all3,again4)=>if again4=true then Option.bind (Loop (V9 ov p) (all3,false,0)) fun⟨all10,again11⟩=>some (.inl (all10,again11)) else some (.inr all3)
noncomputable def Q3(ov:d5)(p:List e9):Option (LL):=Option.bind (Loop (V4 ov p) ([ov.init],true)) fun all5=>some all5
def ac1(ov:d5)(a15:(LL)):Int→Li→Option Li:=fun iv4 c3=>Option.bind (Option.bind (ix a15 iv4) fun a28=>Option.bind (G4 ov a28) fun a30=>if(!a30)=true then Option.bind (ix c3 iv4) fun a34=>some (c3.set iv4.toNat 1000000000) else some c3) fun c5=>some c5
noncomputable def ac6(ov:d5)(p:List e9)(a15:(LL)):Int→(Li×Bool)→Option (Li×Bool):=fun iv14 (c12,again13)=>Option.bind (Option.bind (ix a15 iv14) fun a45=>Option.bind (F0 p a45) fun a47=>Option.bind (ix a15 iv14) fun a51=>Option.bind (G4 ov a51) fun a53=>if(a53||(decide (a47<0)))=true then some (c12,again13) else Option.bind (ix a15 iv14) fun a63=>Option.bind (ag3 ov a15 c12 a63 a47) fun a66=>Option.bind (ix c12 iv14) fun a71=>if w64 (a66+1)<a71 then Option.bind (ix c12 iv14) fun a78=>some (c12.set iv14.toNat (w64 (a66+1)),true) else some (c12,again13)) fun⟨c15,again16⟩=>some (c15,again16)
noncomputable def ab5(ov:d5)(p:List e9)(a15:(LL)):(Li×Bool)→Option ((Li×Bool)⊕Li):=fun(c8,again9)=>if again9=true then(Option.bind (forR 0 (a15.length:Int) (ac6 ov p a15) (c8,false)) fun⟨c12,again13⟩=>some (.inl (c12,again13))) else some (.inr c8)
def ac5(c10:Li):Int→Unit→Option (Unit⊕Bool):=fun iv20 _=>Option.bind (ix c10 iv20) fun a87=>if 1000000000≤a87 then some (.inr false) else some (.inl ())
noncomputable def ag5(ov:d5)(p:List e9):Option Bool:=Option.bind (Q3 ov p) fun a15=>Option.bind (mkL 8 (a15.length:Int) 0) fun a18=>(Option.bind (forR 0 (a15.length:Int) (ac1 ov a15) a18) fun c3=>Option.bind (Loop (ab5 ov p a15) (c3,true)) fun c10=>(Option.bind (rngX 0 (a15.length:Int) (ac5 c10) ()) fun| .inl _=>some true| .inr x=>some x))
abbrev ae2(m:LL):b6:=[]
def E5(m:LL)(c6:Int):Int→(LL)→Option (LL):=fun iv11 c10=>Option.bind (ix m iv11) fun a34=>Option.bind (subL a34 0 c6) fun a37=>Option.bind (app 8 ([]:Li) a37) fun a38=>Option.bind (ix m iv11) fun a41=>Option.bind (subL a41 (c6+1) (a41.length:Int)) fun a45=>Option.bind (app 8 a38 a45) fun a46=>Option.bind (app 24 c10 [a46]) fun a48=>some a48
def E4(m:LL)(slf:(LL)→Option Int):Int→(Int×Int)→Option (Int×Int):=fun c6 (sum4,sign5)=>Option.bind (Option.bind (ix m 0) fun a18=>Option.bind (ix a18 c6) fun a21=>if a21=0 then some sum4 else(Option.bind (forR 1 (m.length:Int) (E5 m c6) ([]:LL)) fun c10=>Option.bind (ix m 0) fun a52=>Option.bind (ix a52 c6) fun a55=>Option.bind (slf c10) fun a59=>some (w64 (sum4+(w64 ((w64 (sign5 * a55)) * a59)))))) fun sum7=>some (sum7,w64 (0 - sign5))
def v7(slf:(LL)→Option Int):(LL)→Option Int:=fun m=>if(m.length:Int)=0 then some 1 else(Option.bind (forR 0 (m.length:Int) (E4 m slf) (0,1)) fun⟨sum4,sign5⟩=>some sum4)
noncomputable def I0(m:LL):Option Int:=Rec (v7) m
def L4(ov:d5)(states:LL)(ops:Li)(iv6:Int)(a44:(LL)×Li):Int→(Li×Int)→Option (Li×Int):=fun kv9 (c7,sum8)=>Option.bind (Option.bind (ix c7 iv6) fun a57=>Option.bind (ix a44.2 kv9) fun a61=>Option.bind (ix c7 iv6) fun a64=>Option.bind (ix a44.2 kv9) fun a68=>Option.bind (ix ops iv6) fun a74=>Option.bind (ix ov.operators a74) fun a76=>Option.bind (ix a44.1 kv9) fun a84=>Option.bind (G4 ov a84) fun a86=>if(!a86)=true then Option.bind (ix a44.1 kv9) fun a91=>Option.bind (H7 states a91) fun a93=>Option.bind (ix (c7.set iv6.toNat (w64 (a57+a61))) a93) fun a98=>Option.bind (ix a44.2 kv9) fun a102=>Option.bind (ix (c7.set iv6.toNat (w64 (a57+a61))) a93) fun a105=>some ((c7.set iv6.toNat (w64 (a57+a61))).set a93.toNat (w64 (a98 - a102)),w64 (sum8+(w64 (a68 * a76.cost)))) else some (c7.set iv6.toNat (w64 (a57+a61)),w64 (sum8+(w64 (a68 * a76.cost))))) fun⟨c10,sum11⟩=>some (c10,sum11)
noncomputable def S9(ov:d5)(states:LL)(ops:Li):Int→((LL)×Li)→Option ((LL)×Li):=fun iv6 (c4,c5)=>Option.bind (mkL 8 (states.length:Int) 0) fun a33=>Option.bind (ix states iv6) fun a38=>Option.bind (ix ops iv6) fun a42=>Option.bind (S5 ov a38 a42) fun a44=>(Option.bind (forR 0 (a44.1.length:Int) (L4 ov states ops iv6 a44) (a33,0)) fun⟨c7,sum8⟩=>Option.bind (app 24 c4 [c7]) fun a109=>Option.bind (app 8 c5 [sum8]) fun a113=>some (a109,a113))
def R9(c4:LL)(c5:Li)(j15:Int):Int→(LL)→Option (LL):=fun iv17 c16=>Option.bind (ix c4 iv17) fun a129=>Option.bind (app 8 ([]:Li) a129) fun a131=>Option.bind (ix c5 iv17) fun a136=>Option.bind (ix a131 j15) fun a138=>Option.bind (app 24 c16 [a131.set j15.toNat a136]) fun a142=>some a142
noncomputable def T0(states:LL)(c4:LL)(c5:Li):Int→Li→Option Li:=fun j15 c14=>(Option.bind (forR 0 (states.length:Int) (R9 c4 c5 j15) []) fun c16=>Option.bind (I0 c16) fun a145=>Option.bind (app 8 c14 [a145]) fun a147=>some a147)
def S6:Int→Li→Option Li:=fun j23 c22=>Option.bind (ix c22 j23) fun a161=>Option.bind (ix c22 j23) fun a164=>some (c22.set j23.toNat (w64 (0 - a161)))
noncomputable def T3(ov:d5)(states:LL)(ops:Li):Option (Li×Int):=(Option.bind (forR 0 (states.length:Int) (S9 ov states ops) ([],[])) fun⟨c4,c5⟩=>Option.bind (I0 c4) fun a115=>(Option.bind (forR 0 (states.length:Int) (T0 states c4 c5) []) fun c14=>Option.bind (if a115<0 then(Option.bind (forR 0 (states.length:Int) S6 c14) fun c22=>some (c22,w64 (0 - a115))) else some (c14,a115)) fun⟨c18,den19⟩=>some (c18,den19)))
def ai3:(Int×Int×Int)→Option ((Int×Int×Int)⊕(Int×Int)):=fun(av3,bv4,twos5)=>if((decide (0<av3)) && (!(decide (av3=bv4))))=true then Option.bind (Option.bind (chkN 2) fun u14=>if(av3).tmod 2=0 then Option.bind (chkN 2) fun u18=>some (decide ((bv4).tmod 2=0)) else some false) fun t9=>if t9=true then Option.bind (chkN 2) fun u22=>Option.bind (chkN 2) fun u24=>some (.inl (w64 ((av3).tdiv 2),w64 ((bv4).tdiv 2),w64 (2 * twos5))) else Option.bind (chkN 2) fun u28=>if(av3).tmod 2=0 then Option.bind (chkN 2) fun u31=>some (.inl (w64 ((av3).tdiv 2),bv4,twos5)) else Option.bind (chkN 2) fun u33=>if(bv4).tmod 2=0 then Option.bind (chkN 2) fun u36=>some (.inl (av3,w64 ((bv4).tdiv 2),twos5)) else if bv4<av3 then some (.inl (w64 (av3 - bv4),bv4,twos5)) else some (.inl (av3,w64 (bv4 - av3),twos5)) else some (.inr (bv4,twos5))
noncomputable def an2(av:Int)(bv:Int):Option Int:=Option.bind (Loop ai3 (av,bv,1)) fun⟨bv6,twos7⟩=>some (w64 (bv6 * twos7))
noncomputable def aa6(num:Int)(den:Int):Option m9:=Option.bind (an2 num den) fun a8=>Option.bind (chkN a8) fun u11=>Option.bind (chkN a8) fun u14=>some (⟨w64 ((num).tdiv a8),w64 ((den).tdiv a8)⟩:m9)
def Y1(xv:m9):Option Bool:=some ((decide (1000000000<xv.num))||(decide (1000000000<xv.den)))
noncomputable def D7(ov:d5)(policy:List e9):Int→Unit→Option (Unit⊕j8):=fun t5 _=>Option.bind (ix policy t5) fun a24=>Option.bind (Option.bind (Option.bind (D8 a24.state ov.facts) fun a31=>if(!a31)=true then some true else if 0<t5 then Option.bind (ix policy (t5 - 1)) fun a40=>Option.bind (slices_Compare_int_int a40.state a24.state) fun a45=>some (decide (0≤a45)) else some false) fun t8=>if t8=true then some 5 else if((decide (a24.operator<0))||(decide ((ov.operators.length:Int)≤a24.operator)))=true then some 3 else Option.bind (S8 ov a24.state a24.operator) fun a67=>if(!a67)=true then some 11 else some 0) fun ev6=>if ev6=0 then some (.inl ()) else some (.inr (⟨ev6,w64 ((-9) - t5)⟩:j8))
noncomputable def D5(ov:d5)(policy:List e9):Option j8:=Option.bind (N3 ov) fun a10=>if(!((decide (a10.code=0)) && (decide (a10.index=0))))=true then some a10 else if 200<(policy.length:Int) then some (⟨2, -8⟩:j8) else(Option.bind (rngX 0 (policy.length:Int) (D7 ov policy) ()) fun| .inl _=>some (⟨0,0⟩:j8)| .inr x=>some x)
def K9(xv:Li)(c2:Li):Option Bool:=Option.bind (z6 xv c2) fun a6=>some a6
def N8(a46:(LL)×Li):Int→(LL)→Option (LL):=fun t14 c13=>Option.bind (Option.bind (ix a46.1 t14) fun a53=>Option.bind (x7 c13 (fun y1=>K9 y1 a53)) fun a57=>if(!a57)=true then Option.bind (app 24 c13 [a53]) fun a62=>some a62 else some c13) fun c15=>some c15
noncomputable def V8(ov:d5)(policy:List e9):((LL)×Int)→Option (((LL)×Int)⊕(LL)):=fun(c3,atv4)=>if atv4<(c3.length:Int) then Option.bind (Option.bind (ix c3 atv4) fun a25=>Option.bind (E0 policy a25) fun a27=>Option.bind (if a27<0 then some true else Option.bind (ix c3 atv4) fun a33=>Option.bind (k9 a33 ov.goal) fun a37=>some a37) fun t9=>if t9=true then some c3 else Option.bind (ix c3 atv4) fun a43=>Option.bind (u4 ov a43 a27) fun a46=>(Option.bind (forR 0 (a46.1.length:Int) (N8 a46) c3) fun c13=>some c13)) fun c7=>some (.inl (c7,w64 (atv4+1))) else some (.inr c3)
noncomputable def Q4(ov:d5)(policy:List e9):Option (LL):=Option.bind (v6 ov.init) fun a14=>Option.bind (Loop (V8 ov policy) ([a14],0)) fun c5=>Option.bind (G0 c5) fun a65=>some a65
def G6(sv:Li)(v:Int):Int→Unit→Option (Unit⊕Int):=fun t3 _=>Option.bind (ix sv t3) fun a14=>if v=a14 then some (.inr t3) else some (.inl ())
def J7(sv:Li)(v:Int):Option Int:=(Option.bind (rngX 0 (sv.length:Int) (G6 sv v) ()) fun| .inl _=>some (-1)| .inr x=>some x)
def C5(sv:Li)(v:Int):Option Bool:=Option.bind (J7 sv v) fun a7=>some (decide (0≤a7))
def O9:Li→Option (Li⊕Bool):=fun c7=>some (.inl c7)
noncomputable def W1(a16:(LL))(t6:Int)(a47:(LL)×Li):Int→Li→Option Li:=fun t11 c10=>Option.bind (ix a47.1 t11) fun a54=>Option.bind (ix c10 t6) fun a60=>Option.bind (y8 a16 a54) fun a65=>Option.bind (ix c10 a65) fun a66=>Option.bind (ix c10 t6) fun a69=>some (c10.set t6.toNat (max a60 a66))
noncomputable def I7(ov:d5)(policy:List e9)(a16:(LL)):Int→Li→Option (Li⊕Bool):=fun t6 c5=>Option.bind (ix a16 t6) fun a29=>Option.bind (k9 a29 ov.goal) fun a34=>if a34=true then Option.bind (ix c5 t6) fun a37=>O9 (c5.set t6.toNat 1) else Option.bind (E0 policy a29) fun a40=>if a40<0 then some (.inr false) else Option.bind (u4 ov a29 a40) fun a47=>(Option.bind (forR 0 (a47.1.length:Int) (W1 a16 t6 a47) c5) fun c10=>O9 c10)
noncomputable def J1(ov:d5)(policy:List e9)(a16:(LL)):Int→Li→Option (Li⊕Bool):=fun t4 c3=>(Option.bind (rngX 0 (a16.length:Int) (I7 ov policy a16) c3) fun| .inl c5=>some (.inl c5)| .inr x=>some (.inr x))
noncomputable def W9(ov:d5)(policy:List e9):Option Bool:=Option.bind (Q4 ov policy) fun a16=>Option.bind (mkL 8 (a16.length:Int) 0) fun a19=>(Option.bind (rngX 0 (a16.length:Int) (J1 ov policy a16) a19) fun| .inl c3=>Option.bind (C5 c3 0) fun a74=>some (!a74)| .inr x=>some x)
noncomputable def K8(sv:Li)(c2:List e9):Option Int:=Option.bind (E0 c2 sv) fun a6=>some a6
abbrev ar4(ov:d5)(states:LL)(c:List e9):b6:=[.one (.cells 1 [[row 2 f8 c]])]
noncomputable def ab0(ov:d5)(states:LL)(t56:Int)(a31:Int)(a36:(LL)×Li):Int→Li→Option Li:=fun t58 c57=>Option.bind (Option.bind (ix a36.1 t58) fun a44=>Option.bind (ix c57 t56) fun a48=>Option.bind (ix a36.2 t58) fun a52=>Option.bind (ix c57 t56) fun a55=>Option.bind (ix (c57.set t56.toNat (w64 (a48+a52))) (states.length:Int)) fun a59=>Option.bind (ix a36.2 t58) fun a63=>Option.bind (ix ov.operators a31) fun a68=>Option.bind (ix (c57.set t56.toNat (w64 (a48+a52))) (states.length:Int)) fun a73=>Option.bind (k9 a44 ov.goal) fun a77=>if(!a77)=true then Option.bind (y8 states a44) fun a82=>Option.bind (ix ((c57.set t56.toNat (w64 (a48+a52))).set ((states.length:Int).toNat) (w64 (a59+(w64 (a63 * a68.cost))))) a82) fun a83=>Option.bind (ix a36.2 t58) fun a87=>Option.bind (ix ((c57.set t56.toNat (w64 (a48+a52))).set ((states.length:Int).toNat) (w64 (a59+(w64 (a63 * a68.cost))))) a82) fun a90=>some (((c57.set t56.toNat (w64 (a48+a52))).set ((states.length:Int).toNat) (w64 (a59+(w64 (a63 * a68.cost))))).set a82.toNat (w64 (a83 - a87))) else some ((c57.set t56.toNat (w64 (a48+a52))).set ((states.length:Int).toNat) (w64 (a59+(w64 (a63 * a68.cost)))))) fun c59=>some c59
noncomputable def aa8(ov:d5)(states:LL)(c:List e9):Int→(LL)→Option (LL):=fun t56 c55=>Option.bind (ix states t56) fun a23=>Option.bind (mkL 8 (w64 ((states.length:Int)+1)) 0) fun a28=>Option.bind (K8 a23 c) fun a31=>Option.bind (u4 ov a23 a31) fun a36=>(Option.bind (forR 0 (a36.1.length:Int) (ab0 ov states t56 a31 a36) a28) fun c57=>Option.bind (app 24 c55 [c57]) fun a96=>some a96)
noncomputable def G8(ov:d5)(states:LL)(c:List e9):Option (LL):=(Option.bind (forR 0 (states.length:Int) (aa8 ov states c) ([]:LL)) fun c55=>some c55)
noncomputable def D9(ov:d5)(policy:List e9):Option (m9×j8):=Option.bind (D5 ov policy) fun a12=>if(!((decide (a12.code=0)) && (decide (a12.index=0))))=true then some ((⟨0,0⟩:m9),a12) else Option.bind (W9 ov policy) fun a20=>if(!a20)=true then some ((⟨0,0⟩:m9),(⟨15, -1⟩:j8)) else Option.bind (Q4 ov policy) fun a27=>Option.bind (E2 ov a27) fun a28=>if 5<(a28.length:Int) then some ((⟨0,0⟩:m9),(⟨10, -7⟩:j8)) else Option.bind (k9 ov.init ov.goal) fun a38=>if a38=true then some ((⟨0,1⟩:m9),(⟨0,0⟩:j8)) else Option.bind (G8 ov a28 policy) fun a45=>Option.bind (w8 a28 a45) fun a46=>Option.bind (y8 a28 ov.init) fun a53=>Option.bind (ix a46.1 a53) fun a54=>Option.bind (N2 a54 a46.2) fun a57=>some (a57.1,a57.2)
noncomputable def D4(ov:d5)(p:List e9):Int→Unit→Option (Unit⊕j8):=fun iv5 _=>Option.bind (Option.bind (ix p iv5) fun a25=>Option.bind (H8 a25.state ov.facts) fun a30=>if(!a30)=true then some true else if 0<iv5 then Option.bind (ix p (iv5 - 1)) fun a39=>Option.bind (ix p iv5) fun a44=>Option.bind (P6 a39.state a44.state) fun a47=>some (!a47) else some false) fun t6=>if t6=true then Option.bind (H1 5 (w64 ((-9) - iv5))) fun a53=>some (.inr a53) else Option.bind (ix p iv5) fun a56=>Option.bind (U2 a56.operator 0 (w64 ((ov.operators.length:Int) - 1))) fun a63=>if(!a63)=true then Option.bind (H1 3 (w64 ((-9) - iv5))) fun a67=>some (.inr a67) else Option.bind (ix p iv5) fun a71=>Option.bind (ix p iv5) fun a76=>Option.bind (X4 ov a71.state a76.operator) fun a79=>if(!a79)=true then Option.bind (H1 11 (w64 ((-9) - iv5))) fun a83=>some (.inr a83) else some (.inl ())
noncomputable def M3(ov:d5)(p:List e9):Option j8:=Option.bind (Q8 ov) fun a8=>if a8.code=0 then if 200<(p.length:Int) then Option.bind (H1 2 (-8)) fun a16=>some a16 else(Option.bind (rngX 0 (p.length:Int) (D4 ov p) ()) fun| .inl _=>some (⟨0,0⟩:j8)| .inr x=>some x) else some a8
def A8(p:List e9)(c12:LL):Int→Li→Option Li:=fun iv26 c25=>Option.bind (ix c12 iv26) fun a75=>Option.bind (F0 p a75) fun a77=>Option.bind (app 8 c25 [a77]) fun a79=>some a79
noncomputable def C9(ov:d5)(p:List e9):Option Bool:=Option.bind (D9 ov p) fun a17=>Option.bind (M3 ov p) fun a22=>Option.bind (Option.bind (if a22.code=0 then Option.bind (ag5 ov p) fun a29=>some (!a29) else some false) fun t6=>if t6=true then Option.bind (H1 15 (-1)) fun a32=>some (a32.code,a32.index) else some (a22.code,a22.index)) fun⟨c3,c4⟩=>Option.bind (if c3=0 then Option.bind (Q3 ov p) fun a39=>Option.bind (X3 ov a39) fun a40=>if 5<(a40.length:Int) then Option.bind (H1 10 (-7)) fun a44=>some (a44.code,a44.index,a40) else some (c3,c4,a40) else some (c3,c4,[])) fun⟨c10,c11,c12⟩=>if c10=0 then Option.bind (Option.bind (G4 ov ov.init) fun a63=>if(!a63)=true then(Option.bind (forR 0 (c12.length:Int) (A8 p c12) []) fun c25=>Option.bind (T3 ov c12 c25) fun a84=>Option.bind (H7 c12 ov.init) fun a91=>Option.bind (ix a84.1 a91) fun a92=>Option.bind (aa6 a92 a84.2) fun a95=>some (a95.num,a95.den)) else some (0,1)) fun⟨c21,c22⟩=>Option.bind (Y1 (⟨c21,c22⟩:m9)) fun a97=>if a97=true then Option.bind (Option.bind (H1 10 (-2)) fun a99=>if((decide (a17.2.code=a99.code)) && (decide (a17.2.index=a99.index)))=true then if((decide (a17.1.num=0)) && (decide (a17.1.den=0)))=true then Option.bind (Q5) fun a107=>some a107 else some false else some false) fun t28=>some t28 else Option.bind (if a17.2.code=0 then if((decide (a17.1.num=c21)) && (decide (a17.1.den=c22)))=true then Option.bind (Q5) fun a118=>some a118 else some false else some false) fun t32=>some t32 else Option.bind (if((decide (a17.2.code=c10)) && (decide (a17.2.index=c11)))=true then if((decide (a17.1.num=0)) && (decide (a17.1.den=0)))=true then Option.bind (Q5) fun a57=>some a57 else some false else some false) fun t17=>some t17
end Ab
end
section
namespace Ab
open Go
mutual
theorem C.no_ok0{id:Id}:∀c:C,c.ok 0=true→c.no id=true
 | .imm _,_=>rfl
 | .own _ _ _,h=>by simp[C.ok] at h
 | .ptr _ _ _,h=>by simp[C.ok] at h
 | .fn _ caps,h=>C.noL_ok0 caps h
 | .fnb _ caps,h=>C.noL_ok0 caps h
 | .ifc _ cs _,h=>C.noL_ok0 cs h
 | .map _,h=>by simp[C.ok] at h
theorem C.noL_ok0{id:Id}:∀l:List C,C.okL 0 l=true→C.noL id l=true
 |[],_=>rfl
 |c::r,h=>by
  simp only[C.okL,Bool.and_eq_true] at h
  simp only[C.noL,Bool.and_eq_true]
  exact⟨C.no_ok0 c h.1,C.noL_ok0 r h.2⟩
end
theorem fnNo{id:Id}{f:FuncId}{cv:List C}(h:C.okL 0 cv=true):(C.fn f cv).no id=true:=C.noL_ok0 cv h
theorem fnOk{n:Nat}{f:FuncId}{cv:List C}(h:C.okL 0 cv=true):(C.fn f cv).ok n=true:=C.okL_mono (Nat.zero_le n) cv h
theorem fnMv{π:Id→Id}{o:Option T}{f:FuncId}{cv:List C}(h:C.okL 0 cv=true)(e:o=some (.c (.fn f cv))):o=some ((T.c (.fn f cv)).ren π):=by
 rw[e]
 simp only[T.ren,C.ren]
 rw[C.renL_ok (m:=0) (fun i hi=>absurd hi (Nat.not_lt_zero _)) cv h]
theorem eOk1{n t:Nat}{v:T}{r:Env}(h:v.ok n=true)(hr:V7 n r=true):V7 n ((t,v)::r)=true:=by
 simp only[V7,h,hr,Bool.and_self]
section
open Go.Proofs
variable {P:Program}{σ0:b6}{sz:Nat}{Q:Post}{env:Env}{σv:b6}{ops:Array Oper}{rest:List Oper}
def XAny(id:Id)(k:Nat)(es:List (List I)):C→C→Prop:=fun c c'=>c.frz id k es=c'
theorem AOps.frzB{e:List I}{id:Id}{k:Nat}{env2:Env}{σ1 σ2:b6}(hid:Nat.ble σ0.length id.1=true)(hσ:σv[id]? =some (some (Blk.im k [e])))(henv:T2 id (XAny id k [e]) env env2)(h1:putF σv id none=some σ1)(hst:FrzS id (XAny id k [e]) σ1 σ2)
  (h:AOps P σ0 sz ops Q rest (St.mk env2 σ2)):AOps P σ0 sz ops Q rest (St.mk env σv):=AOps.sub (Sub.frzX (fun _ _ h=>h) hid hσ henv h1 hst) h
end
end Ab
end
section
namespace Go.Proofs
open Go.Shelf
open Tryz
def Tryz.lays189_ren:Go.Shelf.Ren:=⟨fun|189=>148|125=>136|257=>168|128=>161|129=>162|294=>184|295=>185|296=>186|297=>187|298=>188|299=>189|216=>166|300=>190|301=>191|328=>200|329=>179|330=>180|331=>201|332=>202|215=>146|343=>208|n=>n,fun|28=>22|3=>3|46=>141|0=>0|51=>122|53=>211|4=>4|183=>220|182=>219|131=>131|5=>5|9=>9|218=>241|222=>245|228=>255|229=>256|n=>n,fun|n=>n⟩
theorem Tryz.lays189:Go.Proofs.Lays.n189 prog Tryz.lays189_ren:={
 mixed:=by kernel_rfl
 f125:=func136.trans (congrArg some (by kernel_rfl))
 f128:=func161.trans (congrArg some (by kernel_rfl))
 f129:=func162.trans (congrArg some (by kernel_rfl))
 f189:=func148.trans (congrArg some (by kernel_rfl))
 f215:=func146.trans (congrArg some (by kernel_rfl))
 f216:=func166.trans (congrArg some (by kernel_rfl))
 f257:=func168.trans (congrArg some (by kernel_rfl))
 f294:=func184.trans (congrArg some (by kernel_rfl))
 f295:=func185.trans (congrArg some (by kernel_rfl))
 f296:=func186.trans (congrArg some (by kernel_rfl))
 f297:=func187.trans (congrArg some (by kernel_rfl))
 f298:=func188.trans (congrArg some (by kernel_rfl))
 f299:=func189.trans (congrArg some (by kernel_rfl))
 f300:=func190.trans (congrArg some (by kernel_rfl))
 f301:=func191.trans (congrArg some (by kernel_rfl))
 f328:=func200.trans (congrArg some (by kernel_rfl))
 f329:=func179.trans (congrArg some (by kernel_rfl))
 f330:=func180.trans (congrArg some (by kernel_rfl))
 f331:=func201.trans (congrArg some (by kernel_rfl))
 f332:=func202.trans (congrArg some (by kernel_rfl))
 f343:=func208.trans (congrArg some (by kernel_rfl))
 t0:=underlying0
 a0:=isAgg0
 z0:=sizeOf0
 v0:=zeroValue0
 t3:=underlying3
 a3:=isAgg3
 z3:=sizeOf3
 v3:=zeroValue3
 t4:=underlying4
 a4:=isAgg4
 z4:=sizeOf4
 v4:=zeroValue4
 t5:=underlying5
 a5:=isAgg5
 z5:=sizeOf5
 v5:=zeroValue5
 t9:=underlying9
 a9:=isAgg9
 z9:=sizeOf9
 v9:=zeroValue9
 t28:=underlying22
 a28:=isAgg22
 z28:=sizeOf22
 v28:=zeroValue22
 t46:=underlying141
 a46:=isAgg141
 z46:=sizeOf141
 v46:=zeroValue141
 t51:=underlying122
 a51:=isAgg122
 z51:=sizeOf122
 v51:=zeroValue122
 t53:=underlying211
 a53:=isAgg211
 z53:=sizeOf211
 v53:=zeroValue211
 t131:=underlying131
 a131:=isAgg131
 z131:=sizeOf131
 v131:=zeroValue131
 t182:=underlying219
 a182:=isAgg219
 z182:=sizeOf219
 v182:=zeroValue219
 t183:=underlying220
 a183:=isAgg220
 z183:=sizeOf220
 v183:=zeroValue220
 t218:=underlying241
 a218:=isAgg241
 z218:=sizeOf241
 v218:=zeroValue241
 t222:=underlying245
 a222:=isAgg245
 z222:=sizeOf245
 v222:=zeroValue245
 t228:=underlying255
 a228:=isAgg255
 z228:=sizeOf255
 v228:=zeroValue255
 t229:=underlying256
 a229:=isAgg256
 z229:=sizeOf256
 v229:=zeroValue256}
open Go.Sort Go.RowKit in
theorem Tryz.slices_Sort_int(blk off cap:Nat)(zs:List Int)(w:World)(hH:Holds (Value.int .i64) w blk off zs.toArray)(hblk:blk<w.heap.size)(hsz:zs.length<4611686018427387904):
  Calls prog 148 #[.slice (some ⟨blk,off,none⟩) zs.length cap] w fun e w'=>
   e=.returned (.tuple #[])∧∃n os,w'=grow (putRow (Value.int .i64) (Sort.ahead w n) blk off (zs.mergeSort fun x y=>decide (x≤y)).toArray) os:=Any.slices_Sort_int Tryz.lays189 blk off cap zs w hH hblk hsz
def Tryz.laysNm220_ren:Go.Shelf.Ren:=⟨fun|20=>149|n=>n,fun|22=>22|3=>3|4=>4|0=>0|n=>n,fun|n=>n⟩
theorem Tryz.laysNm220:Go.Proofs.Lays2.n20 prog Tryz.laysNm220_ren:={
 mixed:=by kernel_rfl
 f20:=func149.trans (congrArg some (by kernel_rfl))
 t0:=underlying0
 a0:=isAgg0
 z0:=sizeOf0
 v0:=zeroValue0
 t3:=underlying3
 a3:=isAgg3
 z3:=sizeOf3
 v3:=zeroValue3
 t4:=underlying4
 a4:=isAgg4
 z4:=sizeOf4
 v4:=zeroValue4
 t22:=underlying22
 a22:=isAgg22
 z22:=sizeOf22
 v22:=zeroValue22
 i3:=by kernel_rfl}
open Go.RowKit Go.Lib Go.Sort in
theorem Tryz.slices_Compact_int(blk off cap:Nat)(zs:List Int)(w:World)(hH:Holds (Value.int .i64) w blk off zs.toArray)(hsz:zs.length≤9223372036854775807)(hcap:zs.length≤cap):
  Calls prog 149 #[.slice (some ⟨blk,off,none⟩) zs.length cap] w fun e w'=>e=.returned (.slice (some ⟨blk,off,none⟩) (Lib.compact zs).length cap)∧∃q,w'=putRow (Value.int .i64) (Sort.ahead w q) blk off (Lib.compact zs++List.replicate (zs.length - (Lib.compact zs).length) 0).toArray:=Any.slices_Compact_int Tryz.laysNm220 blk off cap zs w hH hsz hcap
open Go.RowKit Go.Lib Go.Sort in
theorem Tryz.slices_Compact_int_empty(a:Option Addr)(cap:Nat)(w:World):
  Calls prog 149 #[.slice a 0 cap] w fun e w'=>e=.returned (.slice a 0 cap)∧w'=w:=Any.slices_Compact_int_empty Tryz.laysNm220 a cap w
open Go.RowKit Go.Sort in
theorem Tryz.slices_Sort_int_none(p:Option Addr)(cap:Nat)(w:World):
  Calls prog 148 #[.slice p 0 cap] w fun e w'=>e=.returned (.tuple #[])∧w'=w:=Any.slices_Sort_int_none Tryz.lays189 p cap w
def Tryz.laysSlF6_f130_ren:Go.Shelf.Ren:=⟨fun|6=>130|15=>136|14=>151|28=>161|29=>162|20=>170|21=>171|22=>172|23=>173|24=>174|25=>175|26=>176|27=>177|46=>192|47=>179|48=>180|49=>193|50=>194|57=>203|n=>n,fun|22=>34|24=>22|25=>133|3=>3|39=>141|0=>0|53=>122|55=>211|4=>4|46=>220|45=>219|50=>131|5=>5|9=>9|66=>241|70=>245|76=>255|77=>256|n=>n,fun|n=>n⟩
theorem Tryz.laysSlF6_f130:Go.Proofs.SlLaysF.n6 prog Tryz.laysSlF6_f130_ren:={
 mixed:=by kernel_rfl
 f6:=⟨Tryz.f130.name,by decide,func130.trans (congrArg some (by kernel_rfl))⟩
 f14:=⟨Tryz.f151.name,by decide,func151.trans (congrArg some (by kernel_rfl))⟩
 f15:=func136.trans (congrArg some (by kernel_rfl))
 f20:=⟨Tryz.f170.name,by decide,func170.trans (congrArg some (by kernel_rfl))⟩
 f21:=⟨Tryz.f171.name,by decide,func171.trans (congrArg some (by kernel_rfl))⟩
 f22:=⟨Tryz.f172.name,by decide,func172.trans (congrArg some (by kernel_rfl))⟩
 f23:=⟨Tryz.f173.name,by decide,func173.trans (congrArg some (by kernel_rfl))⟩
 f24:=⟨Tryz.f174.name,by decide,func174.trans (congrArg some (by kernel_rfl))⟩
 f25:=⟨Tryz.f175.name,by decide,func175.trans (congrArg some (by kernel_rfl))⟩
 f26:=⟨Tryz.f176.name,by decide,func176.trans (congrArg some (by kernel_rfl))⟩
 f27:=⟨Tryz.f177.name,by decide,func177.trans (congrArg some (by kernel_rfl))⟩
 f28:=func161.trans (congrArg some (by kernel_rfl))
 f29:=func162.trans (congrArg some (by kernel_rfl))
 f46:=⟨Tryz.f192.name,by decide,func192.trans (congrArg some (by kernel_rfl))⟩
 f47:=func179.trans (congrArg some (by kernel_rfl))
 f48:=func180.trans (congrArg some (by kernel_rfl))
 f49:=⟨Tryz.f193.name,by decide,func193.trans (congrArg some (by kernel_rfl))⟩
 f50:=⟨Tryz.f194.name,by decide,func194.trans (congrArg some (by kernel_rfl))⟩
 f57:=⟨Tryz.f203.name,by decide,func203.trans (congrArg some (by kernel_rfl))⟩
 t0:=underlying0
 a0:=isAgg0
 z0:=sizeOf0
 v0:=zeroValue0
 t3:=underlying3
 a3:=isAgg3
 z3:=sizeOf3
 v3:=zeroValue3
 t4:=underlying4
 a4:=isAgg4
 z4:=sizeOf4
 v4:=zeroValue4
 t5:=underlying5
 a5:=isAgg5
 z5:=sizeOf5
 v5:=zeroValue5
 t9:=underlying9
 a9:=isAgg9
 z9:=sizeOf9
 v9:=zeroValue9
 t22:=underlying34
 a22:=isAgg34
 z22:=sizeOf34
 v22:=zeroValue34
 a24:=isAgg22
 z24:=sizeOf22
 t25:=underlying133
 a25:=isAgg133
 z25:=sizeOf133
 v25:=zeroValue133
 t39:=underlying141
 a39:=isAgg141
 z39:=sizeOf141
 v39:=zeroValue141
 t45:=underlying219
 a45:=isAgg219
 z45:=sizeOf219
 v45:=zeroValue219
 t46:=underlying220
 a46:=isAgg220
 z46:=sizeOf220
 v46:=zeroValue220
 t50:=underlying131
 a50:=isAgg131
 z50:=sizeOf131
 v50:=zeroValue131
 t53:=underlying122
 a53:=isAgg122
 z53:=sizeOf122
 v53:=zeroValue122
 t55:=underlying211
 a55:=isAgg211
 z55:=sizeOf211
 v55:=zeroValue211
 t66:=underlying241
 a66:=isAgg241
 z66:=sizeOf241
 v66:=zeroValue241
 t70:=underlying245
 a70:=isAgg245
 z70:=sizeOf245
 v70:=zeroValue245
 t76:=underlying255
 a76:=isAgg255
 z76:=sizeOf255
 v76:=zeroValue255
 t77:=underlying256
 a77:=isAgg256
 z77:=sizeOf256
 v77:=zeroValue256}
open Go.RowKit Go.Lib Go.Sort in
theorem Tryz.slices_SortFunc_f130{α:Type}[Inhabited α](enc:α→Value)(h1:OneCell enc)(cf:α→α→Int)(hO:SWO (ltOf cf))(g:Nat)(cb:Array Value)(blk off cap:Nat)(d:Array α)(w:World)(eg:∀args w,(callFunc g args).run prog w=.ok (.enter g args) w)(hcmp:CmpLays1 prog g cb enc cf blk off d.size w)(hH:Holds enc w blk off d)(hblk:blk<w.heap.size)(hsz:d.size<4611686018427387904):
  Calls prog 130 #[.slice (some ⟨blk,off,none⟩) d.size cap,.func (.func g) #[] cb] w fun e w'=>
   e=.returned (.tuple #[])∧∃d' n os,PermIn 0 d.size d d'∧SortedIn (ltOf cf) 0 d.size d'∧w'=sortWorld enc w blk off n d' os:=Any.slices_SortFunc Tryz.laysSlF6_f130 enc h1 cf hO g cb blk off cap d w eg hcmp hH hblk hsz
def Tryz.laysSlF06_f130_ren:Go.Shelf.Ren:=⟨fun|6=>130|15=>136|14=>151|28=>161|29=>162|20=>170|21=>171|22=>172|23=>173|24=>174|25=>175|26=>176|27=>177|46=>192|47=>179|48=>180|49=>193|50=>194|57=>203|n=>n,fun|22=>34|24=>22|25=>133|3=>3|39=>141|0=>0|53=>122|55=>211|4=>4|46=>220|45=>219|50=>131|5=>5|9=>9|66=>241|70=>245|76=>255|77=>256|n=>n,fun|n=>n⟩
theorem Tryz.laysSlF06_f130:Go.Proofs.SlLaysF0.n6 prog Tryz.laysSlF06_f130_ren:={
 mixed:=by kernel_rfl
 f6:=⟨Tryz.f130.name,by decide,func130.trans (congrArg some (by kernel_rfl))⟩
 f14:=⟨Tryz.f151.name,by decide,func151.trans (congrArg some (by kernel_rfl))⟩
 f15:=func136.trans (congrArg some (by kernel_rfl))
 f20:=⟨Tryz.f170.name,by decide,func170.trans (congrArg some (by kernel_rfl))⟩
 f21:=⟨Tryz.f171.name,by decide,func171.trans (congrArg some (by kernel_rfl))⟩
 f22:=⟨Tryz.f172.name,by decide,func172.trans (congrArg some (by kernel_rfl))⟩
 f23:=⟨Tryz.f173.name,by decide,func173.trans (congrArg some (by kernel_rfl))⟩
 f24:=⟨Tryz.f174.name,by decide,func174.trans (congrArg some (by kernel_rfl))⟩
 f25:=⟨Tryz.f175.name,by decide,func175.trans (congrArg some (by kernel_rfl))⟩
 f26:=⟨Tryz.f176.name,by decide,func176.trans (congrArg some (by kernel_rfl))⟩
 f27:=⟨Tryz.f177.name,by decide,func177.trans (congrArg some (by kernel_rfl))⟩
 f28:=func161.trans (congrArg some (by kernel_rfl))
 f29:=func162.trans (congrArg some (by kernel_rfl))
 f46:=⟨Tryz.f192.name,by decide,func192.trans (congrArg some (by kernel_rfl))⟩
 f47:=func179.trans (congrArg some (by kernel_rfl))
 f48:=func180.trans (congrArg some (by kernel_rfl))
 f49:=⟨Tryz.f193.name,by decide,func193.trans (congrArg some (by kernel_rfl))⟩
 f50:=⟨Tryz.f194.name,by decide,func194.trans (congrArg some (by kernel_rfl))⟩
 f57:=⟨Tryz.f203.name,by decide,func203.trans (congrArg some (by kernel_rfl))⟩
 t0:=underlying0
 a0:=isAgg0
 z0:=sizeOf0
 v0:=zeroValue0
 t3:=underlying3
 a3:=isAgg3
 z3:=sizeOf3
 v3:=zeroValue3
 t4:=underlying4
 a4:=isAgg4
 z4:=sizeOf4
 v4:=zeroValue4
 t5:=underlying5
 a5:=isAgg5
 z5:=sizeOf5
 v5:=zeroValue5
 t9:=underlying9
 a9:=isAgg9
 z9:=sizeOf9
 v9:=zeroValue9
 t22:=underlying34
 a22:=isAgg34
 z22:=sizeOf34
 v22:=zeroValue34
 t25:=underlying133
 a25:=isAgg133
 z25:=sizeOf133
 v25:=zeroValue133
 t39:=underlying141
 a39:=isAgg141
 z39:=sizeOf141
 v39:=zeroValue141
 t45:=underlying219
 a45:=isAgg219
 z45:=sizeOf219
 v45:=zeroValue219
 t46:=underlying220
 a46:=isAgg220
 z46:=sizeOf220
 v46:=zeroValue220
 t50:=underlying131
 a50:=isAgg131
 z50:=sizeOf131
 v50:=zeroValue131
 t53:=underlying122
 a53:=isAgg122
 z53:=sizeOf122
 v53:=zeroValue122
 t55:=underlying211
 a55:=isAgg211
 z55:=sizeOf211
 v55:=zeroValue211
 t66:=underlying241
 a66:=isAgg241
 z66:=sizeOf241
 v66:=zeroValue241
 t70:=underlying245
 a70:=isAgg245
 z70:=sizeOf245
 v70:=zeroValue245
 t76:=underlying255
 a76:=isAgg255
 z76:=sizeOf255
 v76:=zeroValue255
 t77:=underlying256
 a77:=isAgg256
 z77:=sizeOf256
 v77:=zeroValue256}
open Go.RowKit Go.Lib Go.Sort in
theorem Tryz.slices_SortFunc_none_f130{α:Type}[Inhabited α](p:Option Addr)(cap:Nat)(fv:Value)(w:World):
  Calls prog 130 #[.slice p 0 cap,fv] w fun e w'=>e=.returned (.tuple #[])∧w'=w:=AnyF.slices_SortFunc_none Tryz.laysSlF06_f130 p cap fv w
end Go.Proofs
end
section
namespace Ab
open Go Go.Proofs
open Tryz
theorem sort_facts:Y0 prog 148:=⟨_,func148,rfl,rfl⟩
theorem compact_facts:Y0 prog 149:=⟨_,func149,rfl,rfl⟩
theorem sortL_ok:SortOk prog 148:=fun hσ hl=>sort_fn sort_facts (fun blk off cap zs w hH hb hs=>Tryz.slices_Sort_int blk off cap zs w hH hb hs) (fun p cap w=>Tryz.slices_Sort_int_none p cap w) hσ hl
theorem compactL_ok:CompactOk prog 149:=fun hσ=>compact_fn compact_facts (fun blk off cap zs w hH hs hc=>Tryz.slices_Compact_int blk off cap zs w hH hs hc) (fun a cap w=>Tryz.slices_Compact_int_empty a cap w) hσ
end Ab
end
section
namespace Ab
open Go Go.Proofs
open Tryz
theorem sortF_facts:Y0 prog 130:=⟨_,func130,rfl,rfl⟩
theorem sortF_LLi64_ok:SortFOk prog 130:=fun hgn hO hT hg _ _ _ hσ hl=>sortF_fn sortF_facts hgn hO hT hg (fun β _ enc h1 cf hO g cb blk off cap d w eg hcmp hH hblk hsz=>Tryz.slices_SortFunc_f130 enc h1 cf hO g cb blk off cap d w eg hcmp hH hblk hsz) (fun p cap fv w=>Tryz.slices_SortFunc_none_f130 (α:=Unit) p cap fv w) hσ hl
end Ab
end
section
namespace Ab
open Go Go.Proofs
end Ab
end
section
namespace Ab
open Go
theorem o8{α:Type}{l:List α}{k:Nat}:ix l (k:Int)=l[k]? :=by simp[ix]
theorem j7{α:Type}{l:List α}{i:Int}(h0:0≤i)(h1:i<l.length):∃a,ix l i=some a∧l[i.toNat]? =some a:=by
 have h:i.toNat<l.length:=by omega
 exact⟨l[i.toNat],by simp[ix,h0,h],by simp[h]⟩
theorem r7{α:Type}{l:List α}{i:Int}{a:α}(h:ix l i=some a):0≤i∧i<l.length∧l[i.toNat]? =some a:=by
 unfold ix at h
 split at h
 ·have:=(lG.1 h).1
  exact⟨by assumption,by omega,h⟩
 ·cases h
theorem n8{n:Int}(h1: -9223372036854775808≤n)(h2:n≤9223372036854775807):w64 n=n:=w64_eq ⟨h1,h2⟩
theorem at9{S:Type}{body:Int→S→Option S}(P:Int→S→Prop):∀(k:Nat) (i:Int) (s:S),P i s→
  (∀j s,i≤j→j<i+k→P j s→∃s',body j s=some s'∧P (j+1) s')→∃s',forN body k i s=some s'∧P (i+k) s'
 |0,i,s,h,_=>⟨s,rfl,by simpa using h⟩
 |k+1,i,s,h,hb=>by
  obtain⟨s1,h1,h2⟩:=hb i s (Int.le_refl _) (by omega) h
  obtain⟨s2,h3,h4⟩:=at9 P k (i+1) s1 h2 (fun j s g1 g2=>hb j s (by omega) (by omega))
  exact⟨s2,by simp only[forN,h1];exact h3,by rw[show i+((k+1:Nat):Int)=i+1+k by omega];exact h4⟩
theorem u7{S:Type}{body:Int→S→Option S}{n:Int}(P:Int→S→Prop){s:S}(hn:0≤n)(h0:P 0 s)
  (hb:∀j s,0≤j→j<n→P j s→∃s',body j s=some s'∧P (j+1) s'):∃s',forR 0 n body s=some s'∧P n s':=by
 obtain⟨s',h1,h2⟩:=at9 P (n - 0).toNat 0 s h0 (fun j s g1 g2=>hb j s g1 (by omega))
 exact⟨s',h1,by rwa [show(0:Int)+((n - 0).toNat:Int)=n by omega] at h2⟩
theorem rngN_inv{S O:Type}{body:Int→S→Option (S⊕O)}(P:Int→S→Prop)(Q:O→Prop):∀(k:Nat) (i:Int) (s:S),P i s→
  (∀j s,i≤j→j<i+k→P j s→(∃s',body j s=some (.inl s')∧P (j+1) s')∨∃o,body j s=some (.inr o)∧Q o)→
  (∃s',rngN body k i s=some (.inl s')∧P (i+k) s')∨∃o,rngN body k i s=some (.inr o)∧Q o
 |0,i,s,h,_=>.inl ⟨s,rfl,by simpa using h⟩
 |k+1,i,s,h,hb=>by
  rcases hb i s (Int.le_refl _) (by omega) h with⟨s1,h1,h2⟩|⟨o,h1,h2⟩
  ·rcases rngN_inv P Q k (i+1) s1 h2 (fun j s g1 g2=>hb j s (by omega) (by omega)) with⟨s2,h3,h4⟩|⟨o,h3,h4⟩
   ·exact .inl ⟨s2,by simp only[rngN,h1];exact h3,by rw[show i+((k+1:Nat):Int)=i+1+k by omega];exact h4⟩
   ·exact .inr ⟨o,by simp only[rngN,h1];exact h3,h4⟩
  ·exact .inr ⟨o,by simp only[rngN,h1],h2⟩
theorem ai0{S O:Type}{body:Int→S→Option (S⊕O)}{n:Int}(P:Int→S→Prop)(Q:O→Prop){s:S}(hn:0≤n)(h0:P 0 s)
  (hb:∀j s,0≤j→j<n→P j s→(∃s',body j s=some (.inl s')∧P (j+1) s')∨∃o,body j s=some (.inr o)∧Q o):
  (∃s',rngX 0 n body s=some (.inl s')∧P n s')∨∃o,rngX 0 n body s=some (.inr o)∧Q o:=by
 rcases rngN_inv P Q (n - 0).toNat 0 s h0 (fun j s g1 g2=>hb j s g1 (by omega)) with⟨s',h1,h2⟩|h
 ·exact .inl ⟨s',h1,by rwa [show(0:Int)+((n - 0).toNat:Int)=n by omega] at h2⟩
 ·exact .inr h
theorem LoopN_inv{S O:Type}{body:S→Option (S⊕O)}(P:S→Prop)(Q:O→Prop)(μ:S→Nat)(hb:∀s,P s→(∃s',body s=some (.inl s')∧P s'∧μ s'<μ s)∨∃o,body s=some (.inr o)∧Q o):
  ∀(k:Nat) (s:S),μ s<k→P s→∃o,LoopN body k s=some o∧Q o
 |0,s,h,_=>by omega
 |k+1,s,h,hs=>by
  rcases hb s hs with⟨s',h1,h2,h3⟩|⟨o,h1,h2⟩
  ·obtain⟨o,g1,g2⟩:=LoopN_inv P Q μ hb k s' (by omega) h2
   exact⟨o,by simp only[LoopN,h1];exact g1,g2⟩
  ·exact⟨o,by simp only[LoopN,h1],h2⟩
theorem F4{S O:Type}{body:S→Option (S⊕O)}(P:S→Prop)(Q:O→Prop)(μ:S→Nat){s:S}(hs:P s)
  (hb:∀s,P s→(∃s',body s=some (.inl s')∧P s'∧μ s'<μ s)∨∃o,body s=some (.inr o)∧Q o):∃o,Loop body s=some o∧Q o:=by
 obtain⟨o,h1,h2⟩:=LoopN_inv P Q μ hb (μ s+1) s (by omega) hs
 exact⟨o,ad3.2 ⟨_,h1⟩,h2⟩
/-! ### Two loops that do the same -/
theorem rngN_eq{S O:Type}{b1 b2:Int→S→Option (S⊕O)}(P:Int→S→Prop):∀(k:Nat) (i:Int) (s:S),P i s→
  (∀j s,i≤j→j<i+k→P j s→b1 j s=b2 j s∧b1 j s ≠ none∧∀s',b1 j s=some (.inl s')→P (j+1) s')→
  rngN b1 k i s=rngN b2 k i s∧rngN b1 k i s ≠ none∧∀s',rngN b1 k i s=some (.inl s')→P (i+k) s'
 |0,i,s,h,_=>⟨rfl,by simp[rngN],fun s' hs=>by simp only[rngN,Option.some.injEq,Sum.inl.injEq] at hs;subst hs;simpa using h⟩
 |k+1,i,s,h,hb=>by
  obtain⟨h1,h2,h3⟩:=hb i s (Int.le_refl _) (by omega) h
  simp only[rngN]
  rw[← h1]
  cases hc:b1 i s with
  |none=>exact absurd hc h2
  |some x=>
   cases x with
   |inr o=>exact⟨rfl,by simp,fun s' hs=>by simp at hs⟩
   |inl s1=>
    dsimp only
    have:=rngN_eq (b1:=b1) (b2:=b2) P k (i+1) s1 (h3 s1 hc) (fun j s g1 g2=>hb j s (by omega) (by omega))
    rwa [show i+1+(k:Int)=i+((k+1:Nat):Int) by omega] at this
theorem rngX_eq{S O:Type}{b1 b2:Int→S→Option (S⊕O)}{n:Int}(P:Int→S→Prop){s:S}(hn:0≤n)(h0:P 0 s)
  (hb:∀j s,0≤j→j<n→P j s→b1 j s=b2 j s∧b1 j s ≠ none∧∀s',b1 j s=some (.inl s')→P (j+1) s'):
  rngX 0 n b1 s=rngX 0 n b2 s∧rngX 0 n b1 s ≠ none∧∀s',rngX 0 n b1 s=some (.inl s')→P n s':=by
 have:=rngN_eq P (n - 0).toNat 0 s h0 (fun j s g1 g2=>hb j s g1 (by omega))
 rwa [show(0:Int)+((n - 0).toNat:Int)=n by omega] at this
end Ab
end
section
namespace Ab
open Go
noncomputable def dec(p:Prop):Bool:=@decide p (Classical.propDecidable p)
@[simp] theorem m6 {p:Prop}:dec p=true↔p:=by simp[dec]
@[simp] theorem dec_false {p:Prop}:dec p=false↔¬ p:=by simp[dec]
@[simp] theorem y9 {p:Prop}:(!dec p)=dec (¬ p):=by by_cases h:p<;>simp[dec,h]
theorem ag0{p:Prop}[Decidable p]:decide p=dec p:=by by_cases h:p<;>simp[dec,h]
theorem l8{p:Prop}(h:p):dec p=true:=m6.2 h
theorem q6{p:Prop}(h:¬ p):dec p=false:=dec_false.2 h
theorem K4{p q:Prop}(h:p↔q):dec p=dec q:=by rw[propext h]
theorem dec_and{p q:Prop}:(dec p && dec q)=dec (p∧q):=by by_cases h:p<;>by_cases g:q<;>simp[dec,h,g]
theorem ifP{α:Type}{p:Prop}{a b:α}(h:p):(if dec p=true then a else b)=a:=if_pos (l8 h)
theorem ifN{α:Type}{p:Prop}{a b:α}(h:¬ p):(if dec p=true then a else b)=b:=if_neg fun g=>h (m6.1 g)
theorem ifNN{α:Type}{p:Prop}{a b:α}(h:p):(if dec (¬ p)=true then a else b)=b:=ifN (not_not_intro h)
theorem m5{α:Type}{l:List α}{i:Int}{a:α}(h:ix l i=some a):a ∈ l:=List.mem_of_getElem? (r7 h).2.2
theorem s9{α:Type}{l:List α}{a:α}(h:a ∈ l):∃i:Int,0≤i∧i<l.length∧ix l i=some a:=by
 obtain⟨k,hk⟩:=List.getElem?_of_mem h
 exact⟨k,by omega,by have:=(lG.1 hk).1;omega,by rw[o8,hk]⟩
theorem ix_put{α:Type}{l:List α}{i j:Int}{x:α}(h0:0≤i)(h1:i<l.length)(hj:0≤j):ix (l.set i.toNat x) j=if j=i then some x else ix l j:=by
 simp only[ix,hj,if_true,List.getElem?_set]
 by_cases h:j=i
 ·subst h;rw[if_pos rfl,if_pos rfl,if_pos (by omega)]
 ·rw[if_neg h,if_neg (by omega)]
theorem B7{O:Type}{body:Int→Unit→Option (Unit⊕O)}{n:Int}(g:Int→Option O)(hn:0≤n)
  (hb:∀j,0≤j→j<n→(∀i,0≤i→i<j→g i=none)→body j ()=some (match g j with|none=>.inl ()|some o=>.inr o)):
  (rngX 0 n body ()=some (.inl ())∧∀j,0≤j→j<n→g j=none)∨∃j o,0≤j∧j<n∧g j=some o∧(∀i,0≤i→i<j→g i=none)∧rngX 0 n body ()=some (.inr o):=by
 rcases ai0 (body:=body) (n:=n) (fun j _=>∀i,0≤i→i<j→g i=none) (fun o=>∃j,0≤j∧j<n∧g j=some o∧∀i,0≤i→i<j→g i=none) (s:=()) hn (fun i h1 h2=>by omega) (fun j s h0 h1 hP=>by
  have:=hb j h0 h1 hP
  cases hg:g j with
  |none=>rw[hg] at this;exact .inl ⟨(),this,fun i h2 h3=>by
    rcases Int.lt_or_eq_of_le (Int.le_of_lt_add_one h3) with h|h
    ·exact hP i h2 h
    ·rw[h,hg]⟩
  |some o=>rw[hg] at this;exact .inr ⟨o,this,j,h0,h1,hg,hP⟩) with⟨s',h1,h2⟩|⟨o,h1,j,h2,h3,h4,h5⟩
 ·exact .inl ⟨h1,h2⟩
 ·exact .inr ⟨j,o,h2,h3,h4,h5,h1⟩
theorem rng_list{α O:Type}{l:List α}{body:Int→Unit→Option (Unit⊕O)}(q:α→Prop)(b:O)
  (hb:∀j a,ix l j=some a→(q a∧body j ()=some (.inl ()))∨(¬ q a∧body j ()=some (.inr b))):
  rngX 0 (l.length:Int) body ()=some (if dec (∀a ∈ l,q a)=true then .inl () else .inr b):=by
 rcases B7 (body:=body) (n:=(l.length:Int)) (fun j=>match ix l j with|some a=>if dec (q a)=true then none else some b|none=>none) (by omega) (fun j h0 h1 _=>by
  obtain⟨a,h2,_⟩:=j7 h0 h1
  rw[h2]
  rcases hb j a h2 with⟨h3,h4⟩|⟨h3,h4⟩
  ·rw[h4];simp[h3]
  ·rw[h4];simp[h3]) with⟨h1,h2⟩|⟨j,o,h0,h1,h2,_,h4⟩
 ·rw[h1,if_pos]
  rw[m6]
  intro a ha
  obtain⟨i,g1,g2,g3⟩:=s9 ha
  have:=h2 i g1 g2
  rw[g3] at this
  simpa using this
 ·rw[h4]
  obtain⟨a,g1,_⟩:=j7 h0 h1
  rw[g1] at h2
  simp only[m6] at h2
  split at h2
  ·cases h2
  ·rename_i hq
   cases h2
   rw[if_neg]
   rw[m6]
   exact fun h=>hq (l8 (h a (m5 g1)))
abbrev Inc(l:Li):Prop:=l.Pairwise (· < ·)
theorem inc_of_adj:∀{l:Li},(∀(k:Nat) a b,l[k]? =some a→l[k+1]? =some b→a<b)→Inc l
 |[],_=>.nil
 |[_],_=>by simp
 |a::b::l,h=>by
  have ih:Inc (b::l):=inc_of_adj fun k x y h1 h2=>h (k+1) x y (by simpa using h1) (by simpa using h2)
  have hab:a<b:=h 0 a b rfl rfl
  refine List.pairwise_cons.2 ⟨fun c hc=> ?_,ih⟩
  rcases List.mem_cons.1 hc with rfl|hc
  ·exact hab
  ·exact Int.lt_trans hab ((List.pairwise_cons.1 ih).1 c hc)
theorem Inc.get{l:Li}(h:Inc l){i j:Nat}{a b:Int}(hi:l[i]? =some a)(hj:l[j]? =some b)(hij:i<j):a<b:=by
 obtain⟨h1,rfl⟩:=lG.1 hi
 obtain⟨h2,rfl⟩:=lG.1 hj
 exact List.pairwise_iff_getElem.1 h i j h1 h2 hij
theorem Inc.ext:∀{l m:Li},Inc l→Inc m→(∀x,x ∈ l↔x ∈ m)→l=m
 |[],[],_,_,_=>rfl
 |[],b::m,_,_,h=>absurd ((h b).2 (by simp)) (by simp)
 |a::l,[],_,_,h=>absurd ((h a).1 (by simp)) (by simp)
 |a::l,b::m,hl,hm,h=>by
  obtain⟨l1,l2⟩:=List.pairwise_cons.1 hl
  obtain⟨m1,m2⟩:=List.pairwise_cons.1 hm
  have hab:a=b:=by
   rcases List.mem_cons.1 ((h a).1 (by simp)) with e|e
   ·exact e
   ·rcases List.mem_cons.1 ((h b).2 (by simp)) with e'|e'
    ·exact e'.symm
    ·have:=l1 b e';have:=m1 a e;omega
  subst hab
  rw[Inc.ext l2 m2 fun x=>⟨fun hx=> ?_,fun hx=> ?_⟩]
  ·rcases List.mem_cons.1 ((h x).1 (by simp[hx])) with e|e
   ·have:=l1 x hx;omega
   ·exact e
  ·rcases List.mem_cons.1 ((h x).2 (by simp[hx])) with e|e
   ·have:=m1 x hx;omega
   ·exact e
theorem Inc.filter{l:Li}(h:Inc l)(p:Int→Bool):Inc (l.filter p):=List.Pairwise.filter p h
def nums(lo:Int):Nat→Li
 |0=>[]
 |k+1=>lo::nums (lo+1) k
theorem au9{x:Int}:∀{k:Nat} {lo:Int},x ∈ nums lo k↔lo≤x∧x<lo+k
 |0,lo=>by simp[nums]
 |k+1,lo=>by
  rw[nums,List.mem_cons,au9 (k:=k)]
  omega
theorem inc_nums:∀(k:Nat) (lo:Int),Inc (nums lo k)
 |0,_=>.nil
 |k+1,lo=>List.pairwise_cons.2 ⟨fun x hx=>by have:=au9.1 hx;omega,inc_nums k (lo+1)⟩
theorem len_nums:∀(k:Nat) (lo:Int),(nums lo k).length=k
 |0,_=>rfl
 |k+1,lo=>by simp[nums,len_nums k]
noncomputable def P9(p:Int→Prop)(n:Int):Li:=(nums 0 n.toNat).filter fun x=>dec (p x)
theorem ae8{p:Int→Prop}{n x:Int}:x ∈ P9 p n↔0≤x∧x<n∧p x:=by
 rw[P9,List.mem_filter,au9,m6]
 constructor
 ·rintro ⟨⟨h1,h2⟩,h3⟩;exact⟨h1,by omega,h3⟩
 ·rintro ⟨h1,h2,h3⟩;exact⟨⟨h1,by omega⟩,h3⟩
theorem ap4(p:Int→Prop)(n:Int):Inc (P9 p n):=(inc_nums _ _).filter _
theorem setOf_congr{p q:Int→Prop}{n:Int}(h:∀x,0≤x→x<n→(p x↔q x)):P9 p n=P9 q n:=by
 refine List.filter_congr fun x hx=>K4 ?_
 have:=au9.1 hx
 exact h x (by omega) (by omega)
def SetN(l:Li)(n:Int):Prop:=Inc l∧∀x ∈ l,0≤x∧x<n
theorem setN_setOf(p:Int→Prop)(n:Int):SetN (P9 p n) n:=⟨ap4 p n,fun x hx=>by have:=ae8.1 hx;exact⟨this.1,this.2.1⟩⟩
theorem SetN.eq{l:Li}{n:Int}(h:SetN l n):l=P9 (· ∈ l) n:=
 h.1.ext (ap4 _ _) fun x=>⟨fun hx=>ae8.2 ⟨(h.2 x hx).1,(h.2 x hx).2,hx⟩,fun hx=>(ae8.1 hx).2.2⟩
theorem SetN.eq_of{l:Li}{n:Int}(h:SetN l n){p:Int→Prop}(hp:∀x,0≤x→x<n→(x ∈ l↔p x)):l=P9 p n:=
 h.eq.trans (setOf_congr hp)
theorem SetN.len{l:Li}{n:Int}(h:SetN l n):l.length≤n.toNat:=by
 rw[h.eq,P9]
 exact Nat.le_trans (List.length_filter_le _ _) (Nat.le_of_eq (len_nums _ _))
theorem forR_filter{α:Type}{l:List α}{b:Nat}{body:Int→List α→Option (List α)}(q:α→Prop)
  (hb:∀j a c,ix l j=some a→(q a→body j c=app b c [a])∧(¬ q a→body j c=some c)) (c0:List α) (hl:(c0.length+l.length) * b≤140737488355328):
  forR 0 (l.length:Int) body c0=some (c0++l.filter fun a=>dec (q a)):=by
 obtain⟨s',h1,h2⟩:=u7 (body:=body) (n:=(l.length:Int)) (s:=c0) (fun j c=>c=c0++(l.take j.toNat).filter fun a=>dec (q a)) (by omega) (by simp) (fun j c h0 h1 hP=>by
  obtain⟨a,g1,g2⟩:=j7 h0 h1
  have e:(j+1).toNat=j.toNat+1:=by omega
  have ht:l.take (j+1).toNat=l.take j.toNat++[a]:=by rw[e,List.take_add_one,g2];rfl
  by_cases hq:q a
  ·have happ:app b c [a]=some (c++[a]):=by
    rw[app,if_pos]
    have h3:((l.take j.toNat).filter fun a=>dec (q a)).length≤(l.take j.toNat).length:=List.length_filter_le _ _
    rw[List.length_take] at h3
    have h5:c.length+1≤c0.length+l.length:=by rw[hP,List.length_append];omega
    refine Nat.le_trans (Nat.mul_le_mul_right b ?_) hl
    simpa using h5
   refine⟨c++[a],by rw[(hb j a c g1).1 hq,happ],?_⟩
   rw[ht,List.filter_append,hP]
   simp[hq]
  ·refine⟨c,(hb j a c g1).2 hq,?_⟩
   rw[ht,List.filter_append,hP]
   simp[hq])
 rw[h1,h2]
 simp
theorem forR_setOf{b:Nat}{n:Int}{body:Int→Li→Option Li}(q:Int→Prop)(hn:0≤n)(hl:n.toNat * b≤140737488355328)
  (hb:∀j c,0≤j→j<n→(q j→body j c=app b c [j])∧(¬ q j→body j c=some c)):forR 0 n body []=some (P9 q n):=by
 obtain⟨s',h1,h2⟩:=u7 (body:=body) (n:=n) (s:=[]) (fun j c=>c=P9 q j) hn (by simp[P9,nums]) (fun j c h0 h1 hP=>by
  have hs:P9 q (j+1)=P9 q j++if dec (q j)=true then [j] else []:=by
   refine(ap4 q (j+1)).ext ?_ fun x=> ?_
   ·refine List.pairwise_append.2 ⟨ap4 _ _,by split<;>simp,fun a ha b hb=> ?_⟩
    have:=ae8.1 ha
    split at hb
    ·simp at hb;omega
    ·cases hb
   ·rw[List.mem_append,ae8,ae8]
    by_cases hq:q j
    ·rw[if_pos (l8 hq)]
     simp only[List.mem_singleton]
     refine⟨fun h=> ?_,fun h=> ?_⟩
     ·by_cases e:x=j
      ·exact .inr e
      ·exact .inl ⟨h.1,by omega,h.2.2⟩
     ·rcases h with h|rfl
      ·exact⟨h.1,by omega,h.2.2⟩
      ·exact⟨h0,by omega,hq⟩
    ·rw[if_neg (by simpa using hq)]
     simp only[List.not_mem_nil,or_false]
     refine⟨fun h=>⟨h.1,?_,h.2.2⟩,fun h=>⟨h.1,by omega,h.2.2⟩⟩
     rcases Int.lt_or_eq_of_le (Int.le_of_lt_add_one h.2.1) with e|e
     ·exact e
     ·rw[e] at h;exact absurd h.2.2 hq
  by_cases hq:q j
  ·refine⟨c++[j],?_,by rw[hs,hP,if_pos (l8 hq)]⟩
   rw[(hb j c h0 h1).1 hq,app,if_pos]
   have h3:c.length≤j.toNat:=by rw[hP];exact(setN_setOf q j).len
   refine Nat.le_trans (Nat.mul_le_mul_right b ?_) hl
   simp;omega
  ·refine⟨c,(hb j c h0 h1).2 hq,?_⟩
   rw[hs,hP,if_neg (by simpa using hq),List.append_nil])
 rw[h1,h2]
end Ab
end
section
namespace Ab
open Go
theorem has_eq(l:Li)(n:Int):S3 l n=some (dec (n ∈ l)):=by
 unfold S3
 rw[rng_list (l:=l) (fun a=>a ≠ n) true (fun j a h=>by
  unfold ar2
  rw[h]
  by_cases e:a=n<;>simp[e])]
 by_cases h:n ∈ l
 ·rw[if_neg (by simp only[m6];exact fun g=>g n h rfl)]
  simp[h]
 ·rw[if_pos (by simp only[m6];exact fun a ha e=>h (e ▸ ha))]
  simp[h]
theorem subset_eq(part l:Li):T9 part l=some (dec (∀x ∈ part,x ∈ l)):=by
 unfold T9
 rw[rng_list (l:=part) (fun a=>a ∈ l) false (fun j a h=>by
  unfold ah1
  rw[h]
  by_cases e:a ∈ l<;>simp[e,has_eq])]
 by_cases h:∀x ∈ part,x ∈ l
 ·rw[if_pos (l8 h),l8 h];rfl
 ·rw[if_neg (by rw[q6 h];simp),q6 h];rfl
theorem disjoint_eq(a b:Li):T1 a b=some (dec (∀x ∈ a,x ∉ b)):=by
 unfold T1
 rw[rng_list (l:=a) (fun x=>x ∉ b) false (fun j x h=>by
  unfold ad6
  rw[h]
  by_cases e:x ∈ b<;>simp[e,has_eq])]
 by_cases h:∀x ∈ a,x ∉ b
 ·rw[if_pos (l8 h),l8 h];rfl
 ·rw[if_neg (by rw[q6 h];simp),q6 h];rfl
theorem in_eq(n lo hi:Int):U2 n lo hi=some (dec (lo≤n∧n≤hi)):=by
 unfold U2;rw[ag0,ag0,dec_and]
theorem at_eq(c i:Int):H1 c i=some ⟨c,i⟩:=rfl
def stepOk(l:Li)(n j:Int):Prop:=∀a,ix l j=some a→(0≤a∧a<n)∧∀b,0<j→ix l (j - 1)=some b→b<a
theorem ak8{l:Li}{n:Int}:(∀j:Int,0≤j→j<l.length→stepOk l n j)↔SetN l n:=by
 constructor
 ·intro h
  refine⟨inc_of_adj fun k a b h1 h2=> ?_,fun x hx=> ?_⟩
  ·have hk:=(lG.1 h2).1
   have:=(h ((k+1:Nat):Int) (by omega) (by omega) b (by rw[o8];exact h2)).2 a (by omega)
   rw[show((k+1:Nat):Int) - 1=(k:Nat) by omega] at this
   exact this (by rw[o8];exact h1)
  ·obtain⟨i,h1,h2,h3⟩:=s9 hx
   exact(h i h1 h2 x h3).1
 ·intro h j h0 h1 a ha
  refine⟨h.2 a (m5 ha),fun b hj hb=> ?_⟩
  obtain⟨_,_,ga⟩:=r7 ha
  obtain⟨_,_,gb⟩:=r7 hb
  exact h.1.get gb ga (by omega)
theorem au8(l:Li)(n:Int):D8 l n=some (dec (SetN l n)):=by
 unfold D8
 rcases B7 (body:=W2 l n) (n:=(l.length:Int)) (fun j=>if dec (stepOk l n j)=true then none else some false) (by omega) (fun j h0 h1 _=>by
  obtain⟨a,ha,_⟩:=j7 (l:=l) h0 h1
  unfold W2
  rw[ha]
  simp only[oB]
  by_cases c1:a<0
  ·rw[if_pos c1,if_neg]
   ·rfl
   ·rw[m6];intro h;have:=(h a ha).1;omega
  ·rw[if_neg c1]
   by_cases c2:n≤a
   ·rw[if_pos c2,if_neg]
    ·rfl
    ·rw[m6];intro h;have:=(h a ha).1;omega
   ·rw[if_neg c2]
    by_cases c3:0<j
    ·obtain⟨b,hb,_⟩:=j7 (l:=l) (i:=j - 1) (by omega) (by omega)
     rw[if_pos c3,hb]
     simp only[oB]
     by_cases c4:a≤b
     ·rw[if_pos (by simpa using c4),if_neg]
      rw[m6];intro h;have:=(h a ha).2 b c3 hb;omega
     ·rw[if_neg (by simpa using c4),if_pos]
      rw[m6];intro x hx
      rw[ha] at hx;cases hx
      exact⟨by omega,fun y _ hy=>by rw[hb] at hy;cases hy;omega⟩
    ·rw[if_neg c3]
     simp only[oB]
     rw[if_neg (by simp),if_pos]
     rw[m6];intro x hx
     rw[ha] at hx;cases hx
     exact⟨by omega,fun y hy=>absurd hy c3⟩) with⟨h1,h2⟩|⟨j,o,h0,h1,h2,_,h4⟩
 ·rw[h1,l8]
  ·rfl
  ·exact ak8.1 fun j g1 g2=>by have:=h2 j g1 g2;simpa using this
 ·rw[h4]
  split at h2
  ·cases h2
  ·rename_i hs
   cases h2
   rw[q6]
   ·rfl
   ·exact fun h=>hs (l8 (ak8.2 h j h0 h1))
theorem ap5(l:Li){n:Int}(hn: -9223372036854775808<n)(hn':n≤9223372036854775807):H8 l n=some (dec (SetN l n)):=by
 unfold H8
 rcases B7 (body:=ac4 l n) (n:=(l.length:Int)) (fun j=>if dec (stepOk l n j)=true then none else some false) (by omega) (fun j h0 h1 _=>by
  obtain⟨a,ha,_⟩:=j7 (l:=l) h0 h1
  unfold ac4
  rw[ha]
  simp only[oB,in_eq,n8 (n:=n - 1) (by omega) (by omega),y9]
  by_cases c1:0≤a∧a≤n - 1
  ·rw[if_neg (by simpa using c1)]
   by_cases c3:0<j
   ·obtain⟨b,hb,_⟩:=j7 (l:=l) (i:=j - 1) (by omega) (by omega)
    rw[if_pos c3,hb]
    simp only[oB]
    by_cases c4:a≤b
    ·rw[if_pos (by simpa using c4),if_neg]
     rw[m6];intro h;have:=(h a ha).2 b c3 hb;omega
    ·rw[if_neg (by simpa using c4),if_pos]
     rw[m6];intro x hx
     rw[ha] at hx;cases hx
     exact⟨by omega,fun y _ hy=>by rw[hb] at hy;cases hy;omega⟩
   ·rw[if_neg c3]
    simp only[oB]
    rw[if_neg (by simp),if_pos]
    rw[m6];intro x hx
    rw[ha] at hx;cases hx
    exact⟨by omega,fun y hy=>absurd hy c3⟩
  ·rw[if_pos (by simpa using c1),if_neg]
   ·rfl
   ·rw[m6];intro h;have:=(h a ha).1;omega) with⟨h1,h2⟩|⟨j,o,h0,h1,h2,_,h4⟩
 ·rw[h1,l8]
  ·rfl
  ·exact ak8.1 fun j g1 g2=>by have:=h2 j g1 g2;simpa using this
 ·rw[h4]
  split at h2
  ·cases h2
  ·rename_i hs
   cases h2
   rw[q6]
   ·rfl
   ·exact fun h=>hs (l8 (ak8.2 h j h0 h1))
theorem containsLoop{s:Li}(hs:Inc s)(hl:s.length≤1000000)(x:Int){i:Int}(h0:0≤i)(h1:i≤s.length)(hlt:∀k a,0≤k→k<i→ix s k=some a→a<x):
  ∃i',Loop (I2 s x) i=some i'∧i≤i'∧i'≤s.length∧(∀k a,0≤k→k<i'→ix s k=some a→a<x)∧(∀a,ix s i'=some a→x≤a):=by
 obtain⟨o,h2,h3⟩:=F4 (body:=I2 s x) (fun j=>i≤j∧j≤s.length∧∀k a,0≤k→k<j→ix s k=some a→a<x) (fun i'=>i≤i'∧i'≤s.length∧(∀k a,0≤k→k<i'→ix s k=some a→a<x)∧(∀a,ix s i'=some a→x≤a)) (fun j=>(s.length - j).toNat) (s:=i) ⟨Int.le_refl _,h1,hlt⟩ (fun j ⟨g1,g2,g3⟩=>by
  unfold I2
  by_cases c:j<s.length
  ·obtain⟨a,ha,_⟩:=j7 (l:=s) (i:=j) (by omega) c
   rw[if_pos c,ha]
   simp only[oB,decide_eq_true_eq]
   by_cases c2:a<x
   ·rw[if_pos c2]
    rw[n8 (by omega) (by omega)]
    refine .inl ⟨j+1,rfl,⟨by omega,by omega,fun k b k0 k1 hb=> ?_⟩,by omega⟩
    by_cases e:k=j
    ·subst e;rw[ha] at hb;cases hb;exact c2
    ·exact g3 k b k0 (by omega) hb
   ·rw[if_neg c2]
    exact .inr ⟨j,rfl,g1,g2,g3,fun b hb=>by rw[ha] at hb;cases hb;omega⟩
  ·rw[if_neg c]
   exact .inr ⟨j,rfl,g1,g2,g3,fun b hb=>by have:=(r7 hb).2.1;omega⟩)
 exact⟨o,h2,h3⟩
theorem U0{s part:Li}(hs:Inc s)(hp:Inc part)(hl:s.length≤1000000):k9 s part=some (dec (∀x ∈ part,x ∈ s)):=by
 unfold k9
 rcases ai0 (body:=O3 s part) (n:=(part.length:Int)) (fun j i=>(0≤i∧i≤s.length∧∀k a,0≤k→k<i→ix s k=some a→∀m x,j≤m→ix part m=some x→a<x)∧∀m x,0≤m→m<j→ix part m=some x→x ∈ s) (fun o=>o=false∧¬ ∀x ∈ part,x ∈ s) (s:=0) (by omega) ⟨⟨by omega,by omega,fun k a h1 h2=>by omega⟩,fun m x h1 h2=>by omega⟩ (fun j i h0 h1 ⟨⟨g1,g2,g3⟩,g4⟩=>by
  obtain⟨x,hx,gx⟩:=j7 (l:=part) h0 h1
  unfold O3
  obtain⟨i',e1,e2,e3,e4,e5⟩:=containsLoop hs hl x g1 g2 (fun k a k0 k1 ha=>g3 k a k0 k1 ha j x (Int.le_refl _) hx)
  rw[hx]
  simp only[oB,e1]
  have nin:(∀a,ix s i'=some a→x<a)→x ∉ s:=fun hgt hin=>by
   obtain⟨k,k0,k1,hk⟩:=s9 hin
   rcases Int.lt_trichotomy k i' with c|c|c
   ·have:=e4 k x k0 c hk;omega
   ·subst c;have:=hgt x hk;omega
   ·obtain⟨b,hb,gb⟩:=j7 (l:=s) (i:=i') (by omega) (by omega)
    obtain⟨_,_,gk⟩:=r7 hk
    have:=hs.get gb gk (by omega)
    have:=e5 b hb
    omega
  by_cases c:i'=s.length
  ·rw[if_pos c]
   refine .inr ⟨false,rfl,rfl,fun h=> ?_⟩
   exact nin (fun a ha=>by have:=(r7 ha).2.1;omega) (h x (m5 hx))
  ·rw[if_neg c]
   obtain⟨b,hb,gb⟩:=j7 (l:=s) (i:=i') (by omega) (by omega)
   rw[hb]
   simp only[oB]
   have hxb:=e5 b hb
   by_cases c2:b=x
   ·subst c2
    rw[if_neg (by simp)]
    refine .inl ⟨i',rfl,⟨by omega,e3,fun k a k0 k1 ha m y hm hy=> ?_⟩,fun m y m0 m1 hy=> ?_⟩
    ·obtain⟨_,_,gy⟩:=r7 hy
     have:=hp.get gx gy (by omega)
     have:=e4 k a k0 k1 ha
     omega
    ·by_cases e:m=j
     ·subst e;rw[hx] at hy;cases hy;exact m5 hb
     ·exact g4 m y m0 (by omega) hy
   ·rw[if_pos (by simpa using c2)]
    refine .inr ⟨false,rfl,rfl,fun h=> ?_⟩
    exact nin (fun a ha=>by rw[hb] at ha;cases ha;omega) (h x (m5 hx))) with⟨s',h1,_,h2⟩|⟨o,h1,rfl,h2⟩
 ·rw[h1,l8]
  ·rfl
  ·intro x hx
   obtain⟨m,m0,m1,hm⟩:=s9 hx
   exact h2 m x m0 m1 hm
 ·rw[h1,q6 h2];rfl
end Ab
end
section
namespace Ab
open Go
theorem half_eq{i j:Int}(h0:0≤i)(h1:i≤j)(h2:j≤1000000):w64 (shrW .u64 ((IntKind.u64).wrap (w64 (i+j))) 1)=(i+j) / 2:=by
 rw[n8 (n:=i+j) (by omega) (by omega),IntKind.wrap_u64,Int.emod_eq_of_lt (by omega) (by omega)]
 have:shrW .u64 (i+j) 1=(i+j) / 2:=by
  simp only[shrW,IntKind.bits]
  rw[show min (1:Int).toNat 64=1 by rfl,Int.fdiv_eq_ediv_of_nonneg _ (by decide)]
  rfl
 rw[this]
 exact n8 (by omega) (by omega)
theorem less_eq(a b:Int):X9 a b=some (decide (a<b)):=by simp[X9,G3]
theorem bsearch_eq{xs:Li}(hs:Inc xs)(hl:xs.length≤500000)(t:Int):∃i,s8 xs t=some (i,dec (t ∈ xs))∧0≤i∧i≤xs.length∧(∀k a,0≤k→k<i→ix xs k=some a→a<t)∧(∀k a,i≤k→ix xs k=some a→t≤a):=by
 unfold s8
 obtain⟨i,h1,h2,h3,h4,h5⟩:=F4 (body:=A9 xs t) (fun p=>(0≤p.1∧p.1≤p.2∧p.2≤xs.length)∧(∀k a,0≤k→k<p.1→ix xs k=some a→a<t)∧(∀k a,p.2≤k→ix xs k=some a→t≤a))
  (fun i=>0≤i∧i≤xs.length∧(∀k a,0≤k→k<i→ix xs k=some a→a<t)∧(∀k a,i≤k→ix xs k=some a→t≤a)) (fun p=>(p.2 - p.1).toNat) (s:=(0,(xs.length:Int)))
  ⟨⟨by simp,by simp,by simp⟩,fun k a h1 h2=>by simp at h2;omega,fun k a h1 h2=>by have:=(r7 h2).2.1;simp at h1;omega⟩ (fun⟨i,j⟩ ⟨⟨g1,g2,g3⟩,g4,g5⟩=>by
  dsimp only at g1 g2 g3 g4 g5 ⊢
  unfold A9
  dsimp only
  by_cases c:i<j
  ·rw[if_pos c,half_eq g1 g2 (by omega)]
   obtain⟨a,ha,ga⟩:=j7 (l:=xs) (i:=(i+j) / 2) (by omega) (by omega)
   rw[ha]
   simp only[oB,less_eq,decide_eq_true_eq]
   by_cases c2:a<t
   ·rw[if_pos c2,n8 (by omega) (by omega)]
    refine .inl ⟨_,rfl,⟨⟨by dsimp only;omega,by dsimp only;omega,g3⟩,fun k b k0 k1 hb=> ?_,g5⟩,by dsimp only;omega⟩
    dsimp only at k1
    obtain⟨_,_,gb⟩:=r7 hb
    by_cases e:k=(i+j) / 2
    ·subst e;rw[ha] at hb;cases hb;exact c2
    ·have:=hs.get gb ga (by omega);omega
   ·rw[if_neg c2]
    refine .inl ⟨_,rfl,⟨⟨g1,by dsimp only;omega,by dsimp only;omega⟩,g4,fun k b k0 hb=> ?_⟩,by dsimp only;omega⟩
    dsimp only at k0
    obtain⟨_,_,gb⟩:=r7 hb
    by_cases e:k=(i+j) / 2
    ·subst e;rw[ha] at hb;cases hb;omega
    ·have:=hs.get ga gb (by omega);omega
  ·rw[if_neg c]
   have:i=j:=by omega
   subst this
   exact .inr ⟨i,rfl,g1,g3,g4,g5⟩)
 rw[h1]
 simp only[oB]
 refine⟨i,?_,h2,h3,h4,h5⟩
 have nin:(∀a,ix xs i=some a→a ≠ t)→t ∉ xs:=fun hne hin=>by
  obtain⟨k,k0,k1,hk⟩:=s9 hin
  rcases Int.lt_trichotomy k i with c|c|c
  ·have:=h4 k t k0 c hk;omega
  ·subst c;exact hne t hk rfl
  ·obtain⟨b,hb,gb⟩:=j7 (l:=xs) (i:=i) (by omega) (by omega)
   obtain⟨_,_,gk⟩:=r7 hk
   have:=hs.get gb gk (by omega)
   have:=h5 i b (Int.le_refl _) hb
   omega
 by_cases c:i<xs.length
 ·obtain⟨a,ha,ga⟩:=j7 (l:=xs) (i:=i) (by omega) c
  rw[if_pos c,ha]
  simp only[oB]
  by_cases c2:a=t
  ·subst c2
   rw[if_pos rfl,l8 (m5 ha)]
   rfl
  ·rw[if_neg c2]
   simp only[L6,decide_true,Bool.not_true,Bool.false_eq_true,if_false,oB]
   rw[q6 (nin fun b hb=>by rw[ha] at hb;cases hb;exact c2)]
 ·rw[if_neg c]
  simp only[oB]
  rw[q6 (nin fun b hb=>by have:=(r7 hb).2.1;omega)]
theorem bsearch2{xs:Li}(hs:Inc xs)(hl:xs.length≤500000)(t:Int):∃i,s8 xs t=some (i,dec (t ∈ xs)):=
 let ⟨i,h,_⟩:=bsearch_eq hs hl t
 ⟨i,h⟩
theorem containsFunc_eq{l:Li}{f:Int→Option Bool}(p:Int→Prop)(hf:∀x ∈ l,f x=some (dec (p x))):u3 l f=some (dec (∃x ∈ l,p x)):=by
 unfold u3 F9
 rcases B7 (body:=C8 l f) (n:=(l.length:Int)) (fun j=>if dec (∀a,ix l j=some a→¬ p a)=true then none else some j) (by omega) (fun j h0 h1 _=>by
  obtain⟨a,ha,_⟩:=j7 (l:=l) h0 h1
  unfold C8
  rw[ha]
  simp only[oB,hf a (m5 ha)]
  by_cases c:p a
  ·rw[if_pos (l8 c),if_neg (by rw[m6];exact fun h=>h a rfl c)]
  ·rw[if_neg (by rw[q6 c];simp),if_pos (l8 fun b hb=>by cases hb;exact c)]) with⟨h1,h2⟩|⟨j,o,h0,h1,h2,_,h4⟩
 ·rw[h1]
  simp only[oB]
  rw[q6]
  ·rfl
  ·rintro ⟨x,hx,hp⟩
   obtain⟨i,g1,g2,g3⟩:=s9 hx
   have:=h2 i g1 g2
   split at this
   ·rename_i h;exact m6.1 h x g3 hp
   ·cases this
 ·rw[h4]
  split at h2
  ·cases h2
  ·rename_i h
   cases h2
   simp only[oB]
   rw[l8]
   ·simp[h0]
   ·simp only[m6] at h
    obtain⟨a,g1,_⟩:=j7 (l:=l) h0 h1
    refine⟨a,m5 g1,?_⟩
    rcases Classical.em (p a) with c|c
    ·exact c
    ·exact absurd (fun b hb=>by rw[g1] at hb;cases hb;exact c) h
theorem meets_eq{a b:Li}(hb:Inc b)(hl:b.length≤500000):X1 a b=some (dec (∃x ∈ a,x ∈ b)):=by
 unfold X1
 rw[containsFunc_eq (fun x=>x ∈ b) (fun x _=>by
  unfold Y3
  obtain⟨i,h⟩:=bsearch2 hb hl x
  rw[h];rfl)]
 rfl
/-! ### Sorted, and equal neighbours made one -/
theorem compact_spec{l:Li}(hs:l.Pairwise (· ≤ ·)):Inc (ac8 l)∧∀x,x ∈ ac8 l↔x ∈ l:=by
 have key:∀m,m≤l.length→Inc (Go.Lib.compactUpTo l.toArray m)∧(∀x,x ∈ Go.Lib.compactUpTo l.toArray m↔x ∈ l.take m):=by
  intro m
  induction m with
  |zero=>intro _;simp[Go.Lib.compactUpTo]
  |succ m ih=>
   intro hm
   obtain⟨h1,h2⟩:=ih (by omega)
   have hlt:m<l.length:=by omega
   have hd:l.toArray[m]! =l[m]:=by simp[hlt]
   have ht:l.take (m+1)=l.take m++[l[m]]:=by rw[List.take_add_one];simp[hlt]
   rw[Go.Lib.compactUpTo_succ,ht]
   by_cases hk:Go.Lib.keeps l.toArray m=true
   ·rw[if_pos hk,hd]
    refine⟨List.pairwise_append.2 ⟨h1,by simp,fun a ha b hb=> ?_⟩,fun x=>by rw[List.mem_append,List.mem_append,h2]⟩
    simp only[List.mem_singleton] at hb
    subst hb
    have ha':=(h2 a).1 ha
    obtain⟨i,hi,rfl⟩:=List.mem_iff_getElem.1 ha'
    rw[List.length_take] at hi
    rw[List.getElem_take]
    simp only[Go.Lib.keeps,decide_eq_true_eq] at hk
    rcases hk with hk|hk
    ·omega
    ·have hm1:l.toArray[m - 1]! =l[m - 1]:=by simp[show m - 1<l.length by omega]
     rw[hd,hm1] at hk
     have e1:l[m - 1]≤l[m]:=List.pairwise_iff_getElem.1 hs (m - 1) m (by omega) hlt (by omega)
     have e2:l[i]≤l[m - 1]:=by
      rcases Nat.lt_or_ge i (m - 1) with c|c
      ·exact List.pairwise_iff_getElem.1 hs i (m - 1) (by omega) (by omega) c
      ·have:i=m - 1:=by omega
       subst this;exact Int.le_refl _
     omega
   ·rw[if_neg hk,List.append_nil]
    refine⟨h1,fun x=> ?_⟩
    rw[h2,List.mem_append]
    refine⟨.inl,fun h=> ?_⟩
    rcases h with h|h
    ·exact h
    ·simp only[List.mem_singleton] at h
     subst h
     have hm0:m ≠ 0:=fun e=>hk (by simp[Go.Lib.keeps,e])
     have hm1:l.toArray[m - 1]! =l[m - 1]:=by simp[show m - 1<l.length by omega]
     have he:l[m]=l[m - 1]:=by
      simp only[Go.Lib.keeps,decide_eq_true_eq,not_or] at hk
      have h3:l.toArray[m]! =l.toArray[m - 1]! :=Classical.not_not.1 (fun h=>hk.2 h)
      rw[hd,hm1] at h3;exact h3
     rw[he,List.mem_take_iff_getElem]
     exact⟨m - 1,by omega,rfl⟩
 obtain⟨h1,h2⟩:=key l.length (Nat.le_refl _)
 refine⟨?_,fun x=> ?_⟩
 ·simpa[ac8,Go.Lib.compact] using h1
 ·have:=h2 x
  rw[List.take_length] at this
  simpa[ac8,Go.Lib.compact] using this
theorem srt_spec(l:Li):(srt l).Pairwise (· ≤ ·)∧∀x,x ∈ srt l↔x ∈ l:=by
 refine⟨?_,fun x=>by simp[srt]⟩
 have:=List.pairwise_mergeSort (le:=fun x y:Int=>decide (x≤y)) (fun a b c h1 h2=>by simp at h1 h2 ⊢;omega) (fun a b=>by simp;omega) l
 refine this.imp fun h=>by simpa using h
theorem sortL_eq{l:Li}(h:l.length<4611686018427387904):sortL l=some (srt l):=by rw[sortL_srt,if_pos h]
theorem update_inc{s add del:Li}(hd:Inc del)(hl:del.length≤500000)(h1:s.length≤500000)(h2:add.length≤500000):
  ∃r,J4 s add del=some r∧Inc r∧∀x,x ∈ r↔(x ∈ s∧x ∉ del)∨x ∈ add:=by
 unfold J4
 rw[forR_filter (l:=s) (b:=8) (fun a=>a ∉ del) (fun j a c h=>by
  obtain⟨i,hi⟩:=bsearch2 hd hl a
  unfold ad7
  rw[h]
  simp only[oB,hi,y9]
  refine⟨fun hq=> ?_,fun hq=> ?_⟩
  ·rw[if_pos (l8 hq)]
   cases app 8 c [a]<;>rfl
  ·rw[if_neg (by simpa using hq)];rfl) [] (by simp;omega)]
 simp only[oB,List.nil_append]
 have hle:(s.filter fun a=>dec (a ∉ del)).length≤s.length:=List.length_filter_le _ _
 rw[show app 8 (s.filter fun a=>dec (a ∉ del)) add=some ((s.filter fun a=>dec (a ∉ del))++add) by rw[app,if_pos];omega]
 simp only[oB]
 rw[sortL_eq (by rw[List.length_append];omega)]
 simp only[oB]
 obtain⟨e1,e2⟩:=srt_spec ((s.filter fun a=>dec (a ∉ del))++add)
 obtain⟨e3,e4⟩:=compact_spec e1
 refine⟨_,rfl,e3,fun x=> ?_⟩
 rw[e4,e2,List.mem_append,List.mem_filter,m6]
theorem update_eq{s add del:Li}{n:Int}(hn:n≤1000)(hd:Inc del)(hl:del.length≤500000)(hs:SetN s n)(ha:SetN add n):
  J4 s add del=some (P9 (fun x=>(x ∈ s∧x ∉ del)∨x ∈ add) n):=by
 have h1:=hs.len;have h2:=ha.len
 obtain⟨r,e1,e2,e3⟩:=update_inc (s:=s) (add:=add) hd hl (by omega) (by omega)
 rw[e1,SetN.eq_of (n:=n) ⟨e2,fun x hx=> ?_⟩ (fun x _ _=>e3 x)]
 rcases(e3 x).1 hx with h|h
 ·exact hs.2 x h.1
 ·exact ha.2 x h
end Ab
end
