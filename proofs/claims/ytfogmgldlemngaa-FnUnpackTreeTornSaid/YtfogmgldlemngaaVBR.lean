/- V-logic: Bridge Bridge2 -/
import Derived.Test.YtfogmgldlemngaaVEF
import Derived.ChangeSlices
import Derived.ChangeSame
import Derived.OpenShut
import Derived.ShutString
import Derived.ChangeOld
import Derived.Below
namespace Go.VL
set_option linter.unusedVariables false
set_option linter.unusedSimpArgs false
open Go.ChangeShapes Go.WideShapes Go.RowKit
variable {H : Type} {enc : TypeId × Value → H} {P : Program} {w : World} {base : Nat} {spare : Nat → Bool} {held : Bool}
theorem zjl {w:World} {a:Addr} {v:Value} (h:w.cell? a=some v):a.block<w.heap.size∧a.spot=none:=by
 unfold World.cell? at h
 split at h
 ·rename_i c e z hb
  refine⟨?_,?_⟩
  ·exact(Array.getElem?_eq_some_iff.1 hb).1
  ·split at h
   ·cases h
   ·rename_i hs;cases hq:a.spot with
    |none=>rfl
    |some x=>simp[hq]at hs
 ·cases h
theorem zi1 {a:Addr} (h:a.spot=none) (i:Nat):a.add i=⟨a.block,a.off+i,none⟩:=by
 unfold Addr.add
 split
 ·rename_i h0;subst h0;cases a;simp_all
 ·rfl
theorem ztl {t:TypeId} {k:IntKind} {fuel:Nat} {cs:List Value} {x:DataW H×List MemPlace} (ht:P.underlying t=some (.int k)) (h:DataW.trod enc P w base spare held fuel t cs=some x):∃n,cs=[.int k n]∧(Lit.int k n).wf=true:=by
 cases fuel with
 |zero=>simp[DataW.trod]at h
 |succ m =>
  unfold DataW.trod at h
  rw[ht]at h
  split at h<;>simp_all
theorem rc_ints {t e:TypeId} {k:IntKind} {fuel:Nat} {v:Value} {x:DataW H×List MemPlace} (ht:P.underlying t=some (.slice e)) (he:P.underlying e=some (.int k)) (hc:P.cellsOf e=1)
  (h:DataW.trod enc P w base spare held fuel t [v]=some x):∃xs:List Int,xs.length≤9223372036854775807∧RC (fun b=>b<w.heap.size) w (.nums k xs) v:=by
 rcases open_ints ht he hc h with ⟨hv,_⟩|⟨a,len,cap,zs,hv,_,hl,hm,hz,_,hcell,_⟩
 ·cases hv;exact⟨[],by simp,.empty _ _ _ rfl rfl⟩
 ·cases hv
  have hm':cap≤9223372036854775807:=hm
  have hz':len≤zs.length:=by rw[hz];split<;>omega
  refine⟨zs.take len,by simp;omega,?_⟩
  have hlen:(zs.take len).length=len:=by simp;omega
  by_cases h0:len=0
  ·subst h0
   exact .empty _ _ _ rfl (by simp[C.len])
  ·have c0:=hcell 0 (by omega)
   have hb:=zjl c0
   have hsp:a.spot=none:=by
    have:=hb.2
    simpa [Addr.add]using this
   have hblk:a.block<w.heap.size:=by
    have:=hb.1
    simpa [Addr.add]using this
   obtain⟨b,off,sp⟩:=a
   cases hsp
   have:=RC.sl (I:=fun b=>b<w.heap.size) (w:=w) (.nums k (zs.take len)) b off cap (fun i j=>.int k (zs.getD i 0)) rfl hblk (by rw[show C.len (.nums k (zs.take len))=len from hlen];exact hl)
    (fun i j y hi hy=>?_) (fun i j y hi hy=>?_)
   ·rwa [show C.len (.nums k (zs.take len))=len from hlen]at this
   ·have hi':i<len:=by rw[show C.len (.nums k (zs.take len))=len from hlen]at hi;exact hi
    cases j with
    |zero =>
     have:=hcell i (by omega)
     rw[zi1 rfl]at this
     simpa [C.stride]using this
    |succ j=>simp[C.row]at hy
   ·have hi':i<len:=by rw[show C.len (.nums k (zs.take len))=len from hlen]at hi;exact hi
    cases j with
    |zero =>
     simp[C.row]at hy
     subst hy
     have e:(List.take len zs)[i]?.getD 0=zs.getD i 0:=by
      rw[List.getElem?_take,if_pos hi'];simp[List.getD]
     rw[e]
     exact .int _ _
    |succ j=>simp[C.row]at hy
theorem zux {α:Type} (d:α) (len:Nat) (R:Nat→α→Prop) (h:∀i,i<len→∃y,R i y):∃xs:List α,xs.length=len∧∀i,i<len→R i (xs.getD i d):=by
 induction len with
 |zero=>exact⟨[],rfl,fun i hi=>by omega⟩
 |succ n ih =>
  obtain⟨xs,hl,hx⟩:=ih fun i hi=>h i (by omega)
  obtain⟨y,hy⟩:=h n (by omega)
  refine⟨xs++[y],by simp[hl],fun i hi=>?_⟩
  by_cases hin:i<n
  ·rw[List.getD_eq_getElem?_getD,List.getElem?_append_left (by omega),←List.getD_eq_getElem?_getD];exact hx i hin
  ·have:i=n:=by omega
   subst this
   rw[List.getD_eq_getElem?_getD,List.getElem?_append_right (by omega),hl]
   simpa using hy
def RowIn (w:World) (b o:Nat) (row:List C):Prop:=∀(j:Nat) (x:C),row[j]? = some x→∃v,w.cell? ⟨b,o+j,none⟩=some v∧RC (fun b=>b<w.heap.size) w x v
theorem z16 {α:Type} (d:α) (rowOf:α→List C) (Q:α→Prop) {t e:TypeId} {st fuel:Nat} {v:Value} {x:DataW H×List MemPlace} (ht:P.underlying t=some (.slice e)) (hc:P.cellsOf e=st) (hst:0<st)
  (hrow:∀(n:Nat) (cs:List Value) (y:DataW H×List MemPlace),DataW.trod enc P w base spare held n e cs=some y→∃el,Q el∧∀(j:Nat) (z:C),(rowOf el)[j]? = some z→∃u,cs[j]? = some u∧RC (fun b=>b<w.heap.size) w z u)
  (h:DataW.trod enc P w base spare held fuel t [v]=some x) :
  ∃(xs:List α) (a:Option Addr) (cap:Nat),v=.slice a xs.length cap∧xs.length≤cap∧cap≤9223372036854775807∧(∀y∈xs,Q y) ∧
   (0<xs.length→∃b off,a=some ⟨b,off,none⟩∧b<w.heap.size∧∀i,i<xs.length→RowIn w b (off+i*st) (rowOf (xs.getD i d))):=by
 rcases DataW.trod_slice ht h with ⟨hv,_⟩|⟨a,len,cap,elems,rest,n,_,hv,_,hb,hl,hm,hlen,hel,_,_⟩
 ·cases hv;exact⟨[],none,0,rfl,by simp,by omega,by simp,by simp⟩
 ·cases hv
  have hm':cap≤9223372036854775807:=hm
  have one:∀i,i<len→∃el,Q el∧∀(j:Nat) (z:C),(rowOf el)[j]? = some z→∃u,w.cell? ((a.add (i*st)).add j)=some u∧RC (fun b=>b<w.heap.size) w z u:=by
   intro i hi
   have h1:=hel i hi
   rw[show elems[i]? = some elems[i] by simp[hlen,hi],hc]at h1
   simp only[Option.bind_eq_some_iff]at h1
   obtain⟨cs,h1,h2⟩:=h1
   obtain⟨el,hq,hel⟩:=hrow _ _ _ h2
   refine⟨el,hq,fun j z hz=>?_⟩
   obtain⟨u,hu,hr⟩:=hel j z hz
   refine⟨u,?_,hr⟩
   unfold World.cells? at h1
   split at h1
   ·have hjl:j<cs.length:=(List.getElem?_eq_some_iff.1 hu).1
    have hjs:j<st:=by
     have:=mapM_some_length h1
     simp at this;omega
    have:=mapM_some_get h1 j j (by simp[hjs])
    rw[this,hu]
   ·cases h1
  obtain⟨xs,hxl,hx⟩:=zux d len (fun i el=>Q el∧∀(j:Nat) (z:C),(rowOf el)[j]? = some z→∃u,w.cell? ((a.add (i*st)).add j)=some u∧RC (fun b=>b<w.heap.size) w z u) one
  refine⟨xs,some a,cap,by rw[hxl],by omega,hm',fun y hy=>?_,fun h0=>?_⟩
  ·obtain⟨i,hi,rfl⟩:=List.getElem_of_mem hy
   have:=(hx i (by omega)).1
   simpa [List.getD,hi]using this
  ·have h1:=hel 0 (by omega)
   rw[List.getElem?_eq_getElem (show 0<elems.length by omega),hc]at h1
   simp only[Option.bind_eq_some_iff]at h1
   obtain⟨cs,h1,_⟩:=h1
   have hc0:∃u,w.cell? (a.add 0)=some u:=by
    unfold World.cells? at h1
    split at h1
    ·have h3:=mapM_some_get h1 0 0 (by simp[hst])
     have h4:=mapM_some_length h1
     simp only[List.length_range]at h4
     rw[List.getElem?_eq_getElem (show 0<cs.length by omega)]at h3
     have h5:w.cell? (a.add 0)=some (cs[0]'(by omega)):=by simpa [Addr.add]using h3
     exact⟨_,h5⟩
    ·cases h1
   obtain⟨u,hu⟩:=hc0
   have hb:=zjl hu
   have hsp:a.spot=none:=by simpa [Addr.add]using hb.2
   have hblk:a.block<w.heap.size:=by simpa [Addr.add]using hb.1
   obtain⟨b,off,sp⟩:=a
   cases hsp
   refine⟨b,off,rfl,hblk,fun i hi j z hz=>?_⟩
   obtain⟨u,hu,hr⟩:=(hx i (by omega)).2 j z hz
   rw[zi1 (a:=⟨b,off,none⟩) rfl,zi1 rfl]at hu
   exact⟨u,hu,hr⟩
theorem calls_of_spec {f:Nat} {args:List V} {argv:List Value} (hs:zr P f 0 args [] 0 (.c (.bool true)) []) (hl:args.length=argv.length)
  (hr:∀(i:Nat) x v,args[i]? = some x→argv[i]? = some v→RV (fun b=>b<w.heap.size) (fun _=>none) 0 w x v) :
  Calls P f argv.toArray w fun e w'=>e=.returned (.bool true)∧Below w.heap.size w w':=by
 refine(hs.2 w (fun b=>b<w.heap.size) (fun _=>none) argv (fun _ h=>h) ⟨fun _ _ h=>(nomatch h),fun _ _ _ h=>(nomatch h),List.nodup_nil,fun _ _ _ _ _ h=>(nomatch h)⟩ hl hr).mono ?_
 rintro e w' ⟨v,I',g',rfl,_,_,_,_,hv,_,_,hf⟩
 refine⟨?_,hf.os,hf.tape,hf.output,hf.size,fun b hb=>hf.block b hb fun⟨_,_,h,_⟩=>by cases h⟩
 cases hv with
 |c _ _ h=>cases h with
  |bool b=>rfl
  |empty _ _ _ hs=>cases hs
  |sl _ _ _ _ _ hs=>cases hs
end Go.VL
namespace Go.VL
set_option linter.unusedVariables false
set_option linter.unusedSimpArgs false
open Go.ChangeShapes Go.WideShapes Go.RowKit
variable {H : Type} {enc : TypeId × Value → H} {P : Program} {w : World} {base : Nat} {spare : Nat → Bool} {held : Bool}
theorem z0s {t e:TypeId} {k:IntKind} {fuel:Nat} {v:Value} {x:DataW H×List MemPlace} (ht:P.underlying t=some (.slice e)) (he:P.underlying e=some (.int k)) (hc:P.cellsOf e=1)
  (h:DataW.trod enc P w base spare held fuel t [v]=some x):∃xs:List Int,xs.length≤9223372036854775807∧(∀n∈xs,k.min≤n∧n≤k.max)∧RC (fun b=>b<w.heap.size) w (.nums k xs) v:=by
 rcases open_ints ht he hc h with ⟨hv,_⟩|⟨a,len,cap,zs,hv,_,hl,hm,hz,_,hcell,hwf⟩
 ·cases hv;exact⟨[],by simp,by simp,.empty _ _ _ rfl rfl⟩
 ·cases hv
  have hm':cap≤9223372036854775807:=hm
  have hz':len≤zs.length:=by rw[hz];split<;>omega
  refine⟨zs.take len,by simp;omega,fun n hn=>?_,?_⟩
  ·have:=hwf n (List.mem_of_mem_take hn)
   simp only[Lit.wf,Bool.and_eq_true,decide_eq_true_eq]at this
   exact this
  have hlen:(zs.take len).length=len:=by simp;omega
  by_cases h0:len=0
  ·subst h0
   exact .empty _ _ _ rfl (by simp[C.len])
  ·have c0:=hcell 0 (by omega)
   have hb:=zjl c0
   have hsp:a.spot=none:=by
    have:=hb.2
    simpa [Addr.add]using this
   have hblk:a.block<w.heap.size:=by
    have:=hb.1
    simpa [Addr.add]using this
   obtain⟨b,off,sp⟩:=a
   cases hsp
   have:=RC.sl (I:=fun b=>b<w.heap.size) (w:=w) (.nums k (zs.take len)) b off cap (fun i j=>.int k (zs.getD i 0)) rfl hblk (by rw[show C.len (.nums k (zs.take len))=len from hlen];exact hl)
    (fun i j y hi hy=>?_) (fun i j y hi hy=>?_)
   ·rwa [show C.len (.nums k (zs.take len))=len from hlen]at this
   ·have hi':i<len:=by rw[show C.len (.nums k (zs.take len))=len from hlen]at hi;exact hi
    cases j with
    |zero =>
     have:=hcell i (by omega)
     rw[zi1 rfl]at this
     simpa [C.stride]using this
    |succ j=>simp[C.row]at hy
   ·have hi':i<len:=by rw[show C.len (.nums k (zs.take len))=len from hlen]at hi;exact hi
    cases j with
    |zero =>
     simp[C.row]at hy
     subst hy
     have e:(List.take len zs)[i]?.getD 0=zs.getD i 0:=by
      rw[List.getElem?_take,if_pos hi'];simp[List.getD]
     rw[e]
     exact .int _ _
    |succ j=>simp[C.row]at hy
theorem rc_bytes {t e:TypeId} {fuel:Nat} {v:Value} {x:DataW H×List MemPlace} (ht:P.underlying t=some (.slice e)) (he:P.underlying e=some (.int .u8)) (hc:P.cellsOf e=1)
  (h:DataW.trod enc P w base spare held fuel t [v]=some x):∃xs:List Int,xs.length≤9223372036854775807∧(∀n∈xs,0≤n∧n≤255)∧RC (fun b=>b<w.heap.size) w (.nums .u8 xs) v:=by
 obtain⟨xs,h1,h2,h3⟩:=z0s ht he hc h
 exact⟨xs,h1,fun n hn=>by
  have h4:=h2 n hn
  rw[show IntKind.u8.min=0 by decide,show IntKind.u8.max=255 by decide]at h4
  exact h4,h3⟩
end Go.VL
