/- V-logic -/
import Derived.Test.YtdbhfajlffaneaaGreatVEF
import Derived.ChangeSlices
import Derived.ChangeSame
import Derived.OpenShut
import Derived.ShutString
import Derived.ChangeOld
import Derived.Below
namespace Go.VL
set_option linter.unusedVariables false
set_option linter.unusedSimpArgs false
open Go.ChangeShapes Go.WideShapes Go.RowKit
variable {H : Type} {enc : TypeId × Value → H} {P : Program} {w : World} {base : Nat} {spare : Nat → Bool} {held : Bool}
theorem zjl {w:World} {a:Addr} {v:Value} (h:w.cell? a=some v):a.block<w.heap.size∧a.spot=none:=by
 unfold World.cell? at h
 split at h
 ·rename_i c e z hb
  refine⟨?_,?_⟩
  ·exact(Array.getElem?_eq_some_iff.1 hb).1
  ·split at h
   ·cases h
   ·rename_i hs;cases hq:a.spot with
    |none=>rfl
    |some x=>simp[hq]at hs
 ·cases h
theorem zi1 {a:Addr} (h:a.spot=none) (i:Nat):a.add i=⟨a.block,a.off+i,none⟩:=by
 unfold Addr.add
 split
 ·rename_i h0;subst h0;cases a;simp_all
 ·rfl
theorem calls_of_spec {f:Nat} {args:List V} {argv:List Value} (hs:zr P f 0 args [] 0 (.c (.bool true)) []) (hl:args.length=argv.length)
  (hr:∀(i:Nat) x v,args[i]? = some x→argv[i]? = some v→RV (λb=>b<w.heap.size) (λ_=>none) 0 w x v) :
  Calls P f argv.toArray w λe w'=>e=.returned (.bool true)∧Below w.heap.size w w':=by
 refine(hs.2 w (λb=>b<w.heap.size) (λ_=>none) argv (λ_ h=>h) ⟨λ_ _ h=>(nomatch h),λ_ _ _ h=>(nomatch h),List.nodup_nil,λ_ _ _ _ _ h=>(nomatch h)⟩ hl hr).mono ?_
 rintro e w' ⟨v,I',g',rfl,_,_,_,_,hv,_,_,hf⟩
 refine⟨?_,hf.os,hf.tape,hf.output,hf.size,λb hb=>hf.block b hb λ⟨_,_,h,_⟩=>by cases h⟩
 cases hv with
 |c _ _ h=>cases h with
  |bool b=>rfl
  |empty _ _ _ hs=>cases hs
  |sl _ _ _ _ _ hs=>cases hs
end Go.VL
namespace Go.VL
set_option linter.unusedVariables false
set_option linter.unusedSimpArgs false
open Go.ChangeShapes Go.WideShapes Go.RowKit
variable {H : Type} {enc : TypeId × Value → H} {P : Program} {w : World} {base : Nat} {spare : Nat → Bool} {held : Bool}
theorem z0s {t e:TypeId} {k:IntKind} {fuel:Nat} {v:Value} {x:DataW H×List MemPlace} (ht:P.underlying t=some (.slice e)) (he:P.underlying e=some (.int k)) (hc:P.cellsOf e=1)
  (h:DataW.trod enc P w base spare held fuel t [v]=some x):∃xs:List Int,xs.length≤9223372036854775807∧(∀n∈xs,k.min≤n∧n≤k.max)∧RC (λb=>b<w.heap.size) w (.nums k xs) v:=by
 rcases open_ints ht he hc h with ⟨hv,_⟩|⟨a,len,cap,zs,hv,_,hl,hm,hz,_,hcell,hwf⟩
 ·cases hv;exact⟨[],by simp,by simp,.empty _ _ _ rfl rfl⟩
 ·cases hv
  have hm':cap≤9223372036854775807:=hm
  have hz':len≤zs.length:=by rw[hz];split<;>omega
  refine⟨zs.take len,by simp;omega,λn hn=>?_,?_⟩
  ·have:=hwf n (List.mem_of_mem_take hn)
   simp only[Lit.wf,Bool.and_eq_true,decide_eq_true_eq]at this
   exact this
  have hlen:(zs.take len).length=len:=by simp;omega
  by_cases h0:len=0
  ·subst h0
   exact .empty _ _ _ rfl (by simp[C.len])
  ·have c0:=hcell 0 (by omega)
   have hb:=zjl c0
   have hsp:a.spot=none:=by
    have:=hb.2
    simpa [Addr.add]using this
   have hblk:a.block<w.heap.size:=by
    have:=hb.1
    simpa [Addr.add]using this
   obtain⟨b,off,sp⟩:=a
   cases hsp
   have:=RC.sl (I:=λb=>b<w.heap.size) (w:=w) (.nums k (zs.take len)) b off cap (λi j=>.int k (zs.getD i 0)) rfl hblk (by rw[show C.len (.nums k (zs.take len))=len from hlen];exact hl)
    (λi j y hi hy=>?_) (λi j y hi hy=>?_)
   ·rwa [show C.len (.nums k (zs.take len))=len from hlen]at this
   ·have hi':i<len:=by rw[show C.len (.nums k (zs.take len))=len from hlen]at hi;exact hi
    cases j with
    |zero =>
     have:=hcell i (by omega)
     rw[zi1 rfl]at this
     simpa [C.stride]using this
    |succ j=>simp[C.row]at hy
   ·have hi':i<len:=by rw[show C.len (.nums k (zs.take len))=len from hlen]at hi;exact hi
    cases j with
    |zero =>
     simp[C.row]at hy
     subst hy
     have e:(List.take len zs)[i]?.getD 0=zs.getD i 0:=by
      rw[List.getElem?_take,if_pos hi'];simp[List.getD]
     rw[e]
     exact .int _ _
    |succ j=>simp[C.row]at hy
theorem rc_bytes {t e:TypeId} {fuel:Nat} {v:Value} {x:DataW H×List MemPlace} (ht:P.underlying t=some (.slice e)) (he:P.underlying e=some (.int .u8)) (hc:P.cellsOf e=1)
  (h:DataW.trod enc P w base spare held fuel t [v]=some x):∃xs:List Int,xs.length≤9223372036854775807∧(∀n∈xs,0≤n∧n≤255)∧RC (λb=>b<w.heap.size) w (.nums .u8 xs) v:=by
 obtain⟨xs,h1,h2,h3⟩:=z0s ht he hc h
 exact⟨xs,h1,λn hn=>by
  have h4:=h2 n hn
  rw[show IntKind.u8.min=0 by decide,show IntKind.u8.max=255 by decide]at h4
  exact h4,h3⟩
end Go.VL
