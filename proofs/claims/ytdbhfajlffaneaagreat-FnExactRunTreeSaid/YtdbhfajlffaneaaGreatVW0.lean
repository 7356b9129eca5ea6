/- V-logic -/
import Derived.Test.YtdbhfajlffaneaaGreatVBR
import Derived.Test.YtdbhfajlffaneaaGreatVEF
import Derived.Test.YtdbhfajlffaneaaGreatProg
import Derived.JoinedOf
import Derived.KernelRfl
namespace Go.VL
set_option linter.unusedVariables false
set_option linter.unusedSimpArgs false
open Go.ChangeShapes Go.WideShapes Go.RowKit
variable {H : Type} {enc : TypeId × Value → H} {P : Program} {w : World} {base : Nat} {spare : Nat → Bool} {held : Bool}
theorem rc_pages {t e ti te:TypeId} {f0 f1 f2:Field} {fuel:Nat} {v:Value} {x:DataW H×List MemPlace} (ht:P.underlying t=some (.slice e)) (he:P.underlying e=some (.struct #[f0,f1,f2])) (hc:P.cellsOf e=3)
  (h0:f0.type=ti∧f0.offset=0) (h1:f1.type=ti∧f1.offset=1) (h2:f2.type=ti∧f2.offset=2) (hi:P.cellsOf ti=1∧P.underlying ti=some (.slice te)∧P.underlying te=some (.int .i64)∧P.cellsOf te=1)
  (h:DataW.trod enc P w base spare held fuel t [v]=some x):∃xs:List Pg,xs.length≤9223372036854775807∧(∀p∈xs,p.keys.length≤9223372036854775807∧p.kids.length≤9223372036854775807∧p.vals.length≤9223372036854775807)∧RC (λb=>b<w.heap.size) w (.pgs xs) v:=by
 obtain⟨a0,b0⟩:=h0
 obtain⟨a1,b1⟩:=h1
 obtain⟨a2,b2⟩:=h2
 obtain⟨c0,d0,e0,g0⟩:=hi
 have hrow:∀(n:Nat) (cs:List Value) (y:DataW H×List MemPlace),DataW.trod enc P w base spare held n e cs=some y→∃el:Pg,(el.keys.length≤9223372036854775807∧el.kids.length≤9223372036854775807∧el.vals.length≤9223372036854775807)∧∀(j:Nat) (z:C),(el.row)[j]? = some z→∃u,cs[j]? = some u∧RC (λb=>b<w.heap.size) w z u:=by
  intro n cs y hy
  obtain⟨ys,m,_,_,hcl,hyl,hf⟩:=DataW.trod_struct he hy
  have k0:=hf 0 f0 rfl
  have k1:=hf 1 f1 rfl
  have k2:=hf 2 f2 rfl
  rw[a0,b0,c0]at k0
  rw[a1,b1,c0]at k1
  rw[a2,b2,c0]at k2
  rw[hc]at hcl
  simp at hyl
  rw[List.getElem?_eq_getElem (show 0<ys.length by omega)]at k0
  rw[List.getElem?_eq_getElem (show 1<ys.length by omega)]at k1
  rw[List.getElem?_eq_getElem (show 2<ys.length by omega)]at k2
  match cs,hcl with
  |[u0,u1,u2],_ =>
   obtain⟨x0,l0,r0⟩:=rc_ints d0 e0 g0 k0
   obtain⟨x1,l1,r1⟩:=rc_ints d0 e0 g0 k1
   obtain⟨x2,l2,r2⟩:=rc_ints d0 e0 g0 k2
   refine⟨⟨x0,x1,x2⟩,⟨l0,l1,l2⟩,λj z hz=>?_⟩
   match j,hz with
   |0,hz=>cases hz;exact⟨_,rfl,r0⟩
   |1,hz=>cases hz;exact⟨_,rfl,r1⟩
   |2,hz=>cases hz;exact⟨_,rfl,r2⟩
 obtain⟨xs,a,cap,hv,hl,hm,hq,hx⟩:=z16 (d:=(⟨[],[],[]⟩:Pg)) Pg.row (λl=>l.keys.length≤9223372036854775807∧l.kids.length≤9223372036854775807∧l.vals.length≤9223372036854775807) ht hc (by decide) hrow h
 refine⟨xs,by omega,hq,?_⟩
 by_cases h0:xs.length=0
 ·subst hv;rw[h0];exact .empty _ _ _ rfl h0
 ·obtain⟨b,off,rfl,hb,hr⟩:=hx (by omega)
  subst hv
  have hr':∀(i j:Nat) (z:C),i<xs.length→(C.row (.pgs xs) i)[j]? = some z→∃u,w.cell? ⟨b,off+i*3+j,none⟩=some u∧RC (λb=>b<w.heap.size) w z u:=λi j z hi hz=>hr i hi j z hz
  exact RC.sl (.pgs xs) b off cap (λi j=>(w.cell? ⟨b,off+i*3+j,none⟩).getD (.bool false)) rfl hb hl
   (λi j z hi hz=>by obtain⟨u,hu,_⟩:=hr' i j z hi hz;show w.cell? ⟨b,off+i*3+j,none⟩=_;rw[hu];rfl)
   (λi j z hi hz=>by obtain⟨u,hu,hu2⟩:=hr' i j z hi hz;rw[hu];exact hu2)
theorem rc_oplist {t e tk:TypeId} {f0 f1 f2:Field} {fuel:Nat} {v:Value} {x:DataW H×List MemPlace} (ht:P.underlying t=some (.slice e)) (he:P.underlying e=some (.struct #[f0,f1,f2])) (hc:P.cellsOf e=3)
  (h0:f0.type=tk∧f0.offset=0) (h1:f1.type=tk∧f1.offset=1) (h2:f2.type=tk∧f2.offset=2) (hi:P.cellsOf tk=1∧P.underlying tk=some (.int .i64))
  (h:DataW.trod enc P w base spare held fuel t [v]=some x):∃xs:List Opn,xs.length≤9223372036854775807∧RC (λb=>b<w.heap.size) w (.ops xs) v:=by
 obtain⟨a0,b0⟩:=h0
 obtain⟨a1,b1⟩:=h1
 obtain⟨a2,b2⟩:=h2
 obtain⟨c0,d0⟩:=hi
 have hrow:∀(n:Nat) (cs:List Value) (y:DataW H×List MemPlace),DataW.trod enc P w base spare held n e cs=some y→∃el:Opn,True∧∀(j:Nat) (z:C),(el.row)[j]? = some z→∃u,cs[j]? = some u∧RC (λb=>b<w.heap.size) w z u:=by
  intro n cs y hy
  obtain⟨ys,m,_,_,hcl,hyl,hf⟩:=DataW.trod_struct he hy
  have k0:=hf 0 f0 rfl
  have k1:=hf 1 f1 rfl
  have k2:=hf 2 f2 rfl
  rw[a0,b0,c0]at k0
  rw[a1,b1,c0]at k1
  rw[a2,b2,c0]at k2
  rw[hc]at hcl
  simp at hyl
  rw[List.getElem?_eq_getElem (show 0<ys.length by omega)]at k0
  rw[List.getElem?_eq_getElem (show 1<ys.length by omega)]at k1
  rw[List.getElem?_eq_getElem (show 2<ys.length by omega)]at k2
  match cs,hcl with
  |[u0,u1,u2],_ =>
   obtain⟨n0,hn0,_⟩:=ztl d0 k0
   obtain⟨n1,hn1,_⟩:=ztl d0 k1
   obtain⟨n2,hn2,_⟩:=ztl d0 k2
   cases hn0
   cases hn1
   cases hn2
   refine⟨⟨n0,n1,n2⟩,trivial,λj z hz=>?_⟩
   match j,hz with
   |0,hz=>cases hz;exact⟨_,rfl,.int _ _⟩
   |1,hz=>cases hz;exact⟨_,rfl,.int _ _⟩
   |2,hz=>cases hz;exact⟨_,rfl,.int _ _⟩
 obtain⟨xs,a,cap,hv,hl,hm,hq,hx⟩:=z16 (d:=(⟨0,0,0⟩:Opn)) Opn.row (λ_=>True) ht hc (by decide) hrow h
 refine⟨xs,by omega,?_⟩
 by_cases h0:xs.length=0
 ·subst hv;rw[h0];exact .empty _ _ _ rfl h0
 ·obtain⟨b,off,rfl,hb,hr⟩:=hx (by omega)
  subst hv
  have hr':∀(i j:Nat) (z:C),i<xs.length→(C.row (.ops xs) i)[j]? = some z→∃u,w.cell? ⟨b,off+i*3+j,none⟩=some u∧RC (λb=>b<w.heap.size) w z u:=λi j z hi hz=>hr i hi j z hz
  exact RC.sl (.ops xs) b off cap (λi j=>(w.cell? ⟨b,off+i*3+j,none⟩).getD (.bool false)) rfl hb hl
   (λi j z hi hz=>by obtain⟨u,hu,_⟩:=hr' i j z hi hz;show w.cell? ⟨b,off+i*3+j,none⟩=_;rw[hu];rfl)
   (λi j z hi hz=>by obtain⟨u,hu,hu2⟩:=hr' i j z hi hz;rw[hu];exact hu2)
theorem rc_tree {t tp tk e ti te:TypeId} {f0 f1 f2 g0 g1:Field} {fuel:Nat} {cs:List Value} {x:DataW H×List MemPlace} (hs:P.underlying t=some (.struct #[g0,g1])) (hcs:P.cellsOf t=2)
  (hg0:g0.type=tk∧g0.offset=0∧P.cellsOf tk=1∧P.underlying tk=some (.int .i64)) (hg1:g1.type=tp∧g1.offset=1∧P.cellsOf tp=1)
  (ht:P.underlying tp=some (.slice e)) (he:P.underlying e=some (.struct #[f0,f1,f2])) (hc:P.cellsOf e=3)
  (h0:f0.type=ti∧f0.offset=0) (h1:f1.type=ti∧f1.offset=1) (h2:f2.type=ti∧f2.offset=2) (hi:P.cellsOf ti=1∧P.underlying ti=some (.slice te)∧P.underlying te=some (.int .i64)∧P.cellsOf te=1)
  (h:DataW.trod enc P w base spare held fuel t cs=some x):∃(root:Int) (xs:List Pg) (v:Value),cs=[.int .i64 root,v]∧xs.length≤9223372036854775807∧(∀p∈xs,p.keys.length≤9223372036854775807∧p.kids.length≤9223372036854775807∧p.vals.length≤9223372036854775807)∧RC (λb=>b<w.heap.size) w (.pgs xs) v:=by
 obtain⟨ys,m,_,_,hcl,hyl,hf⟩:=DataW.trod_struct hs h
 obtain⟨a0,b0,c0,d0⟩:=hg0
 obtain⟨a1,b1,c1⟩:=hg1
 have k0:=hf 0 g0 rfl
 have k1:=hf 1 g1 rfl
 rw[a0,b0,c0]at k0
 rw[a1,b1,c1]at k1
 rw[hcs]at hcl
 simp at hyl
 rw[List.getElem?_eq_getElem (show 0<ys.length by omega)]at k0
 rw[List.getElem?_eq_getElem (show 1<ys.length by omega)]at k1
 match cs,hcl with
 |[u0,u1],_ =>
  obtain⟨n0,hn0,_⟩:=ztl d0 k0
  cases hn0
  obtain⟨xs,l,q,r⟩:=rc_pages ht he hc h0 h1 h2 hi k1
  exact⟨n0,xs,u1,rfl,l,q,r⟩
end Go.VL
namespace Go.VL
open Go.Proofs
set_option linter.unusedVariables false
set_option maxRecDepth 100000
theorem zlm:∀(a r:List Char),(∀c∈a,c≠Char.ofNat 32)→wordsSigns (a++Char.ofNat 32::r)=a::wordsSigns r
 |[],r,_=>rfl
 |c::a,r,h=>by
  rw[List.cons_append,wordsSigns,zlm a r λx hx=>h x (List.mem_cons_of_mem _ hx)]
  exact h c (by simp)
theorem io0 : Tryz.prog.initOrder = "harness 59a570790ad3637b92e43cea4b31718477f1d1be9d9f6b905bba1bfede38799a cut at loop.example/pagetree/laws.FnDropAllEmpty loop.example/pagetree/laws.FnDropAllPairs loop.example/pagetree/laws.FnExactRunDone loop.example/pagetree/laws.FnExactRunResults loop.example/pagetree/laws.FnExactRunTree loop.example/pagetree/laws.FnExactRunHeld loop.example/pagetree/laws.FnDropKeyPut" := by kernel_rfl
def io1:{l:List Char // Tryz.prog.initOrder.toList=l}:=⟨_,(congrArg String.toList io0).trans String.toList_ofList⟩
def wd0 : {l : List Char // "harness".toList = l} := ⟨_, String.toList_ofList⟩
theorem wn0:∀c∈wd0.1,c≠Char.ofNat 32:=by unfold wd0;decide
def wd1 : {l : List Char // "59a570790ad3637b92e43cea4b31718477f1d1be9d9f6b905bba1bfede38799a".toList = l} := ⟨_, String.toList_ofList⟩
theorem wn1:∀c∈wd1.1,c≠Char.ofNat 32:=by unfold wd1;decide
def wd2 : {l : List Char // "cut".toList = l} := ⟨_, String.toList_ofList⟩
theorem wn2:∀c∈wd2.1,c≠Char.ofNat 32:=by unfold wd2;decide
theorem z3m {l H S C r:List Char} (h:l=H++Char.ofNat 32::(S++Char.ofNat 32::(C++Char.ofNat 32::r))) (h1:∀c∈H,c≠Char.ofNat 32) (h2:∀c∈S,c≠Char.ofNat 32) (h3:∀c∈C,c≠Char.ofNat 32):wordsSigns l=H::S::C::wordsSigns r:=by
 rw[h,zlm _ _ h1,zlm _ _ h2,zlm _ _ h3]
theorem z1y {P : Program} {l H S C : List Char} {r : List Char} (hl : P.initOrder.toList = l) (h : wordsSigns l = H :: S :: C :: wordsSigns r) (hs : ((H == "harness".toList || H == "ownmain".toList) && isSumSigns S) = true) : behindMainWord (wordsSigns P.initOrder.toList) = C :: wordsSigns r := by
 rw[hl,h]
 unfold behindMainWord
 dsimp only
 rw[if_pos hs]
theorem zxk:∀(os:List String) (w:List Char) (z:List (List Char)),(os.all λo=>!(w==o.toList))=true→stripLifts os (w::z)=([],w::z)
 |[],_,_,_=>rfl
 |o::os,w,z,h=>by
  rw[List.all_cons,Bool.and_eq_true]at h
  rw[stripLifts,if_neg (by have:=h.1;simpa using this),zxk os w z h.2]
theorem z02 {P : Program} {c : List Char} {z : List (List Char)} (h : behindMainWord (wordsSigns P.initOrder.toList) = c :: z) (hs : (liftWords.all fun o => !(c == o.toList)) = true) (hc : (c == "cut".toList) = true) (h1 : P.laysLater = false) (h2 : P.bearsReflect = false) (h3 : P.doorFits [] = true) : P.mayEnter = true := by
 have e:=eq_of_beq hc
 subst e
 unfold Program.mayEnter
 rw[h]
 dsimp only
 rw[zxk _ _ _ hs,h1,h2]
 simp[h3]
theorem z0z {P : Program} {c : List Char} {z : List (List Char)} (h : behindMainWord (wordsSigns P.initOrder.toList) = c :: z) (hs : (liftWords.all fun o => !(c == o.toList)) = true) (hc : (c == "cut".toList) = true) (hd : (c == "carried".toList) = false) : P.liftsFinal = false := by
 unfold Program.liftsFinal Program.headLifts
 rw[h]
 dsimp only
 rw[zxk _ _ _ hs]
 dsimp only[List.head?]
 rw [show (some c == some "carried".toList) = false from hd]
 simp
theorem z2z {P : Program} {c : List Char} {z : List (List Char)} (h : behindMainWord (wordsSigns P.initOrder.toList) = c :: z) (hg : (c == "gc".toList || c == "spec".toList) = false) (hc : (c == "cut".toList) = true) : P.make = some .cut := by
 unfold Program.make
 rw[h]
 dsimp only
 rw[hg,hc]
 rfl
theorem io2:io1.1=wd0.1++Char.ofNat 32::(wd1.1++Char.ofNat 32::(wd2.1++Char.ofNat 32::io1.1.drop 77)):=by kernel_rfl
theorem io4:behindMainWord (wordsSigns Tryz.prog.initOrder.toList)=wd2.1::wordsSigns (io1.1.drop 77):=z1y io1.2 (z3m io2 wn0 wn1 wn2) (by kernel_rfl)
theorem io5:(liftWords.all λo=>!(wd2.1==o.toList))=true:=by kernel_rfl
theorem io6 : (wd2.1 == "gc".toList || wd2.1 == "spec".toList) = false := by kernel_rfl
theorem io7 : (wd2.1 == "cut".toList) = true := by kernel_rfl
theorem io8 : (wd2.1 == "carried".toList) = false := by kernel_rfl
theorem js_lays:Tryz.prog.laysLater=false:=by kernel_rfl
theorem js_refl:Tryz.prog.bearsReflect=false:=by kernel_rfl
theorem js_door:Tryz.prog.doorFits []=true:=by kernel_rfl
theorem js_enter:Tryz.prog.mayEnter=true:=z02 io4 io5 io7 js_lays js_refl js_door
theorem js_lifts:Tryz.prog.liftsFinal=false:=z0z io4 io5 io7 io8
theorem js_make:Tryz.prog.make=some .cut:=z2z io4 io6 io7
theorem js_laid:laidOutB Tryz.prog=true:=by kernel_rfl
theorem js_maps:mapsRowed Tryz.prog=true:=by kernel_rfl
theorem js_heard:Tryz.prog.stopsHeard=true:=by kernel_rfl
end Go.VL
