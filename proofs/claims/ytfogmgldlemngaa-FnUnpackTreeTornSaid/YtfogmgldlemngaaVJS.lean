/- V-logic: JS -/
import Derived.Test.YtfogmgldlemngaaVEF
import Derived.Test.YtfogmgldlemngaaProg
import Derived.JoinedOf
import Derived.KernelRfl
namespace Go.VL
open Go.Proofs
set_option linter.unusedVariables false
set_option maxRecDepth 100000
theorem zlm:∀(a r:List Char),(∀c∈a,c≠Char.ofNat 32)→wordsSigns (a++Char.ofNat 32::r)=a::wordsSigns r
 |[],r,_=>rfl
 |c::a,r,h=>by
  rw[List.cons_append,wordsSigns,zlm a r fun x hx=>h x (List.mem_cons_of_mem _ hx)]
  exact h c (by simp)
theorem io0 : Try.prog.initOrder = "harness 954bac716c130d7beb1c20c499ffaaf5fa3585eb8082d0fb2a3e9c9d2fc3fb07 cut at loop.example/pagetree/laws.FnUnpackTreeTorn" := by kernel_rfl
def io1:{l:List Char // Try.prog.initOrder.toList=l}:=⟨_,(congrArg String.toList io0).trans String.toList_ofList⟩
def wd0 : {l : List Char // "harness".toList = l} := ⟨_, String.toList_ofList⟩
theorem wn0:∀c∈wd0.1,c≠Char.ofNat 32:=by unfold wd0;decide
def wd1 : {l : List Char // "954bac716c130d7beb1c20c499ffaaf5fa3585eb8082d0fb2a3e9c9d2fc3fb07".toList = l} := ⟨_, String.toList_ofList⟩
theorem wn1:∀c∈wd1.1,c≠Char.ofNat 32:=by unfold wd1;decide
def wd2 : {l : List Char // "cut".toList = l} := ⟨_, String.toList_ofList⟩
theorem wn2:∀c∈wd2.1,c≠Char.ofNat 32:=by unfold wd2;decide
theorem z3m {l H S C r:List Char} (h:l=H++Char.ofNat 32::(S++Char.ofNat 32::(C++Char.ofNat 32::r))) (h1:∀c∈H,c≠Char.ofNat 32) (h2:∀c∈S,c≠Char.ofNat 32) (h3:∀c∈C,c≠Char.ofNat 32):wordsSigns l=H::S::C::wordsSigns r:=by
 rw[h,zlm _ _ h1,zlm _ _ h2,zlm _ _ h3]
theorem z1y {P : Program} {l H S C : List Char} {r : List Char} (hl : P.initOrder.toList = l) (h : wordsSigns l = H :: S :: C :: wordsSigns r) (hs : ((H == "harness".toList || H == "ownmain".toList) && isSumSigns S) = true) : behindMainWord (wordsSigns P.initOrder.toList) = C :: wordsSigns r := by
 rw[hl,h]
 unfold behindMainWord
 dsimp only
 rw[if_pos hs]
theorem zxk:∀(os:List String) (w:List Char) (z:List (List Char)),(os.all fun o=>!(w==o.toList))=true→stripLifts os (w::z)=([],w::z)
 |[],_,_,_=>rfl
 |o::os,w,z,h=>by
  rw[List.all_cons,Bool.and_eq_true]at h
  rw[stripLifts,if_neg (by have:=h.1;simpa using this),zxk os w z h.2]
theorem z02 {P : Program} {c : List Char} {z : List (List Char)} (h : behindMainWord (wordsSigns P.initOrder.toList) = c :: z) (hs : (liftWords.all fun o => !(c == o.toList)) = true) (hc : (c == "cut".toList) = true) (h1 : P.laysLater = false) (h2 : P.bearsReflect = false) (h3 : P.doorFits [] = true) : P.mayEnter = true := by
 have e:=eq_of_beq hc
 subst e
 unfold Program.mayEnter
 rw[h]
 dsimp only
 rw[zxk _ _ _ hs,h1,h2]
 simp[h3]
theorem z0z {P : Program} {c : List Char} {z : List (List Char)} (h : behindMainWord (wordsSigns P.initOrder.toList) = c :: z) (hs : (liftWords.all fun o => !(c == o.toList)) = true) (hc : (c == "cut".toList) = true) (hd : (c == "carried".toList) = false) : P.liftsFinal = false := by
 unfold Program.liftsFinal Program.headLifts
 rw[h]
 dsimp only
 rw[zxk _ _ _ hs]
 dsimp only[List.head?]
 rw [show (some c == some "carried".toList) = false from hd]
 simp
theorem z2z {P : Program} {c : List Char} {z : List (List Char)} (h : behindMainWord (wordsSigns P.initOrder.toList) = c :: z) (hg : (c == "gc".toList || c == "spec".toList) = false) (hc : (c == "cut".toList) = true) : P.make = some .cut := by
 unfold Program.make
 rw[h]
 dsimp only
 rw[hg,hc]
 rfl
theorem io2:io1.1=wd0.1++Char.ofNat 32::(wd1.1++Char.ofNat 32::(wd2.1++Char.ofNat 32::io1.1.drop 77)):=by kernel_rfl
theorem io4:behindMainWord (wordsSigns Try.prog.initOrder.toList)=wd2.1::wordsSigns (io1.1.drop 77):=z1y io1.2 (z3m io2 wn0 wn1 wn2) (by kernel_rfl)
theorem io5:(liftWords.all fun o=>!(wd2.1==o.toList))=true:=by kernel_rfl
theorem io6 : (wd2.1 == "gc".toList || wd2.1 == "spec".toList) = false := by kernel_rfl
theorem io7 : (wd2.1 == "cut".toList) = true := by kernel_rfl
theorem io8 : (wd2.1 == "carried".toList) = false := by kernel_rfl
theorem js_lays:Try.prog.laysLater=false:=by kernel_rfl
theorem js_refl:Try.prog.bearsReflect=false:=by kernel_rfl
theorem js_door:Try.prog.doorFits []=true:=by kernel_rfl
theorem js_enter:Try.prog.mayEnter=true:=z02 io4 io5 io7 js_lays js_refl js_door
theorem js_lifts:Try.prog.liftsFinal=false:=z0z io4 io5 io7 io8
theorem js_make:Try.prog.make=some .cut:=z2z io4 io6 io7
theorem js_laid:laidOutB Try.prog=true:=by kernel_rfl
theorem js_maps:mapsRowed Try.prog=true:=by kernel_rfl
theorem js_heard:Try.prog.stopsHeard=true:=by kernel_rfl
end Go.VL
