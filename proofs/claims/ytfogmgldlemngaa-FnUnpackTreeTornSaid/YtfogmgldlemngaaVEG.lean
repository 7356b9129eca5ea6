/- V-logic: Nilb Rnil Nl -/
import Derived.Test.YtfogmgldlemngaaVEF
namespace Go.VL
set_option linter.unusedVariables false
set_option linter.unusedSimpArgs false
theorem zq9 {P:Program} {f n:Nat} {args:List V} {x:C} {R:Nat→V→List (Nat×O)→Prop} (h:zce P f n args [] R)
  (hR:∀m res hout,R m res hout→(m=1∧res=.slc 0∧hout=[(0,.arr x)])∨(m=0∧res=.nil∧hout=[]∧x.isSl=true∧x.len=0)):zr P f n args [] 1 (.slc 0) [(0,.arr x)]:=by
 refine⟨h.1,fun W I g argv hI hh hl ha=>(h.2 W I g argv hI hh hl ha).mono fun e w'=>?_⟩
 rintro⟨m,res,hout,hr,v,I',g',e1,e2,e3,e4,e5,e6,e7,e8,e9⟩
 rcases hR _ _ _ hr with ⟨rfl,rfl,rfl⟩|⟨rfl,rfl,rfl,hs,h0⟩
 ·exact⟨v,I',g',e1,e2,e3,e4,e5,e6,e7,e8,e9⟩
 ·have no:∀id o b,(id,o)∈[(0,O.arr x)]→¬Own (fun _=>none) w' id o b:=by
   intro id o b hm hb
   cases List.mem_singleton.1 hm
   rcases hb with ⟨cl,hb⟩|hb
   ·cases hb
   ·exact hb
  refine⟨v,I',fun _=>none,e1,e2,e3,e4,⟨fun id o hm=>?_,fun id o b hm hb=>absurd hb (no id o b hm),by simp,fun id o id' o' b hm hm' hb _=>absurd hb (no id o b hm)⟩,?_,(fun id o o' hm=>by cases hm),(fun b hb=>?_),e9⟩
  ·cases List.mem_singleton.1 hm
   exact⟨by omega,.none x rfl hs h0⟩
  ·rw[RV.nil_inv' e6]
   exact .slc0 0 (by omega) rfl
  ·obtain⟨id,o,hm,hb⟩:=hb
   exact absurd hb (no id o b hm)
theorem zdn {P:Program} {f n:Nat} {args:List V} {x:C} {res:V} (h:zr P f n args [] 1 res [(0,.arr x)]) (hi:(res.frz 0 x).idsLt 0=true):zr P f n args [] 0 (res.frz 0 x) []:=by
 refine⟨h.1,fun W I g argv hI hh hl ha=>(h.2 W I g argv hI hh hl ha).mono fun e w'=>?_⟩
 rintro⟨v,I',g',e1,e2,e3,e4,e5,e6,e7,e8,e9⟩
 obtain⟨_,ho⟩:=e5.obj 0 _ (List.mem_singleton.2 rfl)
 have hap:=fun b=>e5.apart 0 _ b (List.mem_singleton.2 rfl)
 have hI2:∀b,I' b→(fun b=>I' b∨∃cl,g' 0=some (b,cl)) b:=fun b hb=>.inl hb
 have hr:=RV.frz (id:=0) (x:=x) hI2 (fun val hv=>RC.of_slc ho hI2 (fun b cl hg=>.inr ⟨cl,hg⟩) hv) e6
 refine⟨v,fun b=>I' b∨∃cl,g' 0=some (b,cl),g',e1,fun b hb=>.inl (e2 b hb),fun b hb=>?_,fun b hb=>?_,?_,hr.move fun k hk=>absurd (V.ids_of_lt hi k hk) (Nat.not_lt_zero _),(fun id o o' hm=>by cases hm),(fun b hb=>by obtain⟨id,o,hm,_⟩:=hb;cases hm),e9⟩
 ·rcases hb with hb|⟨cl,hb⟩
  ·exact e3 b hb
  ·rcases e8 b ⟨0,_,List.mem_singleton.2 rfl,.inl ⟨cl,hb⟩⟩with q|q
   ·exact .inr (.inl q)
   ·exact .inr (.inr q)
 ·rcases hb with hb|⟨cl,hb⟩
  ·exact e4 b hb
  ·exact(hap b (.inl ⟨cl,hb⟩)).2
 ·exact⟨fun id o hm=>by(cases hm),fun id o b hm=>by(cases hm),by simp,fun id o id' o' b hm=>by cases hm⟩
inductive NL:V→V→Prop
 |refl (x:V):NL x x
 |nil (z:C) (hs:z.isSl=true) (h0:z.len=0):NL .nil (.c z)
 |tt:NL (.c (.bool true)) .tt
 |ff:NL (.c (.bool false)) .ff
 |agg (a b:List V) (hl:a.length=b.length) (h:∀(i:Nat) x y,a[i]? = some x→b[i]? = some y→NL x y):NL (.agg a) (.agg b)
 |tup (a b:List V) (hl:a.length=b.length) (h:∀(i:Nat) x y,a[i]? = some x→b[i]? = some y→NL x y):NL (.tup a) (.tup b)
theorem NL.rv {I:Nat→Prop} {g:Gam} {n:Nat} {w:World} {a b:V} (h:NL a b):∀{v:Value},RV I g n w a v→RV I g n w b v:=by
 induction h with
 |refl x=>exact fun h=>h
 |nil z hs h0 =>
  intro v h
  rw[RV.nil_inv' h]
  exact .c _ _ (.empty z none 0 hs h0)
 |tt=>intro v h;rw[RV.bool_inv h];exact .tt
 |ff=>intro v h;rw[RV.bool_inv h];exact .ff
 |agg a b hl h ih =>
  intro v hv
  obtain⟨vs,rfl,h1,h2⟩:=RV.agg_inv hv
  refine .agg _ _ (by omega) fun i y u hy hu=>?_
  obtain⟨hi,_⟩:=List.getElem?_eq_some_iff.1 hy
  exact ih i _ y (List.getElem?_eq_getElem (by omega)) hy (h2 i _ u (List.getElem?_eq_getElem (by omega)) hu)
 |tup a b hl h ih =>
  intro v hv
  obtain⟨vs,rfl,h1,h2⟩:=RV.tup_inv hv
  refine .tup _ _ (by omega) fun i y u hy hu=>?_
  obtain⟨hi,_⟩:=List.getElem?_eq_some_iff.1 hy
  exact ih i _ y (List.getElem?_eq_getElem (by omega)) hy (h2 i _ u (List.getElem?_eq_getElem (by omega)) hu)
theorem z8m {P:Program} {f n m:Nat} {args:List V} {hin hout:List (Nat×O)} {res res':V} (hr:NL res res') (h:zr P f n args hin m res hout):zr P f n args hin m res' hout:=by
 refine⟨h.1,fun W I g argv hI hh hl ha=>(h.2 W I g argv hI hh hl ha).mono fun e w'=>?_⟩
 rintro⟨v,I',g',e1,e2,e3,e4,e5,e6,e7,e8,e9⟩
 exact⟨v,I',g',e1,e2,e3,e4,e5,hr.rv e6,e7,e8,e9⟩
theorem ybn {P:Program} {f n m:Nat} {args args':List V} {hin hout:List (Nat×O)} {res:V} (hn:args'.length=args.length) (ha':∀(i:Nat) x y,args'[i]? = some x→args[i]? = some y→NL x y) (h:zr P f n args hin m res hout):zr P f n args' hin m res hout:=by
 refine⟨h.1,fun W I g argv hI hh hl ha=>h.2 W I g argv hI hh (by omega) fun i x v hx hv=>?_⟩
 obtain⟨hi,_⟩:=List.getElem?_eq_some_iff.1 hx
 exact(ha' i _ x (List.getElem?_eq_getElem (by omega)) hx).rv (ha i _ v (List.getElem?_eq_getElem (by omega)) hv)
def NLs:List V→List V→Prop
 |[],[]=>True
 |a::s,b::t=>NL a b∧NLs s t
 |_,_=>False
theorem NLs.get:∀{a b:List V},NLs a b→a.length=b.length∧∀(i:Nat) x y,a[i]? = some x→b[i]? = some y→NL x y
 |[],[],_=>⟨rfl,fun i x y h=>by cases i<;>cases h⟩
 |a::s,b::t,h=>by
  obtain⟨h1,h2⟩:=NLs.get h.2
  refine⟨by simp[h1],fun i x y hx hy=>?_⟩
  cases i with
  |zero=>cases hx;cases hy;exact h.1
  |succ i=>exact h2 i x y hx hy
theorem NL.ag {a b:List V} (h:NLs a b):NL (.agg a) (.agg b):=.agg a b h.get.1 h.get.2
theorem NL.tu {a b:List V} (h:NLs a b):NL (.tup a) (.tup b):=.tup a b h.get.1 h.get.2
theorem z6f {P:Program} {f n m:Nat} {args args':List V} {hin hout:List (Nat×O)} {res:V} (hn:NLs args' args) (h:zr P f n args hin m res hout):zr P f n args' hin m res hout:=ybn hn.get.1 hn.get.2 h
theorem NLs.one {a b:V} (h:NL a b):NLs [a] [b]:=⟨h,trivial⟩
theorem NL.n0:NL .nil (.c (.nums .i64 [])):=.nil _ rfl rfl
end Go.VL
