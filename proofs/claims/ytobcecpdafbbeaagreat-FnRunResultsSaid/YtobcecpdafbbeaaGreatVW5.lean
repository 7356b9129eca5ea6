/- V-logic: Ins0 Ins1 -/
import Derived.Test.YtobcecpdafbbeaaGreatVEG
import Derived.Shelf.RegionOpenPlain
import Derived.WalkKit
import Derived.Lib.Walk
import Derived.Lib.SliceRun
import Derived.Lib.AppendZerosOnto
import Derived.Lib.JoinLaws
import Derived.Lib.Overlaps
import Derived.Laws.Externs
import Derived.Laws.IdiomCopy
import Derived.Laws.NewBlocks
import Derived.Deep.AppendSrc
import Derived.Deep.RegionLaw
import Derived.Test.YtobcecpdafbbeaaGreatVT1
import Derived.Test.YtobcecpdafbbeaaGreatProg
namespace Go.VL
set_option linter.unusedVariables false
set_option linter.unusedSimpArgs false
theorem z4r {P:Program} (k:Nat) (w:World) (dT sT ty elem:TypeId) (b o dLen dCap:Nat) (a:Addr) (sLen sCap:Nat) (cs:List Value)
  (hu:P.underlying dT=some (.slice elem)) (hs:(P.info? elem).map (·.size)=some k) (hn:cs.length=Nat.min sLen dLen*k)
  (hsrc:∀j v,cs[j]? = some v→w.cell? (a.add j)=some v) (hc:∀j,j<cs.length→(w.cell? ⟨b,o+j,none⟩).isSome=true) (hf:∀j,j<cs.length→w.frozen? ⟨b,o+j,none⟩=false) (h1:∀v∈cs,v.oneCell'=true) :
  (Builtin.copy_ #[dT,sT] ty #[.slice (some ⟨b,o,none⟩) dLen dCap,.slice (some a) sLen sCap]).run P w=.ok (goInt (Nat.min sLen dLen)) (w.setCells b o cs):=by
 have hl:=run_loadCells_list (P:=P) w a cs hsrc
 have hst:=run_storeCells_cells (P:=P) b o cs 0 w (by simpa using hc) (by simpa using hf) h1
 cases hq:P.info? elem with
 |none=>simp[hq]at hs
 |some i =>
  have hi:i.size=k:=by simpa [hq]using hs
  simp[Builtin.copy_,run_underlying hu,Builtin.lenOf,Builtin.firstCells,sizeOf,typeInfo,hq,hi,←hn,hl,hst]
theorem z91 {P:Program} (w:World) {o:Oper} {a:Act} {K:Act→World→Prop} {Q:Exit→Act→World→Prop} (d s:Operand) (t t':TypeId)
  (ho:o.op=.call {callee:=.builtin .copy,args:=#[d,s],argTypes:=#[t,t']}) (v u:Value) (hd:a.eval d=v) (hs:a.eval s=u) {v':Value} {w':World}
  (hr:(Builtin.copy_ #[t,t'] o.type #[v,u]).run P w=.ok v' w') (h:K (a.put o.dst v') w'):o.wp P a w K Q:=by
 unfold Oper.wp execOp
 simp only[ho,resolve,invoke,builtin,Sem.run_bind,Sem.run_pure,Result.andThen_ok,List.map_toArray,List.map_cons,List.map_nil,hd,hs,hr]
 exact h
theorem z4p {P:Program} (w:World) {ops:Array Oper} {rest:List Oper} {o:Oper} {a:Act} {Q:Exit→Act→World→Prop} (hgd:o.guard=none) (d s:Operand) (t t':TypeId)
  (ho:o.op=.call {callee:=.builtin .copy,args:=#[d,s],argTypes:=#[t,t']}) (v u:Value) (hd:a.eval d=v) (hs:a.eval s=u) {v':Value} {w':World}
  (hr:(Builtin.copy_ #[t,t'] o.type #[v,u]).run P w=.ok v' w') (h:wpList P ops Q rest (a.put o.dst v') w'):wpList P ops Q (o::rest) a w :=
 wpList_plain hgd fun _ hK=>z91 w d s t t' ho v u hd hs hr (hK _ _ h)
theorem z5h {P:Program} {ops:Array Oper} {o:Oper} {a:Act} {w:World} {K:Act→World→Prop} {Q:Exit→Act→World→Prop} {E:Prop}
  (hg:o.guard=none) (d x:Operand) (dT sT:TypeId) (hop:o.op=Op.call {callee:=Callee.builtin Builtin.copy,args:=#[d,x],argTypes:=#[dT,sT]})
  (v u:Value) (hd:a.eval d=v) (hx:a.eval x=u) {v':Value} {w':World} (hr:(Builtin.copy_ #[dT,sT] o.type #[v,u]).run P w=.ok v' w') (hK:K (a.put o.dst v') w') :
  if Region.wanted o (yielded ops a.tmps)=true then Oper.wp P o a w K Q else E:=by
 have hw:Region.wanted o (yielded ops a.tmps)=true:=by simp[Region.wanted,hg]
 rw[if_pos hw]
 unfold Oper.wp
 simp[execOp,hop,resolve,invoke,builtin,hd,hx,hr,Result.andThen]
 exact hK
theorem z51 {P:Program} (w:World) (tS tR e:TypeId) (ht:P.underlying tS=some (.slice e)) (size:Nat) (hz:∀w,(Go.sizeOf e).run P w=.ok size w)
  (a b:Addr) (la ca lb cb:Nat) (hne:a.block≠b.block) (tA tB:TypeId) (kA kB:Nat)
  (hsa:w.shape? a.block=some (tA,kA)) (hsb:w.shape? b.block=some (tB,kB)) (hkA:kA≠0) (hkB:kB≠0)
  (hfb:w.frozen? b=false) (hfe:w.frozen? {block:=b.block,off:=kB}=false) :
  (Extern.SlicesOverlaps.overlaps #[tS,tS] #[tR] #[.slice (some a) la ca,.slice (some b) lb cb]).run P w=.ok (.bool false) w:=by
 have hnb:(a.block != b.block)=true:=by simpa using hne
 have hnb':(a.block==b.block)=false:=by simpa using hne
 change Sem.run P (α:=Value) (do
  let some t := (#[tS, tS] : Array TypeId)[0]? | stuck "slices.overlaps: no parameter types"
  let .slice elem ← underlying t | stuck "slices.overlaps: slice type expected"
  let size ←sizeOf elem
  match (some a:Option Addr),(some b:Option Addr)with
  |some a,some b =>
   if la=0∨lb=0∨size=0 then pure (Value.bool false)
   else if a.block != b.block&&(←frozen a)&&(←frozen b)then unsupported .addressObserved
   else do
    if a.block != b.block then do
     noView a;noView b
     if ← mayBeOne a b then return Value.bool ((← choose (.extern "sameAddr.stringBytes" 2)) == 1)
    pure (Value.bool (a.block==b.block&&a.off<b.off+lb*size&&b.off<a.off+la*size))
  |_,_=>pure (Value.bool false)) w=_
 by_cases h0:la=0∨lb=0∨size=0
 ·simp[run_underlying ht,hz,h0]
 ·cases kB with
  |zero=>exact absurd rfl hkB
  |succ kB =>
   cases kA with
   |zero=>exact absurd rfl hkA
   |succ kA =>
   cases h1:w.frozen? a<;>cases h2:w.frozen? {block:=a.block,off:=kA+1} <;>
   simp[run_underlying ht,hz,h0,hnb,hnb',frozen,noView,viewAt,mayBeOne,stringish,shape,Sem.run,hsa,hsb,hfb,hfe,h1,h2]
theorem z4y (b:Nat) (vs:List Value) (o:Nat) (w:World) (h:∀j,j<vs.length→(w.cell? ⟨b,o+j,none⟩).isSome=true) (k:Nat) (hk:(w.cell? ⟨b,k,none⟩).isSome=true):((w.setCells b o vs).cell? ⟨b,k,none⟩).isSome=true:=by
 by_cases hin:o≤k∧k<o+vs.length
 ·have:=World.cell?_setCells_in b vs o w h (k-o) (by omega)
  rw[show o+(k-o)=k by omega]at this
  rw[this];rfl
 ·rw[World.cell?_setCells_out b vs o w ⟨b,k,none⟩ (fun _ _=>by show k<o∨o+vs.length≤k;omega)]
  exact hk
theorem z4f {b:Nat} {ty:TypeId}:∀(vs:List Value) (o:Nat) (w:World) (cs:List Value),w.heap[b]? = some (.cells cs.toArray ty (0,0))→o+vs.length≤cs.length →
  (w.setCells b o vs).heap[b]? = some (.cells (cs.take o++vs++cs.drop (o+vs.length)).toArray ty (0,0))∧Only b w (w.setCells b o vs)
 |[],o,w,cs,hb,hl=>by
  refine⟨?_,Only.refl b w⟩
  rw[List.append_nil,List.length_nil,Nat.add_zero,List.take_append_drop]
  exact hb
 |v::r,o,w,cs,hb,hl=>by
  rw[List.length_cons]at hl
  obtain⟨e1,e2⟩:=zup (i:=o) v hb
  obtain⟨r1,r2⟩:=z4f r (o+1) _ _ e1 (by rw[List.length_set];omega)
  refine⟨?_,e2.trans r2⟩
  rw[World.setCells,r1]
  congr 3
  apply List.ext_getElem?
  intro j
  have ho:o<cs.length:=by omega
  simp only[List.getElem?_append,List.getElem?_take,List.getElem?_drop,List.length_append,List.length_take,List.length_set,List.length_cons,List.getElem?_set,List.getElem?_cons]
  rcases Nat.lt_trichotomy j o with c|c|c
  ·simp only[show j<min (o+1) cs.length by omega,show j<o+1 by omega,show j<min o cs.length by omega,c,if_true,show min (o+1) cs.length+r.length=o+1+r.length by omega,show min o cs.length+(r.length+1)=o+1+r.length by omega,show j<o+1+r.length by omega]
   simp[show o≠j by omega]
  ·subst c
   simp only[show j<min (j+1) cs.length by omega,show j<j+1 by omega,show ¬j<min j cs.length by omega,if_true,if_false,show min (j+1) cs.length+r.length=j+1+r.length by omega,show min j cs.length+(r.length+1)=j+1+r.length by omega,show j<j+1+r.length by omega,show j-min j cs.length=0 by omega]
   simp[ho]
  ·by_cases d:j<o+1+r.length
   ·simp only[show ¬j<min (o+1) cs.length by omega,show ¬j<min o cs.length by omega,if_true,if_false,show min (o+1) cs.length+r.length=o+1+r.length by omega,show min o cs.length+(r.length+1)=o+1+r.length by omega,d,show j-min (o+1) cs.length=j-(o+1) by omega,show j-min o cs.length=j-(o+1)+1 by omega]
    simp
   ·simp only[show min (o+1) cs.length+r.length=o+1+r.length by omega,show min o cs.length+(r.length+1)=o+1+r.length by omega,d,if_false]
    rw[if_neg (by omega)]
    congr 1
    omega
def fl1 (xs:List Int):List Value:=xs.map fun x=>.int .i64 x
def fl2:List Pr→List Value
 |[]=>[]
 |x::t=>.int .i64 x.key::.int .i64 x.value::fl2 t
theorem z6n (xs:List Int):(fl1 xs).length=xs.length*1:=by unfold fl1;simp
theorem z5m:∀xs:List Pr,(fl2 xs).length=xs.length*2
 |[]=>rfl
 |x::t=>by rw[fl2,List.length_cons,List.length_cons,z5m t,List.length_cons];omega
theorem z7k (a b:List Int):fl1 (a++b)=fl1 a++fl1 b:=by unfold fl1;simp
theorem z6k:∀a b:List Pr,fl2 (a++b)=fl2 a++fl2 b
 |[],b=>rfl
 |x::t,b=>by rw[List.cons_append,fl2,z6k t b];rfl
theorem z75 (xs:List Int) (i:Nat):(fl1 xs).take (i*1)=fl1 (xs.take i):=by unfold fl1;rw[Nat.mul_one,List.map_take]
theorem z8j (xs:List Int) (i:Nat):(fl1 xs).drop (i*1)=fl1 (xs.drop i):=by unfold fl1;rw[Nat.mul_one,List.map_drop]
theorem z6x:∀(xs:List Pr) (i:Nat),(fl2 xs).take (i*2)=fl2 (xs.take i)
 |_,0=>by simp[fl2]
 |[],i+1=>by simp[fl2]
 |x::t,i+1=>by rw[fl2,show(i+1)*2=i*2+1+1 by omega,List.take_succ_cons,List.take_succ_cons,z6x t i];rfl
theorem z6u:∀(xs:List Pr) (i:Nat),(fl2 xs).drop (i*2)=fl2 (xs.drop i)
 |_,0=>by simp
 |[],i+1=>by simp[fl2]
 |x::t,i+1=>by rw[fl2,show(i+1)*2=i*2+1+1 by omega,List.drop_succ_cons,List.drop_succ_cons,z6u t i];rfl
theorem z7a (xs:List Int):∀v∈fl1 xs,v.oneCell'=true:=by
 intro v hv
 obtain⟨x,_,rfl⟩:=List.mem_map.1 hv
 rfl
theorem z6l:∀(xs:List Pr),∀v∈fl2 xs,v.oneCell'=true
 |[],v,h=>by cases h
 |x::t,v,h=>by
  rw[fl2]at h
  rcases List.mem_cons.1 h with rfl|h
  ·rfl
  ·rcases List.mem_cons.1 h with rfl|h
   ·rfl
   ·exact z6l t v h
theorem z9b (xs:List Int) (i:Nat) (h:i<xs.length):(fl1 xs)[i*1+0]? = some (.int .i64 (xs.getD i 0)):=by
 unfold fl1
 rw[Nat.mul_one,Nat.add_zero,List.getElem?_map,List.getD_eq_getElem?_getD,List.getElem?_eq_getElem h];rfl
theorem z7h:∀(xs:List Pr) (i:Nat),i<xs.length→(fl2 xs)[i*2]? = some (.int .i64 (xs.getD i ⟨0,0⟩).key)∧(fl2 xs)[i*2+1]? = some (.int .i64 (xs.getD i ⟨0,0⟩).value)
 |[],i,h=>absurd h (Nat.not_lt_zero _)
 |x::t,0,_=>⟨rfl,rfl⟩
 |x::t,i+1,h=>by
  have:=z7h t i (by rw[List.length_cons]at h;omega)
  rw[fl2,show(i+1)*2=i*2+1+1 by omega]
  exact this
def FlO (g:Gam) (w:World) (id k len:Nat) (cs:List Value):Prop :=
 (g id=none∧len=0)∨∃b cap rest ty,g id=some (b,cap,len)∧w.heap[b]? = some (.cells (cs++rest).toArray ty (0,0))∧(cs++rest).length=cap*k∧len≤cap
theorem z5z {I:Nat→Prop} {w:World} {k:IntKind} {m:Int} {v:Value} (h:RC I w (.int k m) v):v=.int k m:=by
 cases h with
 |int=>rfl
 |empty _ _ _ hs _=>cases hs
 |sl _ _ _ _ _ hs=>cases hs
theorem ro1 {I:Nat→Prop} {g:Gam} {n:Nat} {w:World} {id:Nat} {xs:List Int}:RO I g n w id (.arr (.nums .i64 xs))↔FlO g w id 1 xs.length (fl1 xs):=by
 constructor
 ·intro h
  cases h with
  |none _ hg hs h0=>exact .inl ⟨hg,h0⟩
  |arr _ b cap cells ty hg hs hb hl hcap h ht =>
   have hl:cells.length=cap*1:=hl
   have hcap:xs.length≤cap:=hcap
   have e:cells.take xs.length=fl1 xs:=by
    apply List.ext_getElem?
    intro i
    by_cases c:i<xs.length
    ·have e1:=z9b xs i c
     rw[Nat.mul_one,Nat.add_zero]at e1
     rw[List.getElem?_take,if_pos c,e1]
     obtain⟨v,hv,hr⟩:=h i 0 (.int .i64 (xs.getD i 0)) c rfl
     have hr:=z5z hr
     subst hr
     simpa [C.stride]using hv
    ·rw[List.getElem?_take,if_neg c,List.getElem?_eq_none (by rw[z6n];omega)]
   refine .inr ⟨b,cap,cells.drop xs.length,ty,hg,?_,?_,hcap⟩
   ·rw[←e,List.take_append_drop];exact hb
   ·rw[←e,List.take_append_drop];exact hl
 ·rintro(⟨hg,h0⟩|⟨b,cap,rest,ty,hg,hb,hl,hcap⟩)
  ·exact .none _ hg rfl h0
  ·refine .arr _ b cap (fl1 xs++rest) ty hg rfl hb hl hcap (fun i j y hi hy=>?_) (fun h=>by cases h)
   have hi:i<xs.length:=hi
   have hy:[C.int .i64 (xs.getD i 0)][j]? = some y:=hy
   cases j with
   |zero =>
    cases hy
    refine⟨_,?_,.int _ _⟩
    show(fl1 xs++rest)[i*1+0]? = _
    rw[List.getElem?_append_left (by rw[z6n];omega)]
    exact z9b xs i hi
   |succ j=>cases hy
theorem ro2 {I:Nat→Prop} {g:Gam} {n:Nat} {w:World} {id:Nat} {xs:List Pr}:RO I g n w id (.arr (.prs xs))↔FlO g w id 2 xs.length (fl2 xs):=by
 constructor
 ·intro h
  cases h with
  |none _ hg hs h0=>exact .inl ⟨hg,h0⟩
  |arr _ b cap cells ty hg hs hb hl hcap h ht =>
   have hl:cells.length=cap*2:=hl
   have hcap:xs.length≤cap:=hcap
   have e:cells.take (xs.length*2)=fl2 xs:=by
    apply List.ext_getElem?
    intro t
    by_cases c:t<xs.length*2
    ·obtain⟨e1,e2⟩:=z7h xs (t / 2) (by omega)
     rw[List.getElem?_take,if_pos c]
     rcases(by omega:t=t / 2*2∨t=t / 2*2+1)with d|d
     ·obtain⟨v,hv,hr⟩:=h (t / 2) 0 (.int .i64 (xs.getD (t / 2) ⟨0,0⟩).key) (by show t / 2<xs.length;omega) rfl
      have hr:=z5z hr
      subst hr
      rw[d,e1]
      exact hv
     ·obtain⟨v,hv,hr⟩:=h (t / 2) 1 (.int .i64 (xs.getD (t / 2) ⟨0,0⟩).value) (by show t / 2<xs.length;omega) rfl
      have hr:=z5z hr
      subst hr
      rw[d,e2]
      exact hv
    ·rw[List.getElem?_take,if_neg c,List.getElem?_eq_none (by rw[z5m];omega)]
   refine .inr ⟨b,cap,cells.drop (xs.length*2),ty,hg,?_,?_,hcap⟩
   ·rw[←e,List.take_append_drop];exact hb
   ·rw[←e,List.take_append_drop];exact hl
 ·rintro(⟨hg,h0⟩|⟨b,cap,rest,ty,hg,hb,hl,hcap⟩)
  ·exact .none _ hg rfl h0
  ·refine .arr _ b cap (fl2 xs++rest) ty hg rfl hb hl hcap (fun i j y hi hy=>?_) (fun h=>by cases h)
   have hi:i<xs.length:=hi
   have hy:(xs.getD i ⟨0,0⟩).row[j]? = some y:=hy
   obtain⟨e1,e2⟩:=z7h xs i hi
   match j with
   |0 =>
    cases hy
    refine⟨_,?_,.int _ _⟩
    show(fl2 xs++rest)[i*2+0]? = _
    rw[List.getElem?_append_left (by rw[z5m];omega)]
    exact e1
   |1 =>
    cases hy
    refine⟨_,?_,.int _ _⟩
    show(fl2 xs++rest)[i*2+1]? = _
    rw[List.getElem?_append_left (by rw[z5m];omega)]
    exact e2
   |j+2=>cases hy
def z5n (w:World) (bo:Option Nat) (k len:Nat) (cs:List Value) (e:Ending) (w':World):Prop :=
 ∃b cap rest ty,e=.returned (.slice (some ⟨b,0,none⟩) len cap)∧w'.heap[b]? = some (.cells (cs++rest).toArray ty (0,0))∧(cs++rest).length=cap*k∧len≤cap ∧
  (bo=some b∨w.heap.size≤b)∧w'.os=w.os∧w'.tape=w.tape∧w'.output=w.output∧w.heap.size≤w'.heap.size∧∀j,j<w.heap.size→some j≠bo→w'.heap[j]? = w.heap[j]?
theorem z8o {α:Type} {A B R V:List α} {K:Nat} (hV:V.length=K) (hR:K≤R.length) {c:List α} (hc:c=((A++B)++R).take (A.length+K)++B++((A++B)++R).drop (A.length+K+B.length)) :
  c.take A.length++V++c.drop (A.length+K)=(A++(V++B))++R.drop K:=by
 have e1:((A++B)++R).take (A.length+K)=A++(B++R).take K:=by
  rw[List.append_assoc,List.take_append,List.take_of_length_le (by omega),Nat.add_sub_cancel_left]
 have e2:((A++B)++R).drop (A.length+K+B.length)=R.drop K:=by
  rw[List.drop_append,List.drop_eq_nil_of_le (by rw[List.length_append];omega),List.nil_append,List.length_append]
  congr 1;omega
 have e3:((B++R).take K).length=K:=by rw[List.length_take,List.length_append];omega
 rw[e1,e2]at hc
 generalize (B++R).take K=T at hc e3
 have e4:c=A++(T++(B++R.drop K)):=by rw[hc];simp
 have e5:c=(A++T)++(B++R.drop K):=by rw[hc];simp
 have f1:c.take A.length=A:=by rw[e4];exact List.take_left' rfl
 have f2:c.drop (A.length+K)=B++R.drop K:=by rw[e5];exact List.drop_left' (by rw[List.length_append,e3])
 rw[f1,f2]
 simp
theorem z7n {α:Type} {A B Z V:List α} {K:Nat} (hV:V.length=K) (hZ:K+B.length≤Z.length) {c:List α} (hc:c=(A++Z).take A.length++V++(A++Z).drop (A.length+K)) :
  c.take (A.length+K)++B++c.drop (A.length+K+B.length)=(A++(V++B))++Z.drop (K+B.length):=by
 have e2:(A++Z).drop (A.length+K)=Z.drop K:=by
  rw[List.drop_append,List.drop_eq_nil_of_le (by omega),List.nil_append,Nat.add_sub_cancel_left]
 rw[List.take_left' rfl,e2]at hc
 have e4:c=(A++V)++Z.drop K:=hc
 have f1:c.take (A.length+K)=A++V:=by rw[e4];exact List.take_left' (by rw[List.length_append];omega)
 have f2:c.drop (A.length+K+B.length)=Z.drop (K+B.length):=by
  rw[e4,List.drop_append,List.drop_eq_nil_of_le (by rw[List.length_append];omega),List.nil_append,List.drop_drop,List.length_append]
  congr 1;omega
 rw[f1,f2]
 simp
theorem z41 (z:Array Value) (n:Nat):(Builtin.zeroCells z n).toList.length=n*z.size:=by
 simp[Builtin.zeroCells]
theorem z5b {w:World} {b:Nat} {cs:List Value} {ty:TypeId} (h:w.heap[b]? = some (.cells cs.toArray ty (0,0))) (j:Nat):w.cell? ⟨b,j,none⟩=cs[j]?:=by
 unfold World.cell?
 simp[h]
theorem z53 {w:World} {b:Nat} {cs:List Value} {ty:TypeId} (h:w.heap[b]? = some (.cells cs.toArray ty (0,0))) (j:Nat):w.frozen? ⟨b,j,none⟩=false:=by
 unfold World.frozen?
 simp[h]
theorem z7u {w:World} {b:Nat} {cs:List Value} {ty:TypeId} (h:w.heap[b]? = some (.cells cs.toArray ty (0,0))):w.shape? b=some (ty,cs.length):=by
 unfold World.shape?
 simp[h]
theorem z67 {w:World} {b j:Nat} {v:Value} (h:w.cell? ⟨b,j,none⟩=some v):∃ty k,w.shape? b=some (ty,k)∧k≠0:=by
 unfold World.cell? at h
 split at h
 ·rename_i c ty fr hq
  have h:c[j]? = some v:=by simpa using h
  refine⟨ty,c.size,?_,fun h0=>?_⟩
  ·unfold World.shape?
   have hq:w.heap[b]? = some (.cells c ty fr):=hq
   rw[hq]
  ·rw[Array.getElem?_eq_none (by omega)]at h;cases h
 ·cases h
theorem z5t {W w':World} {I:Nat→Prop} {g:Gam} {x z:C} {k:Nat} {cz:List Value} {bo:Option Nat} {e:Ending} (hI:∀b,I b→b<W.heap.size) (hh:HOk I g 1 W [(0,.arr x)])
  (hbo:∀b,bo=some b→∃cl,g 0=some (b,cl)) (hz:∀{g':Gam} {w:World},FlO g' w 0 k z.len cz→RO I g' 1 w 0 (.arr z)) (h:z5n W bo k z.len cz e w') :
  zte W I g [(0,.arr x)] 1 (.slc 0) [(0,.arr z)] e w':=by
 obtain⟨b,cap,rest,ty,rfl,hb,hl,hcap,hw,h1,h2,h3,h4,h5⟩:=h
 have own:∀id o c,(id,o)∈[(0,O.arr z)]→Own (fun i=>if i=0 then some (b,cap,z.len)else none) w' id o c→c=b:=by
  intro id o c hm hc
  cases List.mem_singleton.1 hm
  rcases hc with ⟨cl,hc⟩|hc
  ·simp at hc;exact hc.1.symm
  ·exact hc.elim
 have hbs:b<w'.heap.size:=(Array.getElem?_eq_some_iff.1 hb).1
 have dom:∀b,bo=some b→Dom g W [(0,.arr x)] b:=fun b hb=>⟨0,_,List.mem_singleton.2 rfl,.inl (hbo b hb)⟩
 refine⟨_,I,fun i=>if i=0 then some (b,cap,z.len)else none,rfl,fun b h=>h,fun b h=>.inl h,(fun b h=>by have:=hI b h;omega),⟨fun id o hm=>?_,(fun id o c hm hc=>?_),by simp,fun id o id' o' c hm hm' _ _=>?_⟩,.slc 0 _ b cap (by omega) rfl,(fun id o o' hm hm' hbx=>by cases List.mem_singleton.1 hm';cases hbx),(fun c hc=>?_),⟨h1,h2,h3,h4,fun j hj hd=>h5 j hj fun e=>hd (dom j e.symm)⟩⟩
 ·cases List.mem_singleton.1 hm
  exact⟨by omega,hz (.inr ⟨b,cap,rest,ty,rfl,hb,hl,hcap⟩)⟩
 ·have:=own id o c hm hc
  subst this
  refine⟨fun hi=>?_,hbs⟩
  rcases hw with hw|hw
  ·exact(hh.apart 0 _ c (List.mem_singleton.2 rfl) (.inl (hbo c hw))).1 hi
  ·have:=hI c hi;omega
 ·cases List.mem_singleton.1 hm
  cases List.mem_singleton.1 hm'
  rfl
 ·obtain⟨id,o,hm,hc⟩:=hc
  have:=own id o c hm hc
  subst this
  rcases hw with hw|hw
  ·exact .inr (dom c hw)
  ·exact .inl hw
end Go.VL
namespace Go.Proofs
open Go.RowKit Go.Lib Go.VL
set_option linter.unusedVariables false
set_option linter.unusedSimpArgs false
set_option maxHeartbeats 4000000 in
set_option maxRecDepth 100000 in
theorem z9h (b off n c i vb voff m vc:Nat) (cs vs:List Value) (w:World) (hi:i<n) (hm:0<m) (hroom:n+m≤c) (hc63:n+m≤9223372036854775807) (hvb:vb≠b)
  (hcl:cs.length=n*1) (hvl:vs.length=m*1)
  (hcs:∀j v,cs[j]? = some v→w.cell? ⟨b,off+j,none⟩=some v) (hsp:∀j,j<(n+m)*1→(w.cell? ⟨b,off+j,none⟩).isSome=true) (hfz:∀j,j<(n+m)*1→w.frozen? ⟨b,off+j,none⟩=false)
  (hvs:∀j v,vs[j]? = some v→w.cell? ⟨vb,voff+j,none⟩=some v) (h1c:∀v∈cs,v.oneCell'=true) (h1v:∀v∈vs,v.oneCell'=true)
  (tA tB:TypeId) (kA kB:Nat) (hsa:w.shape? vb=some (tA,kA)) (hsb:w.shape? b=some (tB,kB)) (hkA:kA≠0) (hkB:kB≠0) (hfr:∀j,w.frozen? ⟨b,j,none⟩=false) :
  Calls Tryz.prog 157 #[.slice (some ⟨b,off,none⟩) n c,.int .i64 i,.slice (some ⟨vb,voff,none⟩) m vc] w fun e w' =>
   e=.returned (.slice (some ⟨b,off,none⟩) (n+m) c)∧w'=(w.drew.setCells b (off+(i+m)) (cs.drop (i))).setCells b (off+i) vs:=by
 obtain⟨i0,hi0,hz0,hzs,hzb⟩:=info_parts (P:=Tryz.prog) (e:=3) (z:=.int .i64 0) (size:=1) (bytes:=8) (by kernel_rfl)
 have mixed:Tryz.prog.follows .mixedOrders=true:=Go.VL.mix
 have hz1:¬((m:Int)=0):=by omega
 have hz2:¬((i:Int)=(n:Int)):=by omega
 have hsz:(Tryz.prog.info? 3).map (·.size)=some 1:=by rw[hi0];simp[hzs]
 have hszr:∀w,(Go.sizeOf 3).run Tryz.prog w=.ok 1 w:=fun w=>by
  simp[Go.sizeOf,typeInfo,hi0,hzs]
 have hov:∀lb cb,(callFunc 190 #[.slice (some ⟨vb,voff,none⟩) m vc,.slice (some ⟨b,off+(i+m),none⟩) lb cb]).run Tryz.prog w=.ok (.value (.bool false)) w:=fun lb cb=>by
  rw[run_callFunc_extern Tryz.func190 (by kernel_rfl) (by kernel_rfl) (by kernel_rfl) (e:=Extern.SlicesOverlaps.overlaps #[27,27] #[4]) (by kernel_rfl),
   z51 w 27 4 3 Tryz.underlying27 1 hszr ⟨vb,voff,none⟩ ⟨b,off+(i+m),none⟩ m vc lb cb hvb tA tB kA kB hsa hsb hkA hkB (hfr _) (hfr _)]
  rfl
 have hdl:(cs.drop (i)).length=(n-i):=by rw[List.length_drop,hcl];omega
 have hw1:IntKind.i64.wrap ((i:Int)+(m:Int))=(i:Int)+(m:Int):=by rw[IntKind.wrap_i64];omega
 have hb1:(0:Int)≤(i:Int)+(m:Int):=by omega
 have hin:i≤n:=by omega
 have htn:((i:Int)+(m:Int)).toNat=i+m:=by omega
 have hb2:¬(c=i+m):=by omega
 have hb3:(i:Int)≤(n:Int)+(m:Int):=by omega
 have hb4:¬(c=i):=by omega
 have hcp1:∀ty dc sc,(Builtin.copy_ #[27,27] ty #[.slice (some ⟨b,off+(i+m),none⟩) (n+m-(i+m)) dc,.slice (some ⟨b,off+i,none⟩) (n+m-i) sc]).run Tryz.prog w.drew=.ok (goInt (Nat.min (n+m-i) (n+m-(i+m)))) (w.drew.setCells b (off+(i+m)) (cs.drop (i))):=fun ty dc sc =>
  z4r 1 w.drew _ _ ty 3 b (off+(i+m)) (n+m-(i+m)) dc ⟨b,off+i,none⟩ (n+m-i) sc (cs.drop (i)) Tryz.underlying27 hsz (by rw[hdl];simp only[Nat.min_def];split<;>omega)
   (fun j v hj=>by rw[Addr.add_lit,Nat.add_assoc];exact hcs (i+j) v (by rwa [List.getElem?_drop]at hj))
   (fun j hj=>by rw[Nat.add_assoc];exact hsp _ (by omega)) (fun j hj=>by rw[Nat.add_assoc];exact hfz _ (by omega)) (fun v hv=>h1c v (List.mem_of_mem_drop hv))
 obtain⟨W1,hW1⟩:∃W1,W1=w.drew.setCells b (off+(i+m)) (cs.drop (i)):=⟨_,rfl⟩
 have hsp1:∀k,k<(n+m)*1→(W1.cell? ⟨b,off+k,none⟩).isSome=true:=fun k hk=>by
  rw[hW1]
  exact z4y b _ _ _ (fun j hj=>by rw[Nat.add_assoc];exact hsp _ (by omega)) _ (hsp k hk)
 have hcp2:∀(W:World),(∀x,W.cell? x=W1.cell? x)→(∀x,W.frozen? x=W1.frozen? x)→∀ty dc,(Builtin.copy_ #[27,27] ty #[.slice (some ⟨b,off+i,none⟩) (n+m-i) dc,.slice (some ⟨vb,voff,none⟩) m vc]).run Tryz.prog W=.ok (goInt (Nat.min m (n+m-i))) (W.setCells b (off+i) vs):=fun W hWc hWf ty dc =>
  z4r 1 W _ _ ty 3 b (off+i) (n+m-i) dc ⟨vb,voff,none⟩ m vc vs Tryz.underlying27 hsz (by rw[hvl];simp only[Nat.min_def];split<;>omega)
   (fun j v hj=>by
    rw[Addr.add_lit,hWc,hW1,World.cell?_setCells_out b _ _ _ _ (fun h _=>absurd h hvb)]
    exact hvs j v hj)
   (fun j hj=>by rw[hWc,Nat.add_assoc];exact hsp1 _ (by omega)) (fun j hj=>by rw[hWf,hW1,World.frozen?_setCells,Nat.add_assoc];exact hfz _ (by omega)) h1v
 rw[←hW1]at hcp1
 go_enter Tryz.func157,Tryz.ntmps157
 go_wp2_with (simp only[hov])
 go_region_law_o (refine z5h rfl _ _ 27 27 rfl _ _ (by simp[Act.eval,Act.put]) (by simp[Act.eval,Act.put]) (hcp1 _ _ _) ?_)
 go_wp2_with (at_builtin;refine z4p _ rfl _ _ 27 27 rfl _ _ rfl rfl (hcp2 _ (fun _=>rfl) (fun _=>rfl) _ _) ?_)
 go_ret
 first|exact⟨rfl,rfl⟩|exact⟨rfl,by rw[hW1]⟩
set_option maxHeartbeats 4000000 in
set_option maxRecDepth 100000 in
theorem z7y (b off n c vb voff m vc:Nat) (vs:List Value) (w:World) (hm:0<m) (hroom:n+m≤c) (hc63:n+m≤9223372036854775807)
  (hvl:vs.length=m*1) (hsp:∀j,j<m*1→(w.cell? ⟨b,off+n*1+j,none⟩).isSome=true) (hfz:∀j,j<m*1→w.frozen? ⟨b,off+n*1+j,none⟩=false)
  (hvs:∀j v,vs[j]? = some v→w.cell? ⟨vb,voff+j,none⟩=some v) (h1v:∀v∈vs,v.oneCell'=true) :
  Calls Tryz.prog 157 #[.slice (some ⟨b,off,none⟩) n c,.int .i64 n,.slice (some ⟨vb,voff,none⟩) m vc] w fun e w' =>
   e=.returned (.slice (some ⟨b,off,none⟩) (n+m) c)∧w'=w.setCells b (off+n) vs:=by
 obtain⟨i0,hi0,hz0,hzs,hzb⟩:=info_parts (P:=Tryz.prog) (e:=3) (z:=.int .i64 0) (size:=1) (bytes:=8) (by kernel_rfl)
 have mixed:Tryz.prog.follows .mixedOrders=true:=Go.VL.mix
 have hz1:¬((m:Int)=0):=by omega
 have hsrc:Src Tryz.prog i0.size 27 (.slice (some ⟨vb,voff,none⟩) m vc) m vs w:=by
  rw[hzs]
  exact Src.ofSlice w Tryz.underlying27 ⟨vb,voff,none⟩ m vc vs (by omega) (fun j u hj=>by rw[Addr.add_lit];exact hvs j u hj) h1v
 have hrun:∀ty,(Builtin.append_ #[27,27] ty #[.slice (some ⟨b,off,none⟩) n c,.slice (some ⟨vb,voff,none⟩) m vc]).run Tryz.prog w=_:=fun ty =>
  run_append_room_src w 27 27 ty 3 i0 Tryz.underlying27 hi0 b off n c _ m vs hsrc hroom (by rw[hvl,hzs];exact hsp) (by rw[hvl,hzs];exact hfz)
 rw[hzs]at hrun
 try simp only[Nat.mul_one]at hrun
 clear hsp hfz hvs hsrc
 go_enter Tryz.func157,Tryz.ntmps157
 go_wp2_with (at_builtin;refine Lib.wpList_append_run _ rfl _ _ _ _ rfl _ _ rfl rfl _ _ (hrun _) ?_)
 go_ret
 exact⟨rfl,rfl⟩
set_option maxHeartbeats 4000000 in
set_option maxRecDepth 100000 in
theorem z70 (base:Option Addr) (n c vb voff m vc:Nat) (cs vs:List Value) (w:World) (hm:0<m) (hnc:n≤c) (hroom:c<n+m) (hbig:(n+m)*8≤140737488355328)
  (hcl:cs.length=n*1) (hvl:vs.length=m*1) (hnil:base=none→n=0)
  (hcs:∀a,base=some a→∀j v,cs[j]? = some v→w.cell? (a.add j)=some v)
  (hvs:∀j v,vs[j]? = some v→w.cell? ⟨vb,voff+j,none⟩=some v) (h1v:∀v∈vs,v.oneCell'=true) :
  Calls Tryz.prog 157 #[.slice base n c,.int .i64 n,.slice (some ⟨vb,voff,none⟩) m vc] w fun e w' =>
   e=.returned (.slice (some ⟨w.heap.size,0,none⟩) (n+m) (grownCap w (n+m) c 3)) ∧
   w'=w.drew.alloc (.cells ((cs++vs).toArray++Builtin.zeroCells (.int .i64 0:Value).cells (grownCap w (n+m) c 3-(n+m))) 3):=by
 obtain⟨i0,hi0,hz0,hzs,hzb⟩:=info_parts (P:=Tryz.prog) (e:=3) (z:=.int .i64 0) (size:=1) (bytes:=8) (by kernel_rfl)
 have mixed:Tryz.prog.follows .mixedOrders=true:=Go.VL.mix
 have hz1:¬((m:Int)=0):=by omega
 have hsrc:Src Tryz.prog i0.size 27 (.slice (some ⟨vb,voff,none⟩) m vc) m vs w:=by
  rw[hzs]
  exact Src.ofSlice w Tryz.underlying27 ⟨vb,voff,none⟩ m vc vs (by omega) (fun j u hj=>by rw[Addr.add_lit];exact hvs j u hj) h1v
 have hold:(Builtin.firstCells i0.size n (.slice base n c)).run Tryz.prog w.drew=.ok cs.toArray w.drew:=by
  rw[hzs]
  cases base with
  |none =>
   have h0:=hnil rfl
   subst h0
   rw[List.length_eq_zero_iff.1 (show cs.length=0 by omega)]
   exact run_firstCells_none w.drew 1 0 0 c
  |some a=>exact run_firstCells_some w.drew 1 n a n c cs (by omega) (fun j v hj=>hcs a rfl j v hj)
 have hrun:∀ty,(Builtin.append_ #[27,27] ty #[.slice base n c,.slice (some ⟨vb,voff,none⟩) m vc]).run Tryz.prog w=_:=fun ty =>
  run_append_grow_src w 27 27 ty 3 i0 _ Tryz.underlying27 hi0 hz0 base n c cs hold _ m vs hsrc hroom (by omega) (by rw[hzb];exact growslice_fits hroom hbig)
 go_enter Tryz.func157,Tryz.ntmps157
 cases base with
 |none =>
  have h0:=hnil rfl
  subst h0
  go_wp2_with (at_builtin;refine Lib.wpList_append_run _ rfl _ _ _ _ rfl _ _ rfl rfl _ _ (hrun _) ?_)
  go_ret
  exact⟨rfl,rfl⟩
 |some a =>
  obtain⟨ab,ao,asp⟩:=a
  go_wp2_with (at_builtin;refine Lib.wpList_append_run _ rfl _ _ _ _ rfl _ _ rfl rfl _ _ (hrun _) ?_)
  all_goals (go_ret;exact⟨rfl,rfl⟩)
set_option maxHeartbeats 4000000 in
set_option maxRecDepth 100000 in
theorem z9z (b off n c i vb voff m vc:Nat) (cs vs:List Value) (w:World) (hi:i<n) (hm:0<m) (hnc:n≤c) (hroom:c<n+m) (hbig:(n+m)*8≤140737488355328)
  (hcl:cs.length=n*1) (hvl:vs.length=m*1)
  (hcs:∀j v,cs[j]? = some v→w.cell? ⟨b,off+j,none⟩=some v)
  (hvs:∀j v,vs[j]? = some v→w.cell? ⟨vb,voff+j,none⟩=some v) (h1c:∀v∈cs,v.oneCell'=true) (h1v:∀v∈vs,v.oneCell'=true) :
  Calls Tryz.prog 157 #[.slice (some ⟨b,off,none⟩) n c,.int .i64 i,.slice (some ⟨vb,voff,none⟩) m vc] w fun e w' =>
   e=.returned (.slice (some ⟨w.heap.size,0,none⟩) (n+m) (grownCap w (n+m) c 3)) ∧
   w'=(((w.alloc (.cells ((cs.take (i)).toArray++Builtin.zeroCells (.int .i64 0:Value).cells (n+m-i)++Builtin.zeroCells (.int .i64 0:Value).cells (grownCap w (n+m) c 3-(n+m))) 3)).drew.setCells w.heap.size (i) vs).drew).setCells w.heap.size ((i+m)) (cs.drop (i)):=by
 obtain⟨i0,hi0,hz0,hzs,hzb⟩:=info_parts (P:=Tryz.prog) (e:=3) (z:=.int .i64 0) (size:=1) (bytes:=8) (by kernel_rfl)
 have mixed:Tryz.prog.follows .mixedOrders=true:=Go.VL.mix
 have hz1:¬((m:Int)=0):=by omega
 have hz2:¬((i:Int)=(n:Int)):=by omega
 have hz3:(c:Int)<(n:Int)+(m:Int):=by omega
 have hsz:(Tryz.prog.info? 3).map (·.size)=some 1:=by rw[hi0];simp[hzs]
 have hbw:b<w.heap.size:=block_lt_of_cell (hcs 0 _ (List.getElem?_eq_getElem (by omega)))
 have hvw:vb<w.heap.size:=block_lt_of_cell (hvs 0 _ (List.getElem?_eq_getElem (by omega)))
 have hkk:(n:Int)+(m:Int)-(i:Int)=((n+m-i:Nat):Int):=by omega
 have hik:i+(n+m-i)=n+m:=by omega
 have hold:(Builtin.firstCells i0.size i (.slice (some ⟨b,off,none⟩) i c)).run Tryz.prog w.drew=.ok (cs.take (i)).toArray w.drew:=by
  rw[hzs]
  exact run_firstCells_some w.drew 1 i ⟨b,off,none⟩ i c (cs.take (i)) (by rw[List.length_take];omega) (fun j v hj=>by
   rw[Addr.add_lit]
   rw[List.getElem?_take]at hj
   split at hj
   ·exact hcs j v hj
   ·cases hj)
 have hrz:∀ty,(Builtin.append_ #[27,3] ty #[.slice (some ⟨b,off,none⟩) i c,.int .i64 ((n:Int)+(m:Int)-(i:Int))]).run Tryz.prog w =
   .ok (.slice (some ⟨w.heap.size,0,none⟩) (n+m) (grownCap w (n+m) c 3)) (w.drew.alloc (.cells ((cs.take (i)).toArray++Builtin.zeroCells (.int .i64 0:Value).cells (n+m-i)++Builtin.zeroCells (.int .i64 0:Value).cells (grownCap w (n+m) c 3-(n+m))) 3)):=fun ty=>by
  have h:=Lib.run_append_grow_zeros w 27 3 ty 3 i0 _ .i64 .i64 Tryz.underlying27 Tryz.underlying3 hi0 hz0 (some ⟨b,off,none⟩) i c (cs.take (i)) hold (n+m-i) (by omega) (by omega) (by omega) (by omega) (by rw[hzb];omega) (by rw[hzb,hik];exact growslice_fits hroom hbig)
  rw[hik]at h
  rw[hkk]
  exact h
 obtain⟨G,hG⟩:∃G,G=grownCap w (n+m) c 3:=⟨_,rfl⟩
 obtain⟨ROW,hROW⟩:∃ROW:Array Value,ROW=(cs.take (i)).toArray++Builtin.zeroCells (.int .i64 0:Value).cells (n+m-i)++Builtin.zeroCells (.int .i64 0:Value).cells (G-(n+m)):=⟨_,rfl⟩
 rw[←hG]at hrz⊢
 rw[←hROW]at hrz⊢
 have hRl:(n+m)*1≤ROW.size:=by
  rw[hROW]
  simp[Builtin.zeroCells,Value.cells]
  omega
 obtain⟨W1,hW1⟩:∃W1,W1=w.drew.alloc (.cells ROW 3):=⟨_,rfl⟩
 rw[←hW1]at hrz
 have hN:∀j,j<(n+m)*1→(W1.cell? ⟨w.heap.size,j,none⟩).isSome=true:=fun j hj=>by
  rw[hW1,World.cell?_alloc_at (w:=w.drew) ROW _ w.heap.size j rfl,Array.getElem?_eq_getElem (by omega)];rfl
 have hNf:∀j,W1.frozen? ⟨w.heap.size,j,none⟩=false:=fun j=>by rw[hW1];exact World.frozen?_alloc_at (w:=w.drew) ROW _ w.heap.size j rfl
 have hOb:∀j v,w.cell? ⟨b,j,none⟩=some v→W1.cell? ⟨b,j,none⟩=some v:=fun j v h=>by rw[hW1,World.cell?_alloc_past (w:=w.drew) _ b j hbw];exact h
 have hOv:∀j v,w.cell? ⟨vb,j,none⟩=some v→W1.cell? ⟨vb,j,none⟩=some v:=fun j v h=>by rw[hW1,World.cell?_alloc_past (w:=w.drew) _ vb j hvw];exact h
 have hcpA:∀(W:World),(∀x,W.cell? x=W1.cell? x)→(∀x,W.frozen? x=W1.frozen? x)→∀ty dc,(Builtin.copy_ #[27,27] ty #[.slice (some ⟨w.heap.size,i,none⟩) (n+m-i) dc,.slice (some ⟨vb,voff,none⟩) m vc]).run Tryz.prog W=.ok (goInt (Nat.min m (n+m-i))) (W.setCells w.heap.size (i) vs):=fun W hWc hWf ty dc =>
  z4r 1 W _ _ ty 3 w.heap.size (i) (n+m-i) dc ⟨vb,voff,none⟩ m vc vs Tryz.underlying27 hsz (by rw[hvl];simp only[Nat.min_def];split<;>omega)
   (fun j v hj=>by rw[Addr.add_lit,hWc];exact hOv _ v (hvs j v hj))
   (fun j hj=>by rw[hWc];exact hN _ (by omega)) (fun j hj=>by rw[hWf];exact hNf _) h1v
 have hGn:n+m≤G:=by rw[hG];exact grownCap_ge w _ _ _
 have hG63:G≤9223372036854775807:=by
  have:=grownCap_le_maxLen w (n+m) c 3 (by unfold maxLen;omega)
  rw[←hG]at this
  unfold maxLen at this
  omega
 have hGi:¬(G=i):=by omega
 have hGim:¬(G=i+m):=by omega
 have hci:¬(c=i):=by omega
 have hbN:b≠w.heap.size:=by omega
 have hdl:(cs.drop (i)).length=(n-i):=by rw[List.length_drop,hcl];omega
 have hcpB:∀(W:World),(∀x,W.cell? x=(W1.setCells w.heap.size (i) vs).cell? x)→(∀x,W.frozen? x=(W1.setCells w.heap.size (i) vs).frozen? x)→∀ty dc sc,(Builtin.copy_ #[27,27] ty #[.slice (some ⟨w.heap.size,(i+m),none⟩) (n+m-(i+m)) dc,.slice (some ⟨b,off+i,none⟩) (n-i) sc]).run Tryz.prog W=.ok (goInt (Nat.min (n-i) (n+m-(i+m)))) (W.setCells w.heap.size ((i+m)) (cs.drop (i))):=fun W hWc hWf ty dc sc =>
  z4r 1 W _ _ ty 3 w.heap.size ((i+m)) (n+m-(i+m)) dc ⟨b,off+i,none⟩ (n-i) sc (cs.drop (i)) Tryz.underlying27 hsz (by rw[hdl];simp only[Nat.min_def];split<;>omega)
   (fun j v hj=>by
    rw[Addr.add_lit,hWc,World.cell?_setCells_out _ _ _ _ _ (fun h _=>absurd h hbN),Nat.add_assoc]
    exact hOb _ v (hcs (i+j) v (by rwa [List.getElem?_drop]at hj)))
   (fun j hj=>by rw[hWc];exact z4y _ _ _ _ (fun t ht=>hN _ (by omega)) _ (hN _ (by omega)))
   (fun j hj=>by rw[hWf,World.frozen?_setCells];exact hNf _) (fun v hv=>h1c v (List.mem_of_mem_drop hv))
 subst hW1
 have hE1:∀x,((w.alloc (.cells ROW 3)).drew).cell? x=(w.drew.alloc (.cells ROW 3)).cell? x:=fun x=>rfl
 have hE2:∀x,((w.alloc (.cells ROW 3)).drew).frozen? x=(w.drew.alloc (.cells ROW 3)).frozen? x:=fun x=>rfl
 have hF1:∀x,(((w.alloc (.cells ROW 3)).drew.setCells w.heap.size (i) vs).drew).cell? x=((w.drew.alloc (.cells ROW 3)).setCells w.heap.size (i) vs).cell? x:=fun x=>rfl
 have hF2:∀x,(((w.alloc (.cells ROW 3)).drew.setCells w.heap.size (i) vs).drew).frozen? x=((w.drew.alloc (.cells ROW 3)).setCells w.heap.size (i) vs).frozen? x:=fun x=>rfl
 have hw1:IntKind.i64.wrap ((i:Int)+(m:Int))=(i:Int)+(m:Int):=by rw[IntKind.wrap_i64];omega
 have hb1:(0:Int)≤(i:Int)+(m:Int):=by omega
 have hin:i≤n:=by omega
 have htn:((i:Int)+(m:Int)).toNat=i+m:=by omega
 have hb3:(i:Int)≤(n:Int):=by omega
 clear hkk hik hold hROW hG hRl
 go_enter Tryz.func157,Tryz.ntmps157
 go_wp2_with (first
  |(at_builtin;refine Lib.wpList_append_run _ rfl _ _ _ _ rfl _ _ rfl rfl _ _ (hrz _) ?_)
  |(at_builtin;refine z4p _ rfl _ _ 27 27 rfl _ _ rfl rfl (hcpA _ hE1 hE2 _ _) ?_)
  |(at_builtin;refine z4p _ rfl _ _ 27 27 rfl _ _ rfl rfl (hcpB _ (fun _=>rfl) (fun _=>rfl) _ _ _) ?_))
 go_region_law_o (refine z5h rfl _ _ 27 27 rfl (.slice (some ⟨w.heap.size,(i+m),none⟩) (n+m-(i+m)) (G-(i+m))) (.slice (some ⟨b,off+i,none⟩) (n-i) (c-i)) (by simp[Act.eval,Act.put]) (by simp[Act.eval,Act.put]) (hcpB _ hF1 hF2 3 (G-(i+m)) (c-i)) ?_)
 go_wp2
 go_ret
 exact⟨rfl,rfl⟩
set_option maxHeartbeats 4000000 in
set_option maxRecDepth 100000 in
theorem z9l (b off n c i vb voff m vc:Nat) (cs vs:List Value) (w:World) (hi:i<n) (hm:0<m) (hroom:n+m≤c) (hc63:n+m≤9223372036854775807) (hvb:vb≠b)
  (hcl:cs.length=n*2) (hvl:vs.length=m*2)
  (hcs:∀j v,cs[j]? = some v→w.cell? ⟨b,off+j,none⟩=some v) (hsp:∀j,j<(n+m)*2→(w.cell? ⟨b,off+j,none⟩).isSome=true) (hfz:∀j,j<(n+m)*2→w.frozen? ⟨b,off+j,none⟩=false)
  (hvs:∀j v,vs[j]? = some v→w.cell? ⟨vb,voff+j,none⟩=some v) (h1c:∀v∈cs,v.oneCell'=true) (h1v:∀v∈vs,v.oneCell'=true)
  (tA tB:TypeId) (kA kB:Nat) (hsa:w.shape? vb=some (tA,kA)) (hsb:w.shape? b=some (tB,kB)) (hkA:kA≠0) (hkB:kB≠0) (hfr:∀j,w.frozen? ⟨b,j,none⟩=false) :
  Calls Tryz.prog 154 #[.slice (some ⟨b,off,none⟩) n c,.int .i64 i,.slice (some ⟨vb,voff,none⟩) m vc] w fun e w' =>
   e=.returned (.slice (some ⟨b,off,none⟩) (n+m) c)∧w'=(w.drew.setCells b (off+(i+m)*2) (cs.drop (i*2))).setCells b (off+i*2) vs:=by
 obtain⟨i0,hi0,hz0,hzs,hzb⟩:=info_parts (P:=Tryz.prog) (e:=52) (z:=.agg #[.int .i64 0,.int .i64 0]) (size:=2) (bytes:=16) (by kernel_rfl)
 have mixed:Tryz.prog.follows .mixedOrders=true:=Go.VL.mix
 have hz1:¬((m:Int)=0):=by omega
 have hz2:¬((i:Int)=(n:Int)):=by omega
 have hsz:(Tryz.prog.info? 52).map (·.size)=some 2:=by rw[hi0];simp[hzs]
 have hszr:∀w,(Go.sizeOf 52).run Tryz.prog w=.ok 2 w:=fun w=>by
  simp[Go.sizeOf,typeInfo,hi0,hzs]
 have hov:∀lb cb,(callFunc 188 #[.slice (some ⟨vb,voff,none⟩) m vc,.slice (some ⟨b,off+(i+m)*2,none⟩) lb cb]).run Tryz.prog w=.ok (.value (.bool false)) w:=fun lb cb=>by
  rw[run_callFunc_extern Tryz.func188 (by kernel_rfl) (by kernel_rfl) (by kernel_rfl) (e:=Extern.SlicesOverlaps.overlaps #[49,49] #[4]) (by kernel_rfl),
   z51 w 49 4 52 Tryz.underlying49 2 hszr ⟨vb,voff,none⟩ ⟨b,off+(i+m)*2,none⟩ m vc lb cb hvb tA tB kA kB hsa hsb hkA hkB (hfr _) (hfr _)]
  rfl
 have hdl:(cs.drop (i*2)).length=(n-i)*2:=by rw[List.length_drop,hcl];omega
 have hw1:IntKind.i64.wrap ((i:Int)+(m:Int))=(i:Int)+(m:Int):=by rw[IntKind.wrap_i64];omega
 have hb1:(0:Int)≤(i:Int)+(m:Int):=by omega
 have hin:i≤n:=by omega
 have htn:((i:Int)+(m:Int)).toNat=i+m:=by omega
 have hb2:¬(c=i+m):=by omega
 have hb3:(i:Int)≤(n:Int)+(m:Int):=by omega
 have hb4:¬(c=i):=by omega
 have hcp1:∀ty dc sc,(Builtin.copy_ #[49,49] ty #[.slice (some ⟨b,off+(i+m)*2,none⟩) (n+m-(i+m)) dc,.slice (some ⟨b,off+i*2,none⟩) (n+m-i) sc]).run Tryz.prog w.drew=.ok (goInt (Nat.min (n+m-i) (n+m-(i+m)))) (w.drew.setCells b (off+(i+m)*2) (cs.drop (i*2))):=fun ty dc sc =>
  z4r 2 w.drew _ _ ty 52 b (off+(i+m)*2) (n+m-(i+m)) dc ⟨b,off+i*2,none⟩ (n+m-i) sc (cs.drop (i*2)) Tryz.underlying49 hsz (by rw[hdl];simp only[Nat.min_def];split<;>omega)
   (fun j v hj=>by rw[Addr.add_lit,Nat.add_assoc];exact hcs (i*2+j) v (by rwa [List.getElem?_drop]at hj))
   (fun j hj=>by rw[Nat.add_assoc];exact hsp _ (by omega)) (fun j hj=>by rw[Nat.add_assoc];exact hfz _ (by omega)) (fun v hv=>h1c v (List.mem_of_mem_drop hv))
 obtain⟨W1,hW1⟩:∃W1,W1=w.drew.setCells b (off+(i+m)*2) (cs.drop (i*2)):=⟨_,rfl⟩
 have hsp1:∀k,k<(n+m)*2→(W1.cell? ⟨b,off+k,none⟩).isSome=true:=fun k hk=>by
  rw[hW1]
  exact z4y b _ _ _ (fun j hj=>by rw[Nat.add_assoc];exact hsp _ (by omega)) _ (hsp k hk)
 have hcp2:∀(W:World),(∀x,W.cell? x=W1.cell? x)→(∀x,W.frozen? x=W1.frozen? x)→∀ty dc,(Builtin.copy_ #[49,49] ty #[.slice (some ⟨b,off+i*2,none⟩) (n+m-i) dc,.slice (some ⟨vb,voff,none⟩) m vc]).run Tryz.prog W=.ok (goInt (Nat.min m (n+m-i))) (W.setCells b (off+i*2) vs):=fun W hWc hWf ty dc =>
  z4r 2 W _ _ ty 52 b (off+i*2) (n+m-i) dc ⟨vb,voff,none⟩ m vc vs Tryz.underlying49 hsz (by rw[hvl];simp only[Nat.min_def];split<;>omega)
   (fun j v hj=>by
    rw[Addr.add_lit,hWc,hW1,World.cell?_setCells_out b _ _ _ _ (fun h _=>absurd h hvb)]
    exact hvs j v hj)
   (fun j hj=>by rw[hWc,Nat.add_assoc];exact hsp1 _ (by omega)) (fun j hj=>by rw[hWf,hW1,World.frozen?_setCells,Nat.add_assoc];exact hfz _ (by omega)) h1v
 rw[←hW1]at hcp1
 go_enter Tryz.func154,Tryz.ntmps154
 go_wp2_with (simp only[hov])
 go_region_law_o (refine z5h rfl _ _ 49 49 rfl _ _ (by simp[Act.eval,Act.put]) (by simp[Act.eval,Act.put]) (hcp1 _ _ _) ?_)
 go_wp2_with (at_builtin;refine z4p _ rfl _ _ 49 49 rfl _ _ rfl rfl (hcp2 _ (fun _=>rfl) (fun _=>rfl) _ _) ?_)
 go_ret
 first|exact⟨rfl,rfl⟩|exact⟨rfl,by rw[hW1]⟩
set_option maxHeartbeats 4000000 in
set_option maxRecDepth 100000 in
theorem z7z (b off n c vb voff m vc:Nat) (vs:List Value) (w:World) (hm:0<m) (hroom:n+m≤c) (hc63:n+m≤9223372036854775807)
  (hvl:vs.length=m*2) (hsp:∀j,j<m*2→(w.cell? ⟨b,off+n*2+j,none⟩).isSome=true) (hfz:∀j,j<m*2→w.frozen? ⟨b,off+n*2+j,none⟩=false)
  (hvs:∀j v,vs[j]? = some v→w.cell? ⟨vb,voff+j,none⟩=some v) (h1v:∀v∈vs,v.oneCell'=true) :
  Calls Tryz.prog 154 #[.slice (some ⟨b,off,none⟩) n c,.int .i64 n,.slice (some ⟨vb,voff,none⟩) m vc] w fun e w' =>
   e=.returned (.slice (some ⟨b,off,none⟩) (n+m) c)∧w'=w.setCells b (off+n*2) vs:=by
 obtain⟨i0,hi0,hz0,hzs,hzb⟩:=info_parts (P:=Tryz.prog) (e:=52) (z:=.agg #[.int .i64 0,.int .i64 0]) (size:=2) (bytes:=16) (by kernel_rfl)
 have mixed:Tryz.prog.follows .mixedOrders=true:=Go.VL.mix
 have hz1:¬((m:Int)=0):=by omega
 have hsrc:Src Tryz.prog i0.size 49 (.slice (some ⟨vb,voff,none⟩) m vc) m vs w:=by
  rw[hzs]
  exact Src.ofSlice w Tryz.underlying49 ⟨vb,voff,none⟩ m vc vs (by omega) (fun j u hj=>by rw[Addr.add_lit];exact hvs j u hj) h1v
 have hrun:∀ty,(Builtin.append_ #[49,49] ty #[.slice (some ⟨b,off,none⟩) n c,.slice (some ⟨vb,voff,none⟩) m vc]).run Tryz.prog w=_:=fun ty =>
  run_append_room_src w 49 49 ty 52 i0 Tryz.underlying49 hi0 b off n c _ m vs hsrc hroom (by rw[hvl,hzs];exact hsp) (by rw[hvl,hzs];exact hfz)
 rw[hzs]at hrun
 try simp only[Nat.mul_one]at hrun
 clear hsp hfz hvs hsrc
 go_enter Tryz.func154,Tryz.ntmps154
 go_wp2_with (at_builtin;refine Lib.wpList_append_run _ rfl _ _ _ _ rfl _ _ rfl rfl _ _ (hrun _) ?_)
 go_ret
 exact⟨rfl,rfl⟩
set_option maxHeartbeats 4000000 in
set_option maxRecDepth 100000 in
theorem z72 (base:Option Addr) (n c vb voff m vc:Nat) (cs vs:List Value) (w:World) (hm:0<m) (hnc:n≤c) (hroom:c<n+m) (hbig:(n+m)*16≤140737488355328)
  (hcl:cs.length=n*2) (hvl:vs.length=m*2) (hnil:base=none→n=0)
  (hcs:∀a,base=some a→∀j v,cs[j]? = some v→w.cell? (a.add j)=some v)
  (hvs:∀j v,vs[j]? = some v→w.cell? ⟨vb,voff+j,none⟩=some v) (h1v:∀v∈vs,v.oneCell'=true) :
  Calls Tryz.prog 154 #[.slice base n c,.int .i64 n,.slice (some ⟨vb,voff,none⟩) m vc] w fun e w' =>
   e=.returned (.slice (some ⟨w.heap.size,0,none⟩) (n+m) (grownCap w (n+m) c 52)) ∧
   w'=w.drew.alloc (.cells ((cs++vs).toArray++Builtin.zeroCells (.agg #[.int .i64 0,.int .i64 0]:Value).cells (grownCap w (n+m) c 52-(n+m))) 52):=by
 obtain⟨i0,hi0,hz0,hzs,hzb⟩:=info_parts (P:=Tryz.prog) (e:=52) (z:=.agg #[.int .i64 0,.int .i64 0]) (size:=2) (bytes:=16) (by kernel_rfl)
 have mixed:Tryz.prog.follows .mixedOrders=true:=Go.VL.mix
 have hz1:¬((m:Int)=0):=by omega
 have hsrc:Src Tryz.prog i0.size 49 (.slice (some ⟨vb,voff,none⟩) m vc) m vs w:=by
  rw[hzs]
  exact Src.ofSlice w Tryz.underlying49 ⟨vb,voff,none⟩ m vc vs (by omega) (fun j u hj=>by rw[Addr.add_lit];exact hvs j u hj) h1v
 have hold:(Builtin.firstCells i0.size n (.slice base n c)).run Tryz.prog w.drew=.ok cs.toArray w.drew:=by
  rw[hzs]
  cases base with
  |none =>
   have h0:=hnil rfl
   subst h0
   rw[List.length_eq_zero_iff.1 (show cs.length=0 by omega)]
   exact run_firstCells_none w.drew 2 0 0 c
  |some a=>exact run_firstCells_some w.drew 2 n a n c cs (by omega) (fun j v hj=>hcs a rfl j v hj)
 have hrun:∀ty,(Builtin.append_ #[49,49] ty #[.slice base n c,.slice (some ⟨vb,voff,none⟩) m vc]).run Tryz.prog w=_:=fun ty =>
  run_append_grow_src w 49 49 ty 52 i0 _ Tryz.underlying49 hi0 hz0 base n c cs hold _ m vs hsrc hroom (by omega) (by rw[hzb];exact growslice_fits hroom hbig)
 go_enter Tryz.func154,Tryz.ntmps154
 cases base with
 |none =>
  have h0:=hnil rfl
  subst h0
  go_wp2_with (at_builtin;refine Lib.wpList_append_run _ rfl _ _ _ _ rfl _ _ rfl rfl _ _ (hrun _) ?_)
  go_ret
  exact⟨rfl,rfl⟩
 |some a =>
  obtain⟨ab,ao,asp⟩:=a
  go_wp2_with (at_builtin;refine Lib.wpList_append_run _ rfl _ _ _ _ rfl _ _ rfl rfl _ _ (hrun _) ?_)
  all_goals (go_ret;exact⟨rfl,rfl⟩)
set_option maxHeartbeats 4000000 in
set_option maxRecDepth 100000 in
theorem yaj (b off n c i vb voff m vc:Nat) (cs vs:List Value) (w:World) (hi:i<n) (hm:0<m) (hnc:n≤c) (hroom:c<n+m) (hbig:(n+m)*16≤140737488355328)
  (hcl:cs.length=n*2) (hvl:vs.length=m*2)
  (hcs:∀j v,cs[j]? = some v→w.cell? ⟨b,off+j,none⟩=some v)
  (hvs:∀j v,vs[j]? = some v→w.cell? ⟨vb,voff+j,none⟩=some v) (h1c:∀v∈cs,v.oneCell'=true) (h1v:∀v∈vs,v.oneCell'=true) :
  Calls Tryz.prog 154 #[.slice (some ⟨b,off,none⟩) n c,.int .i64 i,.slice (some ⟨vb,voff,none⟩) m vc] w fun e w' =>
   e=.returned (.slice (some ⟨w.heap.size,0,none⟩) (n+m) (grownCap w (n+m) c 52)) ∧
   w'=(((w.alloc (.cells ((cs.take (i*2)).toArray++Builtin.zeroCells (.agg #[.int .i64 0,.int .i64 0]:Value).cells (n+m-i)++Builtin.zeroCells (.agg #[.int .i64 0,.int .i64 0]:Value).cells (grownCap w (n+m) c 52-(n+m))) 52)).drew.setCells w.heap.size (i*2) vs).drew).setCells w.heap.size ((i+m)*2) (cs.drop (i*2)):=by
 obtain⟨i0,hi0,hz0,hzs,hzb⟩:=info_parts (P:=Tryz.prog) (e:=52) (z:=.agg #[.int .i64 0,.int .i64 0]) (size:=2) (bytes:=16) (by kernel_rfl)
 have mixed:Tryz.prog.follows .mixedOrders=true:=Go.VL.mix
 have hz1:¬((m:Int)=0):=by omega
 have hz2:¬((i:Int)=(n:Int)):=by omega
 have hz3:(c:Int)<(n:Int)+(m:Int):=by omega
 have hsz:(Tryz.prog.info? 52).map (·.size)=some 2:=by rw[hi0];simp[hzs]
 have hbw:b<w.heap.size:=block_lt_of_cell (hcs 0 _ (List.getElem?_eq_getElem (by omega)))
 have hvw:vb<w.heap.size:=block_lt_of_cell (hvs 0 _ (List.getElem?_eq_getElem (by omega)))
 have hkk:(n:Int)+(m:Int)-(i:Int)=((n+m-i:Nat):Int):=by omega
 have hik:i+(n+m-i)=n+m:=by omega
 have hold:(Builtin.firstCells i0.size i (.slice (some ⟨b,off,none⟩) i c)).run Tryz.prog w.drew=.ok (cs.take (i*2)).toArray w.drew:=by
  rw[hzs]
  exact run_firstCells_some w.drew 2 i ⟨b,off,none⟩ i c (cs.take (i*2)) (by rw[List.length_take];omega) (fun j v hj=>by
   rw[Addr.add_lit]
   rw[List.getElem?_take]at hj
   split at hj
   ·exact hcs j v hj
   ·cases hj)
 have hrz:∀ty,(Builtin.append_ #[49,3] ty #[.slice (some ⟨b,off,none⟩) i c,.int .i64 ((n:Int)+(m:Int)-(i:Int))]).run Tryz.prog w =
   .ok (.slice (some ⟨w.heap.size,0,none⟩) (n+m) (grownCap w (n+m) c 52)) (w.drew.alloc (.cells ((cs.take (i*2)).toArray++Builtin.zeroCells (.agg #[.int .i64 0,.int .i64 0]:Value).cells (n+m-i)++Builtin.zeroCells (.agg #[.int .i64 0,.int .i64 0]:Value).cells (grownCap w (n+m) c 52-(n+m))) 52)):=fun ty=>by
  have h:=Lib.run_append_grow_zeros w 49 3 ty 52 i0 _ .i64 .i64 Tryz.underlying49 Tryz.underlying3 hi0 hz0 (some ⟨b,off,none⟩) i c (cs.take (i*2)) hold (n+m-i) (by omega) (by omega) (by omega) (by omega) (by rw[hzb];omega) (by rw[hzb,hik];exact growslice_fits hroom hbig)
  rw[hik]at h
  rw[hkk]
  exact h
 obtain⟨G,hG⟩:∃G,G=grownCap w (n+m) c 52:=⟨_,rfl⟩
 obtain⟨ROW,hROW⟩:∃ROW:Array Value,ROW=(cs.take (i*2)).toArray++Builtin.zeroCells (.agg #[.int .i64 0,.int .i64 0]:Value).cells (n+m-i)++Builtin.zeroCells (.agg #[.int .i64 0,.int .i64 0]:Value).cells (G-(n+m)):=⟨_,rfl⟩
 rw[←hG]at hrz⊢
 rw[←hROW]at hrz⊢
 have hRl:(n+m)*2≤ROW.size:=by
  rw[hROW]
  simp[Builtin.zeroCells,Value.cells]
  omega
 obtain⟨W1,hW1⟩:∃W1,W1=w.drew.alloc (.cells ROW 52):=⟨_,rfl⟩
 rw[←hW1]at hrz
 have hN:∀j,j<(n+m)*2→(W1.cell? ⟨w.heap.size,j,none⟩).isSome=true:=fun j hj=>by
  rw[hW1,World.cell?_alloc_at (w:=w.drew) ROW _ w.heap.size j rfl,Array.getElem?_eq_getElem (by omega)];rfl
 have hNf:∀j,W1.frozen? ⟨w.heap.size,j,none⟩=false:=fun j=>by rw[hW1];exact World.frozen?_alloc_at (w:=w.drew) ROW _ w.heap.size j rfl
 have hOb:∀j v,w.cell? ⟨b,j,none⟩=some v→W1.cell? ⟨b,j,none⟩=some v:=fun j v h=>by rw[hW1,World.cell?_alloc_past (w:=w.drew) _ b j hbw];exact h
 have hOv:∀j v,w.cell? ⟨vb,j,none⟩=some v→W1.cell? ⟨vb,j,none⟩=some v:=fun j v h=>by rw[hW1,World.cell?_alloc_past (w:=w.drew) _ vb j hvw];exact h
 have hcpA:∀(W:World),(∀x,W.cell? x=W1.cell? x)→(∀x,W.frozen? x=W1.frozen? x)→∀ty dc,(Builtin.copy_ #[49,49] ty #[.slice (some ⟨w.heap.size,i*2,none⟩) (n+m-i) dc,.slice (some ⟨vb,voff,none⟩) m vc]).run Tryz.prog W=.ok (goInt (Nat.min m (n+m-i))) (W.setCells w.heap.size (i*2) vs):=fun W hWc hWf ty dc =>
  z4r 2 W _ _ ty 52 w.heap.size (i*2) (n+m-i) dc ⟨vb,voff,none⟩ m vc vs Tryz.underlying49 hsz (by rw[hvl];simp only[Nat.min_def];split<;>omega)
   (fun j v hj=>by rw[Addr.add_lit,hWc];exact hOv _ v (hvs j v hj))
   (fun j hj=>by rw[hWc];exact hN _ (by omega)) (fun j hj=>by rw[hWf];exact hNf _) h1v
 have hGn:n+m≤G:=by rw[hG];exact grownCap_ge w _ _ _
 have hG63:G≤9223372036854775807:=by
  have:=grownCap_le_maxLen w (n+m) c 52 (by unfold maxLen;omega)
  rw[←hG]at this
  unfold maxLen at this
  omega
 have hGi:¬(G=i):=by omega
 have hGim:¬(G=i+m):=by omega
 have hci:¬(c=i):=by omega
 have hbN:b≠w.heap.size:=by omega
 have hdl:(cs.drop (i*2)).length=(n-i)*2:=by rw[List.length_drop,hcl];omega
 have hcpB:∀(W:World),(∀x,W.cell? x=(W1.setCells w.heap.size (i*2) vs).cell? x)→(∀x,W.frozen? x=(W1.setCells w.heap.size (i*2) vs).frozen? x)→∀ty dc sc,(Builtin.copy_ #[49,49] ty #[.slice (some ⟨w.heap.size,(i+m)*2,none⟩) (n+m-(i+m)) dc,.slice (some ⟨b,off+i*2,none⟩) (n-i) sc]).run Tryz.prog W=.ok (goInt (Nat.min (n-i) (n+m-(i+m)))) (W.setCells w.heap.size ((i+m)*2) (cs.drop (i*2))):=fun W hWc hWf ty dc sc =>
  z4r 2 W _ _ ty 52 w.heap.size ((i+m)*2) (n+m-(i+m)) dc ⟨b,off+i*2,none⟩ (n-i) sc (cs.drop (i*2)) Tryz.underlying49 hsz (by rw[hdl];simp only[Nat.min_def];split<;>omega)
   (fun j v hj=>by
    rw[Addr.add_lit,hWc,World.cell?_setCells_out _ _ _ _ _ (fun h _=>absurd h hbN),Nat.add_assoc]
    exact hOb _ v (hcs (i*2+j) v (by rwa [List.getElem?_drop]at hj)))
   (fun j hj=>by rw[hWc];exact z4y _ _ _ _ (fun t ht=>hN _ (by omega)) _ (hN _ (by omega)))
   (fun j hj=>by rw[hWf,World.frozen?_setCells];exact hNf _) (fun v hv=>h1c v (List.mem_of_mem_drop hv))
 subst hW1
 have hE1:∀x,((w.alloc (.cells ROW 52)).drew).cell? x=(w.drew.alloc (.cells ROW 52)).cell? x:=fun x=>rfl
 have hE2:∀x,((w.alloc (.cells ROW 52)).drew).frozen? x=(w.drew.alloc (.cells ROW 52)).frozen? x:=fun x=>rfl
 have hF1:∀x,(((w.alloc (.cells ROW 52)).drew.setCells w.heap.size (i*2) vs).drew).cell? x=((w.drew.alloc (.cells ROW 52)).setCells w.heap.size (i*2) vs).cell? x:=fun x=>rfl
 have hF2:∀x,(((w.alloc (.cells ROW 52)).drew.setCells w.heap.size (i*2) vs).drew).frozen? x=((w.drew.alloc (.cells ROW 52)).setCells w.heap.size (i*2) vs).frozen? x:=fun x=>rfl
 have hw1:IntKind.i64.wrap ((i:Int)+(m:Int))=(i:Int)+(m:Int):=by rw[IntKind.wrap_i64];omega
 have hb1:(0:Int)≤(i:Int)+(m:Int):=by omega
 have hin:i≤n:=by omega
 have htn:((i:Int)+(m:Int)).toNat=i+m:=by omega
 have hb3:(i:Int)≤(n:Int):=by omega
 clear hkk hik hold hROW hG hRl
 go_enter Tryz.func154,Tryz.ntmps154
 go_wp2_with (first
  |(at_builtin;refine Lib.wpList_append_run _ rfl _ _ _ _ rfl _ _ rfl rfl _ _ (hrz _) ?_)
  |(at_builtin;refine z4p _ rfl _ _ 49 49 rfl _ _ rfl rfl (hcpA _ hE1 hE2 _ _) ?_)
  |(at_builtin;refine z4p _ rfl _ _ 49 49 rfl _ _ rfl rfl (hcpB _ (fun _=>rfl) (fun _=>rfl) _ _ _) ?_))
 go_region_law_o (refine z5h rfl _ _ 49 49 rfl (.slice (some ⟨w.heap.size,(i+m)*2,none⟩) (n+m-(i+m)) (G-(i+m))) (.slice (some ⟨b,off+i*2,none⟩) (n-i) (c-i)) (by simp[Act.eval,Act.put]) (by simp[Act.eval,Act.put]) (hcpB _ hF1 hF2 3 (G-(i+m)) (c-i)) ?_)
 go_wp2
 go_ret
 exact⟨rfl,rfl⟩
end Go.Proofs
