/- V-logic: Sound5 Sound6 Sound7 Sound8 Sound9 -/
import Derived.Test.YtfogmgldlemngaaVEA
namespace Go.VL
set_option linter.unusedVariables false
set_option linter.unusedSimpArgs false
section
variable {P : Program} {T : TT} {X : Cx} {I : Nat → Prop} {g : Gam} {s : S} {a : Act} {w : World} {o : Oper} {K : S → Prop}
 {N:Act→World→Prop} {Q:Exit→Act→World→Prop}
theorem zze {α:Type} (xs:List α) (k i:Nat) (d:α):(xs.drop k).getD i d=xs.getD (k+i) d:=by
 simp[List.getD,List.getElem?_drop]
theorem C.isSl_drop (x:C) (k:Nat):(x.drop k).isSl=x.isSl:=by cases x<;>rfl
theorem C.isSl_take (x:C) (k:Nat):(x.take k).isSl=x.isSl:=by cases x<;>rfl
theorem C.stride_drop (x:C) (k:Nat):(x.drop k).stride=x.stride:=by cases x<;>rfl
theorem C.stride_take (x:C) (k:Nat):(x.take k).stride=x.stride:=by cases x<;>rfl
theorem C.len_drop (x:C) (k:Nat):(x.drop k).len=x.len-k:=by cases x<;>simp[C.drop,C.len]
theorem C.len_take (x:C) (k:Nat):(x.take k).len=min k x.len:=by cases x<;>simp[C.take,C.len]
theorem C.row_drop (x:C) (k i:Nat):(x.drop k).row i=x.row (k+i):=by
 cases x<;>simp only[C.drop,C.row,zze]
theorem C.row_take (x:C) (k i:Nat) (h:i<k):(x.take k).row i=x.row i:=by
 cases x<;>simp only[C.take,C.row,zik _ _ _ _ h]
theorem RC.sub {x:C} {ad:Option Addr} {cap:Nat} (hs:x.isSl=true) (hv:RC I w x (.slice ad x.len cap)) {lo hi:Nat} (h1:lo≤hi) (h2:hi≤x.len) :
  RC I w ((x.take hi).drop lo) (.slice (if cap=lo then ad else ad.map (·.add (lo*x.stride))) (hi-lo) (cap-lo)):=by
 have hs':((x.take hi).drop lo).isSl=true:=by rw[C.isSl_drop,C.isSl_take,hs]
 have hl:((x.take hi).drop lo).len=hi-lo:=by rw[C.len_drop,C.len_take];omega
 by_cases he:hi-lo=0
 ·rw[he];exact .empty _ _ _ hs' (by rw[hl,he])
 ·obtain⟨a',cap',he',hcap,h3⟩:=hv.slice_inv hs
  cases he'
  rcases h3 with h3|⟨b,off,rfl,hI,hrow⟩
  ·omega
  ·rw[if_neg (by omega)]
   simp only[Option.map_some,zed]
   have:=RC.of_rows (x:=(x.take hi).drop lo) (cap:=cap-lo) (w:=w) (off:=off+lo*x.stride) hs' hI (by omega) (fun i hi'=>by
    rw[C.row_drop,C.row_take _ _ _ (by omega),C.stride_drop,C.stride_take]
    have:=hrow (lo+i) (by omega) 0 (fun _=>none)
    rwa [Nat.add_mul,←Nat.add_assoc]at this)
   rwa [hl]at this
def loI:Option (IntKind×Int)→Int
 |none=>0
 |some p=>p.2
def hiI (len:Nat):Option (IntKind×Int)→Int
 |none=>len
 |some p=>p.2
theorem zj6 {t e sz:Nat} (hu:P.underlying t=some (.slice e)) (hs:zy P e sz) {ad:Option Addr} {len cap:Nat} (hcap:len≤cap) (lo hi:Option (IntKind×Int))
  (hlo:∀k i,lo=some (k,i)→0≤i∧i≤hiI len hi) (hhi:∀k i,hi=some (k,i)→0≤i∧i≤len) :
  (Instr.sliceAt t (.slice ad len cap) (lo.map fun p=>Value.int p.1 p.2) (hi.map fun p=>Value.int p.1 p.2) none).run P w =
   .ok (.slice (if cap=(loI lo).toNat then ad else ad.map (·.add ((loI lo).toNat*sz))) ((hiI len hi).toNat-(loI lo).toNat) (cap-(loI lo).toNat)) w:=by
 cases lo with
 |none=>cases hi with
  |none=>simp[Instr.sliceAt,run_underlying hu,Instr.slice,Instr.sliceBounds,run_sizeOf' hs,loI,hiI]
  |some p =>
   obtain⟨k,i⟩:=p
   obtain⟨h1,h2⟩:=hhi k i rfl
   have h3:i≤(cap:Int):=by omega
   simp[Instr.sliceAt,run_underlying hu,Instr.slice,Instr.sliceBounds,run_sizeOf' hs,Instr.sliceBound,asIntOf,h1,h3,loI,hiI]
 |some q =>
  obtain⟨k',j⟩:=q
  obtain⟨g1,g2⟩:=hlo k' j rfl
  cases hi with
  |none =>
   simp only[hiI]at g2
   simp[Instr.sliceAt,run_underlying hu,Instr.slice,Instr.sliceBounds,run_sizeOf' hs,Instr.sliceBound,asIntOf,g1,g2,loI,hiI]
   rfl
  |some p =>
   obtain⟨k,i⟩:=p
   obtain⟨h1,h2⟩:=hhi k i rfl
   simp only[hiI]at g2
   have g3:j≤max i 0:=by omega
   have h3:i≤(cap:Int):=by omega
   simp[Instr.sliceAt,run_underlying hu,Instr.slice,Instr.sliceBounds,run_sizeOf' hs,Instr.sliceBound,asIntOf,h1,h3,g1,g3,loI,hiI]
   rfl
theorem zxm (hT:TOk P T) {t e sz bytes:Nat} {kd:Kd} (hti:T t=.slice e sz bytes kd):P.underlying t=some (.slice e)∧zy P e sz:=by
 have h:=hT t
 rw[hti]at h
 obtain⟨hu,_,_,hinfo,_⟩:=h
 refine⟨hu,?_⟩
 unfold zy
 cases hq:P.info? e with
 |none=>rw[hq]at hinfo;cases hinfo
 |some i=>rw[hq]at hinfo;simp at hinfo⊢;exact hinfo.1
theorem C.drop_zero (x:C):x.drop 0=x:=by cases x<;>simp[C.drop]
theorem C.take_len (x:C):x.take x.len=x:=by cases x<;>simp[C.take,C.len]
theorem zpp (hT:TOk P T) {t:Nat} {x:V} {lo hi mx:Option V} {n:Nat} {v:Value} {vlo vhi vmx:Option Value} {KV:V→Prop} (hv:RV I g n w x v)
  (hlo:∀y,lo=some y→∃u,vlo=some u∧RV I g n w y u) (hlo':lo=none→vlo=none)
  (hhi:∀y,hi=some y→∃u,vhi=some u∧RV I g n w y u) (hhi':hi=none→vhi=none) (hmx':mx=none→vmx=none)
  (hk:zdz T t x lo hi mx KV):∃y val,(Instr.sliceAt t v vlo vhi vmx).run P w=.ok val w∧RV I g n w y val∧KV y:=by
 cases hti:T t with
 |slice e sz bytes kd =>
  cases mx with
  |some _=>simp[zdz,hti]at hk
  |none =>
   cases x with
   |c l =>
    have:=hmx' rfl
    subst this
    obtain⟨hu,hs⟩:=zxm hT hti
    cases hv with|c _ _ hv =>
    simp only[zdz,hti]at hk
    split at hk
    ·exact hk.elim
    ·rename_i hst
     have hst:=Nat.eq_of_beq_eq_true hst
     split at hk
     ·have e1:=hlo' rfl
      have e2:=hhi' rfl
      subst e1 e2
      obtain⟨hsl,hk2⟩:=zv hk
      obtain⟨ad,cap,rfl,hcap,h3⟩:=hv.slice_inv hsl
      refine⟨_,_,zj6 hu hs hcap none none (by simp) (by simp),.c l _ ?_,hk2⟩
      have:=hv.sub hsl (Nat.zero_le l.len) (Nat.le_refl _)
      rw[hst,C.take_len,C.drop_zero]at this
      simpa [loI,hiI]using this
     ·rename_i k i
      obtain⟨u,rfl,hu1⟩:=hlo _ rfl
      have e2:=hhi' rfl
      subst e2
      rw[hu1.int_inv]
      obtain⟨⟨hsl,h0,h1⟩,hk2⟩:=zv hk
      rw[C.force_eq]at hk2
      obtain⟨ad,cap,rfl,hcap,h3⟩:=hv.slice_inv hsl
      refine⟨_,_,zj6 hu hs hcap (some (k,i)) none (by simp[hiI];omega) (by simp),.c (l.drop i.toNat) _ ?_,hk2⟩
      have:=hv.sub hsl (lo:=i.toNat) (hi:=l.len) (by omega) (Nat.le_refl _)
      rw[hst,C.take_len]at this
      exact this
     ·rename_i k i
      obtain⟨u,rfl,hu1⟩:=hhi _ rfl
      have e2:=hlo' rfl
      subst e2
      rw[hu1.int_inv]
      obtain⟨⟨hsl,h0,h1⟩,hk2⟩:=zv hk
      rw[C.force_eq]at hk2
      obtain⟨ad,cap,rfl,hcap,h3⟩:=hv.slice_inv hsl
      refine⟨_,_,zj6 hu hs hcap none (some (k,i)) (by simp) (by simp;omega),.c (l.take i.toNat) _ ?_,hk2⟩
      have:=hv.sub hsl (lo:=0) (hi:=i.toNat) (by omega) (by omega)
      rw[hst,C.drop_zero]at this
      simpa [loI,hiI]using this
     ·rename_i k i k' j
      obtain⟨u,rfl,hu1⟩:=hlo _ rfl
      obtain⟨u',rfl,hu2⟩:=hhi _ rfl
      rw[hu1.int_inv,hu2.int_inv]
      obtain⟨⟨hsl,h0,h1,h2⟩,hk2⟩:=zv hk
      rw[C.force_eq]at hk2
      obtain⟨ad,cap,rfl,hcap,h3⟩:=hv.slice_inv hsl
      refine⟨_,_,zj6 hu hs hcap (some (k,i)) (some (k',j)) (by simp[hiI];omega) (by simp;omega),.c ((l.take j.toNat).drop i.toNat) _ ?_,hk2⟩
      have:=hv.sub hsl (lo:=i.toNat) (hi:=j.toNat) (by omega) (by omega)
      rw[hst]at this
      exact this
     ·exact hk.elim
   |_=>simp[zdz,hti]at hk
 |_=>simp[zdz,hti]at hk
theorem z0b (xs:List V) (k:Nat) (v:V) (j:Nat):(zm3 xs k v)[j]? = if k=j∧k<xs.length then some v else xs[j]?:=by
 induction xs generalizing k j with
 |nil=>simp[zm3]
 |cons x t ih =>
  cases k with
  |zero=>cases j<;>simp[zm3]
  |succ k=>cases j with
   |zero=>simp[zm3]
   |succ j=>simp[zm3,ih]
theorem zky (xs:List V) (k:Nat) (v:V):zm3 xs k v=xs.set k v:=by
 apply List.ext_getElem?;intro j;rw[z0b,List.getElem?_set]
 by_cases h:k=j
 ·subst h;by_cases hk:k<xs.length<;>simp[hk]
 ·simp[h]
def putAt (cs:List Value) (off:Nat):List Value→List Value
 |[]=>cs
 |v::t=>putAt (cs.set off v) (off+1) t
theorem zha (xs:List V) (k:Nat) (vs:List V):(zbj xs k vs).length=xs.length:=by
 induction vs generalizing xs k with
 |nil=>rfl
 |cons v t ih=>rw[zbj,ih,zky,List.length_set]
theorem za6 (cs:List Value) (k:Nat) (vs:List Value):(putAt cs k vs).length=cs.length:=by
 induction vs generalizing cs k with
 |nil=>rfl
 |cons v t ih=>rw[putAt,ih,List.length_set]
def RVs (I:Nat→Prop) (g:Gam) (n:Nat) (w:World) (xs:List V) (vs:List Value):Prop :=
 xs.length=vs.length∧∀(i:Nat) x v,xs[i]? = some x→vs[i]? = some v→RV I g n w x v
theorem RVs.set {n:Nat} {xs:List V} {vs:List Value} (h:RVs I g n w xs vs) {x:V} {v:Value} (hx:RV I g n w x v) (k:Nat):RVs I g n w (xs.set k x) (vs.set k v):=by
 refine⟨by simp[h.1],fun i y u hy hu=>?_⟩
 rw[List.getElem?_set]at hy hu
 by_cases e:k=i
 ·subst e
  have:k<xs.length∨¬k<xs.length:=Nat.lt_or_ge k xs.length |>.imp id (by omega)
  rcases this with hk|hk
  ·have hk':k<vs.length:=by rw[←h.1];exact hk
   simp[hk]at hy;simp[hk']at hu;subst hy hu;exact hx
  ·simp[hk]at hy
 ·simp[e]at hy hu;exact h.2 i y u hy hu
theorem RVs.putAt {n:Nat} {xs:List V} {vs:List Value} (h:RVs I g n w xs vs) {ys:List V} {us:List Value} (hy:RVs I g n w ys us) (k:Nat) :
  RVs I g n w (zbj xs k ys) (putAt vs k us):=by
 induction ys generalizing xs vs us k with
 |nil=>cases us with
  |nil=>exact h
  |cons u t=>have:=hy.1;simp at this
 |cons y t ih=>cases us with
  |nil=>have:=hy.1;simp at this
  |cons u us =>
   simp only[zbj,VL.putAt,zky]
   refine ih (h.set (hy.2 0 _ _ rfl rfl) k) ⟨by have:=hy.1;simpa using this,fun i x v hx hv=>hy.2 (i+1) x v (by simpa using hx) (by simpa using hv)⟩ (k+1)
theorem zny (vs:List Value) (k:Nat) (cs:Array Value) (j:Nat) :
  (vs.zipIdx j).foldl (fun(cs:Array Value) (x:Value×Nat)=>cs.setIfInBounds (k+x.2) x.1) cs=(putAt cs.toList (k+j) vs).toArray:=by
 induction vs generalizing cs j with
 |nil=>simp[putAt]
 |cons v t ih =>
  simp only[List.zipIdx_cons,List.foldl_cons,putAt]
  rw[ih]
  simp[Nat.add_assoc]
theorem ze0 {n:Nat} {x:V} {v:Value} (h:RV I g n w x v) (h1:x.one=true∨∃l,x=.agg l):RVs I g n w x.cells v.cells.toList:=by
 have one:∀{x:V} {v:Value},x.cells=[x]→v.cells=#[v]→RV I g n w x v→RVs I g n w x.cells v.cells.toList:=by
  intro x v e1 e2 h
  rw[e1,e2]
  exact⟨rfl,fun i y u hy hu=>by cases i with
   |zero=>cases hy;cases hu;exact h
   |succ i=>simp at hy⟩
 have onec:∀{c:C} {v:Value},RC I w c v→v.cells=#[v]:=fun h=>by cases h<;>rfl
 cases h with
 |any=>rcases h1 with h1|⟨l,h1⟩<;>cases h1
 |tup=>rcases h1 with h1|⟨l,h1⟩<;>cases h1
 |agg xs vs hl h=>exact⟨by simpa [V.cells,Value.cells]using hl,fun i y u hy hu=>h i y u (by simpa [V.cells]using hy) (by simpa [Value.cells]using hu)⟩
 |c x v h=>exact one rfl (onec h) (.c x v h)
 |tt=>exact one rfl rfl .tt
 |ff=>exact one rfl rfl .ff
 |nil=>exact one rfl rfl .nil
 |iptr row b off val hI hc hr=>exact one rfl rfl (.iptr row b off val hI hc hr)
 |ptr id i st j b cl hn hg=>exact one rfl rfl (.ptr id i st j b cl hn hg)
 |slc id len b cap hn hg=>exact one rfl rfl (.slc id len b cap hn hg)
 |slc0 id hn hg=>exact one rfl rfl (.slc0 id hn hg)
 |fn f xs vs hl h=>exact one rfl rfl (.fn f xs vs hl h)
end
end Go.VL
namespace Go.VL
set_option linter.unusedVariables false
set_option linter.unusedSimpArgs false
section
variable {P : Program} {T : TT} {X : Cx} {I : Nat → Prop} {g : Gam} {s : S} {a : Act} {w : World} {o : Oper} {K : S → Prop}
 {N:Act→World→Prop} {Q:Exit→Act→World→Prop}
theorem zci (w:World) (ob:Obj) {k:Nat} (h:k<w.heap.size):(w.alloc ob).heap[k]? = w.heap[k]?:=by
 show(w.heap.push ob)[k]? = _
 rw[Array.getElem?_push,if_neg (by omega)]
theorem St.new (h:St X I g s a w) (cells:Array Value) (ty:TypeId) (ob:O) (cl:Nat×Nat)
  (hob:∀g' n',g' s.nx=some (w.heap.size,cl)→s.nx<n'→(∀id,id<s.nx→g' id=g id)→RO I g' n' (w.alloc (.cells cells ty)) s.nx ob)
  (hnst:∀g' b,g' s.nx=some (w.heap.size,cl)→¬Nst g' (w.alloc (.cells cells ty)) s.nx ob b) (hK:¬X.K0 s.nx):∃g',g' s.nx=some (w.heap.size,cl)∧St X I g' ⟨s.nt,s.nx+1,s.env,(s.nx,ob)::s.hp⟩ a (w.alloc (.cells cells ty)):=by
 obtain⟨g',hgn,hg⟩:∃g':Gam,g' s.nx=some (w.heap.size,cl)∧∀id,id<s.nx→g' id=g id :=
  ⟨fun i=>if i=s.nx then some (w.heap.size,cl)else g i,by simp,fun id hid=>by simp;intro h;omega⟩
 refine⟨g',hgn,?_⟩
 have hw:∀b,b<w.heap.size→(w.alloc (.cells cells ty)).heap[b]? = w.heap[b]?:=fun b hb=>zci w _ hb
 have hnew:=hob g' (s.nx+1) hgn (by omega) hg
 have hid:∀id o,(id,o)∈s.hp→id<s.nx:=fun id o hm=>(h.heap.obj id o hm).1
 have hgo:∀id o,(id,o)∈s.hp→g' id=g id:=fun id o hm=>hg id (hid id o hm)
 have hwo:∀id o b,(id,o)∈s.hp→Own g w id o b→(w.alloc (.cells cells ty)).heap[b]? = w.heap[b]?:=fun id o b hm ho=>hw b (h.heap.apart id o b hm ho).2
 have hback:∀{id o b},(id,o)∈s.hp→Own g' (w.alloc (.cells cells ty)) id o b→Own g w id o b:=fun {id o b} hm ho=>ho.congr (hgo id o hm) fun b cl hg=>hwo id o b hm (.pri hg)
 have hfirst:∀{b},Own g' (w.alloc (.cells cells ty)) s.nx ob b→b=w.heap.size:=fun {b} ho=>by
  rcases ho with ⟨cl',ho⟩|ho
  ·rw[hgn]at ho;cases ho;rfl
  ·exact(hnst g' b hgn ho).elim
 refine⟨h.df,h.sz,fun j=>(h.slots j).mono (fun _ h=>h) (fun b hI=>hw b (h.bound b hI)) (by simp) hg,⟨?_,?_,?_,?_⟩,?_,h.up,h.down,?_,?_,?_,fun id hid=>by have:=h.low id hid;simp;omega⟩
 ·intro id o' hm
  rcases List.mem_cons.1 hm with hm|hm
  ·cases hm;exact⟨by simp,hnew⟩
  ·refine⟨by have:=hid id o' hm;simp;omega,?_⟩
   exact(h.heap.obj id o' hm).2.mono (fun _ h=>h) (fun b hI=>hw b (h.bound b hI)) (by simp) hg (hid id o' hm) fun b hgb=>hwo id o' b hm hgb
 ·intro id o' b hm hgb
  rcases List.mem_cons.1 hm with hm|hm
  ·cases hm
   have:=hfirst hgb
   subst this
   exact⟨fun hI=>by have:=h.bound _ hI;omega,by simp⟩
  ·obtain⟨h1,h2⟩:=h.heap.apart id o' b hm (hback hm hgb)
   exact⟨h1,by simp;omega⟩
 ·simp only[List.map_cons,List.nodup_cons]
  refine⟨fun hm=>?_,h.heap.nodup⟩
  obtain⟨⟨i,o'⟩,hm,he⟩:=List.mem_map.1 hm
  have:=hid i o' hm
  simp at he
  omega
 ·intro id o1 id' o2 b hm hm' hgb hgb'
  rcases List.mem_cons.1 hm with hm|hm<;>rcases List.mem_cons.1 hm' with hm'|hm'
  ·cases hm;cases hm';rfl
  ·cases hm
   have:=hfirst hgb
   have:=(h.heap.apart _ _ _ hm' (hback hm' hgb')).2
   omega
  ·cases hm'
   have:=hfirst hgb'
   have:=(h.heap.apart _ _ _ hm (hback hm hgb)).2
   omega
  ·exact h.heap.inj id o1 id' o2 b hm hm' (hback hm hgb) (hback hm' hgb')
 ·intro b hI;have:=h.bound b hI;simp;omega
 ·rintro b ⟨id,o',hm,hgb⟩
  rcases List.mem_cons.1 hm with hm|hm
  ·cases hm;rw[hfirst hgb];exact .inl h.fr.size
  ·exact h.own b ⟨id,o',hm,hback hm hgb⟩
 ·intro id o' hm hbx hK0
  rcases List.mem_cons.1 hm with hm|hm
  ·cases hm;exact(hK hK0).elim
  ·rw[hgo _ _ hm];exact h.keep id o' hm hbx hK0
 ·exact⟨h.fr.os,h.fr.tape,h.fr.output,by have:=h.fr.size;simp;omega,fun b hb hd=>by
   rw[hw b (by have:=h.fr.size;omega)];exact h.fr.block b hb hd⟩
theorem St.newNil (h:St X I g s a w) (x:C) (hs:x.isSl=true) (h0:x.len=0):∃g',g' s.nx=none∧St X I g' ⟨s.nt,s.nx+1,s.env,(s.nx,.arr x)::s.hp⟩ a w:=by
 obtain⟨g',hgn,hg⟩:∃g':Gam,g' s.nx=none∧∀id,id<s.nx→g' id=g id :=
  ⟨fun i=>if i=s.nx then none else g i,by simp,fun id hid=>by simp;intro h;omega⟩
 refine⟨g',hgn,?_⟩
 have hid:∀id o,(id,o)∈s.hp→id<s.nx:=fun id o hm=>(h.heap.obj id o hm).1
 have hgo:∀id o,(id,o)∈s.hp→g' id=g id:=fun id o hm=>hg id (hid id o hm)
 have hback:∀{id o b},(id,o)∈s.hp→Own g' w id o b→Own g w id o b:=fun {id o b} hm ho=>ho.congr (hgo id o hm) fun _ _ _=>rfl
 have hfirst:∀{b},¬Own g' w s.nx (.arr x) b:=fun {b} ho=>by
  obtain⟨cl',ho⟩:=ho.nd (fun _ _ _ _ e=>by cases e)
  rw[hgn]at ho;cases ho
 refine⟨h.df,h.sz,fun j=>(h.slots j).mono (fun _ h=>h) (fun b hI=>rfl) (by simp) hg,⟨?_,?_,?_,?_⟩,h.bound,h.up,h.down,?_,?_,h.fr,fun id hid=>by have:=h.low id hid;simp;omega⟩
 ·intro id o' hm
  rcases List.mem_cons.1 hm with hm|hm
  ·cases hm;exact⟨by simp,.none x hgn hs h0⟩
  ·refine⟨by have:=hid id o' hm;simp;omega,?_⟩
   exact(h.heap.obj id o' hm).2.mono (fun _ h=>h) (fun b hI=>rfl) (by simp) hg (hid id o' hm) fun b hgb=>rfl
 ·intro id o' b hm hgb
  rcases List.mem_cons.1 hm with hm|hm
  ·cases hm;exact(hfirst hgb).elim
  ·exact h.heap.apart id o' b hm (hback hm hgb)
 ·simp only[List.map_cons,List.nodup_cons]
  refine⟨fun hm=>?_,h.heap.nodup⟩
  obtain⟨⟨i,o'⟩,hm,he⟩:=List.mem_map.1 hm
  have:=hid i o' hm
  simp at he
  omega
 ·intro id o1 id' o2 b hm hm' hgb hgb'
  rcases List.mem_cons.1 hm with hm|hm<;>rcases List.mem_cons.1 hm' with hm'|hm'
  ·cases hm;cases hm';rfl
  ·cases hm;exact(hfirst hgb).elim
  ·cases hm';exact(hfirst hgb').elim
  ·exact h.heap.inj id o1 id' o2 b hm hm' (hback hm hgb) (hback hm' hgb')
 ·rintro b ⟨id,o',hm,hgb⟩
  rcases List.mem_cons.1 hm with hm|hm
  ·cases hm;exact(hfirst hgb).elim
  ·exact h.own b ⟨id,o',hm,hback hm hgb⟩
 ·intro id o' hm hbx hK0
  rcases List.mem_cons.1 hm with hm|hm
  ·cases hm;cases hbx
  ·rw[hgo _ _ hm];exact h.keep id o' hm hbx hK0
theorem S.alloc_eq (s:S) (dst:Option Nat) (ob:O) (v:V) (K:S→Prop):s.alloc dst ob v K=S.put ⟨s.nt,s.nx+1,s.env,(s.nx,ob)::s.hp⟩ dst v K:=by
 cases s;simp only[S.alloc,zfv]
theorem S.allocPtr_eq (s:S) (dst:Option Nat) (ob:O) (a b c:Nat) (K:S→Prop):s.allocPtr dst ob a b c K=s.alloc dst ob (.ptr s.nx a b c) K:=rfl
theorem S.allocSlc_eq (s:S) (dst:Option Nat) (ob:O) (K:S→Prop):s.allocSlc dst ob K=s.alloc dst ob (.slc s.nx) K:=rfl
theorem zd6 {cells:Array Value} {ty:TypeId} {ob:O} {v:V} {val:Value} {cl:Nat×Nat}
  (h:St X I g s a w) (hrun:(execOp a.eval o).run P w=.ok (.value val) (w.alloc (.cells cells ty)))
  (hob:∀g' n',g' s.nx=some (w.heap.size,cl)→s.nx<n'→(∀id,id<s.nx→g' id=g id)→RO I g' n' (w.alloc (.cells cells ty)) s.nx ob)
  (hv:∀g' n',g' s.nx=some (w.heap.size,cl)→s.nx<n'→RV I g' n' (w.alloc (.cells cells ty)) v val)
  (hK:¬X.K0 s.nx) (hk:s.alloc o.dst ob v K) (hN:∀s' a' w',Sat X s' a' w'→K s'→N a' w')
  (hnst:∀g' b,g' s.nx=some (w.heap.size,cl)→¬Nst g' (w.alloc (.cells cells ty)) s.nx ob b:=by intro _ _ _ h;exact h.elim):o.wp P a w N Q:=by
 rw[S.alloc_eq]at hk
 obtain⟨g',hg',hst⟩:=h.new cells ty ob cl hob hnst hK
 exact zaj hrun hst (hv g' _ hg' (by simp)) hk hN
def Cx.low (X:Cx) (s:S):Prop:=∀id,X.K0 id→id<s.nx
theorem zp6 (t:TypeId) (v:Value) (w:World):(newVar t v).run P w=.ok ⟨w.heap.size,0,none⟩ (w.alloc (.cells v.cells t)):=by
 simp[newVar,newRow]
theorem RO.box_of {n id:Nat} {b:Nat} {cl:Nat×Nat} {pre post:List V} {bs:List Bool} {vs:List Value} {ty:TypeId} (hg:g id=some (b,cl))
  (hb:w.heap[b]? = some (.cells vs.toArray ty (0,0))) (h:RVs I g n w (pre++(bs.map fun x=>V.c (C.bool x))++post) vs):RO I g n w id (.box pre bs post):=by
 have hl:=h.1
 simp only[List.length_append,List.length_map]at hl
 refine .box pre bs post b cl vs ty hg hb hl.symm (fun i x v hx hv=>?_) (fun i x hx=>?_) (fun i x v hx hv=>?_)
 ·exact h.2 i x v (by rw[List.append_assoc,List.getElem?_append_left (List.getElem?_eq_some_iff.1 hx).1];exact hx) hv
 ·have hi:=(List.getElem?_eq_some_iff.1 hx).1
  have hlt:pre.length+i<vs.length:=by omega
  have:=h.2 (pre.length+i) (.c (.bool x)) vs[pre.length+i] (by
   rw[List.append_assoc,List.getElem?_append_right (by omega),List.getElem?_append_left (by simp;omega)]
   simp[hx]) (List.getElem?_eq_getElem hlt)
  rw[List.getElem?_eq_getElem hlt,this.bool_inv]
 ·have hi:=(List.getElem?_eq_some_iff.1 hx).1
  exact h.2 _ x v (by
   rw[List.getElem?_append_right (by simp)]
   simp only[List.length_append,List.length_map]
   rw[show pre.length+bs.length+i-(pre.length+bs.length)=i from by omega];exact hx) hv
theorem RO.arr_of {n id:Nat} {b cap:Nat} {x:C} {vs:List Value} {ty:TypeId} (hg:g id=some (b,cap,x.len)) (hs:x.isSl=true)
  (hb:w.heap[b]? = some (.cells vs.toArray ty (0,0))) (hl:vs.length=cap*x.stride) (hcap:x.len≤cap)
  (h:∀i j y,i<x.len→(x.row i)[j]? = some y→∃v,vs[i*x.stride+j]? = some v∧RC I w y v) (ht:x.isPg=true→∀v∈vs,zc5 v):RO I g n w id (.arr x) :=
 .arr x b cap vs ty hg hs hb hl hcap h ht
theorem RC.slVal {y:C} {v:Value} (hs:y.isSl=true) (h:RC I w y v):zc5 v:=by
 cases h with
 |int=>cases hs
 |bool=>cases hs
 |empty _ a cap=>exact⟨_,_,_,rfl⟩
 |sl=>exact⟨_,_,_,rfl⟩
theorem C.row_sl {x:C} (hp:x.isPg=true) {i j:Nat} {y:C} (h:(x.row i)[j]? = some y):y.isSl=true:=by
 cases x with
 |pgs xs =>
  match j with
  |0=>cases h;rfl
  |1=>cases h;rfl
  |2=>cases h;rfl
  |j+3=>cases h
 |_=>cases hp
theorem zlf {x:C} (hs:x.isSl=true) {vs:List Value} (hl:vs.length=x.len*x.stride) (h:∀i j y,i<x.len→(x.row i)[j]? = some y→∃v,vs[i*x.stride+j]? = some v∧RC I w y v):x.isPg=true→∀v∈vs,zc5 v:=by
 intro hp v hv
 obtain⟨m,hm⟩:=List.getElem?_of_mem hv
 have hml:m<x.len*x.stride:=by rw[←hl];exact(List.getElem?_eq_some_iff.1 hm).1
 have hst:0<x.stride:=by
  rcases Nat.eq_zero_or_pos x.stride with e|e
  ·rw[e]at hml;omega
  ·exact e
 have hi:m / x.stride<x.len:=(Nat.div_lt_iff_lt_mul hst).2 hml
 have hj:m % x.stride<(x.row (m / x.stride)).length:=by rw[C.row_len _ _ hs];exact Nat.mod_lt _ hst
 obtain⟨v',a1,a2⟩:=h _ _ _ hi (List.getElem?_eq_getElem hj)
 rw[show m / x.stride*x.stride+m % x.stride=m by rw[Nat.mul_comm];exact Nat.div_add_mod m x.stride,hm]at a1
 cases a1
 exact a2.slVal (C.row_sl hp (List.getElem?_eq_getElem hj))
theorem zdf {vs:List Value}:∀{cs:List Value} {k:Nat} {u:Value},u∈putAt cs k vs→u∈cs∨u∈vs:=by
 induction vs with
 |nil=>intro cs k u h;exact .inl h
 |cons v t ih =>
  intro cs k u h
  rw[putAt]at h
  rcases ih h with h|h
  ·rcases List.mem_or_eq_of_mem_set h with h|h
   ·exact .inl h
   ·exact .inr (h▸List.mem_cons_self)
  ·exact .inr (List.mem_cons_of_mem _ h)
theorem V.slB_val {n:Nat} {u:V} {v:Value} (hu:u.slB=true) (h:RV I g n w u v):zc5 v:=by
 cases u with
 |slc id=>cases h<;>exact⟨_,_,_,rfl⟩
 |nil=>cases h;exact⟨_,_,_,rfl⟩
 |c x=>cases h with|c _ _ h=>exact h.slVal hu
 |_=>cases hu
theorem z2d {us:List V} (h:slL us=true):∀u∈us,u.slB=true:=by
 induction us with
 |nil=>intro u hu;cases hu
 |cons x t ih =>
  simp only[slL]at h
  split at h
  ·rename_i h1
   intro u hu
   rcases List.mem_cons.1 hu with hu|hu
   ·rw[hu];exact h1
   ·exact ih h u hu
  ·cases h
theorem RVs.slVal {n:Nat} {us:List V} {vs:List Value} (h:RVs I g n w us vs) (hs:slL us=true):∀v∈vs,zc5 v:=by
 intro v hv
 obtain⟨i,hi⟩:=List.getElem?_of_mem hv
 have hlt:i<us.length:=by rw[h.1];exact(List.getElem?_eq_some_iff.1 hi).1
 exact V.slB_val (z2d hs _ (List.getElem_mem hlt)) (h.2 i us[i] v (List.getElem?_eq_getElem hlt) hi)
theorem zjr {x:C} {us:List V} (h:zhg x us=true) (hp:x.isPg=true):slL us=true:=by
 unfold zhg at h;rw[hp]at h;exact h
theorem znv (kd:Kd) (n:Nat):(kd.zeros n).isSl=true∧(kd.zeros n).len=n∧(kd.zeros n).stride=(z9 kd).cells.size ∧
  ∀(i j:Nat) y,i<n→((kd.zeros n).row i)[j]? = some y→∃v,(z9 kd).cells[j]? = some v∧∀(I:Nat→Prop) (w:World),RC I w y v:=by
 have e:∀(I:Nat→Prop) (w:World) (x:C),x.isSl=true→x.len=0→RC I w x (.slice none 0 0):=fun I w x h1 h2=>.empty x _ _ h1 h2
 refine⟨by cases kd<;>rfl,by cases kd<;>simp[Kd.zeros,C.len],by cases kd<;>rfl,fun i j y hi hy=>?_⟩
 cases kd
 case nums k =>
  simp only[Kd.zeros,C.row,List.getD,List.getElem?_replicate,hi,if_true,Option.getD_some]at hy
  cases j with
  |zero=>cases hy;exact⟨_,rfl,fun I w=>.int _ _⟩
  |succ j=>simp at hy
 case bools =>
  simp only[Kd.zeros,C.row,List.getD,List.getElem?_replicate,hi,if_true,Option.getD_some]at hy
  cases j with
  |zero=>cases hy;exact⟨_,rfl,fun I w=>.bool _⟩
  |succ j=>simp at hy
 case prs =>
  simp only[Kd.zeros,C.row,Pr.row,List.getD,List.getElem?_replicate,hi,if_true,Option.getD_some]at hy
  match j with
  |0=>cases hy;exact⟨_,rfl,fun I w=>.int _ _⟩
  |1=>cases hy;exact⟨_,rfl,fun I w=>.int _ _⟩
  |j+2=>simp at hy
 case pgs =>
  simp only[Kd.zeros,C.row,Pg.row,List.getD,List.getElem?_replicate,hi,if_true,Option.getD_some]at hy
  match j with
  |0=>cases hy;exact⟨_,rfl,fun I w=>e _ _ _ rfl rfl⟩
  |1=>cases hy;exact⟨_,rfl,fun I w=>e _ _ _ rfl rfl⟩
  |2=>cases hy;exact⟨_,rfl,fun I w=>e _ _ _ rfl rfl⟩
  |j+3=>simp at hy
 case lks =>
  simp only[Kd.zeros,C.row,Lk.row,List.getD,List.getElem?_replicate,hi,if_true,Option.getD_some]at hy
  match j with
  |0=>cases hy;exact⟨_,rfl,fun I w=>e _ _ _ rfl rfl⟩
  |1=>cases hy;exact⟨_,rfl,fun I w=>.int _ _⟩
  |2=>cases hy;exact⟨_,rfl,fun I w=>.int _ _⟩
  |j+3=>simp at hy
 case ops =>
  simp only[Kd.zeros,C.row,Opn.row,List.getD,List.getElem?_replicate,hi,if_true,Option.getD_some]at hy
  match j with
  |0=>cases hy;exact⟨_,rfl,fun I w=>.int _ _⟩
  |1=>cases hy;exact⟨_,rfl,fun I w=>.int _ _⟩
  |2=>cases hy;exact⟨_,rfl,fun I w=>.int _ _⟩
  |j+3=>simp at hy
 case numss =>
  simp only[Kd.zeros,C.row,List.getD,List.getElem?_replicate,hi,if_true,Option.getD_some]at hy
  cases j with
  |zero=>cases hy;exact⟨_,rfl,fun I w=>e _ _ _ rfl rfl⟩
  |succ j=>simp at hy
 case prss =>
  simp only[Kd.zeros,C.row,List.getD,List.getElem?_replicate,hi,if_true,Option.getD_some]at hy
  cases j with
  |zero=>cases hy;exact⟨_,rfl,fun I w=>e _ _ _ rfl rfl⟩
  |succ j=>simp at hy
theorem zu6 (hT:TOk P T) {t:Nat} (ho:o.op=.alloc t) (h:St X I g s a w) (hk:zg6 T t s o.dst K)
  (hN:∀s' a' w',Sat X s' a' w'→K s'→N a' w'):o.wp P a w N Q:=by
 have hK:¬X.K0 s.nx:=fun hk=>by have:=h.low _ hk;omega
 have hrun:∀z,zai P t z→(execOp a.eval o).run P w=.ok (.value (.pointer (some ⟨w.heap.size,0,none⟩))) (w.alloc (.cells z.cells t)):=fun z hz=>by
  simp[execOp,ho,Instr.alloc,run_zero' hz,zp6]
 have hti:=hT t
 unfold zg6 at hk
 simp only[S.allocPtr_eq]at hk
 have hbox:∀(z:Value) (zs:List Value) (pre post:List V) (m:Nat),zai P t z→z.cells=zs.toArray→zs.map zil=pre++(List.replicate m false).map (fun x=>V.c (C.bool x))++post ∨
   (∃c1 c2,zs=c1++List.replicate m (.bool false)++c2∧c1.map zil=pre∧c2.map zil=post) →
   s.alloc o.dst (.box pre (List.replicate m false) post) (.ptr s.nx 0 0 0) K→o.wp P a w N Q:=by
  intro z zs pre post m hz hc hm hk
  refine zd6 (cl:=(0,0)) h (by rw[hrun z hz,hc]) (fun g' n' hg' hn' _=>?_) (fun g' n' hg' hn'=>?_) hK hk hN
  ·refine RO.box_of hg' (heap_alloc_new w _) ?_
   rcases hm with hm|⟨c1,c2,rfl,rfl,rfl⟩
   ·rw[←hm]
    exact⟨by simp,fun i x v hx hv=>by
     rw[List.getElem?_map,hv]at hx;cases hx;exact zi9 _ v⟩
   ·refine⟨by simp,fun i x v hx hv=>?_⟩
    rw[List.append_assoc]at hx hv
    by_cases c:i<c1.length
    ·rw[List.getElem?_append_left (by simpa using c)]at hx
     rw[List.getElem?_append_left c]at hv
     rw[List.getElem?_map,hv]at hx;cases hx;exact zi9 _ v
    ·rw[List.getElem?_append_right (by simp;omega)]at hx
     rw[List.getElem?_append_right (by omega)]at hv
     simp only[List.length_map]at hx
     by_cases c2':i-c1.length<m
     ·rw[List.getElem?_append_left (by simpa using c2')]at hx hv
      simp[c2']at hx hv
      subst hx hv;exact RV.mkbool _ _
     ·rw[List.getElem?_append_right (by simp;omega)]at hx hv
      simp only[List.length_map,List.length_replicate]at hx hv
      rw[List.getElem?_map,hv]at hx;cases hx;exact zi9 _ v
  ·have:=RV.ptr (I:=I) (w:=w.alloc (.cells zs.toArray t)) s.nx 0 0 0 w.heap.size (0,0) hn' hg'
   simpa using this
 split at hk
 ·rename_i z hti'
  rw[hti']at hti
  obtain⟨_,_,⟨z0,hz,hc,hcell⟩,_,_⟩:=hti
  exact hbox z0 [z0] [z] [] 0 hz hcell (.inl (by simp[hc])) hk
 ·rename_i hti'
  rw[hti']at hti
  exact hbox _ [.slice none 0 0] [.nil] [] 0 hti.2.2.1 rfl (.inl (by simp[zil])) hk
 ·rename_i fs zs hti'
  rw[hti']at hti
  obtain⟨_,_,⟨cells,hz,hc⟩,_⟩:=hti
  exact hbox _ cells zs [] 0 hz rfl (.inl (by simp[hc])) hk
 ·rename_i n e kd hti'
  rw[hti']at hti
  obtain⟨_,_,_,hst,_,hz,hcell,_⟩:=hti
  obtain⟨z1,z2,z3,z4⟩:=znv kd n
  have hst1:(kd.zeros n).stride=1:=by rw[z3,hcell];rfl
  refine zd6 (cl:=(n,n)) h (hrun _ hz) (fun g' n' hg' hn' _=>?_) (fun g' n' hg' hn'=>?_) hK hk hN
  ·have hrows:∀i j y,i<(kd.zeros n).len→((kd.zeros n).row i)[j]? = some y→∃v,(List.replicate n (z9 kd))[i*(kd.zeros n).stride+j]? = some v∧RC I (w.alloc (.cells (Value.agg (List.replicate n (z9 kd)).toArray).cells t)) y v:=?_
   ·exact RO.arr_of (by rw[z2];exact hg') z1 (heap_alloc_new w _) (by simp[hst1]) (by rw[z2];exact Nat.le_refl _) hrows (zlf z1 (by simp[hst1,z2]) hrows)
   intro i j y hi hy
   rw[z2]at hi
   obtain⟨v,hv,hr⟩:=z4 i j y hi hy
   refine⟨v,?_,hr _ _⟩
   have hj:j=0:=by
    have:=(List.getElem?_eq_some_iff.1 hy).1
    rw[C.row_len _ _ z1,hst1]at this
    omega
   subst hj
   rw[hst1]
   rw[hcell]at hv
   simp at hv
   subst hv
   simp[hi]
  ·have:=RV.ptr (I:=I) (w:=w.alloc (.cells (Value.agg (List.replicate n (z9 kd)).toArray).cells t)) s.nx 0 kd.empty.stride 0 w.heap.size (n,n) hn' hg'
   simpa using this
 ·rename_i fs pre n post hti'
  rw[hti']at hti
  obtain⟨_,_,⟨c1,c2,hz,h1,h2⟩,_⟩:=hti
  exact hbox _ _ pre post n hz rfl (.inr ⟨c1,c2,rfl,h1,h2⟩) hk
 ·exact hk.elim
theorem zzj {t:Nat} {x:Operand} (ho:o.op=.box t x) (h:St X I g s a w) (h1:(evl s.env x).one=true∨∃l,evl s.env x=.agg l)
  (hk:s.alloc o.dst (.box (evl s.env x).cells [] []) (.ptr s.nx 0 0 0) K) (hN:∀s' a' w',Sat X s' a' w'→K s'→N a' w'):o.wp P a w N Q:=by
 have hK:¬X.K0 s.nx:=fun hk=>by have:=h.low _ hk;omega
 have hrun:(execOp a.eval o).run P w=.ok (.value (.pointer (some ⟨w.heap.size,0,none⟩))) (w.alloc (.cells (a.eval x).cells t)):=by
  simp[execOp,ho,Instr.box,zp6]
 have hx:=ze0 (h.eval x) h1
 refine zd6 (cl:=(0,0)) h hrun (fun g' n' hg' hn' hgo=>?_) (fun g' n' hg' hn'=>?_) hK hk hN
 ·refine RO.box_of (vs:=(a.eval x).cells.toList) (ty:=t) hg' (by simpa using heap_alloc_new w (.cells (a.eval x).cells t)) ?_
  simp only[List.map_nil,List.append_nil]
  exact⟨hx.1,fun i y v hy hv=>(hx.2 i y v hy hv).mono (fun _ h=>h) (fun b hI=>zci w _ (h.bound b hI)) (by omega) hgo⟩
 ·have:=RV.ptr (I:=I) (w:=w.alloc (.cells (a.eval x).cells t)) s.nx 0 0 0 w.heap.size (0,0) hn' hg'
  simpa using this
end
end Go.VL
namespace Go.VL
set_option linter.unusedVariables false
set_option linter.unusedSimpArgs false
section
variable {P : Program} {T : TT} {X : Cx} {I : Nat → Prop} {g : Gam} {s : S} {a : Act} {w : World} {o : Oper} {K : S → Prop}
 {N:Act→World→Prop} {Q:Exit→Act→World→Prop}
structure Only (b:Nat) (w w':World):Prop where
 os:w'.os=w.os
 tape:w'.tape=w.tape
 output:w'.output=w.output
 size:w'.heap.size=w.heap.size
 block:∀k,k≠b→w'.heap[k]? = w.heap[k]?
theorem Only.refl (b:Nat) (w:World):Only b w w:=⟨rfl,rfl,rfl,rfl,fun _ _=>rfl⟩
theorem Only.trans {b:Nat} {u v w:World} (h:Only b u v) (k:Only b v w):Only b u w :=
 ⟨k.os.trans h.os,k.tape.trans h.tape,k.output.trans h.output,k.size.trans h.size,fun i hi=>(k.block i hi).trans (h.block i hi)⟩
theorem zup {w:World} {b i:Nat} {cs:List Value} {ty:TypeId} (v:Value) (hb:w.heap[b]? = some (.cells cs.toArray ty (0,0))) :
  (w.setCell ⟨b,i,none⟩ v).heap[b]? = some (.cells (cs.set i v).toArray ty (0,0))∧Only b w (w.setCell ⟨b,i,none⟩ v):=by
 refine⟨?_,rfl,rfl,rfl,by simp[World.setCell],fun k hk=>?_⟩
 ·simp only[World.setCell,Array.getElem?_modify,if_true,hb,Option.map_some]
  simp
 ·simp only[World.setCell,Array.getElem?_modify]
  rw[if_neg (by omega)]
theorem zkq (vs:List Value):∀(w:World) (b off i:Nat) (cs:List Value) (ty:TypeId),w.heap[b]? = some (.cells cs.toArray ty (0,0))→off+i+vs.length≤cs.length →
  (∀v∈vs,v.oneCell'=true)→∃w',(storeCells ⟨b,off,none⟩ vs i).run P w=.ok () w'∧w'.heap[b]? = some (.cells (putAt cs (off+i) vs).toArray ty (0,0))∧Only b w w':=by
 induction vs with
 |nil=>intro w b off i cs ty hb _ _;exact⟨w,rfl,hb,Only.refl b w⟩
 |cons v t ih =>
  intro w b off i cs ty hb hl h1
  obtain⟨e1,e2⟩:=zup (i:=off+i) v hb
  obtain⟨w',r1,r2,r3⟩:=ih (w.setCell ⟨b,off+i,none⟩ v) b off (i+1) (cs.set (off+i) v) ty e1 (by simp at hl⊢;omega) (fun u hu=>h1 u (List.mem_cons_of_mem _ hu))
  refine⟨w',?_,by rw[putAt];exact r2,e2.trans r3⟩
  have hc:w.cell? ⟨b,off+i,none⟩=some (cs[off+i]'(by simp at hl;omega)):=by
   rw[cell_of_row w b _ cs.toArray ty (0,0) hb]
   simp at hl⊢
  have hf:w.frozen? ⟨b,off+i,none⟩=false:=frozen_of_row w b _ cs.toArray ty hb
  simp only[storeCells,Sem.run_bind,zed,run_store P w ⟨b,off+i,none⟩ v .plain (h1 v List.mem_cons_self),hc,hf]
  exact r1
theorem zcc (hp:List (Nat×O)) (id:Nat) (ob:O):(zac hp id ob).map (·.1)=hp.map (·.1):=by
 induction hp with
 |nil=>rfl
 |cons x t ih =>
  obtain⟨k,v⟩:=x
  simp only[zac]
  cases Nat.beq k id<;>simp[ih]
theorem zd7 {hp:List (Nat×O)} (hn:(hp.map (·.1)).Nodup) {id i:Nat} {ob o':O} (h:(i,o')∈zac hp id ob):(i=id∧o'=ob)∨((i,o')∈hp∧i≠id):=by
 induction hp with
 |nil=>cases h
 |cons x t ih =>
  obtain⟨k,v⟩:=x
  simp only[List.map_cons,List.nodup_cons]at hn
  simp only[zac]at h
  cases hk:Nat.beq k id with
  |true =>
   have hk:=Nat.eq_of_beq_eq_true hk
   rw[hk,Nat.beq_refl]at h
   rcases List.mem_cons.1 h with h|h
   ·cases h;exact .inl ⟨rfl,rfl⟩
   ·refine .inr ⟨List.mem_cons_of_mem _ h,fun e=>hn.1 ?_⟩
    rw[hk,←e];exact List.mem_map.2 ⟨_,h,rfl⟩
  |false =>
   rw[hk]at h
   rcases List.mem_cons.1 h with h|h
   ·cases h;exact .inr ⟨List.mem_cons_self,Nat.ne_of_beq_eq_false hk⟩
   ·rcases ih hn.2 h with h|h
    ·exact .inl h
    ·exact .inr ⟨List.mem_cons_of_mem _ h.1,h.2⟩
theorem St.modify (h:St X I g s a w) {id b:Nat} {cl:Nat×Nat} {ob ob':O} (hm:(id,ob)∈s.hp) (hg:g id=some (b,cl)) (hbx:ob'.isBox=ob.isBox) {w':World} (ho:Only b w w')
  (hro:RO I g s.nx w' id ob') (hns:∀b',Nst g w' id ob' b'→Nst g w id ob b':=by intro _ h;exact h.elim):St X I g {s with hp:=zac s.hp id ob'} a w':=by
 have hI:∀k,I k→w'.heap[k]? = w.heap[k]?:=fun k hk=>ho.block k fun e=>(h.heap.apart id ob b hm (.pri hg)).1 (e▸hk)
 have hold:∀i o',(i,o')∈s.hp→i≠id→∀k,Own g w i o' k→w'.heap[k]? = w.heap[k]?:=fun i o' hmi hne k hgk =>
  ho.block k fun e=>hne (h.heap.inj i o' id ob k hmi hm hgk (e▸.pri hg))
 have hmem:∀i o',(i,o')∈zac s.hp id ob'→∃o'',(i,o'')∈s.hp∧o''.isBox=o'.isBox∧∀k,Own g w' i o' k→Own g w i o'' k:=fun i o' hmi=>by
  rcases zd7 h.heap.nodup hmi with ⟨rfl,rfl⟩|⟨h1,hne⟩
  ·exact⟨ob,hm,hbx.symm,fun k hk=>hk.imp _root_.id (hns k)⟩
  ·exact⟨o',h1,rfl,fun k hk=>hk.congr rfl fun k c hgk=>hold i o' h1 hne k (.pri hgk)⟩
 refine⟨h.df,h.sz,fun j=>(h.slots j).mono (fun _ h=>h) hI (Nat.le_refl _) fun _ _=>rfl,⟨?_,?_,?_,?_⟩,fun k hk=>by rw[ho.size];exact h.bound k hk,h.up,h.down,?_,?_,?_,h.low⟩
 ·intro i o' hmi
  rcases zd7 h.heap.nodup hmi with ⟨rfl,rfl⟩|⟨h1,hne⟩
  ·exact⟨(h.heap.obj _ _ hm).1,hro⟩
  ·exact⟨(h.heap.obj _ _ h1).1,(h.heap.obj _ _ h1).2.mono (fun _ h=>h) hI (Nat.le_refl _) (fun _ _=>rfl) (h.heap.obj _ _ h1).1 fun k hgk=>hold i o' h1 hne k hgk⟩
 ·intro i o' k hmi hgk
  obtain⟨o'',h1,_,h2⟩:=hmem i o' hmi
  rw[ho.size];exact h.heap.apart i o'' k h1 (h2 k hgk)
 ·show(List.map _ (zac s.hp id ob')).Nodup
  rw[zcc];exact h.heap.nodup
 ·intro i o1 i' o2 k h1 h2 g1 g2
  obtain⟨p1,q1,_,r1⟩:=hmem _ _ h1
  obtain⟨p2,q2,_,r2⟩:=hmem _ _ h2
  exact h.heap.inj i p1 i' p2 k q1 q2 (r1 k g1) (r2 k g2)
 ·rintro k ⟨i,o',hmi,hgk⟩
  obtain⟨o'',h1,_,h2⟩:=hmem i o' hmi
  exact h.own k ⟨i,o'',h1,h2 k hgk⟩
 ·intro i o' hmi hb hK
  obtain⟨o'',h1,h2,_⟩:=hmem i o' hmi
  exact h.keep i o'' h1 (by rw[h2];exact hb) hK
 ·refine⟨ho.os.trans h.fr.os,ho.tape.trans h.fr.tape,ho.output.trans h.fr.output,by rw[ho.size];exact h.fr.size,fun k hk hd=>?_⟩
  rw[ho.block k fun e=>?_]
  ·exact h.fr.block k hk hd
  ·rcases h.own b ⟨id,ob,hm,.pri hg⟩with h1|h1
   ·omega
   ·exact hd (e▸h1)
theorem zkm (id:Nat) (xs:List V) (i:Nat):(z6 id xs)[i]? = (xs[i]?).map (V.forget id):=by
 induction xs generalizing i with
 |nil=>simp[z6]
 |cons x t ih=>cases i with
  |zero=>simp[z6]
  |succ i=>simpa [z6]using ih i
theorem zcw (id:Nat) (xs:List V):z6 id xs=xs.map (V.forget id):=by
 apply List.ext_getElem?;intro i;simp[zkm]
theorem zeo (id:Nat) (x:C) (xs:List V):zcl id x xs=xs.map (V.frz id x):=by
 induction xs with
 |nil=>simp[zcl]
 |cons y t ih=>simp[zcl,ih]
theorem za5 (r:Nat→Nat) (xs:List V):zag r xs=xs.map (V.ren r):=by
 induction xs with
 |nil=>simp[zag]
 |cons y t ih=>simp[zag,ih]
theorem RV.forget {id n:Nat} {g':Gam} (hg:∀i,i<n→i≠id→g' i=g i) {v:V} {val:Value} (h:RV I g n w v val):RV I g' n w (v.forget id) val:=by
 have mapped:∀(xs:List V) (vs:List Value),xs.length=vs.length→(∀(i:Nat) x v,xs[i]? = some x→vs[i]? = some v→RV I g' n w (x.forget id) v) →
   ∀(i:Nat) x v,(z6 id xs)[i]? = some x→vs[i]? = some v→RV I g' n w x v:=by
  intro xs vs _ ih i x v hx hv
  rw[zkm]at hx
  cases hq:xs[i]? with
  |none=>rw[hq]at hx;cases hx
  |some y=>rw[hq]at hx;cases hx;exact ih i y v hq hv
 induction h with
 |any v=>exact .any v
 |tt=>exact .tt
 |ff=>exact .ff
 |nil=>exact .nil
 |c x v h=>exact .c x v h
 |agg xs vs hl _ ih=>exact .agg _ vs (by rw[zcw];simpa using hl) (mapped xs vs hl ih)
 |tup xs vs hl _ ih=>exact .tup _ vs (by rw[zcw];simpa using hl) (mapped xs vs hl ih)
 |fn f xs vs hl _ ih=>exact .fn f _ vs (by rw[zcw];simpa using hl) (mapped xs vs hl ih)
 |iptr row b off val hb hc hr=>exact .iptr row b off val hb hc hr
 |ptr i p st j b cl h1 h2 =>
  simp only[V.forget]
  cases hk:Nat.beq i id with
  |true=>exact .any _
  |false=>exact .ptr i p st j b cl h1 (by rw[hg i h1 (Nat.ne_of_beq_eq_false hk)];exact h2)
 |slc i len b cap h1 h2 =>
  simp only[V.forget]
  cases hk:Nat.beq i id with
  |true=>exact .any _
  |false=>exact .slc i len b cap h1 (by rw[hg i h1 (Nat.ne_of_beq_eq_false hk)];exact h2)
 |slc0 i h1 h2 =>
  simp only[V.forget]
  cases hk:Nat.beq i id with
  |true=>exact .any _
  |false=>exact .slc0 i h1 (by rw[hg i h1 (Nat.ne_of_beq_eq_false hk)];exact h2)
theorem zex (f:V→V) (hf:f .any=.any) (env:List (Nat×V)) (j:Nat):zaw (zb2 f env) j=f (zaw env j):=by
 induction env with
 |nil=>exact hf.symm
 |cons x t ih =>
  obtain⟨k,v⟩:=x
  simp only[zb2,zc1]
  split
  ·rfl
  ·exact ih
theorem zjp {fl:List V→List V} {hp:List (Nat×O)} {i:Nat} {ob:O} (h:(i,ob)∈za7 fl hp):∃o',(i,o')∈hp∧ob=o'.map fl:=by
 induction hp with
 |nil=>cases h
 |cons x t ih =>
  obtain⟨k,v⟩:=x
  rcases List.mem_cons.1 h with h|h
  ·cases h;exact⟨v,List.mem_cons_self,rfl⟩
  ·obtain⟨o',h1,h2⟩:=ih h;exact⟨o',List.mem_cons_of_mem _ h1,h2⟩
theorem zif (fl:List V→List V) (hp:List (Nat×O)):(za7 fl hp).map (·.1)=hp.map (·.1):=by
 induction hp with
 |nil=>rfl
 |cons x t ih=>obtain⟨k,v⟩:=x;simp[za7,ih]
theorem ziv (fl:List V→List V) (hp:List (Nat×O)) (i:Nat):zq (za7 fl hp) i=(zq hp i).map (O.map fl):=by
 induction hp with
 |nil=>rfl
 |cons x t ih =>
  obtain⟨k,v⟩:=x
  simp only[za7,zaz]
  split
  ·rfl
  ·exact ih
theorem O.isBox_map (fl:List V→List V) (ob:O):(ob.map fl).isBox=ob.isBox:=by cases ob<;>rfl
theorem RO.mapV {I':Nat→Prop} {g':Gam} {n n' id:Nat} {w':World} (f:V→V) (h:∀v val,RV I g n w v val→RV I' g' n' w' (f v) val) {fl:List V→List V} (hfl:∀xs,fl xs=xs.map f)
  (hI:∀b,I b→I' b) (hw:∀b,I b→w'.heap[b]? = w.heap[b]?) (hg:g' id=g id) {ob:O} (hbo:∀b,Own g w id ob b→w'.heap[b]? = w.heap[b]?) (hr:RO I g n w id ob) :
  RO I' g' n' w' id (ob.map fl):=by
 have hb:∀b cl,g id=some (b,cl)→w'.heap[b]? = w.heap[b]?:=fun b cl h=>hbo b (.pri h)
 cases hr with
 |box pre bs post b cl cells ty hg' hb' hl h1 h2 h3 =>
  simp only[O.map,hfl]
  refine .box _ bs _ b cl cells ty (by rw[hg,hg']) (by rw[hb b cl hg'];exact hb') (by simpa using hl) (fun i x v hx hv=>?_) (fun i x hx=>?_) (fun i x v hx hv=>?_)
  ·rw[List.getElem?_map]at hx
   cases hq:pre[i]? with
   |none=>rw[hq]at hx;cases hx
   |some y=>rw[hq]at hx;cases hx;exact h _ _ (h1 i y v hq hv)
  ·simpa using h2 i x hx
  ·rw[List.getElem?_map]at hx
   cases hq:post[i]? with
   |none=>rw[hq]at hx;cases hx
   |some y=>rw[hq]at hx;cases hx;exact h _ _ (h3 i y v hq (by simpa using hv))
 |none x hg' hs h0=>exact .none x (by rw[hg,hg']) hs h0
 |arr x b cap cells ty hg' hs hb' hl hcap hh ht =>
  exact .arr x b cap cells ty (by rw[hg,hg']) hs (by rw[hb b _ hg'];exact hb') hl hcap
   (fun i j y a1 a2=>let ⟨v,h1,h2⟩:=hh i j y a1 a2;⟨v,h1,h2.mono hI hw⟩) ht
 |hol x hi vs b cap cells ty hg' hs hb' hl hcap hhi hv hh h2 ht =>
  simp only[O.map,hfl]
  refine .hol x hi _ b cap cells ty (by rw[hg,hg']) hs (by rw[hb b _ hg'];exact hb') hl hcap hhi (by simpa using hv)
   (fun i j y a1 a2 a3=>let ⟨v,h1,h2⟩:=hh i j y a1 a2 a3;⟨v,h1,h2.mono hI hw⟩) (fun j hj=>let ⟨u,v,a1,a2,a3,a4⟩:=h2 j hj;⟨f u,v,by rw[List.getElem?_map,a1];rfl,a2,a3,h _ _ a4⟩) ht
 |deep0 p q x hg' hs h0=>exact .deep0 p q x (by rw[hg,hg']) hs h0
 |deep p q x hs b cap cells ty hg' hsl hb0 hl hcap hh hkn h1 h2 hd ht =>
  simp only[O.map]
  refine .deep p q x _ b cap cells ty (by rw[hg,hg']) hsl (by rw[hb b _ hg'];exact hb0) hl hcap (fun i us hm=>?_) (by rw[zbs];exact hkn) (fun i j y a1 a2 a3 a4=>?_) (fun i us hm j hj=>?_) (by rw[zbs];exact hd) ht
  ·obtain⟨vs,hm2,rfl⟩:=zg2 hm
   exact⟨(hh i vs hm2).1,by rw[hfl,List.length_map];exact(hh i vs hm2).2⟩
  ·rw[zbs]at a3
   obtain⟨v,h3,h4⟩:=h1 i j y a1 a2 a3 a4
   refine⟨v,h3,h4.mono fun b1 l n e=>hbo b1 (.inr ⟨b,_,i*x.stride+j,0,l,n,hg',⟨i,j,rfl,?_,a1,a2,a3⟩,?_⟩)⟩
   ·have:=(List.getElem?_eq_some_iff.1 a4).1;rwa [C.row_len _ _ hsl]at this
   ·rw[cell_of_row w b _ cells.toArray ty (0,0) hb0];rw[←e];simpa using h3
  ·obtain⟨vs,hm2,rfl⟩:=zg2 hm
   obtain⟨u,v,a1,a2,a3,a4⟩:=h2 i vs hm2 j hj
   exact⟨f u,v,by rw[hfl,List.getElem?_map,a1];rfl,a2,a3,h _ _ a4⟩
theorem St.replace (h:St X I g s a w) {id:Nat} {ob0 ob':O} (hm:(id,ob0)∈s.hp) (hbx:ob'.isBox=false) {w':World} (gnew:Option (Nat×Nat×Nat))
  (hw1:w'.os=w.os) (hw2:w'.tape=w.tape) (hw3:w'.output=w.output) (hw4:w.heap.size≤w'.heap.size)
  (hw5:∀k,k<w.heap.size→(∀cl,g id≠some (k,cl))→w'.heap[k]? = w.heap[k]?)
  (hnew:∀b cl,gnew=some (b,cl)→b<w'.heap.size∧(w.heap.size≤b∨∃cl',g id=some (b,cl')))
  (hro:∀g',g' id=gnew→(∀i,i≠id→g' i=g i)→RO I g' s.nx w' id ob')
  (hns:∀g',g' id=gnew→∀b',Nst g' w' id ob' b'→Nst g w id ob0 b':=by intro _ _ _ h;exact h.elim) :
  ∃g',g' id=gnew∧St X I g' {s.forget id with hp:=zac (s.forget id).hp id ob'} a w':=by
 obtain⟨g',hgn,hgo⟩:∃g':Gam,g' id=gnew∧∀i,i≠id→g' i=g i:=⟨fun i=>if i=id then gnew else g i,by simp,fun i hi=>by simp[hi]⟩
 refine⟨g',hgn,?_⟩
 have hI:∀k,I k→w'.heap[k]? = w.heap[k]?:=fun k hk=>hw5 k (h.bound k hk) fun cl e=>(h.heap.apart id _ k hm (.pri e)).1 hk
 have hwo:∀i o',(i,o')∈s.hp→i≠id→∀b,Own g w i o' b→w'.heap[b]? = w.heap[b]?:=fun i o' hmi hne b hgb =>
  hw5 b (h.heap.apart i o' b hmi hgb).2 fun cl' e=>hne (h.heap.inj i o' id _ b hmi hm hgb (.pri e))
 have hother:∀i o' fl,(i,o')∈s.hp→i≠id→∀b,Own g' w' i (o'.map fl) b→Own g w i o' b:=fun i o' fl hmi hne b ho =>
  ho.map.congr (hgo i hne) fun b cl hg=>hwo i o' hmi hne b (.pri hg)
 have hfor:∀v val,RV I g s.nx w v val→RV I g' s.nx w' (v.forget id) val:=fun v val hv =>
  (hv.mono (fun _ h=>h) hI (Nat.le_refl _) (fun _ _=>rfl)).forget (fun i _ hne=>hgo i hne)
 have hnd:((s.forget id).hp.map (·.1)).Nodup:=by show(List.map _ (za7 _ s.hp)).Nodup;rw[zif];exact h.heap.nodup
 have hmem:∀i o',(i,o')∈zac (s.forget id).hp id ob'→(i=id∧o'=ob')∨(i≠id∧∃o'',(i,o'')∈s.hp∧o'=o''.map (z6 id)):=fun i o' hmi=>by
  rcases zd7 hnd hmi with h1|⟨h1,h2⟩
  ·exact .inl h1
  ·exact .inr ⟨h2,zjp h1⟩
 refine⟨h.df,h.sz,fun j=>?_,⟨?_,?_,?_,?_⟩,fun k hk=>Nat.lt_of_lt_of_le (h.bound k hk) hw4,h.up,h.down,?_,?_,?_,h.low⟩
 ·show RV I g' s.nx w' (zaw (zb2 (V.forget id) s.env) j) _
  rw[zex _ rfl];exact hfor _ _ (h.slots j)
 ·intro i o' hmi
  rcases hmem i o' hmi with ⟨rfl,rfl⟩|⟨hne,o'',h1,rfl⟩
  ·exact⟨(h.heap.obj _ _ hm).1,hro g' hgn hgo⟩
  ·refine⟨(h.heap.obj _ _ h1).1,?_⟩
   exact(h.heap.obj _ _ h1).2.mapV (V.forget id) hfor (zcw id) (fun _ h=>h) hI (hgo i hne) fun b hgb=>hwo i o'' h1 hne b hgb
 ·intro i o' k hmi hgk
  rcases hmem i o' hmi with ⟨rfl,rfl⟩|⟨hne,o'',h1,rfl⟩
  ·rcases hgk with ⟨c,hgk⟩|hgk
   ·rw[hgn]at hgk
    obtain⟨h1,h2⟩:=hnew k c hgk
    refine⟨fun hk=>?_,h1⟩
    rcases h2 with h2|⟨cl',h2⟩
    ·have:=h.bound k hk;omega
    ·exact(h.heap.apart _ _ k hm (.pri h2)).1 hk
   ·obtain⟨h2,h3⟩:=h.heap.apart _ _ k hm (.inr (hns g' hgn k hgk))
    exact⟨h2,Nat.lt_of_lt_of_le h3 hw4⟩
  ·obtain⟨h2,h3⟩:=h.heap.apart i o'' k h1 (hother i o'' _ h1 hne k hgk)
   exact⟨h2,Nat.lt_of_lt_of_le h3 hw4⟩
 ·show(List.map _ (zac (s.forget id).hp id ob')).Nodup
  rw[zcc];exact hnd
 ·intro i o1 i' o2 k h1 h2 g1 g2
  have hcase:∀i o1,i≠id→(i,o1)∈s.hp→Own g w i o1 k→Own g' w' id ob' k→False:=fun i o1 hne hmi hgi hgk=>by
   rcases hgk with ⟨c',hgk⟩|hgk
   ·rw[hgn]at hgk
    rcases(hnew k c' hgk).2 with h3|⟨cl',h3⟩
    ·have:=(h.heap.apart i o1 k hmi hgi).2;omega
    ·exact hne (h.heap.inj i o1 id _ k hmi hm hgi (.pri h3))
   ·exact hne (h.heap.inj i o1 id _ k hmi hm hgi (.inr (hns g' hgn k hgk)))
  rcases hmem i o1 h1 with ⟨rfl,rfl⟩|⟨hne,o1',m1,rfl⟩<;>rcases hmem i' o2 h2 with ⟨rfl,rfl⟩|⟨hne',o2',m2,rfl⟩
  ·rfl
  ·exact(hcase i' o2' hne' m2 (hother i' o2' _ m2 hne' k g2) g1).elim
  ·exact(hcase i o1' hne m1 (hother i o1' _ m1 hne k g1) g2).elim
  ·exact h.heap.inj i o1' i' o2' k m1 m2 (hother i o1' _ m1 hne k g1) (hother i' o2' _ m2 hne' k g2)
 ·rintro k ⟨i,o',hmi,hgk⟩
  rcases hmem i o' hmi with ⟨rfl,rfl⟩|⟨hne,o'',h1,rfl⟩
  ·rcases hgk with ⟨c,hgk⟩|hgk
   ·rw[hgn]at hgk
    rcases(hnew k c hgk).2 with h2|⟨cl',h2⟩
    ·exact .inl (by have:=h.fr.size;omega)
    ·exact h.own k ⟨_,_,hm,.pri h2⟩
   ·exact h.own k ⟨_,_,hm,.inr (hns g' hgn k hgk)⟩
  ·exact h.own k ⟨i,o'',h1,hother i o'' _ h1 hne k hgk⟩
 ·intro i o' hmi hb hK
  rcases hmem i o' hmi with ⟨rfl,rfl⟩|⟨hne,o'',h1,rfl⟩
  ·rw[hbx]at hb;cases hb
  ·rw[O.isBox_map]at hb;rw[hgo i hne];exact h.keep i o'' h1 hb hK
 ·refine⟨hw1.trans h.fr.os,hw2.trans h.fr.tape,hw3.trans h.fr.output,Nat.le_trans h.fr.size hw4,fun k hk hd=>?_⟩
  rw[hw5 k (by have:=h.fr.size;omega) fun cl e=>?_]
  ·exact h.fr.block k hk hd
  ·rcases h.own k ⟨id,_,hm,.pri e⟩with h1|h1
   ·omega
   ·exact hd h1
end
end Go.VL
namespace Go.VL
set_option linter.unusedVariables false
set_option linter.unusedSimpArgs false
section
variable {P : Program} {T : TT} {X : Cx} {I : Nat → Prop} {g : Gam} {s : S} {a : Act} {w : World} {o : Oper} {K : S → Prop}
 {N:Act→World→Prop} {Q:Exit→Act→World→Prop}
def zfk (I:Nat→Prop) (w:World) (row:List C) (val:Value):Prop :=
 val.cells.size=row.length∧∀(j:Nat) c,row[j]? = some c→∃u,val.cells[j]? = some u∧RC I w c u∧u.oneCell'=true
theorem RC.one {c:C} {v:Value} (h:RC I w c v):v.oneCell'=true∧v.cells=#[v]:=by cases h<;>exact⟨rfl,rfl⟩
theorem V.asInt_inv {k:IntKind} {v:V} {m:Int} (h:v.asInt k=some m) {n:Nat} {val:Value} (hv:RV I g n w v val):RC I w (.int k m) val:=by
 unfold V.asInt at h
 split at h
 ·split at h
  ·rename_i hk
   have:=zju hk
   subst this
   cases h
   cases hv with|c _ _ hv=>exact hv
  ·cases h
 ·cases h
theorem V.asNums_inv {v:V} {xs:List Int} (h:v.asNums=some xs) {n:Nat} {val:Value} (hv:RV I g n w v val):RC I w (.nums .i64 xs) val:=by
 unfold V.asNums at h
 split at h
 ·cases h;cases hv with|c _ _ hv=>exact hv
 ·cases h;cases hv;exact .empty _ _ _ rfl rfl
 ·cases h
theorem V.asPrs_inv {v:V} {xs:List Pr} (h:v.asPrs=some xs) {n:Nat} {val:Value} (hv:RV I g n w v val):RC I w (.prs xs) val:=by
 unfold V.asPrs at h
 split at h
 ·cases h;cases hv with|c _ _ hv=>exact hv
 ·cases h;cases hv;exact .empty _ _ _ rfl rfl
 ·cases h
theorem zfk.one {c:C} {v:Value} (h:RC I w c v):zfk I w [c] v:=by
 rw[zfk,h.one.2]
 exact⟨rfl,fun j x hx=>by cases j with
  |zero=>cases hx;exact⟨v,rfl,h,h.one.1⟩
  |succ j=>simp at hx⟩
theorem zfk.agg2 {c d:C} {u v:Value} (h:RC I w c u) (h':RC I w d v):zfk I w [c,d] (.agg #[u,v]) :=
 ⟨rfl,fun j x hx=>by
  match j with
  |0=>cases hx;exact⟨u,rfl,h,h.one.1⟩
  |1=>cases hx;exact⟨v,rfl,h',h'.one.1⟩
  |j+2=>simp at hx⟩
theorem zfk.agg3 {c d e:C} {u v x:Value} (h:RC I w c u) (h':RC I w d v) (h2:RC I w e x):zfk I w [c,d,e] (.agg #[u,v,x]) :=
 ⟨rfl,fun j y hy=>by
  match j with
  |0=>cases hy;exact⟨u,rfl,h,h.one.1⟩
  |1=>cases hy;exact⟨v,rfl,h',h'.one.1⟩
  |2=>cases hy;exact⟨x,rfl,h2,h2.one.1⟩
  |j+3=>simp at hy⟩
theorem zv1 {v:V} {p:Pr} (h:mk2 v=some p) {n:Nat} {val:Value} (hv:RV I g n w v val):zfk I w p.row val:=by
 unfold mk2 at h
 split at h
 ·obtain⟨vs,rfl,hl,hr⟩:=hv.agg_inv
  match vs,hl with
  |[u,v],_ =>
   split at h
   ·rename_i h1 h2
    cases h
    exact .agg2 (V.asInt_inv h1 (hr 0 _ _ rfl rfl)) (V.asInt_inv h2 (hr 1 _ _ rfl rfl))
   ·cases h
 ·cases h
theorem zsx {v:V} {p:Pg} (h:zty v=some p) {n:Nat} {val:Value} (hv:RV I g n w v val):zfk I w p.row val:=by
 unfold zty at h
 split at h
 ·obtain⟨vs,rfl,hl,hr⟩:=hv.agg_inv
  match vs,hl with
  |[u,v,x],_ =>
   split at h
   ·rename_i h1 h2 h3
    cases h
    exact .agg3 (V.asNums_inv h1 (hr 0 _ _ rfl rfl)) (V.asNums_inv h2 (hr 1 _ _ rfl rfl)) (V.asNums_inv h3 (hr 2 _ _ rfl rfl))
   ·cases h
 ·cases h
theorem zuf {v:V} {p:Lk} (h:zs2 v=some p) {n:Nat} {val:Value} (hv:RV I g n w v val):zfk I w p.row val:=by
 unfold zs2 at h
 split at h
 ·obtain⟨vs,rfl,hl,hr⟩:=hv.agg_inv
  match vs,hl with
  |[u,v,x],_ =>
   split at h
   ·rename_i h1 h2 h3
    cases h
    exact .agg3 (V.asNums_inv h1 (hr 0 _ _ rfl rfl)) (V.asInt_inv h2 (hr 1 _ _ rfl rfl)) (V.asInt_inv h3 (hr 2 _ _ rfl rfl))
   ·cases h
 ·cases h
theorem zs4 {v:V} {p:Opn} (h:mkOp v=some p) {n:Nat} {val:Value} (hv:RV I g n w v val):zfk I w p.row val:=by
 unfold mkOp at h
 split at h
 ·obtain⟨vs,rfl,hl,hr⟩:=hv.agg_inv
  match vs,hl with
  |[u,v,x],_ =>
   split at h
   ·rename_i h1 h2 h3
    cases h
    exact .agg3 (V.asInt_inv h1 (hr 0 _ _ rfl rfl)) (V.asInt_inv h2 (hr 1 _ _ rfl rfl)) (V.asInt_inv h3 (hr 2 _ _ rfl rfl))
   ·cases h
 ·cases h
theorem zbp {α:Type} (xs:List α) (x d:α) (i:Nat):(xs++[x]).getD i d=if i=xs.length then x else xs.getD i d:=by
 simp only[List.getD]
 by_cases h:i<xs.length
 ·rw[List.getElem?_append_left h,if_neg (by omega)]
 ·by_cases e:i=xs.length
  ·subst e;simp
  ·rw[List.getElem?_append_right (by omega),if_neg e,List.getElem?_eq_none (by simp;omega),List.getElem?_eq_none (by omega)]
theorem z1h {x y:C} {v:V} (h:x.snoc v=some y) {n:Nat} {val:Value} (hv:RV I g n w v val) :
  x.isSl=true∧y.isSl=true∧y.stride=x.stride∧y.len=x.len+1∧(∀i,i<x.len→y.row i=x.row i)∧zfk I w (y.row x.len) val:=by
 cases x with
 |int=>cases h
 |bool=>cases h
 |nums k xs =>
  simp only[C.snoc,Option.map_eq_some_iff]at h
  obtain⟨m,h,rfl⟩:=h
  refine⟨rfl,rfl,rfl,by simp[C.len],fun i hi=>?_,?_⟩
  ·simp only[C.len]at hi;simp only[C.row,zbp,if_neg (show ¬i=xs.length by omega)]
  ·simp only[C.row,zbp,C.len,if_true];exact .one (V.asInt_inv h hv)
 |bools xs =>
  simp only[C.snoc,Option.map_eq_some_iff]at h
  obtain⟨m,h,rfl⟩:=h
  refine⟨rfl,rfl,rfl,by simp[C.len],fun i hi=>?_,?_⟩
  ·simp only[C.len]at hi;simp only[C.row,zbp,if_neg (show ¬i=xs.length by omega)]
  ·simp only[C.row,zbp,C.len,if_true];rw[RV.bool?_inv h hv];exact .one (.bool _)
 |prs xs =>
  simp only[C.snoc,Option.map_eq_some_iff]at h
  obtain⟨m,h,rfl⟩:=h
  refine⟨rfl,rfl,rfl,by simp[C.len],fun i hi=>?_,?_⟩
  ·simp only[C.len]at hi;simp only[C.row,zbp,if_neg (show ¬i=xs.length by omega)]
  ·simp only[C.row,zbp,C.len,if_true];exact zv1 h hv
 |pgs xs =>
  simp only[C.snoc,Option.map_eq_some_iff]at h
  obtain⟨m,h,rfl⟩:=h
  refine⟨rfl,rfl,rfl,by simp[C.len],fun i hi=>?_,?_⟩
  ·simp only[C.len]at hi;simp only[C.row,zbp,if_neg (show ¬i=xs.length by omega)]
  ·simp only[C.row,zbp,C.len,if_true];exact zsx h hv
 |lks xs =>
  simp only[C.snoc,Option.map_eq_some_iff]at h
  obtain⟨m,h,rfl⟩:=h
  refine⟨rfl,rfl,rfl,by simp[C.len],fun i hi=>?_,?_⟩
  ·simp only[C.len]at hi;simp only[C.row,zbp,if_neg (show ¬i=xs.length by omega)]
  ·simp only[C.row,zbp,C.len,if_true];exact zuf h hv
 |ops xs =>
  simp only[C.snoc,Option.map_eq_some_iff]at h
  obtain⟨m,h,rfl⟩:=h
  refine⟨rfl,rfl,rfl,by simp[C.len],fun i hi=>?_,?_⟩
  ·simp only[C.len]at hi;simp only[C.row,zbp,if_neg (show ¬i=xs.length by omega)]
  ·simp only[C.row,zbp,C.len,if_true];exact zs4 h hv
 |numss xs =>
  simp only[C.snoc,Option.map_eq_some_iff]at h
  obtain⟨m,h,rfl⟩:=h
  refine⟨rfl,rfl,rfl,by simp[C.len],fun i hi=>?_,?_⟩
  ·simp only[C.len]at hi;simp only[C.row,zbp,if_neg (show ¬i=xs.length by omega)]
  ·simp only[C.row,zbp,C.len,if_true];exact .one (V.asNums_inv h hv)
 |prss xs =>
  simp only[C.snoc,Option.map_eq_some_iff]at h
  obtain⟨m,h,rfl⟩:=h
  refine⟨rfl,rfl,rfl,by simp[C.len],fun i hi=>?_,?_⟩
  ·simp only[C.len]at hi;simp only[C.row,zbp,if_neg (show ¬i=xs.length by omega)]
  ·simp only[C.row,zbp,C.len,if_true];exact .one (V.asPrs_inv h hv)
theorem zg8 {x y:C} {i:Nat} {v:V} (h:x.setRow i v=some y) (hi:i<x.len) {n:Nat} {val:Value} (hv:RV I g n w v val) :
  y.isSl=true∧y.stride=x.stride∧y.len=x.len∧(∀k,k≠i→y.row k=x.row k)∧zfk I w (y.row i) val:=by
 cases x with
 |int=>cases h
 |bool=>cases h
 |nums k xs =>
  simp only[C.setRow,Option.map_eq_some_iff]at h
  obtain⟨m,h,rfl⟩:=h
  simp only[C.len]at hi
  refine⟨rfl,rfl,by simp[C.len],fun k hk=>?_,?_⟩
  ·simp only[C.row,z7 _ _ _ _ _ hi,if_neg hk]
  ·simp only[C.row,z7 _ _ _ _ _ hi,if_true];exact .one (V.asInt_inv h hv)
 |bools xs =>
  simp only[C.setRow,Option.map_eq_some_iff]at h
  obtain⟨m,h,rfl⟩:=h
  simp only[C.len]at hi
  refine⟨rfl,rfl,by simp[C.len],fun k hk=>?_,?_⟩
  ·simp only[C.row,z7 _ _ _ _ _ hi,if_neg hk]
  ·simp only[C.row,z7 _ _ _ _ _ hi,if_true];rw[RV.bool?_inv h hv];exact .one (.bool _)
 |prs xs =>
  simp only[C.setRow,Option.map_eq_some_iff]at h
  obtain⟨m,h,rfl⟩:=h
  simp only[C.len]at hi
  refine⟨rfl,rfl,by simp[C.len],fun k hk=>?_,?_⟩
  ·simp only[C.row,z7 _ _ _ _ _ hi,if_neg hk]
  ·simp only[C.row,z7 _ _ _ _ _ hi,if_true];exact zv1 h hv
 |pgs xs =>
  simp only[C.setRow,Option.map_eq_some_iff]at h
  obtain⟨m,h,rfl⟩:=h
  simp only[C.len]at hi
  refine⟨rfl,rfl,by simp[C.len],fun k hk=>?_,?_⟩
  ·simp only[C.row,z7 _ _ _ _ _ hi,if_neg hk]
  ·simp only[C.row,z7 _ _ _ _ _ hi,if_true];exact zsx h hv
 |lks xs =>
  simp only[C.setRow,Option.map_eq_some_iff]at h
  obtain⟨m,h,rfl⟩:=h
  simp only[C.len]at hi
  refine⟨rfl,rfl,by simp[C.len],fun k hk=>?_,?_⟩
  ·simp only[C.row,z7 _ _ _ _ _ hi,if_neg hk]
  ·simp only[C.row,z7 _ _ _ _ _ hi,if_true];exact zuf h hv
 |ops xs =>
  simp only[C.setRow,Option.map_eq_some_iff]at h
  obtain⟨m,h,rfl⟩:=h
  simp only[C.len]at hi
  refine⟨rfl,rfl,by simp[C.len],fun k hk=>?_,?_⟩
  ·simp only[C.row,z7 _ _ _ _ _ hi,if_neg hk]
  ·simp only[C.row,z7 _ _ _ _ _ hi,if_true];exact zs4 h hv
 |numss xs =>
  simp only[C.setRow,Option.map_eq_some_iff]at h
  obtain⟨m,h,rfl⟩:=h
  simp only[C.len]at hi
  refine⟨rfl,rfl,by simp[C.len],fun k hk=>?_,?_⟩
  ·simp only[C.row,z7 _ _ _ _ _ hi,if_neg hk]
  ·simp only[C.row,z7 _ _ _ _ _ hi,if_true];exact .one (V.asNums_inv h hv)
 |prss xs =>
  simp only[C.setRow,Option.map_eq_some_iff]at h
  obtain⟨m,h,rfl⟩:=h
  simp only[C.len]at hi
  refine⟨rfl,rfl,by simp[C.len],fun k hk=>?_,?_⟩
  ·simp only[C.row,z7 _ _ _ _ _ hi,if_neg hk]
  ·simp only[C.row,z7 _ _ _ _ _ hi,if_true];exact .one (V.asPrs_inv h hv)
theorem zn1 {x y:C} {i j:Nat} {v:V} (h:x.setCell i j v=some y) (hi:i<x.len) {n:Nat} {val:Value} (hv:RV I g n w v val) :
  y.isSl=true∧y.stride=x.stride∧y.len=x.len∧j<x.stride∧(∀k,k≠i→y.row k=x.row k)∧∃c,y.row i=(x.row i).set j c∧RC I w c val:=by
 cases x with
 |prs xs =>
  simp only[C.len]at hi
  match j with
  |0 =>
   simp only[C.setCell,Option.map_eq_some_iff]at h
   obtain⟨m,h,rfl⟩:=h
   refine⟨rfl,rfl,by simp[C.len],by simp[C.stride],fun k hk=>?_,_,?_,V.asInt_inv h hv⟩
   ·simp only[C.row,z7 _ _ _ _ _ hi,if_neg hk]
   ·simp only[C.row,z7 _ _ _ _ _ hi,if_true];rfl
  |1 =>
   simp only[C.setCell,Option.map_eq_some_iff]at h
   obtain⟨m,h,rfl⟩:=h
   refine⟨rfl,rfl,by simp[C.len],by simp[C.stride],fun k hk=>?_,_,?_,V.asInt_inv h hv⟩
   ·simp only[C.row,z7 _ _ _ _ _ hi,if_neg hk]
   ·simp only[C.row,z7 _ _ _ _ _ hi,if_true];rfl
  |j+2=>cases h
 |pgs xs =>
  simp only[C.len]at hi
  match j with
  |0 =>
   simp only[C.setCell,Option.map_eq_some_iff]at h
   obtain⟨m,h,rfl⟩:=h
   refine⟨rfl,rfl,by simp[C.len],by simp[C.stride],fun k hk=>?_,_,?_,V.asNums_inv h hv⟩
   ·simp only[C.row,z7 _ _ _ _ _ hi,if_neg hk]
   ·simp only[C.row,z7 _ _ _ _ _ hi,if_true];rfl
  |1 =>
   simp only[C.setCell,Option.map_eq_some_iff]at h
   obtain⟨m,h,rfl⟩:=h
   refine⟨rfl,rfl,by simp[C.len],by simp[C.stride],fun k hk=>?_,_,?_,V.asNums_inv h hv⟩
   ·simp only[C.row,z7 _ _ _ _ _ hi,if_neg hk]
   ·simp only[C.row,z7 _ _ _ _ _ hi,if_true];rfl
  |2 =>
   simp only[C.setCell,Option.map_eq_some_iff]at h
   obtain⟨m,h,rfl⟩:=h
   refine⟨rfl,rfl,by simp[C.len],by simp[C.stride],fun k hk=>?_,_,?_,V.asNums_inv h hv⟩
   ·simp only[C.row,z7 _ _ _ _ _ hi,if_neg hk]
   ·simp only[C.row,z7 _ _ _ _ _ hi,if_true];rfl
  |j+3=>cases h
 |lks xs =>
  simp only[C.len]at hi
  match j with
  |0 =>
   simp only[C.setCell,Option.map_eq_some_iff]at h
   obtain⟨m,h,rfl⟩:=h
   refine⟨rfl,rfl,by simp[C.len],by simp[C.stride],fun k hk=>?_,_,?_,V.asNums_inv h hv⟩
   ·simp only[C.row,z7 _ _ _ _ _ hi,if_neg hk]
   ·simp only[C.row,z7 _ _ _ _ _ hi,if_true];rfl
  |1 =>
   simp only[C.setCell,Option.map_eq_some_iff]at h
   obtain⟨m,h,rfl⟩:=h
   refine⟨rfl,rfl,by simp[C.len],by simp[C.stride],fun k hk=>?_,_,?_,V.asInt_inv h hv⟩
   ·simp only[C.row,z7 _ _ _ _ _ hi,if_neg hk]
   ·simp only[C.row,z7 _ _ _ _ _ hi,if_true];rfl
  |2 =>
   simp only[C.setCell,Option.map_eq_some_iff]at h
   obtain⟨m,h,rfl⟩:=h
   refine⟨rfl,rfl,by simp[C.len],by simp[C.stride],fun k hk=>?_,_,?_,V.asInt_inv h hv⟩
   ·simp only[C.row,z7 _ _ _ _ _ hi,if_neg hk]
   ·simp only[C.row,z7 _ _ _ _ _ hi,if_true];rfl
  |j+3=>cases h
 |ops xs =>
  simp only[C.len]at hi
  match j with
  |0 =>
   simp only[C.setCell,Option.map_eq_some_iff]at h
   obtain⟨m,h,rfl⟩:=h
   refine⟨rfl,rfl,by simp[C.len],by simp[C.stride],fun k hk=>?_,_,?_,V.asInt_inv h hv⟩
   ·simp only[C.row,z7 _ _ _ _ _ hi,if_neg hk]
   ·simp only[C.row,z7 _ _ _ _ _ hi,if_true];rfl
  |1 =>
   simp only[C.setCell,Option.map_eq_some_iff]at h
   obtain⟨m,h,rfl⟩:=h
   refine⟨rfl,rfl,by simp[C.len],by simp[C.stride],fun k hk=>?_,_,?_,V.asInt_inv h hv⟩
   ·simp only[C.row,z7 _ _ _ _ _ hi,if_neg hk]
   ·simp only[C.row,z7 _ _ _ _ _ hi,if_true];rfl
  |2 =>
   simp only[C.setCell,Option.map_eq_some_iff]at h
   obtain⟨m,h,rfl⟩:=h
   refine⟨rfl,rfl,by simp[C.len],by simp[C.stride],fun k hk=>?_,_,?_,V.asInt_inv h hv⟩
   ·simp only[C.row,z7 _ _ _ _ _ hi,if_neg hk]
   ·simp only[C.row,z7 _ _ _ _ _ hi,if_true];rfl
  |j+3=>cases h
 |_=>cases h
theorem zjz {hp:List (Nat×O)} (hn:(hp.map (·.1)).Nodup) {id i:Nat} {o':O} (h:(i,o')∈zbu hp id):(i,o')∈hp∧i≠id:=by
 induction hp with
 |nil=>cases h
 |cons x t ih =>
  obtain⟨k,v⟩:=x
  simp only[List.map_cons,List.nodup_cons]at hn
  simp only[zbu]at h
  cases hk:Nat.beq k id with
  |true =>
   have hk:=Nat.eq_of_beq_eq_true hk
   rw[hk,Nat.beq_refl]at h
   exact⟨List.mem_cons_of_mem _ h,fun e=>hn.1 (by rw[hk,←e];exact List.mem_map.2 ⟨_,h,rfl⟩)⟩
  |false =>
   rw[hk]at h
   rcases List.mem_cons.1 h with h|h
   ·cases h;exact⟨List.mem_cons_self,Nat.ne_of_beq_eq_false hk⟩
   ·obtain⟨h1,h2⟩:=ih hn.2 h;exact⟨List.mem_cons_of_mem _ h1,h2⟩
theorem zis (hp:List (Nat×O)) (id:Nat):(zbu hp id).Sublist hp:=by
 induction hp with
 |nil=>exact .slnil
 |cons x t ih =>
  obtain⟨k,v⟩:=x
  simp only[zbu]
  cases Nat.beq k id with
  |true=>exact List.sublist_cons_self _ _
  |false=>exact ih.cons_cons _
theorem zkp {hp:List (Nat×O)} (hn:(hp.map (·.1)).Nodup) (id:Nat):((zbu hp id).map (·.1)).Nodup :=
 hn.sublist ((zis hp id).map _)
theorem RV.frz {id n:Nat} {I':Nat→Prop} (hI:∀b,I b→I' b) {x:C} (hx:∀val,RV I g n w (.slc id) val→RC I' w x val) {v:V} {val:Value} (h:RV I g n w v val):RV I' g n w (v.frz id x) val:=by
 have mapped:∀(xs:List V) (vs:List Value),(∀(i:Nat) y v,xs[i]? = some y→vs[i]? = some v→RV I' g n w (y.frz id x) v) →
   ∀(i:Nat) y v,(zcl id x xs)[i]? = some y→vs[i]? = some v→RV I' g n w y v:=by
  intro xs vs ih i y v hy hv
  rw[zeo,List.getElem?_map]at hy
  cases hq:xs[i]? with
  |none=>rw[hq]at hy;cases hy
  |some z=>rw[hq]at hy;cases hy;exact ih i z v hq hv
 have hmono:∀{v:V} {val:Value},RV I g n w v val→RV I' g n w v val:=fun h=>h.mono hI (fun _ _=>rfl) (Nat.le_refl _) fun _ _=>rfl
 induction h with
 |any v=>exact .any v
 |tt=>exact .tt
 |ff=>exact .ff
 |nil=>exact .nil
 |c y v h=>exact .c y v (h.mono hI fun _ _=>rfl)
 |agg xs vs hl _ ih=>exact .agg _ vs (by rw[zeo];simpa using hl) (mapped xs vs ih)
 |tup xs vs hl _ ih=>exact .tup _ vs (by rw[zeo];simpa using hl) (mapped xs vs ih)
 |fn f xs vs hl _ ih=>exact .fn f _ vs (by rw[zeo];simpa using hl) (mapped xs vs ih)
 |iptr row b off val hb hc hr=>exact hmono (.iptr row b off val hb hc hr)
 |ptr i p st j b cl h1 h2 =>
  simp only[V.frz]
  cases hk:Nat.beq i id with
  |true=>exact .any _
  |false=>exact .ptr i p st j b cl h1 h2
 |slc i len b cap h1 h2 =>
  simp only[V.frz]
  cases hk:Nat.beq i id with
  |true=>have:=Nat.eq_of_beq_eq_true hk;subst this;exact .c x _ (hx _ (.slc i len b cap h1 h2))
  |false=>exact .slc i len b cap h1 h2
 |slc0 i h1 h2 =>
  simp only[V.frz]
  cases hk:Nat.beq i id with
  |true=>have:=Nat.eq_of_beq_eq_true hk;subst this;exact .c x _ (hx _ (.slc0 i h1 h2))
  |false=>exact .slc0 i h1 h2
theorem RC.of_slc {id n:Nat} {x:C} (ho:RO I g n w id (.arr x)) {I':Nat→Prop} (hI:∀b,I b→I' b) (hb:∀b cl,g id=some (b,cl)→I' b) {val:Value} (hv:RV I g n w (.slc id) val):RC I' w x val:=by
 cases hv with
 |slc _ len b cap hn hg =>
  have ho':=ho
  cases ho with
  |none _ hg'=>rw[hg]at hg';cases hg'
  |arr _ b' cap' cells ty hg' hs hbk hl hcap hh =>
   rw[hg]at hg'
   cases hg'
   refine RC.of_rows hs (hb _ _ hg) hcap (fun i hi=>?_)
   have:=zb0.of_arr ho' hg hi
   intro j y hy
   obtain⟨u,h1,h2⟩:=this j y hy
   rw[zbt]at hy
   cases hj:(x.row i)[j]? with
   |none=>rw[hj]at hy;cases hy
   |some z =>
    rw[hj]at hy;cases hy
    cases h2 with
    |c _ _ h2=>exact⟨u,by rw[Nat.zero_add];exact h1,.c _ _ (h2.mono hI fun _ _=>rfl)⟩
 |slc0 _ hn hg =>
  cases ho with
  |none _ hg' hs h0=>exact .empty x _ _ hs h0
  |arr _ b' cap' cells ty hg'=>rw[hg]at hg';cases hg'
theorem RC.of_hol {id n hi:Nat} {y x:C} {us:List V} (ho:RO I g n w id (.hol y hi us)) (hx:y.setRow hi (.agg us)=some x) {I':Nat→Prop} (hI:∀b,I b→I' b) (hb:∀b cl,g id=some (b,cl)→I' b) {val:Value}
  (hv:RV I g n w (.slc id) val):RC I' w x val:=by
 cases ho with
 |hol _ _ _ b cap cells ty hg hs hbk hl hcap hhi hvl h h2 =>
 cases hv with
 |slc0 _ hn hg'=>rw[hg]at hg';cases hg'
 |slc _ len b' cap' hn hg' =>
  rw[hg]at hg';cases hg'
  have hle:∀j,j<y.stride→hi*y.stride+j<cells.length:=fun j hj=>by rw[hl];exact zfa (hi:=hi) hhi hcap hj
  have hrow:RV I g n w (.agg us) (.agg ((cells.drop (hi*y.stride)).take y.stride).toArray):=by
   refine .agg us _ ?_ fun j u v hu hv=>?_
   ·simp only[List.length_take,List.length_drop]
    cases hst:y.stride with
    |zero=>omega
    |succ k=>have:=hle k (by omega);rw[hst]at this;omega
   ·rw[List.getElem?_take]at hv
    split at hv
    ·rename_i hj
     rw[List.getElem?_drop]at hv
     obtain⟨u',v',a1,a2,_,a4⟩:=h2 j hj
     rw[hu]at a1;rw[hv]at a2;cases a1;cases a2;exact a4
    ·cases hv
  obtain⟨e1,e2,e3,e4,e5,e6⟩:=zg8 hx hhi hrow
  rw[←e3]
  refine RC.of_rows e1 (hb _ _ hg) (by rw[e3];exact hcap) (fun i hi' j z hz=>?_)
  rw[e3]at hi'
  rw[e2,Nat.zero_add]
  rw[cell_of_row w b _ cells.toArray ty (0,0) hbk]
  rw[zbt]at hz
  obtain⟨z,hz',rfl⟩:=Option.map_eq_some_iff.1 hz
  clear hz;have hz:=hz'
  by_cases c:i=hi
  ·subst c
   obtain⟨u,q1,q2,_⟩:=e6 j z hz
   refine⟨u,?_,.c _ _ (q2.mono hI fun _ _=>rfl)⟩
   have q1:((cells.drop (i*y.stride)).take y.stride)[j]? = some u:=by simpa [Value.cells]using q1
   rw[List.getElem?_take]at q1
   split at q1
   ·rw[List.getElem?_drop]at q1;simpa using q1
   ·cases q1
  ·rw[e4 i c]at hz
   obtain⟨u,q1,q2⟩:=h i j z hi' c hz
   exact⟨u,by simpa using q1,.c _ _ (q2.mono hI fun _ _=>rfl)⟩
theorem St.freezeG (h:St X I g s a w) {id:Nat} {x:C} {ob:O} (hm:(id,ob)∈s.hp)
  (hof:∀(I':Nat→Prop),(∀b,I b→I' b)→(∀b,Own g w id ob b→I' b)→∀val,RV I g s.nx w (.slc id) val→RC I' w x val) :
  ∃I',(∀b,I b→I' b)∧(∀val,RV I g s.nx w (.slc id) val→RC I' w x val)∧St X I' g {s with env:=zb2 (V.frz id x) s.env,hp:=za7 (zcl id x) (zbu s.hp id)} a w:=by
 refine⟨fun b=>I b∨Own g w id ob b,fun b hb=>.inl hb,fun val hv=>hof _ (fun b hb=>.inl hb) (fun b hg=>.inr hg) val hv,?_⟩
 have hfz:∀v val,RV I g s.nx w v val→RV (fun b=>I b∨Own g w id ob b) g s.nx w (v.frz id x) val:=fun v val hv =>
  hv.frz (fun b hb=>.inl hb) (fun val hv=>hof _ (fun b hb=>.inl hb) (fun b hg=>.inr hg) val hv)
 have hmem:∀i o',(i,o')∈za7 (zcl id x) (zbu s.hp id)→i≠id∧∃o'',(i,o'')∈s.hp∧o'=o''.map (zcl id x):=fun i o' hmi=>by
  obtain⟨o'',h1,h2⟩:=zjp hmi
  obtain⟨h3,h4⟩:=zjz h.heap.nodup h1
  exact⟨h4,o'',h3,h2⟩
 refine⟨h.df,h.sz,fun j=>?_,⟨?_,?_,?_,?_⟩,?_,fun b hb=>.inl (h.up b hb),?_,?_,?_,h.fr,h.low⟩
 ·show RV _ g s.nx w (zaw (zb2 (V.frz id x) s.env) j) _
  rw[zex _ rfl];exact hfz _ _ (h.slots j)
 ·intro i o' hmi
  obtain⟨hne,o'',h1,rfl⟩:=hmem i o' hmi
  exact⟨(h.heap.obj _ _ h1).1,(h.heap.obj _ _ h1).2.mapV (V.frz id x) hfz (zeo id x) (fun b hb=>.inl hb) (fun _ _=>rfl) rfl fun _ _=>rfl⟩
 ·intro i o' b hmi hg
  obtain⟨hne,o'',h1,rfl⟩:=hmem i o' hmi
  obtain⟨h2,h3⟩:=h.heap.apart i o'' b h1 hg.map
  refine⟨fun hb=>?_,h3⟩
  rcases hb with hb|hb
  ·exact h2 hb
  ·exact hne (h.heap.inj i o'' id _ b h1 hm hg.map hb)
 ·show(List.map _ (za7 _ (zbu s.hp id))).Nodup
  rw[zif];exact zkp h.heap.nodup id
 ·intro i o1 i' o2 b h1 h2 g1 g2
  obtain⟨_,p1,q1,rfl⟩:=hmem _ _ h1
  obtain⟨_,p2,q2,rfl⟩:=hmem _ _ h2
  exact h.heap.inj i p1 i' p2 b q1 q2 g1.map g2.map
 ·rintro b (hb|hb)
  ·exact h.bound b hb
  ·exact(h.heap.apart id _ b hm hb).2
 ·rintro b (hb|hb)
  ·exact h.down b hb
  ·exact .inr (h.own b ⟨id,_,hm,hb⟩)
 ·rintro b ⟨i,o',hmi,hg⟩
  obtain⟨_,o'',h1,rfl⟩:=hmem i o' hmi
  exact h.own b ⟨i,o'',h1,hg.map⟩
 ·intro i o' hmi hb hK
  obtain⟨_,o'',h1,rfl⟩:=hmem i o' hmi
  rw[O.isBox_map]at hb
  exact h.keep i o'' h1 hb hK
theorem St.freeze (h:St X I g s a w) {id:Nat} {x:C} (hl:zq s.hp id=some (.arr x)) :
  ∃I',(∀b,I b→I' b)∧(∀val,RV I g s.nx w (.slc id) val→RC I' w x val)∧St X I' g {s with env:=zb2 (V.frz id x) s.env,hp:=za7 (zcl id x) (zbu s.hp id)} a w :=
 h.freezeG (zt hl) fun _ h1 h2 _ hv=>RC.of_slc (h.heap.obj id _ (zt hl)).2 h1 (fun b cl hg=>h2 b (.pri hg)) hv
theorem St.freezeH (h:St X I g s a w) {id hi:Nat} {y x:C} {us:List V} (hl:zq s.hp id=some (.hol y hi us)) (hx:y.setRow hi (.agg us)=some x) :
  ∃I',(∀b,I b→I' b)∧(∀val,RV I g s.nx w (.slc id) val→RC I' w x val)∧St X I' g {s with env:=zb2 (V.frz id x) s.env,hp:=za7 (zcl id x) (zbu s.hp id)} a w :=
 h.freezeG (zt hl) fun _ h1 h2 _ hv=>RC.of_hol (h.heap.obj id _ (zt hl)).2 hx h1 (fun b cl hg=>h2 b (.pri hg)) hv
theorem NC.rc {I':Nat→Prop} {c:C} {v:Value} (h:NC w c v) (hI:∀b l n,v=.slice (some ⟨b,0,none⟩) l n→I' b):RC I' w c v:=by
 cases h with
 |int k n=>exact .int k n
 |bool b=>exact .bool b
 |nil k=>exact .empty _ _ _ rfl rfl
 |sl k xs b cap cells ty hb hl hc h =>
  refine RC.of_rows (x:=.nums k xs) rfl (hI b _ _ rfl) hc fun i hi j y hy=>?_
  simp only[C.len]at hi
  rw[zbt]at hy
  cases j with
  |zero =>
   simp only[C.row,List.getElem?_cons_zero,Option.map_some,Option.some.injEq]at hy
   subst hy
   refine⟨.int k (xs.getD i 0),?_,.c _ _ (.int _ _)⟩
   rw[cell_of_row w b _ cells.toArray ty (0,0) hb]
   have:=h i xs[i] (List.getElem?_eq_getElem hi)
   simp only[C.stride,Nat.mul_one,Nat.zero_add,Nat.add_zero,List.getElem?_toArray]
   rw[this];simp[List.getD,hi]
  |succ j=>simp[C.row]at hy
theorem RO.deep_rows {n id:Nat} {p:Bool} {x:C} (ho:RO I g n w id (.deep p 0 x [])) {I':Nat→Prop} (hI:∀b,Nst g w id (.deep p 0 x []) b→I' b) {b:Nat} {cl:Nat×Nat} (hg:g id=some (b,cl)) :
  ∃(cap:Nat) (cells:List Value) (ty:TypeId),cl=(cap,x.len)∧x.isSl=true∧w.heap[b]? = some (.cells cells.toArray ty (0,0))∧cells.length=cap*x.stride∧x.len≤cap∧(x.isPg=true→∀v∈cells,zc5 v) ∧
   ∀(i j:Nat) y,i<x.len→(x.row i)[j]? = some y→∃v,cells[i*x.stride+j]? = some v∧RC I' w y v:=by
 cases ho with
 |deep0 _ _ _ hg'=>rw[hg]at hg';cases hg'
 |deep _ _ _ _ b' cap cells ty hg' hsl hb hl hcap hh hkn h h2 hd ht =>
  rw[hg]at hg';cases hg'
  refine⟨cap,cells,ty,rfl,hsl,hb,hl,hcap,ht,fun i j y hi hy=>?_⟩
  have hni:i∉zx []:=by simp[zx]
  obtain⟨v,h3,h4⟩:=h i j y (Nat.zero_le _) hi hni hy
  refine⟨v,h3,h4.rc fun b1 l n e=>hI b1 ⟨b,_,i*x.stride+j,0,l,n,hg,⟨i,j,rfl,?_,Nat.zero_le _,hi,hni⟩,?_⟩⟩
  ·have:=(List.getElem?_eq_some_iff.1 hy).1;rwa [C.row_len _ _ hsl]at this
  ·rw[cell_of_row w b _ cells.toArray ty (0,0) hb,←e];simpa using h3
theorem RC.of_deep {id n:Nat} {p:Bool} {x:C} (ho:RO I g n w id (.deep p 0 x [])) {I':Nat→Prop} (hb:∀b,Own g w id (.deep p 0 x []) b→I' b) {val:Value} (hv:RV I g n w (.slc id) val):RC I' w x val:=by
 cases hv with
 |slc _ len b cap hn hg =>
  obtain⟨cap',cells,ty,e,hs,hbk,hl,hcap,_,hr⟩:=ho.deep_rows (I':=I') (fun b h=>hb b (.inr h)) hg
  cases e
  refine RC.of_rows hs (hb _ (.pri hg)) hcap fun i hi j y hy=>?_
  rw[zbt]at hy
  cases hj:(x.row i)[j]? with
  |none=>rw[hj]at hy;cases hy
  |some z =>
   rw[hj]at hy;cases hy
   obtain⟨v,h1,h2⟩:=hr i j z hi hj
   refine⟨v,?_,.c _ _ h2⟩
   rw[cell_of_row w b _ cells.toArray ty (0,0) hbk];simpa using h1
 |slc0 _ hn hg =>
  cases ho with
  |deep0 _ _ _ hg' hs h0=>exact .empty x _ _ hs h0
  |deep _ _ _ _ b' cap' cells ty hg'=>rw[hg]at hg';cases hg'
theorem St.freezeD (h:St X I g s a w) {id:Nat} {p:Bool} {x:C} (hl:zq s.hp id=some (.deep p 0 x [])) :
  ∃I',(∀b,I b→I' b)∧(∀val,RV I g s.nx w (.slc id) val→RC I' w x val)∧St X I' g {s with env:=zb2 (V.frz id x) s.env,hp:=za7 (zcl id x) (zbu s.hp id)} a w :=
 h.freezeG (zt hl) fun _ h1 h2 _ hv=>RC.of_deep (h.heap.obj id _ (zt hl)).2 h2 hv
end
end Go.VL
namespace Go.VL
set_option linter.unusedVariables false
set_option linter.unusedSimpArgs false
section
variable {P : Program} {T : TT} {X : Cx} {I : Nat → Prop} {g : Gam} {s : S} {a : Act} {w : World} {o : Oper} {K : S → Prop}
 {N:Act→World→Prop} {Q:Exit→Act→World→Prop}
theorem zew (ids:List Nat):∀(s:S) (I:Nat→Prop) (vs:List V) (vals:List Value) (Kf:S→List V→Prop),St X I g s a w→RVs I g s.nx w vs vals→vfz ids s vs Kf →
  ∃s' I' vs',St X I' g s' a w∧RVs I' g s'.nx w vs' vals∧Kf s' vs'∧(∀b,I b→I' b)∧s'.nx=s.nx∧s'.nt=s.nt:=by
 induction ids with
 |nil=>intro s I vs vals Kf h hv hk;exact⟨s,I,vs,h,hv,hk,fun _ h=>h,rfl,rfl⟩
 |cons id t ih =>
  intro s I vs vals Kf h hv hk
  simp only[vfz]at hk
  split at hk
  ·rename_i x hl
   rw[S.force_eq,zdd]at hk
   obtain⟨I',hI,hx,hst⟩:=h.freeze hl
   have hv':RVs I' g s.nx w (zcl id x vs) vals:=by
    refine⟨by rw[zeo];simpa using hv.1,fun i y v hy hu=>?_⟩
    rw[zeo,List.getElem?_map]at hy
    cases hq:vs[i]? with
    |none=>rw[hq]at hy;cases hy
    |some z=>rw[hq]at hy;cases hy;exact(hv.2 i z v hq hu).frz hI hx
   obtain⟨s',I2,vs',h1,h2,h3,h4,h5,h6⟩:=ih _ I' _ vals Kf hst hv' hk
   exact⟨s',I2,vs',h1,h2,h3,fun b hb=>h4 b (hI b hb),h5,h6⟩
  ·rename_i y hi us hl
   split at hk
   ·rename_i x hx
    rw[S.force_eq,zdd]at hk
    obtain⟨I',hI,hx,hst⟩:=h.freezeH hl hx
    have hv':RVs I' g s.nx w (zcl id x vs) vals:=by
     refine⟨by rw[zeo];simpa using hv.1,fun i y v hy hu=>?_⟩
     rw[zeo,List.getElem?_map]at hy
     cases hq:vs[i]? with
     |none=>rw[hq]at hy;cases hy
     |some z=>rw[hq]at hy;cases hy;exact(hv.2 i z v hq hu).frz hI hx
    obtain⟨s',I2,vs',h1,h2,h3,h4,h5,h6⟩:=ih _ I' _ vals Kf hst hv' hk
    exact⟨s',I2,vs',h1,h2,h3,fun b hb=>h4 b (hI b hb),h5,h6⟩
   ·exact hk.elim
  ·rename_i q x hl
   rw[S.force_eq,zdd]at hk
   obtain⟨I',hI,hx,hst⟩:=h.freezeD hl
   have hv':RVs I' g s.nx w (zcl id x vs) vals:=by
    refine⟨by rw[zeo];simpa using hv.1,fun i y v hy hu=>?_⟩
    rw[zeo,List.getElem?_map]at hy
    cases hq:vs[i]? with
    |none=>rw[hq]at hy;cases hy
    |some z=>rw[hq]at hy;cases hy;exact(hv.2 i z v hq hu).frz hI hx
   obtain⟨s',I2,vs',h1,h2,h3,h4,h5,h6⟩:=ih _ I' _ vals Kf hst hv' hk
   exact⟨s',I2,vs',h1,h2,h3,fun b hb=>h4 b (hI b hb),h5,h6⟩
  ·exact hk.elim
theorem z0g {xs:List V} (h:zhr xs=true):∀x∈xs,x.one=true:=by
 induction xs with
 |nil=>intro x hx;cases hx
 |cons y t ih =>
  simp only[zhr]at h
  split at h
  ·rename_i h1
   intro x hx
   rcases List.mem_cons.1 hx with hx|hx
   ·rw[hx];exact h1
   ·exact ih h x hx
  ·cases h
theorem RV.one {n:Nat} {x:V} {v:Value} (h:RV I g n w x v) (h1:x.one=true):v.oneCell'=true:=by
 cases h<;>first|rfl|cases h1|skip
 rename_i h;exact h.one.1
theorem RVs.one {n:Nat} {xs:List V} {vs:List Value} (h:RVs I g n w xs vs) (h1:zhr xs=true):∀v∈vs,v.oneCell'=true:=by
 intro v hv
 obtain⟨i,hi⟩:=List.getElem?_of_mem hv
 have hlt:i<xs.length:=by rw[h.1];exact(List.getElem?_eq_some_iff.1 hi).1
 exact(h.2 i xs[i] v (List.getElem?_eq_getElem hlt) hi).one (z0g h1 _ (List.getElem_mem hlt))
theorem zbz {t n:Nat} (hs:zy P t n) {v:Value} (hn:v.cells.size=n) {b off:Nat} {cs:List Value} {ty:TypeId}
  (hb:w.heap[b]? = some (.cells cs.toArray ty (0,0))) (hl:off+v.cells.size≤cs.length) (h1:∀u∈v.cells.toList,u.oneCell'=true) :
  ∃w',(Instr.storeAt t (.pointer (some ⟨b,off,none⟩)) v).run P w=.ok () w'∧w'.heap[b]? = some (.cells (putAt cs off v.cells.toList).toArray ty (0,0))∧Only b w w':=by
 obtain⟨w',r1,r2,r3⟩:=zkq (P:=P) v.cells.toList w b off 0 cs ty hb (by simpa using hl) h1
 refine⟨w',?_,r2,r3⟩
 simp only[Instr.storeAt,Sem.run_bind,Instr.sureAddr,Sem.run_pure,Result.andThen_ok,storeVar,run_sizeOf' hs,hn,ne_eq,not_true_eq_false,if_false]
 simpa using r1
theorem za8 (cs:List Value) (k:Nat) (vs:List Value) (hl:k+vs.length≤cs.length) (i:Nat) :
  (putAt cs k vs)[i]? = if k≤i∧i<k+vs.length then vs[i-k]? else cs[i]?:=by
 induction vs generalizing cs k with
 |nil=>simp[putAt];omega
 |cons v t ih =>
  rw[putAt,ih _ _ (by simp at hl⊢;omega)]
  simp only[List.length_cons]at hl⊢
  by_cases c1:k+1≤i∧i<k+1+t.length
  ·rw[if_pos c1,if_pos (by omega)]
   obtain⟨m,hm⟩:∃m,i-k=m+1:=⟨i-k-1,by omega⟩
   rw[hm,List.getElem?_cons_succ]
   congr 1;omega
  ·rw[if_neg c1,List.getElem?_set]
   by_cases c2:k=i
   ·subst c2;simp;omega
   ·rw[if_neg c2,if_neg (by omega)]
theorem zfk.slVal {x:C} {i:Nat} {vy:Value} (h:zfk I w (x.row i) vy) (hp:x.isPg=true):∀v∈vy.cells.toList,zc5 v:=by
 intro v hv
 obtain⟨j,hj⟩:=List.getElem?_of_mem hv
 have hj':vy.cells[j]? = some v:=by simpa using hj
 have hlt:j<(x.row i).length:=by rw[←h.1];exact(Array.getElem?_eq_some_iff.1 hj').1
 obtain⟨u,a1,a2,_⟩:=h.2 j _ (List.getElem?_eq_getElem hlt)
 rw[hj']at a1;cases a1
 exact a2.slVal (C.row_sl hp (List.getElem?_eq_getElem hlt))
theorem zm5 {x y:C} {i:Nat} {v:V} (h:x.setRow i v=some y):y.isPg=x.isPg:=by
 cases x<;>simp only[C.setRow,Option.map_eq_some_iff]at h<;>first|(obtain⟨_,_,rfl⟩:=h;rfl)|cases h
theorem zo1 {x y:C} {i j:Nat} {v:V} (h:x.setCell i j v=some y):y.isPg=x.isPg:=by
 cases x<;>simp only[C.setCell]at h<;>first|(split at h<;>first|(simp only[Option.map_eq_some_iff]at h;obtain⟨_,_,rfl⟩:=h;rfl)|cases h)|cases h
theorem zdj {i k st q:Nat} (hne:k≠i) (hq:q<st):k*st+q<i*st∨i*st+st≤k*st+q:=by
 rcases Nat.lt_or_gt_of_ne hne with c|c
 ·have:(k+1)*st≤i*st:=Nat.mul_le_mul_right _ c
  rw[Nat.add_mul,Nat.one_mul]at this;omega
 ·have:(i+1)*st≤k*st:=Nat.mul_le_mul_right _ c
  rw[Nat.add_mul,Nat.one_mul]at this;omega
theorem zz2 {l:C} {t i j b cap hi:Nat} {v':V} {vy:Value} {cells:List Value} {ty:TypeId} {KC:C→Prop} {J:Nat→Prop} {n:Nat} (hv:RV J g n w v' vy) (f1:zap P t (T t).isAgg) (f2:zy P t (T t).size)
  (f4:(T t).isAgg=false→(T t).size=1) (hs:l.isSl=true) (hbk:w.heap[b]? = some (.cells cells.toArray ty (0,0))) (hlen:cells.length=cap*l.stride) (hcap:l.len≤cap) (hil:i<l.len) (ht:l.isPg=true→∀v∈cells,zc5 v)
  (hne:i≠hi) (hJ:∀{w'},Only b w w'→∀k,J k→w'.heap[k]? = w.heap[k]?)
  (hh:∀(k q:Nat) z,k<l.len→k≠hi→(l.row k)[q]? = some z→∃v,cells[k*l.stride+q]? = some v∧RC J w z v) (hk:zc8 l (T t) i j v' KC) :
  ∃(x':C) (w':World) (cells':List Value),KC x'∧(Instr.storeAt t (.pointer (some ⟨b,i*l.stride+j,none⟩)) vy).run P w=.ok () w'∧Only b w w'∧w'.heap[b]? = some (.cells cells'.toArray ty (0,0))∧cells'.length=cells.length ∧
   x'.isSl=true∧x'.stride=l.stride∧x'.len=l.len∧(x'.isPg=true→∀v∈cells',zc5 v)∧(∀m,m<i*l.stride∨i*l.stride+l.stride≤m→cells'[m]? = cells[m]?) ∧
   ∀(k q:Nat) z,k<x'.len→k≠hi→(x'.row k)[q]? = some z→∃v,cells'[k*x'.stride+q]? = some v∧RC J w' z v:=by
 have hmul:i*l.stride+l.stride≤cap*l.stride:=by
  have:(i+1)*l.stride≤cap*l.stride:=Nat.mul_le_mul_right _ (by omega)
  rwa [Nat.add_mul,Nat.one_mul]at this
 unfold zc8 at hk
 split at hk
 ·rename_i hsz
  have hsz:=Nat.eq_of_beq_eq_true hsz
  split at hk
  ·rename_i hj
   have hj:=Nat.eq_of_beq_eq_true hj
   subst hj
   split at hk
   ·rename_i x' hx'
    obtain⟨e1,e2,e3,e4,e5,e6⟩:=zg8 hx' hil hv
    have hrl:=C.row_len x' i e1
    have hcs:vy.cells.size=(T t).size:=by rw[e5,hrl,e2,hsz]
    obtain⟨w',r1,r2,r3⟩:=zbz f2 hcs hbk (off:=i*l.stride+0) (by rw[hcs,←hsz,hlen];omega) (fun u hu=>by
     obtain⟨k,hk⟩:=List.getElem?_of_mem hu
     have hk':vy.cells[k]? = some u:=by simpa using hk
     have hlt:k<(x'.row i).length:=by rw[←e5];exact(Array.getElem?_eq_some_iff.1 hk').1
     obtain⟨u',h1,_,h3⟩:=e6 k _ (List.getElem?_eq_getElem hlt)
     rw[hk']at h1;cases h1;exact h3)
    have hpl:i*l.stride+0+vy.cells.toList.length≤cells.length:=by simp only[Array.length_toList];rw[hcs,←hsz,hlen];omega
    refine⟨x',w',_,hk,r1,r3,r2,by rw[za6],e1,e2,e3,fun hp v hv=>?_,fun m hm=>?_,fun k q z hkl hki hz=>?_⟩
    ·rcases zdf hv with hv|hv
     ·exact ht (by rw[←zm5 hx'];exact hp) v hv
     ·exact zfk.slVal ⟨e5,e6⟩ hp v hv
    ·rw[za8 _ _ _ hpl,if_neg]
     simp only[Array.length_toList];rw[hcs,←hsz];omega
    ·rw[e3]at hkl
     rw[e2,za8 _ _ _ hpl]
     have hqlt:q<l.stride:=by
      have:=(List.getElem?_eq_some_iff.1 hz).1
      rwa [C.row_len _ _ e1,e2]at this
     by_cases hki':k=i
     ·subst hki'
      rw[if_pos (by simp only[Array.length_toList];omega)]
      obtain⟨u,h1,h2,_⟩:=e6 q z hz
      refine⟨u,?_,h2.mono (fun _ h=>h) (hJ r3)⟩
      rw[show k*l.stride+q-(k*l.stride+0)=q from by omega]
      simpa using h1
     ·rw[e4 k hki']at hz
      obtain⟨u,h1,h2⟩:=hh k q z hkl hki hz
      refine⟨u,?_,h2.mono (fun _ h=>h) (hJ r3)⟩
      rw[if_neg]
      ·exact h1
      ·simp only[Array.length_toList]
       rw[hcs,←hsz]
       have:=zdj (st:=l.stride) hki' hqlt
       omega
   ·exact hk.elim
  ·exact hk.elim
 ·split at hk
  ·exact hk.elim
  ·rename_i ha
   rw[ha]at f1
   have hsz1:=f4 ha
   split at hk
   ·rename_i x' hx'
    obtain⟨e1,e2,e3,e4,e5,c,e6,e7⟩:=zn1 hx' hil hv
    have hcs:vy.cells=#[vy]:=e7.one.2
    have hpl:i*l.stride+j+vy.cells.toList.length≤cells.length:=by rw[hcs,hlen];show _+1≤_;omega
    obtain⟨w',r1,r2,r3⟩:=zbz f2 (v:=vy) (by rw[hcs,hsz1];rfl) hbk (off:=i*l.stride+j) (by simpa using hpl) (by rw[hcs];intro u hu;simp at hu;subst hu;exact e7.one.1)
    refine⟨x',w',_,hk,r1,r3,r2,by rw[za6],e1,e2,e3,fun hp v hv=>?_,fun m hm=>?_,fun k q z hkl hki hz=>?_⟩
    ·rcases zdf hv with hv|hv
     ·exact ht (by rw[←zo1 hx'];exact hp) v hv
     ·rw[hcs]at hv
      simp only[List.mem_singleton]at hv
      subst hv
      refine e7.slVal (C.row_sl hp (i:=i) (j:=j) ?_)
      rw[e6,List.getElem?_set_self (by rw[C.row_len _ _ hs];exact e4)]
    ·rw[za8 _ _ _ hpl,if_neg]
     rw[hcs];simp;omega
    ·rw[e3]at hkl
     rw[e2,za8 _ _ _ hpl,hcs]
     have hqlt:q<l.stride:=by
      have:=(List.getElem?_eq_some_iff.1 hz).1
      rwa [C.row_len _ _ e1,e2]at this
     by_cases hki':k=i
     ·subst hki'
      rw[e6,List.getElem?_set]at hz
      by_cases hq:j=q
      ·subst hq
       rw[if_pos rfl,if_pos (by rw[C.row_len _ _ hs];exact e4)]at hz
       cases hz
       rw[if_pos (by simp)]
       exact⟨vy,by simp,e7.mono (fun _ h=>h) (hJ r3)⟩
      ·rw[if_neg hq]at hz
       obtain⟨u,h1,h2⟩:=hh k q z hkl hki hz
       refine⟨u,?_,h2.mono (fun _ h=>h) (hJ r3)⟩
       rw[if_neg (by simp;omega)]
       exact h1
     ·rw[e5 k hki']at hz
      obtain⟨u,h1,h2⟩:=hh k q z hkl hki hz
      refine⟨u,?_,h2.mono (fun _ h=>h) (hJ r3)⟩
      rw[if_neg (by have:=zdj (st:=l.stride) hki' hqlt;simp;omega)]
      exact h1
   ·exact hk.elim
theorem zls {f i j:Nat} {x:C} {ks:List Nat} (hs:x.isSl=true) {y:C} (hf:f≤i) (hi:i<x.len) (hk:i∉ks) (hy:(x.row i)[j]? = some y):zb8 f x ks (i*x.stride+j) :=
 ⟨i,j,rfl,by have:=(List.getElem?_eq_some_iff.1 hy).1;rwa [C.row_len _ _ hs]at this,hf,hi,hk⟩
theorem zip (a b:List (Nat×List V)):zx (a++b)=zx a++zx b:=by simp[zx]
theorem zjx {cells us:List Value} {n k:Nat} (hl:n+us.length≤cells.length) (h:k<n∨n+us.length≤k):(putAt cells n us)[k]? = cells[k]?:=by
 rw[za8 _ _ _ hl,if_neg (by omega)]
theorem zw8 {id t i j b n f:Nat} {cl:Nat×Nat} {pn:Bool} {x:C} {hs:List (Nat×List V)} {v':V} {vy:Value} {KO:O→Prop} (ho:RO I g n w id (.deep pn f x hs)) (hg:g id=some (b,cl)) (hnI:¬I b)
  (hv:RV I g n w v' vy) (f1:zap P t (T t).isAgg) (f2:zy P t (T t).size) (f4:(T t).isAgg=false→(T t).size=1) (hil:i<x.len) (hk:zgc pn f x hs (T t) i j v' KO) :
  ∃(ob:O) (w':World),KO ob∧(Instr.storeAt t (.pointer (some ⟨b,i*x.stride+j,none⟩)) vy).run P w=.ok () w'∧Only b w w'∧RO I g n w' id ob∧ob.isBox=pn∧∀b',Nst g w' id ob b'→Nst g w id (.deep pn f x hs) b':=by
 cases ho with
 |deep0 _ _ _ hg'=>rw[hg]at hg';cases hg'
 |deep _ _ _ _ b0 cap cells ty hg' hsl hbk hlen hcap hh hkn hr h2 hd ht =>
 rw[hg]at hg'
 cases hg'
 have hI':∀{w'},Only b w w'→∀k,I k→w'.heap[k]? = w.heap[k]?:=fun r3 k hk=>r3.block k fun e=>hnI (e▸hk)
 have hmul:i*x.stride+x.stride≤cap*x.stride:=by
  have:(i+1)*x.stride≤cap*x.stride:=Nat.mul_le_mul_right _ (by omega)
  rwa [Nat.add_mul,Nat.one_mul]at this
 have hcl:∀(k:Nat),w.cell? ⟨b,k,none⟩=cells[k]?:=fun k=>by rw[cell_of_row w b _ cells.toArray ty (0,0) hbk];simp
 have keep:∀{w':World},Only b w w'→∀{k q:Nat} {y:C} {v:Value},f≤k→k<x.len→k∉zx hs→(x.row k)[q]? = some y→cells[k*x.stride+q]? = some v→NC w y v→NC w' y v:=by
  intro w' r3 k q y v a1 a2 a3 a4 a5 a6
  refine a6.mono fun b1 l m e=>r3.block b1 ?_
  have htd:=zls hsl a1 a2 a3 a4
  subst e
  exact(hd _ _ b1 0 l m 0 l m htd htd a5 a5).2
 have nst:∀{w':World} {hs':List (Nat×List V)} {x':C} {cells':List Value},w'.heap[b]? = some (.cells cells'.toArray ty (0,0))→(∀k,zb8 f x' (zx hs') k→zb8 f x (zx hs) k∧∀b' o l c,cells'[k]? = some (.slice (some ⟨b',o,none⟩) l c)→cells[k]? = some (.slice (some ⟨b',o,none⟩) l c)) →
   ∀b',Nst g w' id (.deep pn f x' hs') b'→Nst g w id (.deep pn f x hs) b':=by
  rintro w' hs' x' cells' hb' hsub b' ⟨b1,cl,k,off,l,c,e1,e2,e3⟩
  rw[hg]at e1;cases e1
  obtain⟨q1,q2⟩:=hsub k e2
  rw[cell_of_row w' b _ cells'.toArray ty (0,0) hb']at e3
  exact⟨b,_,k,off,l,c,hg,q1,by rw[hcl];exact q2 _ _ _ _ (by simpa using e3)⟩
 rcases zi0 hk with ⟨p1,us,tl,rfl,hk3⟩|⟨hne,hk3⟩
 ·rw[List.nil_append]at hk3
  obtain⟨q1,q2⟩:=hh i us (by simp)
  split at hk3
  ·rename_i hsz
   split at hsz
   ·rename_i hone
    have hsz:=Nat.eq_of_beq_eq_true hsz
    have hcs:=ze0 hv (by
     cases v' with
     |any=>cases hone
     |agg l=>exact .inr ⟨l,rfl⟩
     |tup l=>cases hone
     |_=>exact .inl rfl)
    have hvs:vy.cells.size=(T t).size:=by rw[←hsz,hcs.1];simp
    split at hk3
    ·rename_i hle
     obtain⟨hho,hle⟩:zhg x v'.cells=true∧Nat.ble (j+(T t).size) us.length=true:=by
      split at hle
      ·rename_i h1;exact⟨h1,hle⟩
      ·cases hle
     have hle:=Nat.le_of_ble_eq_true hle
     obtain⟨w',r1,r2,r3⟩:=zbz f2 hvs hbk (off:=i*x.stride+j) (by rw[hvs,hlen];omega) (hcs.one hone)
     have hvl2:vy.cells.toList.length=(T t).size:=by rw[Array.length_toList,hvs]
     have hpl:i*x.stride+j+vy.cells.toList.length≤cells.length:=by rw[hvl2,hlen];omega
     have hkeys:zx (p1++(i,zbj us j v'.cells)::tl)=zx (p1++(i,us)::tl):=by simp[zx]
     have hoff:∀{k q:Nat},q<x.stride→k≠i→(putAt cells (i*x.stride+j) vy.cells.toList)[k*x.stride+q]? = cells[k*x.stride+q]?:=fun {k q} hq hki=>by
      refine zjx hpl ?_
      rw[hvl2]
      have:=zdj (st:=x.stride) hki hq
      omega
     have hin:i∈zx (p1++(i,us)::tl):=zhd (us:=us) (by simp)
     have htold:∀{k},zb8 f x (zx (p1++(i,us)::tl)) k→(putAt cells (i*x.stride+j) vy.cells.toList)[k]? = cells[k]?:=fun {k} ⟨i',j',e,h1,h3,h4,h5⟩=>by
      rw[e];exact hoff h1 fun c=>h5 (c▸hin)
     refine⟨_,w',hk3,r1,r3,.deep pn f x _ b cap _ ty hg hsl r2 (by rw[za6,hlen]) hcap (fun k us' hm=>?_) (by rw[hkeys];exact hkn) (fun k q y a1 a2 a3 a4=>?_) (fun k us' hm q hq=>?_) ?_ (fun hp v hv=>?_),rfl,
      nst r2 fun k hk=>?_⟩
     ·rcases List.mem_append.1 hm with hm|hm
      ·exact hh k us' (by simp[hm])
      ·rcases List.mem_cons.1 hm with hm|hm
       ·cases hm;exact⟨q1,by rw[zha];exact q2⟩
       ·exact hh k us' (by simp[hm])
     ·rw[hkeys]at a3
      obtain⟨v,h3,h4⟩:=hr k q y a1 a2 a3 a4
      have hq:q<x.stride:=by have:=(List.getElem?_eq_some_iff.1 a4).1;rwa [C.row_len _ _ hsl]at this
      exact⟨v,by rw[hoff hq fun c=>a3 (by rw[c];exact hin)];exact h3,keep r3 a1 a2 a3 a4 h3 h4⟩
     ·
      have hrow:RVs I g n w us ((cells.drop (i*x.stride)).take x.stride):=by
       refine⟨by simp only[List.length_take,List.length_drop];omega,fun j u v hu hv=>?_⟩
       rw[List.getElem?_take]at hv
       split at hv
       ·rename_i hj
        rw[List.getElem?_drop]at hv
        obtain⟨u',v',a1,a2,_,a4⟩:=h2 i us (by simp) j hj
        rw[hu]at a1;rw[hv]at a2;cases a1;cases a2;exact a4
       ·cases hv
      by_cases hki:k=i
      ·subst hki
       have hdup:(∀us0,(k,us0)∉p1)∧∀us0,(k,us0)∉tl:=by
        have h0:(zx p1++k::zx tl).Nodup:=by simpa [zx]using hkn
        rw[List.nodup_append]at h0
        obtain⟨_,h1,h2⟩:=h0
        exact⟨fun us0 hm=>h2 k (zhd hm) k List.mem_cons_self rfl,fun us0 hm=>(List.nodup_cons.1 h1).1 (zhd hm)⟩
       have hql:k*x.stride+q<(putAt cells (k*x.stride+j) vy.cells.toList).length:=by rw[za6,hlen];omega
       have hput:=hrow.putAt hcs j
       have hql2:q<(zbj us j v'.cells).length:=by rw[zha];omega
       have hval:(putAt ((cells.drop (k*x.stride)).take x.stride) j vy.cells.toList)[q]? = some ((putAt cells (k*x.stride+j) vy.cells.toList)[k*x.stride+q])∧((putAt cells (k*x.stride+j) vy.cells.toList)[k*x.stride+q]).oneCell'=true:=by
        have hv:=List.getElem?_eq_getElem hql
        generalize (putAt cells (k*x.stride+j) vy.cells.toList)[k*x.stride+q]=v at hv
        rw[za8 _ _ _ hpl]at hv
        rw[za8 _ _ _ (by simp only[List.length_take,List.length_drop];rw[hvl2];omega)]
        by_cases c:j≤q∧q<j+vy.cells.toList.length
        ·rw[if_pos (by omega)]at hv
         rw[if_pos c,show q-j=k*x.stride+q-(k*x.stride+j)from by omega]
         exact⟨hv,hcs.one hone v (List.mem_of_getElem? hv)⟩
        ·rw[if_neg (by omega)]at hv
         rw[if_neg c,List.getElem?_take,if_pos hq,List.getElem?_drop]
         obtain⟨_,v',_,a2,a3,_⟩:=h2 k us (by simp) q hq
         rw[hv]at a2;cases a2
         exact⟨hv,a3⟩
       have hset:∃u v,(zbj us j v'.cells)[q]? = some u∧(putAt cells (k*x.stride+j) vy.cells.toList)[k*x.stride+q]? = some v∧v.oneCell'=true∧RV I g n w' u v :=
        ⟨_,_,List.getElem?_eq_getElem hql2,List.getElem?_eq_getElem hql,hval.2,(hput.2 q _ _ (List.getElem?_eq_getElem hql2) hval.1).mono (fun _ h=>h) (hI' r3) (Nat.le_refl _) fun _ _=>rfl⟩
       rcases List.mem_append.1 hm with hm|hm
       ·exact(hdup.1 _ hm).elim
       ·rcases List.mem_cons.1 hm with hm|hm
        ·cases hm;exact hset
        ·exact(hdup.2 _ hm).elim
      ·have hm':(k,us')∈p1++(i,us)::tl:=by
        rcases List.mem_append.1 hm with hm|hm
        ·simp[hm]
        ·rcases List.mem_cons.1 hm with hm|hm
         ·cases hm;exact absurd rfl hki
         ·simp[hm]
       obtain⟨u,v,a1,a2,a3,a4⟩:=h2 k us' hm' q hq
       exact⟨u,v,a1,by rw[hoff hq hki];exact a2,a3,a4.mono (fun _ h=>h) (hI' r3) (Nat.le_refl _) fun _ _=>rfl⟩
     ·intro k k' b' o l c o' l' c' t1 t2 e1 e2
      rw[hkeys]at t1 t2
      rw[htold t1]at e1;rw[htold t2]at e2
      exact hd k k' b' o l c o' l' c' t1 t2 e1 e2
     ·rcases zdf hv with hv|hv
      ·exact ht hp v hv
      ·exact hcs.slVal (zjr hho hp) v hv
     ·rw[hkeys]at hk
      exact⟨hk,fun b' o l c e=>by rw[htold hk]at e;exact e⟩
    ·exact hk3.elim
   ·cases hsz
  ·exact hk3.elim
 ·split at hk3
  ·
   rename_i hnum
   obtain⟨kk,xs,rfl⟩:∃k xs,x=.nums k xs:=by cases x<;>first|exact⟨_,_,rfl⟩|cases hnum
   unfold zc8 at hk3
   split at hk3
   ·rename_i hsz
    have hsz:=Nat.eq_of_beq_eq_true hsz
    split at hk3
    ·rename_i hj
     have hj:=Nat.eq_of_beq_eq_true hj
     subst hj
     split at hk3
     ·rename_i x' hx'
      obtain⟨e1,e2,e3,e4,e5,e6⟩:=zg8 hx' hil hv
      have hrl:=C.row_len x' i e1
      have hst1:(C.nums kk xs).stride=1:=rfl
      have hcs:vy.cells.size=1:=by rw[e5,hrl,e2];rfl
      obtain⟨w',r1,r2,r3⟩:=zbz f2 (by rw[hcs,←hsz];rfl) hbk (off:=i*(C.nums kk xs).stride+0) (by rw[hcs,hlen];omega) (fun u hu=>by
       obtain⟨k,hk⟩:=List.getElem?_of_mem hu
       have hk':vy.cells[k]? = some u:=by simpa using hk
       have hlt:k<(x'.row i).length:=by rw[←e5];exact(Array.getElem?_eq_some_iff.1 hk').1
       obtain⟨u',h1,_,h3⟩:=e6 k _ (List.getElem?_eq_getElem hlt)
       rw[hk']at h1;cases h1;exact h3)
      have hpl:i*(C.nums kk xs).stride+0+vy.cells.toList.length≤cells.length:=by rw[Array.length_toList,hcs,hlen];omega
      obtain⟨m,hm,rfl⟩:∃m,v'.asInt kk=some m∧x'=.nums kk (xs.set i m):=by
       simp only[C.setRow,Option.map_eq_some_iff]at hx'
       obtain⟨m,h,rfl⟩:=hx';exact⟨m,h,rfl⟩
      have hnsl:∀{x0:C} {ks:List Nat} {k b' o l c} {cs:List Value} {w0:World},(∃k0 zs,x0=.nums k0 zs)→(∀(i j:Nat) y,f≤i→i<x0.len→i∉ks→(x0.row i)[j]? = some y→∃v,cs[i*x0.stride+j]? = some v∧NC w0 y v) →
        zb8 f x0 ks k→cs[k]? = some (.slice (some ⟨b',o,none⟩) l c)→False:=by
       rintro x0 ks k b' o l c cs w0 ⟨k0,zs,rfl⟩ hrr ⟨i',j',e,h1,h3,h4,h5⟩ hcell
       have hj0:j'=0:=by simp only[C.stride]at h1;omega
       subst hj0
       obtain⟨v,g1,g2⟩:=hrr i' 0 (.int k0 (zs.getD i' 0)) h3 h4 h5 (by simp[C.row])
       rw[←e,hcell]at g1;cases g1;cases g2
      have hrow':∀(k q:Nat) y,f≤k→k<(C.nums kk (xs.set i m)).len→k∉zx hs→((C.nums kk (xs.set i m)).row k)[q]? = some y→∃v,(putAt cells (i*(C.nums kk xs).stride+0) vy.cells.toList)[k*(C.nums kk (xs.set i m)).stride+q]? = some v∧NC w' y v:=by
       intro k q y a1 a2 a3 a4
       rw[e3]at a2
       rw[e2]
       have hq:q<(C.nums kk xs).stride:=by have:=(List.getElem?_eq_some_iff.1 a4).1;rwa [C.row_len _ _ e1,e2]at this
       by_cases hki:k=i
       ·subst hki
        obtain⟨u,h1,h3,_⟩:=e6 q y a4
        have hq0:q=0:=by simp only[C.stride]at hq;omega
        subst hq0
        refine⟨u,?_,?_⟩
        ·rw[za8 _ _ _ hpl,if_pos (by rw[Array.length_toList,hcs];omega)]
         simpa using h1
        ·simp only[C.row,List.getElem?_cons_zero,Option.some.injEq]at a4
         subst a4
         cases h3 with
         |int=>exact .int _ _
         |empty _ _ _ hs=>cases hs
         |sl _ _ _ _ _ hs=>cases hs
       ·rw[e4 k hki]at a4
        obtain⟨v,h3,h4⟩:=hr k q y a1 a2 a3 a4
        refine⟨v,?_,keep r3 a1 a2 a3 a4 h3 h4⟩
        rw[zjx hpl]
        ·exact h3
        ·rw[Array.length_toList,hcs]
         have:=zdj (st:=(C.nums kk xs).stride) hki hq
         simp only[C.stride]at this⊢
         omega
      refine⟨_,w',hk3,r1,r3,.deep pn f _ hs b cap _ ty (by rw[e3];exact hg) e1 r2 (by rw[za6,hlen,e2]) (by rw[e3];exact hcap) (fun k us hm=>by rw[e3,e2];exact hh k us hm) hkn hrow' (fun k us hm q hq=>?_) ?_ (fun hp=>by cases hp),rfl,?_⟩
      ·rw[e2]at hq⊢
       obtain⟨u,v,a1,a2,a3,a4⟩:=h2 k us hm q hq
       refine⟨u,v,a1,?_,a3,a4.mono (fun _ h=>h) (hI' r3) (Nat.le_refl _) fun _ _=>rfl⟩
       rw[zjx hpl]
       ·exact a2
       ·rw[Array.length_toList,hcs]
        have:=zdj (st:=(C.nums kk xs).stride) (fun c=>hne (c▸zhd hm):k≠i) hq
        simp only[C.stride]at this⊢
        omega
      ·intro k k' b' o l c o' l' c' t1 t2 e1' e2'
       exact(hnsl ⟨_,_,rfl⟩ hrow' t1 e1').elim
      ·rintro b' ⟨b1,cl,k,off,l,c,q1,q2,q3⟩
       rw[hg]at q1;cases q1
       rw[cell_of_row w' b _ _ ty (0,0) r2]at q3
       exact(hnsl ⟨_,_,rfl⟩ hrow' q2 (by simpa using q3)).elim
     ·exact hk3.elim
    ·exact hk3.elim
   ·rename_i hsz
    split at hk3
    ·exact hk3.elim
    ·rename_i ha
     exact absurd (f4 ha) (fun h=>Nat.ne_of_beq_eq_false hsz (by rw[h];rfl))
  ·split at hk3
   ·rename_i hwh
    simp only[whOk,Bool.and_eq_true]at hwh
    obtain⟨⟨⟨⟨hone,w2⟩,w3⟩,w4⟩,hho⟩:=hwh
    have hsz:=Nat.eq_of_beq_eq_true w2
    have hszl:=Nat.eq_of_beq_eq_true w3
    have w4:=Nat.eq_of_beq_eq_true w4
    subst w4
    have hcs:=ze0 hv (by
     cases v' with
     |any=>cases hone
     |agg l=>exact .inr ⟨l,rfl⟩
     |tup l=>cases hone
     |_=>exact .inl rfl)
    have hvs:vy.cells.size=(T t).size:=by rw[←hsz,hcs.1];simp
    have hvl2:vy.cells.toList.length=x.stride:=by rw[Array.length_toList,hvs,hszl]
    obtain⟨w',r1,r2,r3⟩:=zbz f2 hvs hbk (off:=i*x.stride+0) (by rw[hvs,hlen];omega) (hcs.one hone)
    have hpl:i*x.stride+0+vy.cells.toList.length≤cells.length:=by rw[hvl2,hlen];omega
    have hoff:∀{k q:Nat},q<x.stride→k≠i→(putAt cells (i*x.stride+0) vy.cells.toList)[k*x.stride+q]? = cells[k*x.stride+q]?:=fun {k q} hq hki=>by
     refine zjx hpl ?_
     rw[hvl2]
     have:=zdj (st:=x.stride) hki hq
     omega
    have hkeys:zx (hs++[(i,v'.cells)])=zx hs++[i]:=by simp[zx]
    have hsub:∀{k},zb8 f x (zx (hs++[(i,v'.cells)])) k→zb8 f x (zx hs) k∧(putAt cells (i*x.stride+0) vy.cells.toList)[k]? = cells[k]?:=fun {k} ⟨i',j',e,h1,h3,h4,h5⟩=>by
     rw[hkeys,List.mem_append,not_or]at h5
     exact⟨⟨i',j',e,h1,h3,h4,h5.1⟩,by rw[e];exact hoff h1 fun c=>h5.2 (by simp[c])⟩
    refine⟨_,w',hk3,r1,r3,.deep pn f x _ b cap _ ty hg hsl r2 (by rw[za6,hlen]) hcap (fun k us' hm=>?_) (by rw[hkeys,List.nodup_append];exact⟨hkn,by simp,fun a ha b hb=>by simp only[List.mem_singleton]at hb;subst hb;exact fun c=>hne (c▸ha)⟩) (fun k q y a1 a2 a3 a4=>?_) (fun k us' hm q hq=>?_) ?_ (fun hp v hv=>?_),rfl,nst r2 fun k hk=>?_⟩
    ·rcases List.mem_append.1 hm with hm|hm
     ·exact hh k us' hm
     ·simp only[List.mem_singleton]at hm;cases hm;exact⟨hil,by rw[hsz,hszl]⟩
    ·rw[hkeys,List.mem_append,not_or]at a3
     obtain⟨v,h3,h4⟩:=hr k q y a1 a2 a3.1 a4
     have hq:q<x.stride:=by have:=(List.getElem?_eq_some_iff.1 a4).1;rwa [C.row_len _ _ hsl]at this
     exact⟨v,by rw[hoff hq fun c=>a3.2 (by simp[c])];exact h3,keep r3 a1 a2 a3.1 a4 h3 h4⟩
    ·rcases List.mem_append.1 hm with hm|hm
     ·obtain⟨u,v,a1,a2,a3,a4⟩:=h2 k us' hm q hq
      exact⟨u,v,a1,by rw[hoff hq fun c=>hne (c▸zhd hm)];exact a2,a3,a4.mono (fun _ h=>h) (hI' r3) (Nat.le_refl _) fun _ _=>rfl⟩
     ·simp only[List.mem_singleton]at hm;cases hm
      have hql:q<v'.cells.length:=by omega
      have hql2:q<vy.cells.toList.length:=by omega
      refine⟨_,_,List.getElem?_eq_getElem hql,?_,hcs.one hone _ (List.getElem_mem hql2),(hcs.2 q _ _ (List.getElem?_eq_getElem hql) (List.getElem?_eq_getElem hql2)).mono (fun _ h=>h) (hI' r3) (Nat.le_refl _) fun _ _=>rfl⟩
      rw[za8 _ _ _ hpl,if_pos (by omega),show i*x.stride+q-(i*x.stride+0)=q by omega]
      exact List.getElem?_eq_getElem hql2
    ·intro k k' b' o l c o' l' c' t1 t2 e1 e2
     obtain⟨t1,m1⟩:=hsub t1
     obtain⟨t2,m2⟩:=hsub t2
     rw[m1]at e1;rw[m2]at e2
     exact hd k k' b' o l c o' l' c' t1 t2 e1 e2
    ·rcases zdf hv with hv|hv
     ·exact ht hp v hv
     ·exact hcs.slVal (zjr hho hp) v hv
    ·obtain⟨t1,m1⟩:=hsub hk
     exact⟨t1,fun b' o l c e=>by rw[m1]at e;exact e⟩
   ·exact hk3.elim
theorem ztb (hT:TOk P T) {t:Nat} {x y:Operand} (ho:o.op=.store t x y) (h:St X I g s a w) (hok:(T t).ok=true) {id i st:Nat} {l:C}
  (hxe:evl s.env x=.ptr id i st 0) (hl:zq s.hp id=some (.arr l)) (hil:i<l.len) (hst:st=l.stride) (hone:zhr (evl s.env y).cells=true) (hsz:(evl s.env y).cells.length=(T t).size) (hsl:(T t).size=l.stride)
  (hho:zhg l (evl s.env y).cells=true) (hk:S.put ⟨s.nt,s.nx,s.env,zac s.hp id (.hol l i (evl s.env y).cells)⟩ o.dst (.tup []) K)
  (hN:∀s' a' w',Sat X s' a' w'→K s'→N a' w'):o.wp P a w N Q:=by
 have hb:T t≠.bad:=fun e=>by rw[e]at hok;cases hok
 obtain⟨f1,f2,f3,f4⟩:=TI.facts (hT t) hb
 have hx:=h.eval x
 have hy:=h.eval y
 have hfin:∀{s':S} {I'} {w'},(Instr.storeAt t (a.eval x) (a.eval y)).run P w=.ok () w'→St X I' g s' a w'→s'.put o.dst (.tup []) K→o.wp P a w N Q:=fun hr hst hk =>
  zn4 (by simp[execOp,ho,hr]) hst hk hN
 generalize a.eval x=vx at hx hfin
 generalize a.eval y=vy at hy hfin
 rw[hxe]at hx
 cases hx with
 |ptr _ _ _ _ b cl hn hg =>
 have hm:=zt hl
 have hro:=(h.heap.obj id _ hm).2
 cases hro with
 |none _ hg'=>rw[hg]at hg';cases hg'
 |arr _ b' cap cells ty hg' hs hbk hlen hcap hh ht =>
 rw[hg]at hg'
 cases hg'
 have hI':∀{w'},Only b w w'→∀k,I k→w'.heap[k]? = w.heap[k]?:=fun r3 k hk=>r3.block k fun e=>(h.heap.apart id _ b hm (.pri hg)).1 (e▸hk)
 have hcs:=ze0 hy (by
  cases he:evl s.env y with
  |any=>rw[he]at hone;cases hone
  |agg l=>exact .inr ⟨l,rfl⟩
  |tup l=>rw[he]at hone;cases hone
  |_=>exact .inl rfl)
 have hvs:vy.cells.size=(T t).size:=by rw[←hsz,hcs.1];simp
 have hmul:i*l.stride+l.stride≤cap*l.stride:=by
  have:(i+1)*l.stride≤cap*l.stride:=Nat.mul_le_mul_right _ (by omega)
  rwa [Nat.add_mul,Nat.one_mul]at this
 obtain⟨w',r1,r2,r3⟩:=zbz f2 hvs hbk (off:=i*st+0) (by rw[hvs,hlen,hst];omega) (hcs.one hone)
 have hpl:i*st+0+vy.cells.toList.length≤cells.length:=by simp only[Array.length_toList];rw[hvs,hlen,hst];omega
 refine hfin r1 (h.modify (ob':=.hol l i (evl s.env y).cells) hm hg rfl r3 (.hol l i _ b cap _ ty hg hs r2 (by rw[za6,hlen]) hcap hil (by rw[hsz,hsl]) (fun k q z hkl hki hz=>?_) (fun q hq=>?_) fun hp v hv=>by
  rcases zdf hv with hv|hv
  ·exact ht hp v hv
  ·exact hcs.slVal (zjr hho hp) v hv)) hk
 ·have hqlt:q<l.stride:=by
   have:=(List.getElem?_eq_some_iff.1 hz).1
   rwa [C.row_len _ _ hs]at this
  obtain⟨u,h1,h3⟩:=hh k q z hkl hz
  refine⟨u,?_,h3.mono (fun _ h=>h) (hI' r3)⟩
  rw[za8 _ _ _ hpl,if_neg]
  ·exact h1
  ·simp only[Array.length_toList]
   rw[hvs,hst,hsl]
   have:=zdj (st:=l.stride) hki hqlt
   omega
 ·have hql:q<(evl s.env y).cells.length:=by omega
  have hql2:q<vy.cells.toList.length:=by simp only[Array.length_toList];omega
  refine⟨_,_,List.getElem?_eq_getElem hql,?_,hcs.one hone _ (List.getElem_mem hql2),(hcs.2 q _ _ (List.getElem?_eq_getElem hql) (List.getElem?_eq_getElem hql2)).mono (fun _ h=>h) (hI' r3) (Nat.le_refl _) fun _ _=>rfl⟩
  rw[za8 _ _ _ hpl,if_pos (by rw[hst];omega),hst,show i*l.stride+q-(i*l.stride+0)=q by omega]
  exact List.getElem?_eq_getElem hql2
theorem zu9 (hT:TOk P T) {t:Nat} {x y:Operand} (ho:o.op=.store t x y) (h:St X I g s a w) (hok:(T t).ok=true)
  (hk:zej T t s (evl s.env x) (evl s.env y) fun s=>s.put o.dst (.tup []) K)
  (hN:∀s' a' w',Sat X s' a' w'→K s'→N a' w'):o.wp P a w N Q:=by
 have hb:T t≠.bad:=fun e=>by rw[e]at hok;cases hok
 obtain⟨f1,f2,f3,f4⟩:=TI.facts (hT t) hb
 have hx:=h.eval x
 have hy:=h.eval y
 have hfin:∀{s':S} {I'} {w'},(Instr.storeAt t (a.eval x) (a.eval y)).run P w=.ok () w'→St X I' g s' a w'→s'.put o.dst (.tup []) K→o.wp P a w N Q:=fun hr hst hk =>
  zn4 (by simp[execOp,ho,hr]) hst hk hN
 generalize a.eval x=vx at hx hfin
 generalize a.eval y=vy at hy hfin
 unfold zej at hk
 split at hk
 ·rename_i id i st j hxe
  rw[hxe]at hx
  split at hk
  ·rename_i l hl0
   obtain⟨s',I',vs',hs',hv',hk3,hI,hnx,hnt⟩:=zew _ s I [evl s.env y] [vy] _ h ⟨rfl,fun i z v hz hv=>by
    cases i with
    |zero=>cases hz;cases hv;exact hy
    |succ i=>simp at hz⟩ hk
   split at hk3
   ·rename_i v'
    have hv:=hv'.2 0 _ _ rfl rfl
    split at hk3
    ·rename_i l' hl
     obtain⟨⟨hi,hst⟩,hk2⟩:=zv hk3
     cases hx with
     |ptr _ _ _ _ b cl hn hg =>
     have hm:=zt hl
     have hro:=(hs'.heap.obj id _ hm).2
     have hrow:=zb0.of_arr hro hg hi
     cases hro with
     |none _ hg'=>rw[hg]at hg';cases hg'
     |arr _ b' cap cells ty hg' hs hbk hlen hcap hh ht =>
     rw[hg]at hg'
     cases hg'
     have hI':∀{w'},Only b w w'→∀k,I' k→w'.heap[k]? = w.heap[k]?:=fun r3 k hk=>r3.block k fun e=>(hs'.heap.apart id _ b hm (.pri hg)).1 (e▸hk)
     have hmul:i*l'.stride+l'.stride≤cap*l'.stride:=by
      have:(i+1)*l'.stride≤cap*l'.stride:=Nat.mul_le_mul_right _ (by omega)
      rwa [Nat.add_mul,Nat.one_mul]at this
     unfold zc8 at hk2
     split at hk2
     ·rename_i hsz
      have hsz:=Nat.eq_of_beq_eq_true hsz
      split at hk2
      ·rename_i hj
       have hj:=Nat.eq_of_beq_eq_true hj
       subst hj
       split at hk2
       ·rename_i x' hx'
        rw[S.withHp_eq]at hk2
        obtain⟨e1,e2,e3,e4,e5,e6⟩:=zg8 hx' hi hv
        have hrl:=C.row_len x' i e1
        have hcs:vy.cells.size=(T t).size:=by rw[e5,hrl,e2,hsz]
        obtain⟨w',r1,r2,r3⟩:=zbz f2 hcs hbk (off:=i*st+0) (by rw[hcs,←hsz,hlen,hst];omega) (fun u hu=>by
         obtain⟨k,hk⟩:=List.getElem?_of_mem hu
         have hk':vy.cells[k]? = some u:=by simpa using hk
         have hlt:k<(x'.row i).length:=by rw[←e5];exact(Array.getElem?_eq_some_iff.1 hk').1
         obtain⟨u',h1,_,h3⟩:=e6 k _ (List.getElem?_eq_getElem hlt)
         rw[hk']at h1;cases h1;exact h3)
        refine hfin r1 (hs'.modify (ob':=.arr x') hm hg rfl r3 (RO.arr_of (by rw[e3];exact hg) e1 r2 (by rw[za6,hlen,e2]) (by rw[e3];exact hcap) (fun k q z hkl hz=>?_) fun hp v hv=>by
         rcases zdf hv with hv|hv
         ·exact ht (by rw[←zm5 hx'];exact hp) v hv
         ·exact zfk.slVal ⟨e5,e6⟩ hp v hv)) hk2
        rw[e3]at hkl
        rw[e2,za8 _ _ _ (by simp only[Array.length_toList];rw[hcs,←hsz,hlen,hst];omega)]
        have hqlt:q<l'.stride:=by
         have:=(List.getElem?_eq_some_iff.1 hz).1
         rwa [C.row_len _ _ e1,e2]at this
        by_cases hki:k=i
        ·subst hki
         rw[if_pos (by rw[hst];simp only[Array.length_toList];omega)]
         obtain⟨u,h1,h2,_⟩:=e6 q z hz
         refine⟨u,?_,h2.mono (fun _ h=>h) (hI' r3)⟩
         rw[hst,show k*l'.stride+q-(k*l'.stride+0)=q from by omega]
         simpa using h1
        ·rw[e4 k hki]at hz
         obtain⟨u,h1,h2⟩:=hh k q z hkl hz
         refine⟨u,?_,h2.mono (fun _ h=>h) (hI' r3)⟩
         rw[if_neg]
         ·exact h1
         ·simp only[Array.length_toList]
          rw[hcs,←hsz,hst]
          rcases Nat.lt_or_gt_of_ne hki with c|c
          ·have:(k+1)*l'.stride≤i*l'.stride:=Nat.mul_le_mul_right _ c
           rw[Nat.add_mul,Nat.one_mul]at this;omega
          ·have:(i+1)*l'.stride≤k*l'.stride:=Nat.mul_le_mul_right _ c
           rw[Nat.add_mul,Nat.one_mul]at this;omega
       ·exact hk2.elim
      ·exact hk2.elim
     ·split at hk2
      ·exact hk2.elim
      ·rename_i ha
       rw[ha]at f1
       have hsz1:=f4 ha
       split at hk2
       ·rename_i x' hx'
        rw[S.withHp_eq]at hk2
        obtain⟨e1,e2,e3,e4,e5,c,e6,e7⟩:=zn1 hx' hi hv
        have hcs:vy.cells=#[vy]:=e7.one.2
        obtain⟨w',r1,r2,r3⟩:=zbz f2 (v:=vy) (by rw[hcs,hsz1];rfl) hbk (off:=i*st+j) (by rw[hcs,hlen,hst];show _+1≤_;omega) (by rw[hcs];intro u hu;simp at hu;subst hu;exact e7.one.1)
        refine hfin r1 (hs'.modify (ob':=.arr x') hm hg rfl r3 (RO.arr_of (by rw[e3];exact hg) e1 r2 (by rw[za6,hlen,e2]) (by rw[e3];exact hcap) (fun k q z hkl hz=>?_) fun hp v hv=>by
         rcases zdf hv with hv|hv
         ·exact ht (by rw[←zo1 hx'];exact hp) v hv
         ·rw[hcs]at hv
          simp only[List.mem_singleton]at hv
          subst hv
          refine e7.slVal (C.row_sl hp (i:=i) (j:=j) ?_)
          rw[e6,List.getElem?_set_self (by rw[C.row_len _ _ hs];exact e4)])) hk2
        rw[e3]at hkl
        rw[e2,za8 _ _ _ (by rw[hcs,hlen,hst];show _+1≤_;omega),hcs]
        have hqlt:q<l'.stride:=by
         have:=(List.getElem?_eq_some_iff.1 hz).1
         rwa [C.row_len _ _ e1,e2]at this
        have hsep:k≠i→k*l'.stride+q≠i*l'.stride+j:=fun hki e=>by
         rcases Nat.lt_or_gt_of_ne hki with c|c
         ·have:(k+1)*l'.stride≤i*l'.stride:=Nat.mul_le_mul_right _ c
          rw[Nat.add_mul,Nat.one_mul]at this;omega
         ·have:(i+1)*l'.stride≤k*l'.stride:=Nat.mul_le_mul_right _ c
          rw[Nat.add_mul,Nat.one_mul]at this;omega
        by_cases hki:k=i
        ·subst hki
         rw[e6,List.getElem?_set]at hz
         by_cases hq:j=q
         ·subst hq
          rw[if_pos rfl,if_pos (by rw[C.row_len _ _ hs];exact e4)]at hz
          cases hz
          rw[if_pos (by rw[hst];simp)]
          exact⟨vy,by rw[hst];simp,e7.mono (fun _ h=>h) (hI' r3)⟩
         ·rw[if_neg hq]at hz
          obtain⟨u,h1,h2⟩:=hh k q z hkl hz
          refine⟨u,?_,h2.mono (fun _ h=>h) (hI' r3)⟩
          rw[if_neg (by rw[hst];simp;omega)]
          exact h1
        ·rw[e5 k hki]at hz
         obtain⟨u,h1,h2⟩:=hh k q z hkl hz
         refine⟨u,?_,h2.mono (fun _ h=>h) (hI' r3)⟩
         rw[if_neg (by have:=hsep hki;rw[hst];simp;omega)]
         exact h1
       ·exact hk2.elim
    ·exact hk3.elim
   ·exact hk3.elim
  ·rename_i l hi us hl
   obtain⟨⟨hil,hst⟩,hk2⟩:=zv hk
   cases hx with
   |ptr _ _ _ _ b cl hn hg =>
   have hm:=zt hl
   have hro:=(h.heap.obj id _ hm).2
   cases hro with
   |hol _ _ _ b' cap cells ty hg' hs hbk hlen hcap hhi hvl hh h2 ht =>
   rw[hg]at hg'
   cases hg'
   have hI':∀{w'},Only b w w'→∀k,I k→w'.heap[k]? = w.heap[k]?:=fun r3 k hk=>r3.block k fun e=>(h.heap.apart id _ b hm (.pri hg)).1 (e▸hk)
   rcases zgt hk2 with ⟨rfl,hk3⟩|⟨hne,hk3⟩
   ·split at hk3
    ·rename_i hsz
     split at hsz
     ·rename_i hone
      have hsz:=Nat.eq_of_beq_eq_true hsz
      have hcs:=ze0 hy (by
       cases he:evl s.env y with
       |any=>rw[he]at hone;cases hone
       |agg l=>exact .inr ⟨l,rfl⟩
       |tup l=>rw[he]at hone;cases hone
       |_=>exact .inl rfl)
      have hvs:vy.cells.size=(T t).size:=by rw[←hsz,hcs.1];simp
      split at hk3
      ·rename_i hle
       obtain⟨hho,hle⟩:zhg l (evl s.env y).cells=true∧Nat.ble (j+(T t).size) us.length=true:=by
        split at hle
        ·rename_i h1;exact⟨h1,hle⟩
        ·cases hle
       have hle:=Nat.le_of_ble_eq_true hle
       rw[S.withHp_eq]at hk3
       have hmul:i*l.stride+l.stride≤cap*l.stride:=by
        have:(i+1)*l.stride≤cap*l.stride:=Nat.mul_le_mul_right _ (by omega)
        rwa [Nat.add_mul,Nat.one_mul]at this
       obtain⟨w',r1,r2,r3⟩:=zbz f2 hvs hbk (off:=i*st+j) (by rw[hvs,hlen,hst];omega) (hcs.one hone)
       have hpl:i*st+j+vy.cells.toList.length≤cells.length:=by simp only[Array.length_toList];rw[hvs,hlen,hst];omega
       refine hfin r1 (h.modify (ob':=.hol l i (zbj us j (evl s.env y).cells)) hm hg rfl r3 (.hol l i _ b cap _ ty hg hs r2 (by rw[za6,hlen]) hcap hhi (by rw[zha];exact hvl) (fun k q z hkl hki hz=>?_) (fun q hq=>?_) fun hp v hv=>by
        rcases zdf hv with hv|hv
        ·exact ht hp v hv
        ·exact hcs.slVal (zjr hho hp) v hv)) hk3
       ·have hqlt:q<l.stride:=by
         have:=(List.getElem?_eq_some_iff.1 hz).1
         rwa [C.row_len _ _ hs]at this
        obtain⟨u,h1,h3⟩:=hh k q z hkl hki hz
        refine⟨u,?_,h3.mono (fun _ h=>h) (hI' r3)⟩
        rw[za8 _ _ _ hpl,if_neg]
        ·exact h1
        ·simp only[Array.length_toList]
         rw[hvs,hst]
         have:=zdj (st:=l.stride) hki hqlt
         omega
       ·have hrow:RVs I g s.nx w us ((cells.drop (i*l.stride)).take l.stride):=by
         refine⟨by simp only[List.length_take,List.length_drop];omega,fun j u v hu hv=>?_⟩
         rw[List.getElem?_take]at hv
         split at hv
         ·rename_i hj
          rw[List.getElem?_drop]at hv
          obtain⟨u',v',a1,a2,_,a4⟩:=h2 j hj
          rw[hu]at a1;rw[hv]at a2;cases a1;cases a2;exact a4
         ·cases hv
        have hput:=hrow.putAt hcs j
        have hql:i*st+q<(putAt cells (i*st+j) vy.cells.toList).length:=by rw[za6,hlen,hst];omega
        have hql2:q<(zbj us j (evl s.env y).cells).length:=by rw[zha];omega
        have hval:(putAt ((cells.drop (i*l.stride)).take l.stride) j vy.cells.toList)[q]? = some ((putAt cells (i*st+j) vy.cells.toList)[i*st+q])∧((putAt cells (i*st+j) vy.cells.toList)[i*st+q]).oneCell'=true:=by
         have hv:=List.getElem?_eq_getElem hql
         generalize (putAt cells (i*st+j) vy.cells.toList)[i*st+q]=v at hv
         rw[za8 _ _ _ hpl]at hv
         rw[za8 _ _ _ (by simp only[Array.length_toList,List.length_take,List.length_drop];rw[hvs];omega)]
         have hvl2:vy.cells.toList.length=(T t).size:=by rw[Array.length_toList,hvs]
         subst hst
         by_cases c:j≤q∧q<j+vy.cells.toList.length
         ·rw[if_pos (by omega)]at hv
          rw[if_pos c,show q-j=i*l.stride+q-(i*l.stride+j)from by omega]
          exact⟨hv,hcs.one hone v (List.mem_of_getElem? hv)⟩
         ·rw[if_neg (by omega)]at hv
          rw[if_neg c,List.getElem?_take,if_pos hq,List.getElem?_drop]
          obtain⟨_,v',_,a2,a3,_⟩:=h2 q hq
          rw[hv]at a2;cases a2
          exact⟨hv,a3⟩
        refine⟨_,_,List.getElem?_eq_getElem hql2,by rw[←hst];exact List.getElem?_eq_getElem hql,hval.2,?_⟩
        exact(hput.2 q _ _ (List.getElem?_eq_getElem hql2) hval.1).mono (fun _ h=>h) (hI' r3) (Nat.le_refl _) fun _ _=>rfl
      ·exact hk3.elim
     ·cases hsz
    ·exact hk3.elim
   ·obtain⟨x',w',cells',hk4,r1,r3,r2,q1,q2,q3,q4,q7,q5,q6⟩:=zz2 (P:=P) (T:=T) hy f1 f2 f4 hs hbk hlen hcap hil ht hne hI' hh hk3
    rw[S.withHp_eq]at hk4
    refine hfin (by rw[hst];exact r1) (h.modify (ob':=.hol x' hi us) hm hg rfl r3 (.hol x' hi us b cap cells' ty (by rw[q4];exact hg) q2 r2 (by rw[q1,hlen,q3]) (by rw[q4];exact hcap) (by rw[q4];exact hhi) (by rw[q3];exact hvl) (fun k q z a1 a2 a3=>q6 k q z a1 a2 a3) (fun q hq=>?_) q7)) hk4
    rw[q3]at hq⊢
    obtain⟨u,v,a1,a2,a3,a4⟩:=h2 q hq
    exact⟨u,v,a1,by rw[q5 _ (zdj (st:=l.stride) (fun e=>hne e.symm) hq)];exact a2,a3,a4.mono (fun _ h=>h) (hI' r3) (Nat.le_refl _) fun _ _=>rfl⟩
  ·rename_i pn f l hs hl
   obtain⟨⟨hil,hst⟩,hk2⟩:=zv hk
   subst hst
   cases hx with
   |ptr _ _ _ _ b cl hn hg =>
   have hm:=zt hl
   obtain⟨ob,w',hk3,r1,r3,hro,hbx,hns⟩:=zw8 (P:=P) (T:=T) (h.heap.obj id _ hm).2 hg (h.heap.apart id _ b hm (.pri hg)).1 hy f1 f2 f4 hil hk2
   rw[S.withHp_eq]at hk3
   exact hfin r1 (h.modify hm hg (by rw[hbx];rfl) r3 hro hns) hk3
  ·rename_i pre bs post hl
   cases hx with
   |ptr _ _ _ _ b cl hn hg =>
   have hm:=zt hl
   have hro:=(h.heap.obj id _ hm).2
   have hro':=hro
   cases hro with
   |box _ _ _ b' cl' cells ty hg' hbk hlen h1 h2 h3 =>
   rw[hg]at hg'
   cases hg'
   have hall:RVs I g s.nx w (pre++(bs.map fun x=>V.c (C.bool x))++post) cells:=by
    refine⟨by rw[hlen];simp only[List.length_append,List.length_map],fun i z v hz hv=>?_⟩
    obtain⟨u,hu1,hu2⟩:=zb0.of_box hro' hg i z hz
    rw[cell_of_row w b _ cells.toArray ty (0,0) hbk]at hu1
    simp only[Nat.zero_add,List.getElem?_toArray]at hu1
    rw[hu1]at hv;cases hv;exact hu2
   split at hk
   ·rename_i hst
    have hst:=Nat.eq_of_beq_eq_true hst
    subst hst
    have hz:i*0+j=j:=by simp
    rw[hz]at hfin
    split at hk
    ·rename_i hsz
     split at hsz
     ·rename_i hone
      have hsz:=Nat.eq_of_beq_eq_true hsz
      have hcs:=ze0 hy (by
       cases he:evl s.env y with
       |any=>rw[he]at hone;cases hone
       |agg l=>exact .inr ⟨l,rfl⟩
       |tup l=>rw[he]at hone;cases hone
       |_=>exact .inl rfl)
      have hvs:vy.cells.size=(T t).size:=by rw[←hsz,hcs.1];simp
      have hone':=hcs.one hone
      split at hk
      ·rename_i hle
       have hle:=Nat.le_of_ble_eq_true hle
       rw[S.withHp_eq]at hk
       obtain⟨w',r1,r2,r3⟩:=zbz f2 hvs hbk (off:=j) (by rw[hvs,hlen];omega) hone'
       refine hfin r1 (h.modify (ob':=.box (zbj pre j (evl s.env y).cells) bs post) hm hg rfl r3 (RO.box_of hg r2 ?_)) hk
       have e:zbj pre j (evl s.env y).cells++List.map (fun x=>V.c (C.bool x)) bs++post=zbj (pre++List.map (fun x=>V.c (C.bool x)) bs++post) j (evl s.env y).cells:=by
        rw[List.append_assoc,List.append_assoc]
        generalize List.map (fun x=>V.c (C.bool x)) bs++post=tl
        generalize (evl s.env y).cells=vs at hsz
        clear hone hcs hk
        have:∀(vs:List V) (pre:List V) (j:Nat),j+vs.length≤pre.length→zbj pre j vs++tl=zbj (pre++tl) j vs:=by
         intro vs
         induction vs with
         |nil=>intros;rfl
         |cons v t ih =>
          intro pre j hj
          simp only[zbj,zky]
          rw[ih _ _ (by simp at hj⊢;omega),List.set_append_left _ _ (by simp at hj;omega)]
        exact this vs pre j (by omega)
       rw[e]
       have hI':∀k,I k→w'.heap[k]? = w.heap[k]?:=fun k hk=>r3.block k fun e=>(h.heap.apart id _ b hm (.pri hg)).1 (e▸hk)
       have:=hall.putAt hcs j
       exact⟨this.1,fun i z v hz hv=>(this.2 i z v hz hv).mono (fun _ h=>h) hI' (Nat.le_refl _) fun _ _=>rfl⟩
      ·split at hk
       ·rename_i hle0
        have hle0:=Nat.le_of_ble_eq_true hle0
        split at hk
        ·rename_i hle
         have hle:=Nat.le_of_ble_eq_true hle
         rw[S.withHp_eq]at hk
         obtain⟨w',r1,r2,r3⟩:=zbz f2 hvs hbk (off:=j) (by rw[hvs,hlen];omega) hone'
         refine hfin r1 (h.modify (ob':=.box pre bs (zbj post (j-pre.length-bs.length) (evl s.env y).cells)) hm hg rfl r3 (RO.box_of hg r2 ?_)) hk
         have e:pre++List.map (fun x=>V.c (C.bool x)) bs++zbj post (j-pre.length-bs.length) (evl s.env y).cells=zbj (pre++List.map (fun x=>V.c (C.bool x)) bs++post) j (evl s.env y).cells:=by
          generalize (evl s.env y).cells=vs at hsz
          clear hone hcs hk
          have:∀(vs hd:List V) (post:List V) (j:Nat),hd.length≤j→hd++zbj post (j-hd.length) vs=zbj (hd++post) j vs:=by
           intro vs
           induction vs with
           |nil=>intros;rfl
           |cons v t ih =>
            intro hd post j hj
            simp only[zbj,zky]
            rw[List.set_append_right _ _ hj,←ih hd _ (j+1) (by omega)]
            congr 2
            omega
          have:=this vs (pre++List.map (fun x=>V.c (C.bool x)) bs) post j (by simp;omega)
          rw[←this]
          congr 2
          simp;omega
         rw[e]
         have hI':∀k,I k→w'.heap[k]? = w.heap[k]?:=fun k hk=>r3.block k fun e=>(h.heap.apart id _ b hm (.pri hg)).1 (e▸hk)
         have:=hall.putAt hcs j
         exact⟨this.1,fun i z v hz hv=>(this.2 i z v hz hv).mono (fun _ h=>h) hI' (Nat.le_refl _) fun _ _=>rfl⟩
        ·exact hk.elim
       ·exact hk.elim
     ·cases hsz
    ·exact hk.elim
   ·split at hk
    ·exact hk.elim
    ·rename_i ha
     rw[ha]at f1
     have hsz1:=f4 ha
     split at hk
     ·rename_i bv hbv
      obtain⟨⟨hst1,hj1,hi⟩,hk2⟩:=zv hk
      rw[S.withHp_eq]at hk2
      have hye:=RV.bool?_inv hbv hy
      rw[hst1,hj1,Nat.mul_one]at hfin
      obtain⟨w',r1,r2,r3⟩:=zbz (v:=vy) f2 (by rw[hye,hsz1];rfl) hbk (off:=i+pre.length) (by rw[hye,hlen];show _+1≤_;omega) (by rw[hye];simp[Value.cells,Value.oneCell'])
      refine hfin r1 (h.modify (ob':=.box pre (bs.set i bv) post) hm hg rfl r3 (RO.box_of hg r2 ?_)) hk2
      have hcs:RVs I g s.nx w [V.c (C.bool bv)] vy.cells.toList:=by
       rw[hye]
       exact⟨rfl,fun i z v hz hv=>by cases i with
        |zero=>cases hz;cases hv;exact RV.mkbool _ _
        |succ i=>simp at hz⟩
      have e:pre++List.map (fun x=>V.c (C.bool x)) (bs.set i bv)++post=zbj (pre++List.map (fun x=>V.c (C.bool x)) bs++post) (i+pre.length) [V.c (C.bool bv)]:=by
       simp only[zbj,zky]
       rw[List.append_assoc,List.append_assoc,List.set_append_right _ _ (by omega),List.map_set,List.set_append_left _ _ (by simp;omega)]
       simp
      rw[e]
      have hI':∀k,I k→w'.heap[k]? = w.heap[k]?:=fun k hk=>r3.block k fun e=>(h.heap.apart id _ b hm (.pri hg)).1 (e▸hk)
      have:=hall.putAt hcs (i+pre.length)
      exact⟨this.1,fun i z v hz hv=>(this.2 i z v hz hv).mono (fun _ h=>h) hI' (Nat.le_refl _) fun _ _=>rfl⟩
     ·exact hk.elim
  ·exact hk.elim
 ·exact hk.elim
end
end Go.VL
