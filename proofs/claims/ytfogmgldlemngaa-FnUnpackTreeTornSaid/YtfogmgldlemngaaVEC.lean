/- V-logic: Sound10 Sound11 Sound12 Sound13 -/
import Derived.Test.YtfogmgldlemngaaVEB
namespace Go.VL
set_option linter.unusedVariables false
set_option linter.unusedSimpArgs false
section
variable {P : Program} {T : TT} {X : Cx} {I : Nat → Prop} {g : Gam} {s : S} {a : Act} {w : World} {o : Oper} {K : S → Prop}
 {N:Act→World→Prop} {Q:Exit→Act→World→Prop}
theorem zk2 {x y z:C} (h:C.app x y=some z):x.isSl=true∧y.isSl=true∧z.isSl=true∧z.stride=x.stride∧y.stride=x.stride∧z.len=x.len+y.len ∧
  (∀i,i<x.len→z.row i=x.row i)∧∀i,i<y.len→z.row (x.len+i)=y.row i:=by
 have gl:∀{α:Type} (xs ys:List α) (d:α) (i:Nat),i<xs.length→(xs++ys).getD i d=xs.getD i d:=fun xs ys d i h=>by simp[List.getD,List.getElem?_append_left h]
 have gr:∀{α:Type} (xs ys:List α) (d:α) (i:Nat),(xs++ys).getD (xs.length+i) d=ys.getD i d:=fun xs ys d i=>by simp[List.getD,List.getElem?_append_right]
 cases x<;>cases y<;>first|(cases h;done)|skip
 ·simp only[C.app]at h
  split at h
  ·rename_i hk
   have:=zju hk
   subst this
   cases h
   exact⟨rfl,rfl,rfl,rfl,rfl,by simp[C.len],fun i hi=>by simp only[C.row];rw[gl _ _ _ _ hi],fun i hi=>by simp only[C.row,C.len];rw[gr]⟩
  ·cases h
 all_goals
  cases h
  exact⟨rfl,rfl,rfl,rfl,rfl,by simp[C.len],fun i hi=>by simp only[C.row];rw[gl _ _ _ _ hi],fun i hi=>by simp only[C.row,C.len];rw[gr]⟩
def Cells (w:World) (I:Nat→Prop) (x:C) (vs:List Value):Prop :=
 vs.length=x.len*x.stride∧(∀i j y,i<x.len→(x.row i)[j]? = some y→∃v,vs[i*x.stride+j]? = some v∧RC I w y v)∧∀v∈vs,v.oneCell'=true
theorem z1l {b off:Nat} {x:C} (hs:x.isSl=true) (h:∀i,i<x.len→∀j y,(x.row i)[j]? = some y→∃v,w.cell? ⟨b,off+i*x.stride+j,none⟩=some v∧RC I w y v) :
  ∃vs,Cells w I x vs∧∀(j:Nat) v,vs[j]? = some v→w.cell? ⟨b,off+j,none⟩=some v:=by
 have key:∀n,n≤x.len→∃vs:List Value,vs.length=n*x.stride∧(∀i j y,i<n→(x.row i)[j]? = some y→∃v,vs[i*x.stride+j]? = some v∧RC I w y v)∧(∀v∈vs,v.oneCell'=true) ∧
   ∀(j:Nat) v,vs[j]? = some v→w.cell? ⟨b,off+j,none⟩=some v:=by
  intro n
  induction n with
  |zero=>intro _;exact⟨[],by simp,fun i j y hi=>by omega,by simp,by simp⟩
  |succ n ih =>
   intro hn
   obtain⟨vs,h1,h2,h3,h4⟩:=ih (by omega)
   have hrow:zb0 I (fun _=>none) 0 w b (off+n*x.stride) (zc0 (x.row n)):=fun j y hy=>by
    rw[zbt]at hy
    cases hj:(x.row n)[j]? with
    |none=>rw[hj]at hy;cases hy
    |some z=>rw[hj]at hy;cases hy;obtain⟨v,e1,e2⟩:=h n (by omega) j z hj;exact⟨v,e1,.c _ _ e2⟩
   obtain⟨us,hul,hu1,hu2⟩:=hrow.values
   have hul':us.length=x.stride:=by rw[hul,zev,List.length_map,C.row_len _ _ hs]
   refine⟨vs++us,by rw[List.length_append,h1,hul',Nat.add_mul,Nat.one_mul],fun i j y hi hy=>?_,fun v hv=>?_,fun j v hv=>?_⟩
   ·have hjl:j<x.stride:=by
     have:=(List.getElem?_eq_some_iff.1 hy).1
     rwa [C.row_len _ _ hs]at this
    by_cases hin:i<n
    ·obtain⟨v,e1,e2⟩:=h2 i j y hin hy
     exact⟨v,by rw[List.getElem?_append_left (List.getElem?_eq_some_iff.1 e1).1];exact e1,e2⟩
    ·have:i=n:=by omega
     subst this
     have hjl':j<us.length:=by omega
     refine⟨us[j],by rw[List.getElem?_append_right (by omega),h1,show i*x.stride+j-i*x.stride=j from by omega];exact List.getElem?_eq_getElem hjl',?_⟩
     have:=hu2 j (.c y) us[j] (by rw[zbt,hy];rfl) (List.getElem?_eq_getElem hjl')
     cases this with
     |c _ _ h=>exact h
   ·rcases List.mem_append.1 hv with hv|hv
    ·exact h3 v hv
    ·obtain⟨j,hj⟩:=List.getElem?_of_mem hv
     have hjl:j<(x.row n).length:=by rw[C.row_len _ _ hs,←hul'];exact(List.getElem?_eq_some_iff.1 hj).1
     have:=hu2 j (.c (x.row n)[j]) v (by rw[zbt,List.getElem?_eq_getElem hjl];rfl) hj
     cases this with
     |c _ _ h=>exact h.one.1
   ·by_cases hjv:j<vs.length
    ·rw[List.getElem?_append_left hjv]at hv;exact h4 j v hv
    ·rw[List.getElem?_append_right (by omega)]at hv
     have:=hu1 _ v hv
     rw[h1,show off+n*x.stride+(j-n*x.stride)=off+j from by omega]at this
     exact this
 obtain⟨vs,h1,h2,h3,h4⟩:=key x.len (Nat.le_refl _)
 exact⟨vs,⟨h1,h2,h3⟩,h4⟩
def znq (P:Program) (w:World) (I:Nat→Prop) (x:C) (v:Value):Prop :=
 x.isSl=true∧∃ad cap,v=.slice ad x.len cap∧∃vs,Cells w I x vs∧∀w',w'.heap=w.heap→(Builtin.firstCells x.stride x.len v).run P w'=.ok vs.toArray w'
theorem zt3 {b off cap:Nat} {x:C} (hs:x.isSl=true) (h:∀i,i<x.len→∀j y,(x.row i)[j]? = some y→∃v,w.cell? ⟨b,off+i*x.stride+j,none⟩=some v∧RC I w y v) :
  znq P w I x (.slice (some ⟨b,off,none⟩) x.len cap):=by
 obtain⟨vs,h1,h2⟩:=z1l hs h
 refine⟨hs,_,cap,rfl,vs,h1,fun w' hw=>?_⟩
 exact run_firstCells_some w' x.stride x.len ⟨b,off,none⟩ x.len cap vs h1.1 fun j v hv=>by
  rw[zed,zf2 (w:=w) (by rw[hw])];exact h2 j v hv
theorem zkh {ad:Option Addr} {cap:Nat} {x:C} (hs:x.isSl=true) (h0:x.len=0):znq P w I x (.slice ad 0 cap):=by
 refine⟨hs,ad,cap,by rw[h0],[],⟨by rw[h0];simp,fun i j y hi=>by omega,by simp⟩,fun w' _=>?_⟩
 rw[h0]
 cases ad<;>simp[Builtin.firstCells,loadCells,loadCellsFrom]
theorem z00 {x:C} {v:Value} (hs:x.isSl=true) (h:RC I w x v):znq P w I x v:=by
 cases h with
 |int=>cases hs
 |bool=>cases hs
 |empty _ a cap _ h0=>exact zkh hs h0
 |sl _ b off cap val _ hI hcap hc hr=>exact zt3 hs fun i hi j y hy=>⟨_,hc i j y hi hy,hr i j y hi hy⟩
theorem zq3 {n id:Nat} {x:C} {v:Value} (ho:RO I g n w id (.arr x)) (hv:RV I g n w (.slc id) v):znq P w I x v:=by
 cases ho with
 |none _ hg hs h0 =>
  cases hv with
  |slc _ len b cap hn hg'=>rw[hg]at hg';cases hg'
  |slc0 _ hn hg'=>exact zkh hs h0
 |arr _ b cap cells ty hg hs hb hl hcap hh =>
  cases hv with
  |slc0 _ hn hg'=>rw[hg]at hg';cases hg'
  |slc _ len b' cap' hn hg' =>
   rw[hg]at hg';cases hg'
   exact zt3 hs fun i hi j y hy=>by
    obtain⟨v,h1,h2⟩:=hh i j y hi hy
    exact⟨v,by rw[cell_of_row w b _ cells.toArray ty (0,0) hb];simpa using h1,h2⟩
def ze4 (I:Nat→Prop) (g:Gam) (n:Nat) (w:World) (x:C) (hx:Option (Nat×List V)) (F:Nat→Option Value):Prop :=
 (∀(i j:Nat) y,i<x.len→(∀us,hx≠some (i,us))→(x.row i)[j]? = some y→∃v,F (i*x.stride+j)=some v∧v.oneCell'=true∧RC I w y v) ∧
 (∀hi us,hx=some (hi,us)→hi<x.len∧us.length=x.stride∧∀j,j<x.stride→∃u v,us[j]? = some u∧F (hi*x.stride+j)=some v∧v.oneCell'=true∧RV I g n w u v)
theorem ze4.one {n:Nat} {x:C} (hs:x.isSl=true) {hx:Option (Nat×List V)} {F:Nat→Option Value} (h:ze4 I g n w x hx F) {m:Nat} (hm:m<x.len*x.stride):∃v,F m=some v∧v.oneCell'=true:=by
 have hst:0<x.stride:=by
  rcases Nat.eq_zero_or_pos x.stride with e|e
  ·rw[e]at hm;omega
  ·exact e
 have hi:m / x.stride<x.len:=(Nat.div_lt_iff_lt_mul hst).2 hm
 have hj:m % x.stride<x.stride:=Nat.mod_lt _ hst
 have hmj:m=m / x.stride*x.stride+m % x.stride:=by rw[Nat.mul_comm];exact(Nat.div_add_mod m x.stride).symm
 by_cases c:∃us,hx=some (m / x.stride,us)
 ·obtain⟨us,c⟩:=c
  obtain⟨_,_,h2⟩:=h.2 _ _ c
  obtain⟨u,v,_,a2,a3,_⟩:=h2 _ hj
  exact⟨v,by rw[hmj];exact a2,a3⟩
 ·obtain⟨v,a1,a2,_⟩:=h.1 _ _ _ hi (fun us e=>c ⟨us,e⟩) (List.getElem?_eq_getElem (show m % x.stride<(x.row (m / x.stride)).length by rw[C.row_len _ _ hs];exact hj))
  exact⟨v,by rw[hmj];exact a1,a2⟩
def zpk (P:Program) (I:Nat→Prop) (g:Gam) (n:Nat) (w:World) (x:C) (hx:Option (Nat×List V)) (v:Value):Prop :=
 x.isSl=true∧∃ad cap,v=.slice ad x.len cap∧∃vs:List Value,vs.length=x.len*x.stride∧ze4 I g n w x hx (fun m=>vs[m]?)∧(∀v∈vs,v.oneCell'=true)∧(x.isPg=true→∀v∈vs,zc5 v) ∧
  ∀w',w'.heap=w.heap→(Builtin.firstCells x.stride x.len v).run P w'=.ok vs.toArray w'
theorem znq.hol {n:Nat} {x:C} {v:Value} (h:znq P w I x v):zpk P I g n w x none v:=by
 obtain⟨hs,ad,cap,e,vs,⟨c1,c2,c3⟩,hr⟩:=h
 exact⟨hs,ad,cap,e,vs,c1,⟨fun i j y hi _ hy=>let ⟨v,a1,a2⟩:=c2 i j y hi hy;⟨v,a1,a2.one.1,a2⟩,fun _ _ e=>by cases e⟩,c3,zlf hs c1 c2,hr⟩
theorem RO.rows {n id:Nat} {x:C} {hx:Option (Nat×List V)} {b cap len:Nat} (h:RO I g n w id (holO x 0 hx)) (hg:g id=some (b,cap,len)) :
  x.isSl=true∧len=x.len∧∃(cells:List Value) (ty:TypeId),w.heap[b]? = some (.cells cells.toArray ty (0,0))∧cells.length=cap*x.stride∧x.len≤cap∧ze4 I g n w x hx (fun m=>cells[m]?)∧(x.isPg=true→∀v∈cells,zc5 v):=by
 cases hx with
 |none =>
  simp only[holO]at h
  cases h with
  |none _ hg'=>rw[hg]at hg';cases hg'
  |arr _ b' cap' cells ty hg' hs hb hl hcap hh ht =>
   rw[hg]at hg';cases hg'
   exact⟨hs,rfl,cells,ty,hb,hl,hcap,⟨fun i j y hi _ hy=>let ⟨v,a1,a2⟩:=hh i j y hi hy;⟨v,a1,a2.one.1,a2⟩,fun _ _ e=>by cases e⟩,ht⟩
 |some p =>
  obtain⟨hi,us⟩:=p
  simp only[holO,Nat.zero_add]at h
  cases h with
  |hol _ _ _ b' cap' cells ty hg' hs hb hl hcap hhi hv hh h2 ht =>
   rw[hg]at hg';cases hg'
   refine⟨hs,rfl,cells,ty,hb,hl,hcap,⟨fun i j y hi' hne hy=>?_,fun hi' us' e=>?_⟩,ht⟩
   ·obtain⟨v,a1,a2⟩:=hh i j y hi' (fun e=>hne us (by rw[e])) hy
    exact⟨v,a1,a2.one.1,a2⟩
   ·cases e;exact⟨hhi,hv,h2⟩
theorem RO.of_rowsP {n id b cap:Nat} {z:C} {hz:Option (Nat×List V)} {cells:List Value} {ty:TypeId} (hg:g id=some (b,cap,z.len)) (hs:z.isSl=true) (hb:w.heap[b]? = some (.cells cells.toArray ty (0,0)))
  (hl:cells.length=cap*z.stride) (hcap:z.len≤cap) (h:ze4 I g n w z hz (fun m=>cells[m]?)) (ht:z.isPg=true→∀v∈cells,zc5 v):RO I g n w id (holO z 0 hz):=by
 cases hz with
 |none=>exact .arr z b cap cells ty hg hs hb hl hcap (fun i j y hi hy=>let ⟨v,a1,_,a2⟩:=h.1 i j y hi (fun _ e=>by cases e) hy;⟨v,a1,a2⟩) ht
 |some p =>
  obtain⟨hi,us⟩:=p
  obtain⟨q1,q2,q3⟩:=h.2 hi us rfl
  simp only[holO,Nat.zero_add]
  exact .hol z hi us b cap cells ty hg hs hb hl hcap q1 q2 (fun i j y hi' hne hy=>let ⟨v,a1,_,a2⟩:=h.1 i j y hi' (fun _ e=>by cases e;exact hne rfl) hy;⟨v,a1,a2⟩) q3 ht
theorem ze4.mapV {I':Nat→Prop} {g':Gam} {n n':Nat} {w':World} {x:C} {hx:Option (Nat×List V)} {F:Nat→Option Value} (f:V→V) (hf:∀v val,RV I g n w v val→RV I' g' n' w' (f v) val)
  (hc:∀y v,RC I w y v→RC I' w' y v) (h:ze4 I g n w x hx F):ze4 I' g' n' w' x (hx.map fun p=>(p.1,p.2.map f)) F:=by
 refine⟨fun i j y hi hne hy=>?_,fun hi us e=>?_⟩
 ·obtain⟨v,a1,a2,a3⟩:=h.1 i j y hi (fun us e=>hne (us.map f) (by rw[e];rfl)) hy
  exact⟨v,a1,a2,hc _ _ a3⟩
 ·cases hx with
  |none=>cases e
  |some p =>
   obtain⟨hi',us'⟩:=p
   cases e
   obtain⟨q1,q2,q3⟩:=h.2 hi' us' rfl
   refine⟨q1,by simpa using q2,fun j hj=>?_⟩
   obtain⟨u,v,a1,a2,a3,a4⟩:=q3 j hj
   exact⟨f u,v,by rw[List.getElem?_map,a1];rfl,a2,a3,hf _ _ a4⟩
theorem zw6 {n:Nat} {x:C} {hx:Option (Nat×List V)} {b cap:Nat} (hs:x.isSl=true) {cells:List Value} {ty:TypeId} (hb:w.heap[b]? = some (.cells cells.toArray ty (0,0)))
  (hl:cells.length=cap*x.stride) (hcap:x.len≤cap) (h:ze4 I g n w x hx (fun m=>cells[m]?)) (ht:x.isPg=true→∀v∈cells,zc5 v):zpk P I g n w x hx (.slice (some ⟨b,0,none⟩) x.len cap):=by
 have hle:x.len*x.stride≤cells.length:=by rw[hl];exact Nat.mul_le_mul_right _ hcap
 have hlen:(cells.take (x.len*x.stride)).length=x.len*x.stride:=by simp;omega
 have hone:∀v∈cells.take (x.len*x.stride),v.oneCell'=true:=fun v hv=>by
  obtain⟨m,hm⟩:=List.getElem?_of_mem hv
  have hml:m<x.len*x.stride:=by rw[←hlen];exact(List.getElem?_eq_some_iff.1 hm).1
  obtain⟨v',a1,a2⟩:=h.one hs hml
  rw[List.getElem?_take,if_pos hml]at hm
  rw[a1]at hm;cases hm;exact a2
 refine⟨hs,_,cap,rfl,_,hlen,⟨fun i j y hi hne hy=>?_,fun hi us e=>?_⟩,hone,fun hp v hv=>ht hp v (List.mem_of_mem_take hv),fun w' hw=>?_⟩
 ·obtain⟨v,a1,a2,a3⟩:=h.1 i j y hi hne hy
  refine⟨v,?_,a2,a3⟩
  have hj:j<x.stride:=by have:=(List.getElem?_eq_some_iff.1 hy).1;rwa [C.row_len _ _ hs]at this
  show(cells.take (x.len*x.stride))[i*x.stride+j]? = some v
  rw[List.getElem?_take,if_pos (zfa (hi:=i) hi (Nat.le_refl _) hj)];exact a1
 ·obtain⟨q1,q2,q3⟩:=h.2 hi us e
  refine⟨q1,q2,fun j hj=>?_⟩
  obtain⟨u,v,a1,a2,a3,a4⟩:=q3 j hj
  refine⟨u,v,a1,?_,a3,a4⟩
  show(cells.take (x.len*x.stride))[hi*x.stride+j]? = some v
  rw[List.getElem?_take,if_pos (zfa (hi:=hi) q1 (Nat.le_refl _) hj)];exact a2
 ·refine run_firstCells_some w' x.stride x.len ⟨b,0,none⟩ x.len cap _ hlen fun j v hv=>?_
  rw[zed,Nat.zero_add,zf2 (w:=w) (by rw[hw]),cell_of_row w b _ cells.toArray ty (0,0) hb]
  rw[List.getElem?_take]at hv
  split at hv
  ·simpa using hv
  ·cases hv
theorem zo7 {n id:Nat} {x:C} {hx:Option (Nat×List V)} {v:Value} (ho:RO I g n w id (holO x 0 hx)) (hv:RV I g n w (.slc id) v):zpk P I g n w x hx v:=by
 cases hv with
 |slc _ len b cap hn hg =>
  obtain⟨hs,rfl,cells,ty,hb,hl,hcap,hr,ht⟩:=ho.rows hg
  exact zw6 hs hb hl hcap hr ht
 |slc0 _ hn hg =>
  cases hx with
  |none =>
   simp only[holO]at ho
   exact(zq3 ho (.slc0 id hn hg)).hol
  |some p =>
   obtain⟨hi,us⟩:=p
   simp only[holO]at ho
   cases ho with
   |hol _ _ _ b cap cells ty hg'=>rw[hg]at hg';cases hg'
theorem z1k {kd:Kd} {v:V} {KC:C→Option (Nat×List V)→Prop} (hk:zds kd (zq s.hp) v KC) (hh:HOk I g s.nx w s.hp) {val:Value} (hv:RV I g s.nx w v val) :
  ∃y hy,KC y hy∧(y.isSl=true→zpk P I g s.nx w y hy val):=by
 unfold zds at hk
 split at hk
 ·cases hv
  refine⟨_,_,hk,fun hs=>?_⟩
  have:kd.empty.len=0:=by cases kd<;>rfl
  exact(zkh hs this).hol
 ·rw[C.force_eq]at hk
  cases hv with|c _ _ hv =>
  exact⟨_,_,hk,fun hs=>(z00 hs hv).hol⟩
 ·split at hk
  ·rename_i y hl
   rw[C.force_eq]at hk
   exact⟨_,_,hk,fun _=>(zq3 (hh.obj _ _ (zt hl)).2 hv).hol⟩
  ·rename_i y hi us hl
   rw[C.force_eq]at hk
   exact⟨_,_,hk,fun _=>zo7 (by have:=(hh.obj _ _ (zt hl)).2;simp only[holO,Nat.zero_add];exact this) hv⟩
  ·exact hk.elim
 ·exact hk.elim
theorem zdh (hT:TOk P T) {t e sz bytes:Nat} {kd:Kd} (hti:T t=.slice e sz bytes kd) :
  P.underlying t=some (.slice e)∧∃i:TypeInfo,P.info? e=some i∧i.size=sz∧i.bytes=bytes∧i.zero=some (z9 kd)∧kd.empty.stride=sz∧1≤bytes∧bytes≤4096:=by
 have h:=hT t
 rw[hti]at h
 obtain⟨hu,_,_,hinfo,hz,hst,hb1,hb2⟩:=h
 refine⟨hu,?_⟩
 cases hq:P.info? e with
 |none=>rw[hq]at hinfo;cases hinfo
 |some i =>
  rw[hq]at hinfo
  simp only[Option.map_some,Option.some.injEq,Prod.mk.injEq]at hinfo
  simp only[zai,hq,Option.bind_some]at hz
  exact⟨i,rfl,hinfo.1,hinfo.2,hz,hst,hb1,hb2⟩
theorem zh5 (t tx ty e e':TypeId) (i:TypeInfo) (z:Value) (ht:P.underlying t=some (.slice e)) (htx:P.underlying tx=some (.slice e')) (hi:P.info? e=some i) (hz:i.zero=some z)
  (base:Option Addr) (sLen sCap n c:Nat) (xa:Option Addr) (olds news:List Value)
  (ho:∀w',w'.heap=w.heap→(Builtin.firstCells i.size sLen (.slice base sLen sCap)).run P w'=.ok olds.toArray w')
  (hn:∀w',w'.heap=w.heap→(Builtin.firstCells i.size n (.slice xa n c)).run P w'=.ok news.toArray w')
  (hg:sCap<sLen+n) (h63:((sLen+n:Nat):Int)≤9223372036854775807) (hfit:Builtin.nextslicecap (sLen+n) sCap*i.bytes≤281474976710656) :
  ∃cap,sLen+n≤cap∧(Builtin.append_ #[t,tx] ty #[.slice base sLen sCap,.slice xa n c]).run P w =
   .ok (.slice (some ⟨w.heap.size,0,none⟩) (sLen+n) cap) (w.drew.alloc (.cells (olds++news++(Builtin.zeroCells z.cells (cap-(sLen+n))).toList).toArray e)):=by
 have hn':¬(sLen+n≤sCap):=by omega
 have h63':¬(9223372036854775807<((sLen:Int)+(n:Int))):=by omega
 have h48':¬(281474976710656<Builtin.nextslicecap (sLen+n) sCap*i.bytes):=by omega
 refine⟨grownCap w (sLen+n) sCap e,by unfold grownCap;simp only[Question.cut];omega,?_⟩
 have ho':=ho w.drew rfl
 have hn2:=hn w.drew rfl
 simp[Builtin.append_,run_underlying ht,run_underlying htx,sizeOf,typeInfo,zeroValue,hi,hz,Builtin.lenOf,hn',h63',h48',Question.forced,ho',hn2,newRow,grownCap]
 congr 2
 apply Array.ext'
 simp[List.append_assoc]
theorem zmg (t tx ty e e':TypeId) (i:TypeInfo) (ht:P.underlying t=some (.slice e)) (htx:P.underlying tx=some (.slice e')) (hi:P.info? e=some i)
  (b sLen sCap n c:Nat) (xa:Option Addr) (cs news:List Value) (tyb:TypeId) (hb:w.heap[b]? = some (.cells cs.toArray tyb (0,0)))
  (hn:(Builtin.firstCells i.size n (.slice xa n c)).run P w=.ok news.toArray w) (h1:∀v∈news,v.oneCell'=true)
  (hroom:sLen+n≤sCap) (hfit:sLen*i.size+news.length≤cs.length) :
  ∃w',(Builtin.append_ #[t,tx] ty #[.slice (some ⟨b,0,none⟩) sLen sCap,.slice xa n c]).run P w=.ok (.slice (some ⟨b,0,none⟩) (sLen+n) sCap) w' ∧
   w'.heap[b]? = some (.cells (putAt cs (sLen*i.size) news).toArray tyb (0,0))∧Only b w w':=by
 obtain⟨w',r1,r2,r3⟩:=zkq (P:=P) news w b (sLen*i.size) 0 cs tyb hb (by simpa using hfit) h1
 refine⟨w',?_,r2,r3⟩
 simp[Builtin.append_,run_underlying ht,run_underlying htx,sizeOf,typeInfo,hi,Builtin.lenOf,hroom,hn,zed,r1]
def ze7 (x:C) (hx hy:Option (Nat×List V)):Option (Nat×List V) :=
 match hx with
 |some p=>some p
 |none=>hy.map fun p=>(x.len+p.1,p.2)
theorem zot {n:Nat} {x y z:C} (h:C.app x y=some z) {hx hy:Option (Nat×List V)} (hxy:hx=none∨hy=none) {F0 U F:Nat→Option Value} (hv:ze4 I g n w x hx F0) (hu:ze4 I g n w y hy U)
  (h0:∀m,m<x.len*x.stride→F m=F0 m) (h1:∀m,m<y.len*x.stride→F (x.len*x.stride+m)=U m):ze4 I g n w z (ze7 x hx hy) F:=by
 obtain⟨s1,s2,s3,s4,s5,s6,s7,s8⟩:=zk2 h
 have hlo:∀i j,i<x.len→j<x.stride→i*x.stride+j<x.len*x.stride:=fun i j hi hj=>zfa (hi:=i) hi (Nat.le_refl _) hj
 have hlo2:∀i j,i<y.len→j<x.stride→i*x.stride+j<y.len*x.stride:=fun i j hi hj=>zfa (hi:=i) hi (Nat.le_refl _) hj
 have hsum:∀k j,F ((x.len+k)*x.stride+j)=F (x.len*x.stride+(k*x.stride+j)):=fun k j=>by rw[Nat.add_mul,Nat.add_assoc]
 refine⟨fun i j c hi hne hc=>?_,fun hi us e=>?_⟩
 ·have hjl:j<x.stride:=by
   have:=(List.getElem?_eq_some_iff.1 hc).1
   rwa [C.row_len _ _ s3,s4]at this
  rw[s4]
  by_cases hin:i<x.len
  ·rw[s7 i hin]at hc
   rw[h0 _ (hlo i j hin hjl)]
   exact hv.1 i j c hin (fun us e=>hne us (by rw[e];rfl)) hc
  ·obtain⟨k,rfl⟩:∃k,i=x.len+k:=⟨i-x.len,by omega⟩
   rw[s8 k (by omega)]at hc
   rw[hsum,h1 _ (hlo2 k j (by omega) hjl)]
   have:=hu.1 k j c (by omega) (fun us e=>by
    rcases hxy with hxy|hxy
    ·exact hne us (by rw[hxy,e];rfl)
    ·rw[hxy]at e;cases e) hc
   rwa [s5]at this
 ·rw[s4]
  cases hx with
  |some p =>
   cases e
   obtain⟨q1,q2,q3⟩:=hv.2 hi us rfl
   refine⟨by omega,q2,fun j hj=>?_⟩
   rw[h0 _ (hlo hi j q1 hj)];exact q3 j hj
  |none =>
   cases hy with
   |none=>cases e
   |some p =>
    cases e
    obtain⟨q1,q2,q3⟩:=hu.2 p.1 p.2 rfl
    refine⟨by omega,by rw[q2,s5],fun j hj=>?_⟩
    rw[hsum,h1 _ (hlo2 p.1 j q1 hj)]
    have:=q3 j (by rw[s5];exact hj)
    rwa [s5]at this
theorem ztk {α:Type} {vs us rest:List α} {a b:Nat} (ha:vs.length=a) (hb:us.length=b):(∀m,m<a→(vs++us++rest)[m]? = vs[m]?)∧∀m,m<b→(vs++us++rest)[a+m]? = us[m]?:=by
 refine⟨fun m hm=>by rw[List.append_assoc,List.getElem?_append_left (by omega)],fun m hm=>?_⟩
 rw[List.append_assoc,List.getElem?_append_right (by omega),ha,show a+m-a=m from by omega,List.getElem?_append_left (by omega)]
theorem zzl {cells us:List Value} {a b:Nat} (hb:us.length=b) (hf:a+b≤cells.length):(∀m,m<a→(putAt cells a us)[m]? = cells[m]?)∧∀m,m<b→(putAt cells a us)[a+m]? = us[m]?:=by
 refine⟨fun m hm=>?_,fun m hm=>?_⟩
 ·rw[za8 _ _ _ (by omega),if_neg (by omega)]
 ·rw[za8 _ _ _ (by omega),if_pos (by omega),show a+m-a=m from by omega]
theorem Nst.holO {id b:Nat} {z:C} {n:Nat} {q:Option (Nat×List V)} (h:Nst g w id (holO z n q) b):False:=by
 cases q<;>exact h.elim
theorem finish_new' {w0:World} {cells:Array Value} {ty:TypeId} {ob:O} {v:V} {val:Value} {cl:Nat×Nat}
  (h:St X I g s a w0) (hrun:(execOp a.eval o).run P w=.ok (.value val) (w0.alloc (.cells cells ty)))
  (hob:∀g' n',g' s.nx=some (w0.heap.size,cl)→s.nx<n'→(∀id,id<s.nx→g' id=g id)→RO I g' n' (w0.alloc (.cells cells ty)) s.nx ob)
  (hv:∀g' n',g' s.nx=some (w0.heap.size,cl)→s.nx<n'→RV I g' n' (w0.alloc (.cells cells ty)) v val)
  (hK:¬X.K0 s.nx) (hk:s.alloc o.dst ob v K) (hN:∀s' a' w',Sat X s' a' w'→K s'→N a' w')
  (hnst:∀g' b,g' s.nx=some (w0.heap.size,cl)→¬Nst g' (w0.alloc (.cells cells ty)) s.nx ob b:=by intro _ _ _ h;exact h.elim):o.wp P a w N Q:=by
 rw[S.alloc_eq]at hk
 obtain⟨g',hg',hst⟩:=h.new cells ty ob cl hob hnst hK
 exact zaj hrun hst (hv g' _ hg' (by simp)) hk hN
theorem RO.of_cells {n id b cap:Nat} {z:C} {cells:List Value} {ty:TypeId} (hg:g id=some (b,cap,z.len)) (hs:z.isSl=true) (hb:w.heap[b]? = some (.cells cells.toArray ty (0,0)))
  (hl:cells.length=cap*z.stride) (hcap:z.len≤cap) {w0:World} (hw:∀b,I b→w.heap[b]? = w0.heap[b]?)
  (h:∀i j c,i<z.len→(z.row i)[j]? = some c→∃v,cells[i*z.stride+j]? = some v∧RC I w0 c v) (hfull:cap=z.len):RO I g n w id (.arr z) :=
 RO.arr_of hg hs hb hl hcap (fun i j y hi hy=>let ⟨v,h1,h2⟩:=h i j y hi hy;⟨v,h1,h2.mono (fun _ h=>h) hw⟩) (zlf hs (by rw[hl,hfull]) h)
theorem zgv (z:Value) (n:Nat):(Builtin.zeroCells z.cells n).toList.length=n*z.cells.size:=by simp[Builtin.zeroCells]
theorem zje {kd:Kd} (hp:kd.empty.isPg=true) (n:Nat):∀v∈(Builtin.zeroCells (z9 kd).cells n).toList,zc5 v:=by
 cases kd with
 |pgs =>
  intro v hv
  simp only[Builtin.zeroCells,z9,Value.cells]at hv
  simp at hv
  rcases hv with ⟨i,_,rfl⟩
  have:i % 3=0∨i % 3=1∨i % 3=2:=by omega
  rcases this with e|e|e<;>rw[e]<;>exact⟨_,_,_,rfl⟩
 |_=>cases hp
theorem zoe {kd:Kd} {z:C} {sz:Nat} (h:zhf kd z sz=true):z.stride=sz∧kd.empty.isPg=z.isPg:=by
 unfold zhf at h
 split at h
 ·rename_i h1 h2 h3;exact⟨Nat.eq_of_beq_eq_true h1,by rw[h2,h3]⟩
 ·rename_i h1 h2 h3;exact⟨Nat.eq_of_beq_eq_true h1,by rw[h2,h3]⟩
 ·cases h
theorem zts {x y z:C} (h:C.app x y=some z):x.isPg=z.isPg∧y.isPg=z.isPg:=by
 cases x<;>cases y<;>first|(cases h;done)|(simp only[C.app]at h;split at h<;>cases h;exact⟨rfl,rfl⟩)|(cases h;exact⟨rfl,rfl⟩)
theorem zgl (kd:Kd):(z9 kd).cells.size=kd.empty.stride:=by cases kd<;>rfl
theorem RV.slc_inv {n id:Nat} {v:Value} (h:RV I g n w (.slc id) v):id<n∧((∃b cap len,g id=some (b,cap,len)∧v=.slice (some ⟨b,0,none⟩) len cap)∨(g id=none∧v=.slice none 0 0)):=by
 cases h with
 |slc _ len b cap hn hg=>exact⟨hn,.inl ⟨b,cap,len,hg,rfl⟩⟩
 |slc0 _ hn hg=>exact⟨hn,.inr ⟨hg,rfl⟩⟩
structure DRows (I:Nat→Prop) (g:Gam) (n:Nat) (w:World) (f:Nat) (x:C) (hs:List (Nat×List V)) (F:Nat→Option Value):Prop where
 t:∀(i j:Nat) y,f≤i→i<x.len→i∉zx hs→(x.row i)[j]? = some y→∃v,F (i*x.stride+j)=some v∧NC w y v
 h:∀i us,(i,us)∈hs→i<x.len∧us.length=x.stride∧∀j,j<x.stride→∃u v,us[j]? = some u∧F (i*x.stride+j)=some v∧v.oneCell'=true∧RV I g n w u v
 d:∀k k' b' o l c o' l' c',zb8 f x (zx hs) k→zb8 f x (zx hs) k'→F k=some (.slice (some ⟨b',o,none⟩) l c)→F k'=some (.slice (some ⟨b',o',none⟩) l' c')→k=k'
 kn:(zx hs).Nodup
theorem DRows.ro {n id b cap f:Nat} {pn:Bool} {x:C} {hs:List (Nat×List V)} {cells:List Value} {ty:TypeId} (h:DRows I g n w f x hs (fun m=>cells[m]?)) (hg:g id=some (b,cap,x.len)) (hsl:x.isSl=true) (hb:w.heap[b]? = some (.cells cells.toArray ty (0,0)))
  (hl:cells.length=cap*x.stride) (hcap:x.len≤cap) (hne:∀k b' o l c,zb8 f x (zx hs) k→cells[k]? = some (.slice (some ⟨b',o,none⟩) l c)→b'≠b) (ht:x.isPg=true→∀v∈cells,zc5 v):RO I g n w id (.deep pn f x hs) :=
 .deep pn f x hs b cap cells ty hg hsl hb hl hcap (fun i us hm=>⟨(h.h i us hm).1,(h.h i us hm).2.1⟩) h.kn h.t (fun i us hm=>(h.h i us hm).2.2) (fun k k' b' o l c o' l' c' t1 t2 e1 e2=>⟨h.d k k' b' o l c o' l' c' t1 t2 e1 e2,hne k b' o l c t1 e1⟩) ht
theorem DRows.app {n f id:Nat} {x y z:C} {hs:List (Nat×List V)} {us:List V} {F0 U F:Nat→Option Value} {g':Gam} {w':World} (h:DRows I g n w f x hs F0) (happ:C.app x y=some z) (hy:y.len=1) (hu:ze4 I g n w y (some (0,us)) U)
  (h0:∀m,m<x.len*x.stride→F m=F0 m) (h1:∀m,m<y.len*x.stride→F (x.len*x.stride+m)=U m) (hw:∀b,I b→w'.heap[b]? = w.heap[b]?) (hg:∀i,i≠id→g' i=g i)
  (hkeep:∀(k q:Nat) c v,f≤k→k<x.len→k∉zx hs→(x.row k)[q]? = some c→F0 (k*x.stride+q)=some v→NC w c v→NC w' c v) :
  DRows I g' n w' f z (zbk (z6 id) hs++[(x.len,z6 id us)]) F:=by
 obtain⟨s1,s2,s3,s4,s5,s6,s7,s8⟩:=zk2 happ
 have hlo:∀i j,i<x.len→j<x.stride→i*x.stride+j<x.len*x.stride:=fun i j hi hj=>zfa (hi:=i) hi (Nat.le_refl _) hj
 have hkeys:zx (zbk (z6 id) hs++[(x.len,z6 id us)])=zx hs++[x.len]:=by rw[zip,zbs];rfl
 have hfor:∀v val,RV I g n w v val→RV I g' n w' (v.forget id) val:=fun v val hv=>(hv.mono (fun _ h=>h) hw (Nat.le_refl _) fun _ _=>rfl).forget fun i _ hne=>hg i hne
 have hold:∀{k},zb8 f z (zx hs++[x.len]) k→zb8 f x (zx hs) k∧F k=F0 k:=fun {k} ⟨i,j,e,q1,q2,q3,q4⟩=>by
  rw[List.mem_append,not_or]at q4
  rw[s4]at e q1
  have hi:i<x.len:=by have:i≠x.len:=fun c=>q4.2 (by simp[c]);omega
  exact⟨⟨i,j,e,q1,q2,hi,q4.1⟩,by rw[e];exact h0 _ (hlo i j hi q1)⟩
 have hmap:∀(us0:List V) (i:Nat) (FF:Nat→Option Value),(∀j,j<x.stride→∃u v,us0[j]? = some u∧FF j=some v∧v.oneCell'=true∧RV I g n w u v)→(∀j,j<x.stride→F (i*x.stride+j)=FF j) →
   ∀j,j<z.stride→∃u v,(z6 id us0)[j]? = some u∧F (i*z.stride+j)=some v∧v.oneCell'=true∧RV I g' n w' u v:=fun us0 i FF hh he j hj=>by
  rw[s4]at hj⊢
  obtain⟨u,v,a1,a2,a3,a4⟩:=hh j hj
  exact⟨u.forget id,v,by rw[zkm,a1];rfl,by rw[he j hj];exact a2,a3,hfor _ _ a4⟩
 refine⟨fun i j c q1 q2 q3 q4=>?_,fun i us' hm=>?_,fun k k' b' o l c o' l' c' t1 t2 e1 e2=>?_,?_⟩
 ·rw[hkeys,List.mem_append,not_or]at q3
  have hi:i<x.len:=by have:i≠x.len:=fun c=>q3.2 (by simp[c]);omega
  rw[s7 i hi]at q4
  obtain⟨v,e1,e2⟩:=h.t i j c q1 hi q3.1 q4
  have hj:j<x.stride:=by have:=(List.getElem?_eq_some_iff.1 q4).1;rwa [C.row_len _ _ s1]at this
  exact⟨v,by rw[s4,h0 _ (hlo i j hi hj)];exact e1,hkeep i j c v q1 hi q3.1 q4 e1 e2⟩
 ·rcases List.mem_append.1 hm with hm|hm
  ·obtain⟨vs,hm2,rfl⟩:=zg2 hm
   obtain⟨a1,a2,a3⟩:=h.h i vs hm2
   exact⟨by omega,by rw[zcw,List.length_map,s4];exact a2,hmap vs i (fun j=>F0 (i*x.stride+j)) a3 fun j hj=>h0 _ (hlo i j a1 hj)⟩
  ·simp only[List.mem_singleton]at hm
   cases hm
   obtain⟨a1,a2,a3⟩:=hu.2 0 us rfl
   rw[s5]at a2 a3
   exact⟨by omega,by rw[zcw,List.length_map,s4];exact a2,hmap us x.len (fun j=>U (0*x.stride+j)) a3 fun j hj=>by rw[h1 j (by rw[hy];omega)];simp⟩
 ·rw[hkeys]at t1 t2
  obtain⟨t1,m1⟩:=hold t1
  obtain⟨t2,m2⟩:=hold t2
  exact h.d k k' b' o l c o' l' c' t1 t2 (m1▸e1) (m2▸e2)
 ·rw[hkeys,List.nodup_append]
  refine⟨h.kn,by simp,fun a ha b hb=>?_⟩
  simp only[List.mem_singleton]at hb
  subst hb
  obtain⟨⟨i,us'⟩,h1,h2⟩:=List.mem_map.1 ha
  simp only at h2
  subst h2
  exact fun c=>by have:=(h.h i us' h1).1;omega
theorem zmc (hT:TOk P T) {t tx:Nat} {x y:Operand} {bx:Unit→V} (hbx:RV I g s.nx w (bx ()) (a.eval x)) (ht:∃e' sz' b' kd',T tx=.slice e' sz' b' kd')
  (hrun:∀v w',(Builtin.append_ #[t,tx] o.type #[a.eval x,a.eval y]).run P w=.ok v w'→(execOp a.eval o).run P w=.ok (.value v) w')
  (h:St X I g s a w) (hk:zel T t s o.dst (bx ()) (evl s.env y) K)
  (hN:∀s' a' w',Sat X s' a' w'→K s'→N a' w'):o.wp P a w N Q:=by
 have hK:¬X.K0 s.nx:=fun hk=>by have:=h.low _ hk;omega
 have hx:=hbx
 have hy:=h.eval y
 generalize a.eval x=vx at hx hrun
 generalize a.eval y=vy at hy hrun
 obtain⟨e',sz',by',kd',htx⟩:=ht
 have hux:=(zdh hT htx).1
 cases hti:T t with
 |slice e sz bytes kd =>
  obtain⟨hu,i,hi,hsz,hbt,hz,hst,hb1,hb2⟩:=zdh hT hti
  simp only[zel,hti]at hk
  obtain⟨c,hc,hk2,hrd⟩:=z1k (P:=P) hk h.heap hy
  have hbig:∀{need old:Nat},old<need→need≤4294967296→Builtin.nextslicecap need old*i.bytes≤281474976710656:=fun {need old} h1 h2=>by
   have:=nextslicecap_le h1
   have h3:Builtin.nextslicecap need old*i.bytes≤(2*4294967296)*4096:=Nat.mul_le_mul (by omega) (by omega)
   omega
  split at hk2
  ·
   rename_i hxe
   rw[hxe]at hx
   cases hx
   split at hk2
   ·rename_i z happ
    obtain⟨s1,s2,s3,s4,s5,s6,s7,s8⟩:=zk2 happ
    have hlen0:kd.empty.len=0:=by cases kd<;>rfl
    split at hk2
    ·rename_i hzs
     obtain⟨hzs,hkp⟩:=zoe hzs
     obtain⟨hzl,hk3⟩:=zv hk2
     rw[C.force_eq]at hk3
     obtain⟨_,ad,cap,rfl,vs,hvl,hrows,hone,hsl,hfc⟩:=hrd s2
     obtain⟨p1,p2⟩:=zts happ
     have hzl':z.len=c.len:=by rw[s6,hlen0];omega
     by_cases h0:c.len=0
     ·
      have hr:(Builtin.append_ #[t,tx] o.type #[.slice none 0 0,.slice ad c.len cap]).run P w=.ok (.slice none 0 0) w:=by
       rw[h0]at hfc⊢
       have:=hfc w rfl
       rw[s5,hst,←hsz]at this
       simp[Builtin.append_,run_underlying hu,run_underlying hux,sizeOf,typeInfo,hi,Builtin.lenOf,this]
      have hc0:hc=none:=by
       cases hc with
       |none=>rfl
       |some p=>have:=(hrows.2 p.1 p.2 rfl).1;omega
      rw[hc0]at hk3
      simp only[holO]at hk3
      rw[S.allocSlc_eq,S.alloc_eq]at hk3
      obtain⟨g',hg',hst'⟩:=h.newNil z s3 (by omega)
      exact zaj (hrun _ _ hr) hst' (.slc0 _ (by simp) hg') hk3 hN
     ·obtain⟨cap',hcap',hr⟩:=zh5 (w:=w) t tx o.type e e' i _ hu hux hi hz none 0 0 c.len cap ad [] vs (fun w' _=>by simp[Builtin.firstCells]) (fun w' hw=>by
       have:=hfc w' hw;rwa [s5,hst,←hsz]at this) (by omega) (by omega) (hbig (by omega) (by omega))
      have h':St X I g s a w.drew:=h.world rfl rfl rfl (Nat.le_refl _) (fun _ _=>rfl)
      have hrun':=hrun _ _ hr
      have hsz2:(z9 kd).cells.size=z.stride:=by rw[zgl,s4]
      refine finish_new' (cl:=(cap',z.len)) h' hrun' (fun g' n' hg' hn' hgo=>?_) (fun g' n' hg' hn'=>?_) hK hk3 hN (fun _ _ _ hn=>hn.holO)
      ·have hF:=ztk (vs:=([]:List Value)) (us:=vs) (rest:=(Builtin.zeroCells (z9 kd).cells (cap'-(0+c.len))).toList) rfl hvl
       have hr1:=zot (F:=fun m=>([]++vs++(Builtin.zeroCells (z9 kd).cells (cap'-(0+c.len))).toList)[m]?) (F0:=fun _=>none) happ (hx:=none) (.inl rfl) ⟨fun i j y hi=>by omega,fun _ _ e=>by cases e⟩ hrows (fun m hm=>by rw[hlen0]at hm;omega) (fun m hm=>by
        rw[hlen0];simp only[Nat.zero_mul];rw[←s5]at hm;exact hF.2 m hm)
       have hmono:∀b,I b→(w.drew.alloc (.cells ([]++vs++(Builtin.zeroCells (z9 kd).cells (cap'-(0+c.len))).toList).toArray e)).heap[b]? = w.heap[b]?:=fun b hI=>zci w.drew _ (h.bound b hI)
       have hr2:=hr1.mapV (fun v=>v) (I':=I) (g':=g') (n':=n') (w':=w.drew.alloc (.cells ([]++vs++(Builtin.zeroCells (z9 kd).cells (cap'-(0+c.len))).toList).toArray e))
        (fun v val hv=>hv.mono (fun _ h=>h) hmono (Nat.le_of_lt hn') hgo) (fun y v hv=>hv.mono (fun _ h=>h) hmono)
       have e1:((ze7 kd.empty none hc).map fun p=>(p.1,p.2.map fun v=>v))=hc:=by
        cases hc with
        |none=>rfl
        |some p=>simp[ze7,hlen0]
       rw[e1]at hr2
       refine RO.of_rowsP hg' s3 (heap_alloc_new _ _) ?_ (by omega) hr2 fun hp v hv=>by
        rcases List.mem_append.1 hv with hv|hv
        ·rcases List.mem_append.1 hv with hv|hv
         ·cases hv
         ·exact hsl (p2.trans hp) v hv
        ·exact zje (p1.trans hp) _ v hv
       rw[List.length_append,List.length_append,zgv,hsz2,hvl,s5,←s4,Nat.sub_mul]
       have:c.len*z.stride≤cap'*z.stride:=Nat.mul_le_mul_right _ (by omega)
       simp only[List.length_nil,Nat.zero_add];omega
      ·rw[Nat.zero_add,←hzl'];exact .slc _ _ _ _ hn' hg'
    ·exact hk2.elim
   ·exact hk2.elim
  ·rename_i id hxe
   rw[hxe]at hx
   have main:∀(x0:C) (hx0:Option (Nat×List V)) (z:C),zq s.hp id=some (holO x0 0 hx0)→(hx0=none∨hc=none)→C.app x0 c=some z→zhf kd z sz=true→z.len≤4294967296 →
     S.put {s.forget id with hp:=zac (s.forget id).hp id (holO z 0 ((ze7 x0 hx0 hc).map fun p=>(p.1,p.2.map (V.forget id))))} o.dst (.slc id) K→o.wp P a w N Q:=by
    intro x0 hx0 z hl hxc happ hzs hzl hk3
    have hm:=zt hl
    have hro:=(h.heap.obj id _ hm).2
    have hbf:∀(z:C) (n:Nat) (q:Option (Nat×List V)),(holO z n q).isBox=false:=fun z n q=>by cases q<;>rfl
    obtain⟨s1,s2,s3,s4,s5,s6,s7,s8⟩:=zk2 happ
    obtain⟨hzs,hkp⟩:=zoe hzs
    obtain⟨_,ad,cap,rfl,vs,hvl,hrows,hone,hsl,hfc⟩:=hrd s2
    obtain⟨_,ad0,cap0,rfl,vs0,hvl0,hrows0,hone0,hsl0,hfc0⟩:=zo7 (P:=P) hro hx
    obtain⟨p1,p2⟩:=zts happ
    have hst2:x0.stride=i.size:=by rw[←s4,hzs,hsz]
    have hsz2:(z9 kd).cells.size=z.stride:=by rw[zgl,hst,hzs]
    rw[hst2]at hfc0
    rw[s5,hst2]at hfc
    have hout:∀{g':Gam} {w':World} {F:Nat→Option Value},(∀b,I b→w'.heap[b]? = w.heap[b]?)→(∀i,i≠id→g' i=g i)→ze4 I g s.nx w z (ze7 x0 hx0 hc) F →
      ze4 I g' s.nx w' z ((ze7 x0 hx0 hc).map fun p=>(p.1,p.2.map (V.forget id))) F:=fun {g' w' F} hw hg hr =>
     hr.mapV (V.forget id) (fun v val hv=>(hv.mono (fun _ h=>h) hw (Nat.le_refl _) fun _ _=>rfl).forget fun i _ hne=>hg i hne) (fun y v hv=>hv.mono (fun _ h=>h) hw)
    have hgrow:cap0<x0.len+c.len→o.wp P a w N Q:=fun hlt=>by
     obtain⟨cap',hcap',hr⟩:=zh5 (w:=w) t tx o.type e e' i _ hu hux hi hz ad0 x0.len cap0 c.len cap ad vs0 vs hfc0 hfc hlt (by omega) (hbig hlt (by omega))
     have hF:=ztk (vs:=vs0) (us:=vs) (rest:=(Builtin.zeroCells (z9 kd).cells (cap'-(x0.len+c.len))).toList) hvl0 hvl
     have hr1:=zot (F:=fun m=>(vs0++vs++(Builtin.zeroCells (z9 kd).cells (cap'-(x0.len+c.len))).toList)[m]?) happ hxc hrows0 hrows hF.1 (fun m hm=>hF.2 m (by rw[s5];exact hm))
     obtain⟨g',hg',hst'⟩:=h.replace (ob':=holO z 0 ((ze7 x0 hx0 hc).map fun p=>(p.1,p.2.map (V.forget id)))) hm (hbf _ _ _) (w':=w.drew.alloc (.cells (vs0++vs++(Builtin.zeroCells (z9 kd).cells (cap'-(x0.len+c.len))).toList).toArray e)) (some (w.heap.size,cap',z.len)) rfl rfl rfl (by simp)
      (fun k hk _=>zci w.drew _ hk) (fun b cl hb=>by cases hb;exact⟨by simp,.inl (Nat.le_refl _)⟩) (fun g' hg' hgo=>by
       refine RO.of_rowsP hg' s3 (heap_alloc_new w.drew _) ?_ (by omega) (hout (fun b hI=>zci w.drew _ (h.bound b hI)) hgo hr1) fun hp v hv=>by
        rcases List.mem_append.1 hv with hv|hv
        ·rcases List.mem_append.1 hv with hv|hv
         ·exact hsl0 (p1.trans hp) v hv
         ·exact hsl (p2.trans hp) v hv
        ·exact zje (hkp.trans hp) _ v hv
       rw[List.length_append,List.length_append,zgv,hsz2,hvl,hvl0,s5,←s4,←Nat.add_mul,Nat.sub_mul]
       have:(x0.len+c.len)*z.stride≤cap'*z.stride:=Nat.mul_le_mul_right _ (by omega)
       omega) (fun _ _ _ hn=>hn.holO.elim)
     exact zaj (hrun _ _ hr) hst' (by rw[←s6];exact .slc _ _ _ _ (h.heap.obj id _ hm).1 hg') hk3 hN
    obtain⟨hn,⟨b,cap1,len1,hg,hve⟩|⟨hg,hve⟩⟩:=hx.slc_inv
    ·injection hve with e1 e2 e3
     subst e1 e3
     obtain⟨hs0,rfl,cells,ty,hb,hl2,hcap,hr0,ht0⟩:=hro.rows hg
     by_cases hroom:x0.len+c.len≤cap0
     ·have hfit:x0.len*i.size+vs.length≤cells.length:=by
       rw[hvl,hl2,s5,hst2,←Nat.add_mul]
       exact Nat.mul_le_mul_right _ hroom
      obtain⟨w',r1,r2,r3⟩:=zmg (w:=w) t tx o.type e e' i hu hux hi b x0.len cap0 c.len cap ad cells vs ty hb (hfc w rfl) hone hroom hfit
      have hI':∀k,I k→w'.heap[k]? = w.heap[k]?:=fun k hk=>r3.block k fun e=>(h.heap.apart id _ b hm (.pri hg)).1 (e▸hk)
      have hF:=zzl (cells:=cells) (us:=vs) (a:=x0.len*x0.stride) hvl (by rw[hst2,←hvl];exact hfit)
      have hr1:=zot (F:=fun m=>(putAt cells (x0.len*x0.stride) vs)[m]?) happ hxc hr0 hrows hF.1 (fun m hm=>hF.2 m (by rw[s5];exact hm))
      obtain⟨g',hg2,hst'⟩:=h.replace (ob':=holO z 0 ((ze7 x0 hx0 hc).map fun p=>(p.1,p.2.map (V.forget id)))) hm (hbf _ _ _) (w':=w') (some (b,cap0,z.len)) r3.os r3.tape r3.output (by rw[r3.size];exact Nat.le_refl _)
       (fun k _ hk=>r3.block k fun e=>hk _ (e▸hg)) (fun b2 cl hb2=>by cases hb2;exact⟨by rw[r3.size];exact(h.heap.apart id _ b hm (.pri hg)).2,.inr ⟨_,hg⟩⟩) (fun g' hg' hgo=>by
        rw[←hst2]at r2
        exact RO.of_rowsP hg' s3 r2 (by rw[za6,hl2,s4]) (by omega) (hout hI' hgo hr1) fun hp v hv=>by
         rcases zdf hv with hv|hv
         ·exact ht0 (p1.trans hp) v hv
         ·exact hsl (p2.trans hp) v hv) (fun _ _ _ hn=>hn.holO.elim)
      exact zaj (hrun _ _ r1) hst' (by rw[←s6];exact .slc _ _ _ _ hn hg2) hk3 hN
     ·exact hgrow (by omega)
    ·injection hve with e1 e2 e3
     subst e1 e3
     by_cases hc0:c.len=0
     ·have hr:(Builtin.append_ #[t,tx] o.type #[.slice none 0 0,.slice ad c.len cap]).run P w=.ok (.slice none 0 0) w:=by
       rw[hc0]at hfc⊢
       have:=hfc w rfl
       simp[Builtin.append_,run_underlying hu,run_underlying hux,sizeOf,typeInfo,hi,Builtin.lenOf,this]
      have hx0n:hx0=none:=by
       cases hx0 with
       |none=>rfl
       |some p=>have:=(hrows0.2 p.1 p.2 rfl).1;omega
      have hcn:hc=none:=by
       cases hc with
       |none=>rfl
       |some p=>have:=(hrows.2 p.1 p.2 rfl).1;omega
      subst hx0n hcn
      obtain⟨g',hg',hst'⟩:=h.replace (ob':=.arr z) hm rfl (w':=w) none rfl rfl rfl (Nat.le_refl _) (fun _ _ _=>rfl) (fun b cl hb=>by cases hb) (fun g' hg' _=>.none z hg' s3 (by omega))
      exact zaj (hrun _ _ (by rw[e2];exact hr)) hst' (.slc0 _ hn hg') hk3 hN
     ·exact hgrow (by omega)
   split at hk2
   ·rename_i x0 hl
    split at hk2
    ·rename_i z happ
     split at hk2
     ·rename_i hzs
      obtain⟨hzl,hk3⟩:=zv hk2
      rw[C.force_eq,S.force_eq]at hk3
      refine main x0 none z hl (.inl rfl) happ hzs hzl ?_
      have e:holO z x0.len (zjj id hc)=holO z 0 ((ze7 x0 none hc).map fun p=>(p.1,p.2.map (V.forget id))):=by
       cases hc with
       |none=>rfl
       |some p=>obtain⟨q,us⟩:=p;simp[holO,zjj,ze7,zcw]
      rw[←e];exact hk3
     ·exact hk2.elim
    ·exact hk2.elim
   ·rename_i x0 hi0 us0 hl
    split at hk2
    ·rename_i z happ
     split at hk2
     ·rename_i hzs
      obtain⟨hzl,hk3⟩:=zv hk2
      rw[C.force_eq,S.force_eq]at hk3
      refine main x0 (some (hi0,us0)) z (by rw[hl];simp[holO]) (.inr rfl) happ hzs hzl ?_
      have e:O.hol z hi0 (z6 id us0)=holO z 0 ((ze7 x0 (some (hi0,us0)) none).map fun p=>(p.1,p.2.map (V.forget id))):=by simp[holO,ze7,zcw]
      rw[←e];exact hk3
     ·exact hk2.elim
    ·exact hk2.elim
   ·rename_i f x0 hs0 hl
    split at hk2
    ·rename_i z us happ hyl
     have hyl:=Nat.eq_of_beq_eq_true hyl
     split at hk2
     ·rename_i hzs
      obtain⟨hzl,hk3⟩:=zv hk2
      rw[C.force_eq,S.force_eq]at hk3
      have hm:=zt hl
      have hro:=(h.heap.obj id _ hm).2
      obtain⟨s1,s2,s3,s4,s5,s6,s7,s8⟩:=zk2 happ
      obtain⟨hzs,hkp⟩:=zoe hzs
      obtain⟨_,ad,cap,rfl,vs,hvl,hrows,hone,hsl,hfc⟩:=hrd s2
      obtain⟨p1,p2⟩:=zts happ
      have hst2:x0.stride=i.size:=by rw[←s4,hzs,hsz]
      have hsz2:(z9 kd).cells.size=z.stride:=by rw[zgl,hst,hzs]
      rw[s5,hst2]at hfc
      have hlt:∀b',Own g w id (.deep false f x0 hs0) b'→b'<w.heap.size:=fun b' ho=>(h.heap.apart id _ b' hm ho).2
      have hgrow:∀(ad0:Option Addr) (cap0:Nat) (vs0:List Value),vx=.slice ad0 x0.len cap0→vs0.length=x0.len*x0.stride→(∀w',w'.heap=w.heap→(Builtin.firstCells i.size x0.len (.slice ad0 x0.len cap0)).run P w'=.ok vs0.toArray w') →
        DRows I g s.nx w f x0 hs0 (fun m=>vs0[m]?)→(x0.isPg=true→∀v∈vs0,zc5 v)→(∀k b' o l c,zb8 f x0 (zx hs0) k→vs0[k]? = some (.slice (some ⟨b',o,none⟩) l c)→Nst g w id (.deep false f x0 hs0) b')→cap0<x0.len+c.len→o.wp P a w N Q:=by
       intro ad0 cap0 vs0 hvx hvl0 hfc0 hdr hsl0 hnst0 hlt0
       subst hvx
       obtain⟨cap',hcap',hr⟩:=zh5 (w:=w) t tx o.type e e' i _ hu hux hi hz ad0 x0.len cap0 c.len cap ad vs0 vs hfc0 hfc hlt0 (by omega) (hbig hlt0 (by omega))
       have hF:=ztk (vs:=vs0) (us:=vs) (rest:=(Builtin.zeroCells (z9 kd).cells (cap'-(x0.len+c.len))).toList) hvl0 hvl
       have hw5:∀k,k<w.heap.size→(w.drew.alloc (.cells (vs0++vs++(Builtin.zeroCells (z9 kd).cells (cap'-(x0.len+c.len))).toList).toArray e)).heap[k]? = w.heap[k]?:=fun k hk=>zci w.drew _ hk
       have hdr2:∀g':Gam,(∀i,i≠id→g' i=g i)→DRows I g' s.nx (w.drew.alloc (.cells (vs0++vs++(Builtin.zeroCells (z9 kd).cells (cap'-(x0.len+c.len))).toList).toArray e)) f z (zbk (z6 id) hs0++[(x0.len,z6 id us)])
         (fun m=>(vs0++vs++(Builtin.zeroCells (z9 kd).cells (cap'-(x0.len+c.len))).toList)[m]?):=fun g' hgo =>
        hdr.app happ hyl hrows hF.1 (fun m hm=>hF.2 m (by rw[s5];exact hm)) (fun b hI=>hw5 b (h.bound b hI)) hgo fun k q y v a1 a2 a3 a4 a5 a6=>a6.mono fun b1 l m e=>hw5 b1 (hlt b1 (.inr (hnst0 _ _ _ _ _ (zls s1 a1 a2 a3 a4) (by rw[←e];exact a5))))
       have htold:∀{k b' o l c'},zb8 f z (zx (zbk (z6 id) hs0++[(x0.len,z6 id us)])) k→(vs0++vs++(Builtin.zeroCells (z9 kd).cells (cap'-(x0.len+c.len))).toList)[k]? = some (.slice (some ⟨b',o,none⟩) l c')→Nst g w id (.deep false f x0 hs0) b':=fun {k b' o l c'} htd he=>by
        obtain⟨i',j',e1,q1,q2,q3,q4⟩:=htd
        rw[zip,zbs,List.mem_append,not_or]at q4
        rw[s4]at e1 q1
        have hi':i'<x0.len:=by
         have:i'≠x0.len:=fun c=>q4.2 (by simp[zx,c])
         omega
        rw[e1,hF.1 _ (zfa (hi:=i') hi' (Nat.le_refl _) q1)]at he
        exact hnst0 _ _ _ _ _ ⟨i',j',rfl,q1,q2,hi',q4.1⟩ he
       obtain⟨g',hg',hst'⟩:=h.replace (ob':=.deep false f z (zbk (z6 id) hs0++[(x0.len,z6 id us)])) hm rfl (w':=w.drew.alloc (.cells (vs0++vs++(Builtin.zeroCells (z9 kd).cells (cap'-(x0.len+c.len))).toList).toArray e)) (some (w.heap.size,cap',z.len)) rfl rfl rfl (by simp)
        (fun k hk _=>hw5 k hk) (fun b cl hb=>by cases hb;exact⟨by simp,.inl (Nat.le_refl _)⟩) (fun g' hg' hgo=>by
         refine(hdr2 g' hgo).ro hg' s3 (heap_alloc_new w.drew _) ?_ (by omega) (fun k b' o l c htd he=>?_) fun hp v hv=>by
          rcases List.mem_append.1 hv with hv|hv
          ·rcases List.mem_append.1 hv with hv|hv
           ·exact hsl0 (p1.trans hp) v hv
           ·exact hsl (p2.trans hp) v hv
          ·exact zje (hkp.trans hp) _ v hv
         ·rw[List.length_append,List.length_append,zgv,hsz2,hvl,hvl0,s5,←s4,←Nat.add_mul,Nat.sub_mul]
          have:(x0.len+c.len)*z.stride≤cap'*z.stride:=Nat.mul_le_mul_right _ (by omega)
          omega
         ·have:=hlt b' (.inr (htold htd he))
          show b'≠w.heap.size
          omega) (fun g' hg' b' hn=>by
         obtain⟨b1,cl,k,off,l,c',e1,e2,e3⟩:=hn
         rw[hg']at e1;cases e1
         have hb2:=heap_alloc_new w.drew (.cells (vs0++vs++(Builtin.zeroCells (z9 kd).cells (cap'-(x0.len+c.len))).toList).toArray e)
         have hwd:w.drew.heap.size=w.heap.size:=rfl
         rw[hwd]at hb2
         rw[cell_of_row _ _ _ _ e (0,0) hb2]at e3
         exact htold e2 (by simpa using e3))
       exact zaj (hrun _ _ hr) hst' (by rw[←s6];exact .slc _ _ _ _ (h.heap.obj id _ hm).1 hg') hk3 hN
      obtain⟨hn,⟨b,cap1,len1,hg,hve⟩|⟨hg,hve⟩⟩:=hx.slc_inv
      ·cases hro with
       |deep0 _ _ _ hg'=>rw[hg]at hg';cases hg'
       |deep _ _ _ _ b0 cap0 cells ty hg' hsl1 hb hl2 hcap0 hh hkn hr h2 hd ht0 =>
        rw[hg]at hg';cases hg'
        have hcl:∀(k:Nat),w.cell? ⟨b,k,none⟩=cells[k]?:=fun k=>by rw[cell_of_row w b _ cells.toArray ty (0,0) hb];simp
        by_cases hroom:x0.len+c.len≤cap1
        ·have hfit:x0.len*i.size+vs.length≤cells.length:=by
          rw[hvl,hl2,s5,hst2,←Nat.add_mul]
          exact Nat.mul_le_mul_right _ hroom
         subst hve
         obtain⟨w',r1,r2,r3⟩:=zmg (w:=w) t tx o.type e e' i hu hux hi b x0.len cap1 c.len cap ad cells vs ty hb (hfc w rfl) hone hroom hfit
         have hI':∀k,I k→w'.heap[k]? = w.heap[k]?:=fun k hk=>r3.block k fun e=>(h.heap.apart id _ b hm (.pri hg)).1 (e▸hk)
         have hF:=zzl (cells:=cells) (us:=vs) (a:=x0.len*x0.stride) hvl (by rw[hst2,←hvl];exact hfit)
         have hdr:DRows I g s.nx w f x0 hs0 (fun m=>cells[m]?):=⟨hr,fun i us hm=>⟨(hh i us hm).1,(hh i us hm).2,h2 i us hm⟩,fun k k' b' o l c o' l' c' t1 t2 e1 e2=>(hd k k' b' o l c o' l' c' t1 t2 e1 e2).1,hkn⟩
         have hdr2:∀g':Gam,(∀i,i≠id→g' i=g i)→DRows I g' s.nx w' f z (zbk (z6 id) hs0++[(x0.len,z6 id us)]) (fun m=>(putAt cells (x0.len*x0.stride) vs)[m]?):=fun g' hgo =>
          hdr.app happ hyl hrows hF.1 (fun m hm=>hF.2 m (by rw[s5];exact hm)) hI' hgo fun k q y v a1 a2 a3 a4 a5 a6=>a6.mono fun b1 l m e=>r3.block b1 (by
           subst e
           exact(hd _ _ b1 0 l m 0 l m (zls s1 a1 a2 a3 a4) (zls s1 a1 a2 a3 a4) a5 a5).2)
         have htold:∀{k b' o l c'},zb8 f z (zx (zbk (z6 id) hs0++[(x0.len,z6 id us)])) k→(putAt cells (x0.len*x0.stride) vs)[k]? = some (.slice (some ⟨b',o,none⟩) l c')→zb8 f x0 (zx hs0) k∧cells[k]? = some (.slice (some ⟨b',o,none⟩) l c'):=fun {k b' o l c'} htd he=>by
          obtain⟨i',j',e1,q1,q2,q3,q4⟩:=htd
          rw[zip,zbs,List.mem_append,not_or]at q4
          rw[s4]at e1 q1
          have hi':i'<x0.len:=by
           have:i'≠x0.len:=fun c=>q4.2 (by simp[zx,c])
           omega
          rw[e1]at he⊢
          rw[hF.1 _ (zfa (hi:=i') hi' (Nat.le_refl _) q1)]at he
          exact⟨⟨i',j',rfl,q1,q2,hi',q4.1⟩,he⟩
         obtain⟨g',hg2,hst'⟩:=h.replace (ob':=.deep false f z (zbk (z6 id) hs0++[(x0.len,z6 id us)])) hm rfl (w':=w') (some (b,cap1,z.len)) r3.os r3.tape r3.output (by rw[r3.size];exact Nat.le_refl _)
          (fun k _ hk=>r3.block k fun e=>hk _ (e▸hg)) (fun b2 cl hb2=>by cases hb2;exact⟨by rw[r3.size];exact(h.heap.apart id _ b hm (.pri hg)).2,.inr ⟨_,hg⟩⟩) (fun g' hg' hgo=>by
           rw[←hst2]at r2
           exact(hdr2 g' hgo).ro hg' s3 r2 (by rw[za6,hl2,s4]) (by omega) (fun k b' o l c htd he=>by
            obtain⟨t1,e1⟩:=htold htd he
            exact(hd k k b' o l c o l c t1 t1 e1 e1).2) fun hp v hv=>by
            rcases zdf hv with hv|hv
            ·exact ht0 (p1.trans hp) v hv
            ·exact hsl (p2.trans hp) v hv) (fun g' hg' b' hn=>by
           obtain⟨b1,cl,k,off,l,c',e1,e2,e3⟩:=hn
           rw[hg']at e1;cases e1
           rw[←hst2]at r2
           rw[cell_of_row w' b _ _ ty (0,0) r2]at e3
           obtain⟨t1,e4⟩:=htold e2 (by simpa using e3)
           exact⟨b,_,k,off,l,c',hg,t1,by rw[hcl];exact e4⟩)
         exact zaj (hrun _ _ r1) hst' (by rw[←s6];exact .slc _ _ _ _ hn hg2) hk3 hN
        ·have hle:x0.len*x0.stride≤cells.length:=by rw[hl2];exact Nat.mul_le_mul_right _ hcap0
         have htk:∀m,m<x0.len*x0.stride→(cells.take (x0.len*x0.stride))[m]? = cells[m]?:=fun m hm=>by rw[List.getElem?_take,if_pos hm]
         have htd:∀{k},zb8 f x0 (zx hs0) k→(cells.take (x0.len*x0.stride))[k]? = cells[k]?:=fun {k} ⟨i',j',e1,q1,q2,q3,q4⟩=>by rw[e1];exact htk _ (zfa (hi:=i') q3 (Nat.le_refl _) q1)
         refine hgrow _ cap1 (cells.take (x0.len*x0.stride)) hve (by simp;omega) (fun w' hw=>?_) ⟨fun i' j y a1 a2 a3 a4=>?_,fun i' us' hm'=>⟨(hh i' us' hm').1,(hh i' us' hm').2,fun j hj=>?_⟩,fun k k' b' o l c o' l' c' t1 t2 e1 e2=>?_,hkn⟩ (fun hp v hv=>ht0 hp v (List.mem_of_mem_take hv)) (fun k b' o l c t1 e1=>?_) (by omega)
         ·rw[←hst2]
          exact run_firstCells_some w' x0.stride x0.len ⟨b,0,none⟩ x0.len cap1 _ (by simp;omega) fun j v hv=>by
           rw[zed,Nat.zero_add,zf2 (w:=w) (by rw[hw]),hcl]
           rw[List.getElem?_take]at hv
           split at hv
           ·exact hv
           ·cases hv
         ·obtain⟨v,e1,e2⟩:=hr i' j y a1 a2 a3 a4
          have hj:j<x0.stride:=by have:=(List.getElem?_eq_some_iff.1 a4).1;rwa [C.row_len _ _ hsl1]at this
          exact⟨v,by rw[htk _ (zfa (hi:=i') a2 (Nat.le_refl _) hj)];exact e1,e2⟩
         ·obtain⟨u,v,a1,a2,a3,a4⟩:=h2 i' us' hm' j hj
          exact⟨u,v,a1,by rw[htk _ (zfa (hi:=i') (hh i' us' hm').1 (Nat.le_refl _) hj)];exact a2,a3,a4⟩
         ·simp only[htd t1]at e1;simp only[htd t2]at e2
          exact(hd k k' b' o l c o' l' c' t1 t2 e1 e2).1
         ·rw[htd t1]at e1
          exact⟨b,_,k,o,l,c,hg,t1,by rw[hcl];exact e1⟩
      ·cases hro with
       |deep _ _ _ _ b0 cap0 cells ty hg'=>rw[hg]at hg';cases hg'
       |deep0 _ _ _ hg' hsl1 h0 =>
        have hnt:∀{k},¬zb8 f x0 (zx []) k:=fun {k} ⟨i',j',e1,q1,q2,q3,q4⟩=>by omega
        refine hgrow none 0 [] (by rw[hve,h0]) (by rw[h0];simp) (fun w' _=>by rw[h0];simp[Builtin.firstCells]) ⟨fun i' j y a1 a2=>(by omega),fun i' us' hm'=>(nomatch hm'),fun k k' b' o l c o' l' c' t1=>(hnt t1).elim,by unfold zx;simp⟩ (fun _ v hv=>by cases hv) (fun k b' o l c t1=>(hnt t1).elim) (by omega)
     ·exact hk2.elim
    ·exact hk2.elim
   ·exact hk2.elim
  ·exact hk2.elim
 |_=>simp[zel,hti]at hk
theorem ztu (hT:TOk P T) {t tx:Nat} {x y:Operand} (ht:∃e' sz' b' kd',T tx=.slice e' sz' b' kd')
  (hrun:∀v w',(Builtin.append_ #[t,tx] o.type #[a.eval x,a.eval y]).run P w=.ok v w'→(execOp a.eval o).run P w=.ok (.value v) w')
  (h:St X I g s a w) (hk:zel T t s o.dst (evl s.env x) (evl s.env y) K)
  (hN:∀s' a' w',Sat X s' a' w'→K s'→N a' w'):o.wp P a w N Q:=zmc (bx:=fun _=>evl s.env x) hT (h.eval x) ht hrun h hk hN
end
end Go.VL
namespace Go.VL
set_option linter.unusedVariables false
set_option linter.unusedSimpArgs false
section
variable {P : Program} {T : TT} {X : Cx} {I : Nat → Prop} {g : Gam} {s : S} {a : Act} {w : World} {o : Oper} {K : S → Prop}
 {N:Act→World→Prop} {Q:Exit→Act→World→Prop}
theorem RO.arr_deep {n id:Nat} {x:C} (h:RO I g n w id (.arr x)) (hn:∀(cells:List Value) b cap ty,g id=some (b,cap,x.len)→w.heap[b]? = some (.cells cells.toArray ty (0,0))→∀(i j:Nat) y,i<x.len→(x.row i)[j]? = some y →
  ∃v,cells[i*x.stride+j]? = some v∧NC w y v∧∀a l c,v≠.slice (some a) l c):RO I g n w id (.deep false 0 x [])∧∀b,¬Nst g w id (.deep false 0 x []) b:=by
 cases h with
 |none _ hg hs h0=>exact⟨.deep0 _ _ x hg hs h0,fun b ⟨b0,cl,k,off,l,c,e,_⟩=>by rw[hg]at e;cases e⟩
 |arr _ b cap cells ty hg hs hb hl hcap hh ht =>
  have key:=hn cells b cap ty hg hb
  have hno:∀{k a l c},zb8 0 x (zx []) k→cells[k]? = some (.slice (some a) l c)→False:=fun {k a l c} ⟨i,j,e,q1,q2,q3,q4⟩ he=>by
   have hjl:j<(x.row i).length:=by rw[C.row_len _ _ hs];exact q1
   obtain⟨v,e1,_,e3⟩:=key i j _ q3 (List.getElem?_eq_getElem hjl)
   rw[←e,he]at e1;cases e1;exact e3 _ _ _ rfl
  refine⟨.deep _ _ x [] b cap cells ty hg hs hb hl hcap (fun i us hm=>by cases hm) (by simp[zx]) (fun i j y _ hi _ hy=>?_) (fun i us hm=>by cases hm) (fun k k' b' o l c o' l' c' t1 _ e1 _=>(hno t1 e1).elim) ht,fun b' ⟨b0,cl,k,off,l,c,e1,e2,e3⟩=>?_⟩
  ·obtain⟨v,e1,e2,_⟩:=key i j y hi hy;exact⟨v,e1,e2⟩
  ·rw[hg]at e1;cases e1
   rw[cell_of_row w b _ cells.toArray ty (0,0) hb]at e3
   exact hno e2 (by simpa using e3)
theorem z0p (kd:Kd) (hk:kd.nest=true) (n:Nat) (i j:Nat) (y:C) (hi:i<n) (hy:((kd.zeros n).row i)[j]? = some y):∃v,(z9 kd).cells[j]? = some v∧NC w y v∧∀a l c,v≠.slice (some a) l c:=by
 cases kd with
 |pgs =>
  simp only[Kd.zeros,C.row,Pg.row,List.getD,List.getElem?_replicate,hi,if_true,Option.getD_some]at hy
  match j with
  |0=>cases hy;exact⟨_,rfl,.nil _,fun _ _ _ h=>by cases h⟩
  |1=>cases hy;exact⟨_,rfl,.nil _,fun _ _ _ h=>by cases h⟩
  |2=>cases hy;exact⟨_,rfl,.nil _,fun _ _ _ h=>by cases h⟩
  |j+3=>simp at hy
 |lks =>
  simp only[Kd.zeros,C.row,Lk.row,List.getD,List.getElem?_replicate,hi,if_true,Option.getD_some]at hy
  match j with
  |0=>cases hy;exact⟨_,rfl,.nil _,fun _ _ _ h=>by cases h⟩
  |1=>cases hy;exact⟨_,rfl,.int _ _,fun _ _ _ h=>by cases h⟩
  |2=>cases hy;exact⟨_,rfl,.int _ _,fun _ _ _ h=>by cases h⟩
  |j+3=>simp at hy
 |numss =>
  simp only[Kd.zeros,C.row,List.getD,List.getElem?_replicate,hi,if_true,Option.getD_some]at hy
  cases j with
  |zero=>cases hy;exact⟨_,rfl,.nil _,fun _ _ _ h=>by cases h⟩
  |succ j=>simp at hy
 |_=>cases hk
theorem zyn (hT:TOk P T) {t:Nat} {l c:Operand} (ho:o.op=.makeSlice t l c) (h:St X I g s a w)
  (hk:znp T t (evl s.env l) (evl s.env c) s o.dst K) (hN:∀s' a' w',Sat X s' a' w'→K s'→N a' w'):o.wp P a w N Q:=by
 have hK:¬X.K0 s.nx:=fun hk=>by have:=h.low _ hk;omega
 have hl:=h.eval l
 have hc:=h.eval c
 unfold znp at hk
 split at hk
 ·rename_i e sz bytes kd hti
  obtain⟨hu,i,hi,hsz,hbt,hz,hst,hb1,hb2⟩:=zdh hT hti
  split at hk
  ·rename_i p q e1 e2
   rw[e1]at hl;rw[e2]at hc
   split at hk
   ·rename_i hss
    obtain⟨⟨h0,rfl,h1⟩,hk2⟩:=zv hk
    have hr:=run_make (P:=P) w t e i (z9 kd) hu hi hz .i64 .i64 p p h0 (Int.le_refl _) (by
     have h2:(i.bytes:Int)≤4096:=by omega
     have h3:(i.bytes:Int)*p≤4096*4294967296:=Int.mul_le_mul h2 h1 h0 (by omega)
     omega) (by omega)
    obtain⟨z1,z2,z3,z4⟩:=znv kd p.toNat
    have hsz2:(kd.zeros p.toNat).stride=sz:=by rw[z3,zgl,hst]
    have hrunM:(execOp a.eval o).run P w=.ok (.value (.slice (some ⟨w.heap.size,0,none⟩) p.toNat p.toNat)) (w.alloc (.cells (madeCells (z9 kd).cells (p.toNat*i.size)) e)):=by
     have e1:=hl.int_inv
     have e2:=hc.int_inv
     simp[execOp,ho,e1,e2,hr]
    have hcellM:∀{k j:Nat} {v:Value},k<p.toNat→j<sz→(z9 kd).cells[j]? = some v→(madeCells (z9 kd).cells (p.toNat*i.size)).toList[k*(kd.zeros p.toNat).stride+j]? = some v:=fun {k j v} hk hjl hv=>by
     have hlt:k*sz+j<p.toNat*sz:=by
      have:(k+1)*sz≤p.toNat*sz:=Nat.mul_le_mul_right _ hk
      rw[Nat.add_mul,Nat.one_mul]at this;omega
     rw[hsz2]
     have hmod:(k*sz+j) % sz=j:=by rw[Nat.mul_comm,Nat.mul_add_mod,Nat.mod_eq_of_lt hjl]
     have hzs:(z9 kd).cells.size=sz:=by rw[zgl,hst]
     obtain⟨hj',hv'⟩:=Array.getElem?_eq_some_iff.1 hv
     simp[madeCells,hsz,hlt,hzs,hmod]
     rw[getElem!_pos (z9 kd).cells j hj',hv']
    have hroM:∀(g':Gam) (n':Nat),g' s.nx=some (w.heap.size,p.toNat,p.toNat)→RO I g' n' (w.alloc (.cells (madeCells (z9 kd).cells (p.toNat*i.size)) e)) s.nx (.arr (kd.zeros p.toNat)):=fun g' n' hg'=>by
     refine RO.of_cells (w0:=w) (cells:=(madeCells (z9 kd).cells (p.toNat*i.size)).toList) (by rw[z2];exact hg') z1 (by simpa using heap_alloc_new w _) ?_ (by rw[z2];exact Nat.le_refl _) (fun b hI=>zci _ _ (h.bound b hI)) (fun k j y hk hy=>?_) z2.symm
     ·simp[size_madeCells,hsz,hsz2]
     ·rw[z2]at hk
      obtain⟨v,hv,hr⟩:=z4 k j y hk hy
      have hjl:j<sz:=by
       have:=(List.getElem?_eq_some_iff.1 hy).1
       rwa [C.row_len _ _ z1,hsz2]at this
      exact⟨v,hcellM hk hjl hv,hr _ _⟩
    have harr:s.alloc o.dst (.arr (kd.zeros p.toNat)) (.slc s.nx) K→o.wp P a w N Q:=fun hk2 =>
     zd6 (cl:=(p.toNat,p.toNat)) h hrunM (fun g' n' hg' hn' _=>hroM g' n' hg') (fun g' n' hg' hn'=>.slc _ _ _ _ hn' hg') hK hk2 hN
    split at hk2
    ·exact harr hk2
    ·rename_i hnest
     unfold vch at hk2
     rcases hk2 with hk2|hk2
     ·exact harr hk2
     ·have hdeep:∀(g':Gam) (n':Nat),g' s.nx=some (w.heap.size,p.toNat,p.toNat)→RO I g' n' (w.alloc (.cells (madeCells (z9 kd).cells (p.toNat*i.size)) e)) s.nx (.deep false 0 (kd.zeros p.toNat) []) ∧
        ∀b,¬Nst g' (w.alloc (.cells (madeCells (z9 kd).cells (p.toNat*i.size)) e)) s.nx (.deep false 0 (kd.zeros p.toNat) []) b:=fun g' n' hg' =>
       (hroM g' n' hg').arr_deep fun cells b cap ty hgb hb k j y hk hy=>by
        rw[hg']at hgb
        simp only[Option.some.injEq,Prod.mk.injEq]at hgb
        obtain⟨hgb1,_,_⟩:=hgb
        subst hgb1
        have hb2:=heap_alloc_new w (.cells (madeCells (z9 kd).cells (p.toNat*i.size)) e)
        rw[hb2]at hb
        simp only[Option.some.injEq,Obj.cells.injEq]at hb
        have hce:cells=(madeCells (z9 kd).cells (p.toNat*i.size)).toList:=by rw[hb.1]
        rw[z2]at hk
        obtain⟨v,hv,hnc,hns⟩:=z0p (w:=w.alloc (.cells (madeCells (z9 kd).cells (p.toNat*i.size)) e)) kd hnest p.toNat k j y hk hy
        have hjl:j<sz:=by
         have:=(List.getElem?_eq_some_iff.1 hy).1
         rwa [C.row_len _ _ z1,hsz2]at this
        exact⟨v,by rw[hce];exact hcellM hk hjl hv,hnc,hns⟩
      exact zd6 (cl:=(p.toNat,p.toNat)) h hrunM (fun g' n' hg' hn' _=>(hdeep g' n' hg').1) (fun g' n' hg' hn'=>.slc _ _ _ _ hn' hg') hK hk2 hN (fun g' b hg'=>(hdeep g' 0 hg').2 b)
   ·exact hk.elim
  ·exact hk.elim
 ·exact hk.elim
theorem zsy (size:Nat) (vals:List Value):∀(k:Nat) (cells:List Value),(∀v∈vals,v.cells.size=size)→(k+vals.length)*size≤cells.length →
  ∃cells':List Value,Instr.fill (fun i=>some (i*size,size)) cells.toArray ((vals.zipIdx k).map fun p=>(p.2,p.1))=some cells'.toArray∧cells'.length=cells.length ∧
   (∀q,q<k*size→cells'[q]? = cells[q]?)∧(∀(m:Nat) v j,vals[m]? = some v→j<size→cells'[(k+m)*size+j]? = v.cells[j]?):=by
 induction vals with
 |nil=>intro k cells _ _;exact⟨cells,rfl,rfl,fun _ _=>rfl,by simp⟩
 |cons v t ih =>
  intro k cells hs hl
  have hv:=hs v List.mem_cons_self
  simp only[List.length_cons]at hl
  have hkl:k*size+size≤cells.length:=by
   have:(k+1)*size≤(k+(t.length+1))*size:=Nat.mul_le_mul_right _ (by omega)
   rw[Nat.add_mul,Nat.one_mul]at this;omega
  have hput:=zny v.cells.toList (k*size) cells.toArray 0
  obtain⟨cells',h1,h2,h3,h4⟩:=ih (k+1) (putAt cells (k*size) v.cells.toList) (fun u hu=>hs u (List.mem_cons_of_mem _ hu)) (by rw[za6,show k+1+t.length=k+(t.length+1)from by omega];exact hl)
  have hfit:k*size+v.cells.toList.length≤cells.length:=by simpa [hv]using hkl
  refine⟨cells',?_,by rw[h2,za6],fun q hq=>?_,fun m u j hm hj=>?_⟩
  ·simp only[List.zipIdx_cons,List.map_cons,Instr.fill,hv]
   rw[if_neg (by simp;omega)]
   have:Array.foldl (fun cs x=>Array.setIfInBounds cs (k*size+x.2) x.1) cells.toArray v.cells.zipIdx=(putAt cells (k*size) v.cells.toList).toArray:=by
    rw[←Array.foldl_toList,Array.toList_zipIdx]
    simpa using hput
   rw[this]
   exact h1
  ·rw[h3 q (by rw[Nat.add_mul];omega),za8 _ _ _ hfit,if_neg (by omega)]
  ·cases m with
   |zero =>
    cases hm
    have:(k+0)*size+j<(k+1)*size:=by rw[Nat.add_zero,Nat.add_mul,Nat.one_mul];omega
    rw[h3 _ this,za8 _ _ _ hfit,if_pos (by simp[hv];omega)]
    simp
   |succ m =>
    have:=h4 m u j (by simpa using hm) hj
    rw[show k+1+m=k+(m+1)from by omega]at this
    exact this
theorem zqz (ps:List (Nat×V)):∀(vs:List V) (vals:List Value) (k:Nat) (x y:C) (n:Nat),zhc (zqj ps vs) k x=some y→x.len=k→x.isSl=true→RVs I g n w vs vals→ps.length=vs.length →
  y.isSl=true∧y.stride=x.stride∧y.len=k+vs.length∧(∀i,i<k→y.row i=x.row i)∧(∀(m:Nat) v,vals[m]? = some v→zfk I w (y.row (k+m)) v)∧∀(m:Nat) p,ps[m]? = some p→p.1=k+m:=by
 induction ps with
 |nil =>
  intro vs vals k x y n h hl hs hv hlen
  cases vs with
  |cons v t=>simp at hlen
  |nil =>
   cases vals with
   |cons v t=>have:=hv.1;simp at this
   |nil=>cases h;exact⟨hs,rfl,by simpa using hl,fun _ _=>rfl,by simp,by simp⟩
 |cons p t ih =>
  intro vs vals k x y n h hl hs hv hlen
  obtain⟨pi,pv⟩:=p
  cases vs with
  |nil=>simp at hlen
  |cons v vs =>
   cases vals with
   |nil=>have:=hv.1;simp at this
   |cons u us =>
    simp only[zqj,zhc]at h
    split at h
    ·rename_i hik
     have hik:=Nat.eq_of_beq_eq_true hik
     split at h
     ·rename_i x1 hx1
      obtain⟨s1,s2,s3,s4,s5,s6⟩:=z1h hx1 (hv.2 0 _ _ rfl rfl)
      obtain⟨r1,r2,r3,r4,r5,r6⟩:=ih vs us (k+1) x1 y n h (by omega) s2 ⟨by have:=hv.1;simpa using this,fun i x v hx hv'=>hv.2 (i+1) x v (by simpa using hx) (by simpa using hv')⟩ (by simpa using hlen)
      refine⟨r1,by rw[r2,s3],by rw[r3];simp;omega,fun i hi=>by rw[r4 i (by omega),s5 i (by omega)],fun m v hm=>?_,fun m p hm=>?_⟩
      ·cases m with
       |zero=>cases hm;rw[Nat.add_zero,r4 k (by omega),←hl];exact s6
       |succ m=>have:=r5 m v (by simpa using hm);rwa [show k+1+m=k+(m+1)from by omega]at this
      ·cases m with
       |zero=>cases hm;exact hik
       |succ m=>have:=r6 m p (by simpa using hm);omega
     ·cases h
    ·cases h
theorem zpz (env:List (Nat×V)) (l:List (Nat×Operand)):evp env l=l.map fun p=>(p.1,evl env p.2):=by
 induction l with
 |nil=>rfl
 |cons p t ih=>obtain⟨i,x⟩:=p;simp[evp,ih]
theorem z2t (l:List (Nat×V)):zod l=l.map (·.2):=by
 induction l with
 |nil=>rfl
 |cons p t ih=>obtain⟨i,x⟩:=p;simp[zod,ih]
theorem St.evals (h:St X I g s a w) (l:List (Nat×Operand)):RVs I g s.nx w (zod (evp s.env l)) (l.map fun p=>a.eval p.2):=by
 rw[z2t,zpz]
 refine⟨by simp,fun i x v hx hv=>?_⟩
 simp only[List.getElem?_map]at hx hv
 cases hq:l[i]? with
 |none=>rw[hq]at hx;cases hx
 |some p=>rw[hq]at hx hv;cases hx;cases hv;exact h.eval p.2
theorem z57 (hT:TOk P T) {t len:Nat} {parts:Array (Nat×Operand)} (ho:o.op=.buildSlice t len parts) (h:St X I g s a w) {e sz by':Nat} {kd:Kd} (hti:T t=.slice e sz by' kd) {cs:List V} {y:V} (hy:∀v,RV I g s.nx w y v→∃us:List Value,v.cells=us.toArray∧RVs I g s.nx w cs us)
  (hps:evp s.env parts.toList=[(0,y)]) (hlen:Nat.beq (evp s.env parts.toList).length len=true) (hmax:Nat.ble (len*sz) 1000000=true) (hok:zp7 kd.empty sz cs=true)
  (hk:s.alloc o.dst (.hol (kd.zeros 1) 0 cs) (.slc s.nx) K) (hN:∀s' a' w',Sat X s' a' w'→K s'→N a' w'):o.wp P a w N Q:=by
 have hK:¬X.K0 s.nx:=fun hk=>by have:=h.low _ hk;omega
 obtain⟨hu,i,hi,hsz,hbt,hz,hst,hb1,hb2⟩:=zdh hT hti
 obtain⟨q1,q2,q4,q3⟩:kd.empty.stride=sz∧cs.length=sz∧zhg kd.empty cs=true∧zhr cs=true:=by
  unfold zp7 at hok
  split at hok
  ·rename_i h1 h2 h3;exact⟨Nat.eq_of_beq_eq_true h1,Nat.eq_of_beq_eq_true h2,h3,hok⟩
  ·cases hok
 obtain⟨x,hpx,hcx⟩:∃x,parts.toList=[(0,x)]∧evl s.env x=y:=by
  cases hq:parts.toList with
  |nil=>rw[hq]at hps;cases hps
  |cons p t =>
   obtain⟨i,x⟩:=p
   rw[hq]at hps
   simp only[evp,List.cons.injEq,Prod.mk.injEq]at hps
   cases t with
   |nil=>exact⟨x,by rw[hps.1.1],hps.1.2⟩
   |cons p t=>obtain⟨j,y⟩:=p;simp[evp]at hps
 have hlen:=Nat.eq_of_beq_eq_true hlen
 rw[hps]at hlen
 simp only[List.length_singleton]at hlen
 subst hlen
 have hmax:=Nat.le_of_ble_eq_true hmax
 have hx:=h.eval x
 rw[hcx]at hx
 obtain⟨us,hus,hvs⟩:=hy _ hx
 obtain⟨hul,hur⟩:=hvs
 have hvs:RVs I g s.nx w cs us:=⟨hul,hur⟩
 have hvals:∀v∈[a.eval x],v.cells.size=sz:=fun v hv=>by
  simp only[List.mem_singleton]at hv;subst hv;rw[hus];simp;omega
 have hparts:(parts.map fun p=>(p.1,a.eval p.2)).toList=(([a.eval x]:List Value).zipIdx 0).map fun p=>(p.2,p.1):=by
  simp[hpx]
 have hzl:((Array.range (1*sz)).map ((z9 kd).cells[· % (z9 kd).cells.size]!)).toList.length=1*sz:=by simp
 obtain⟨cells',f1,f2,f3,f4⟩:=zsy sz [a.eval x] 0 ((Array.range (1*sz)).map ((z9 kd).cells[· % (z9 kd).cells.size]!)).toList hvals (by rw[hzl,Nat.zero_add];simp)
 have hpos:0<sz:=by rw[←q1];cases kd<;>exact Nat.zero_lt_succ _
 have hrun:(execOp a.eval o).run P w=.ok (.value (.slice (some ⟨w.heap.size,0,none⟩) 1 1)) (w.alloc (.cells cells'.toArray e)):=by
  have hn1:¬(16777216<1*sz):=by omega
  have hz0:¬(1*sz=0):=by omega
  have f1':Instr.fill (fun i=>some (i*sz,sz)) ((Array.range (1*sz)).map ((z9 kd).cells[· % (z9 kd).cells.size]!)) (parts.map fun p=>(p.1,a.eval p.2)).toList=some cells'.toArray:=by
   rw[hparts,←f1]
  simp only[Array.toList_map]at f1'
  simp only[Nat.one_mul]at hn1 hz0 f1'
  simp[execOp,ho,Instr.buildSlice,run_underlying hu,sizeOf,typeInfo,zeroValue,hi,hz,hsz,hz0,hn1,newRow,f1']
 obtain⟨z1,z2,z3⟩:(kd.zeros 1).isSl=true∧(kd.zeros 1).len=1∧(kd.zeros 1).stride=sz:=by rw[←q1];cases kd<;>exact⟨rfl,rfl,rfl⟩
 have hcell:∀j,j<sz→cells'[0*sz+j]? = us[j]?:=fun j hj=>by
  have:=f4 0 (a.eval x) j rfl hj
  rw[Nat.zero_add]at this
  rw[this,hus];simp
 refine zd6 (cl:=(1,1)) h hrun (fun g' n' hg' hn' hgo=>?_) (fun g' n' hg' hn'=>.slc _ _ _ _ hn' hg') hK hk hN
 refine .hol _ 0 cs w.heap.size 1 cells' e (by rw[z2];exact hg') z1 (heap_alloc_new w _) (by rw[f2,hzl,z3]) (by rw[z2];exact Nat.le_refl _) (by rw[z2];exact Nat.zero_lt_one) (by rw[z3];exact q2) (fun i j y hi hne hy=>by rw[z2]at hi;omega) (fun j hj=>?_) (fun hp v hv=>by
  obtain⟨m,hm⟩:=List.getElem?_of_mem hv
  have hml:m<sz:=by have:=(List.getElem?_eq_some_iff.1 hm).1;rw[f2,hzl]at this;omega
  have:=hcell m hml
  rw[Nat.zero_mul,Nat.zero_add,hm]at this
  exact hvs.slVal (zjr q4 (by cases kd<;>first|rfl|cases hp)) v (List.mem_of_getElem? this.symm))
 rw[z3]at hj⊢
 have h1:j<cs.length:=by omega
 have h2:j<us.length:=by omega
 refine⟨cs[j],us[j],List.getElem?_eq_getElem h1,by rw[hcell j hj];exact List.getElem?_eq_getElem h2,hvs.one q3 _ (List.getElem_mem h2),?_⟩
 exact(hur j _ _ (List.getElem?_eq_getElem h1) (List.getElem?_eq_getElem h2)).mono (fun _ h=>h) (fun b hI=>zci _ _ (h.bound b hI)) (Nat.le_of_lt hn') hgo
theorem zl9 (hT:TOk P T) {t len:Nat} {parts:Array (Nat×Operand)} (ho:o.op=.buildSlice t len parts) (h:St X I g s a w) {e sz by':Nat} {kd:Kd} (hti:T t=.slice e sz by' kd) {cs:List V}
  (hps:evp s.env parts.toList=[(0,.agg cs)]) (hlen:Nat.beq (evp s.env parts.toList).length len=true) (hmax:Nat.ble (len*sz) 1000000=true) (hok:zp7 kd.empty sz cs=true)
  (hk:s.alloc o.dst (.hol (kd.zeros 1) 0 cs) (.slc s.nx) K) (hN:∀s' a' w',Sat X s' a' w'→K s'→N a' w'):o.wp P a w N Q :=
 z57 hT ho h hti (fun v hv=>by
  obtain⟨us,hus,hul,hur⟩:=hv.agg_inv
  exact⟨us,by rw[hus];rfl,hul,hur⟩) hps hlen hmax hok hk hN
theorem z7w (hT:TOk P T) {t len:Nat} {parts:Array (Nat×Operand)} (ho:o.op=.buildSlice t len parts) (h:St X I g s a w) {e sz by':Nat} {kd:Kd} (hti:T t=.slice e sz by' kd) {id:Nat}
  (hps:evp s.env parts.toList=[(0,.slc id)]) (hlen:Nat.beq (evp s.env parts.toList).length len=true) (hmax:Nat.ble (len*sz) 1000000=true) (hok:zp7 kd.empty sz [.slc id]=true)
  (hk:s.alloc o.dst (.hol (kd.zeros 1) 0 [.slc id]) (.slc s.nx) K) (hN:∀s' a' w',Sat X s' a' w'→K s'→N a' w'):o.wp P a w N Q :=
 z57 hT ho h hti (fun v hv=>⟨[v],by cases hv<;>rfl,rfl,fun i x u hx hu=>by
  cases i with
  |zero=>cases hx;cases hu;exact hv
  |succ i=>cases hx⟩) hps hlen hmax hok hk hN
theorem zqs (hT:TOk P T) {t:Nat} {parts:Array (Nat×Operand)} (ho:o.op=.buildSlice t 0 parts) (h:St X I g s a w) {e sz by':Nat} {kd:Kd} (hti:T t=.slice e sz by' kd) (hps:parts.toList=[])
  (hk:s.alloc o.dst (.deep false 0 kd.empty []) (.slc s.nx) K) (hN:∀s' a' w',Sat X s' a' w'→K s'→N a' w'):o.wp P a w N Q:=by
 have hK:¬X.K0 s.nx:=fun hk=>by have:=h.low _ hk;omega
 obtain⟨hu,i,hi,hsz,hbt,hz,hst,hb1,hb2⟩:=zdh hT hti
 have hp:parts=#[]:=by apply Array.ext';rw[hps]
 subst hp
 have hlen0:kd.empty.len=0:=by cases kd<;>rfl
 have hsl0:kd.empty.isSl=true:=by cases kd<;>rfl
 have hrun:(execOp a.eval o).run P w=.ok (.value (.slice (some ⟨w.heap.size,0,none⟩) 0 0)) (w.alloc (.cells ([]:List Value).toArray e)):=by
  simp[execOp,ho,Instr.buildSlice,run_underlying hu,sizeOf,typeInfo,hi,hsz,newRow,Array.range_zero',Instr.fill]
 have hdeep:∀(g':Gam) (n':Nat),g' s.nx=some (w.heap.size,0,0)→RO I g' n' (w.alloc (.cells ([]:List Value).toArray e)) s.nx (.deep false 0 kd.empty [])∧∀b,¬Nst g' (w.alloc (.cells ([]:List Value).toArray e)) s.nx (.deep false 0 kd.empty []) b:=fun g' n' hg' =>
  (RO.arr_of (x:=kd.empty) (cap:=0) (by rw[hlen0];exact hg') hsl0 (heap_alloc_new w _) (by simp) (by omega) (fun i j y hi=>by omega) (fun _ v hv=>by cases hv)).arr_deep fun cells b cap ty _ _ i j y hi=>by omega
 exact zd6 (cl:=(0,0)) h hrun (fun g' n' hg' hn' _=>(hdeep g' n' hg').1) (fun g' n' hg' hn'=>.slc _ _ _ _ hn' hg') hK hk hN (fun g' b hg'=>(hdeep g' 0 hg').2 b)
theorem zn9 (hT:TOk P T) {t len:Nat} {parts:Array (Nat×Operand)} (ho:o.op=.buildSlice t len parts) (h:St X I g s a w)
  (hk:zgi T t len (evp s.env parts.toList) s o.dst K) (hN:∀s' a' w',Sat X s' a' w'→K s'→N a' w'):o.wp P a w N Q:=by
 have hK:¬X.K0 s.nx:=fun hk=>by have:=h.low _ hk;omega
 unfold zgi at hk
 split at hk
 ·rename_i e sz bytes kd hti
  obtain⟨hu,i,hi,hsz,hbt,hz,hst,hb1,hb2⟩:=zdh hT hti
  split at hk
  ·rename_i hlen
   have hlen9:=hlen
   have hlen:=Nat.eq_of_beq_eq_true hlen
   rw[zpz,List.length_map]at hlen
   split at hk
   ·rename_i hmax
    have hmax9:=hmax
    have hmax:=Nat.le_of_ble_eq_true hmax
    by_cases hA:ziw kd sz (evp s.env parts.toList) s o.dst K
    case neg =>
     split at hk
     ·exact(hA hk).elim
     ·split at hk
      ·rename_i hps
       unfold vch at hk
       rcases hk with hk|hk
       ·exact(hA (by rw[hps];exact hk)).elim
       ·split at hk
        ·have hp0:parts.toList=[]:=by
          cases hq:parts.toList with
          |nil=>rfl
          |cons p t=>obtain⟨i,x⟩:=p;rw[hq]at hps;simp[evp]at hps
         have hl0:len=0:=by rw[←hlen,hp0];rfl
         subst hl0
         exact zqs hT ho h hti hp0 hk hN
        ·exact hk.elim
      ·rename_i cs hps
       split at hk
       ·rename_i hok
        unfold vch at hk
        rcases hk with hk|hk
        ·exact(hA (by rw[hps];exact hk)).elim
        ·rw[zdd]at hk
         exact zl9 hT ho h hti hps hlen9 hmax9 hok hk hN
       ·exact(hA (by rw[hps];exact hk)).elim
      ·exact(hA hk).elim
    replace hk:=hA
    unfold ziw at hk
    obtain⟨s',I',vs',hs',hv',hk2,hI,hnx,hnt⟩:=zew _ s I _ _ _ h (h.evals parts.toList) hk
    split at hk2
    ·rename_i x hx
     split at hk2
     ·rename_i hst2
      have hst2:=Nat.eq_of_beq_eq_true hst2
      rw[C.force_eq]at hk2
      have hlen2:vs'.length=parts.toList.length:=by rw[hv'.1];simp
      have hlen0:kd.empty.len=0:=by cases kd<;>rfl
      have hsl0:kd.empty.isSl=true:=by cases kd<;>rfl
      obtain⟨r1,r2,r3,r4,r5,r6⟩:=zqz (evp s.env parts.toList) vs' _ 0 kd.empty x s'.nx hx hlen0 hsl0 hv' (by rw[zpz];simp[hlen2])
      have hvals:∀v∈(parts.toList.map fun p=>a.eval p.2),v.cells.size=sz:=fun v hv=>by
       obtain⟨m,hm⟩:=List.getElem?_of_mem hv
       have:=r5 m v hm
       rw[this.1,C.row_len _ _ r1,hst2]
      have hparts:(parts.map fun p=>(p.1,a.eval p.2)).toList=((parts.toList.map fun p=>a.eval p.2).zipIdx 0).map fun p=>(p.2,p.1):=by
       apply List.ext_getElem?
       intro m
       simp only[Array.toList_map,List.getElem?_map,List.getElem?_zipIdx]
       cases hq:parts.toList[m]? with
       |none=>rfl
       |some p =>
        have:=r6 m (p.1,evl s.env p.2) (by rw[zpz,List.getElem?_map,hq];rfl)
        simp only[Nat.zero_add]at this
        simp[this]
      have hzl:((Array.range (len*sz)).map ((z9 kd).cells[· % (z9 kd).cells.size]!)).toList.length=len*sz:=by simp
      obtain⟨cells',f1,f2,f3,f4⟩:=zsy sz (parts.toList.map fun p=>a.eval p.2) 0 ((Array.range (len*sz)).map ((z9 kd).cells[· % (z9 kd).cells.size]!)).toList hvals (by rw[hzl,Nat.zero_add,List.length_map,hlen];exact Nat.le_refl _)
      have hrun:(execOp a.eval o).run P w=.ok (.value (.slice (some ⟨w.heap.size,0,none⟩) len len)) (w.alloc (.cells cells'.toArray e)):=by
       have hn1:¬(16777216<len*sz):=by omega
       by_cases hz0:len*sz=0
       ·have e0:(Array.range 0).map (fun x=>(#[]:Array Value)[x % 0]!)=#[]:=by simp[Array.range_zero']
        have f1':Instr.fill (fun i=>some (i*sz,sz)) #[] (parts.map fun p=>(p.1,a.eval p.2)).toList=some cells'.toArray:=by
         rw[hparts,←f1]
         congr 1
         rw[hz0];simp[Array.range_zero']
        simp only[Array.toList_map]at f1'
        simp[execOp,ho,Instr.buildSlice,run_underlying hu,sizeOf,typeInfo,hi,hsz,hz0,newRow,Array.range_zero',f1']
       ·have f1':Instr.fill (fun i=>some (i*sz,sz)) ((Array.range (len*sz)).map ((z9 kd).cells[· % (z9 kd).cells.size]!)) (parts.map fun p=>(p.1,a.eval p.2)).toList=some cells'.toArray:=by
         rw[hparts,←f1]
        simp only[Array.toList_map]at f1'
        simp[execOp,ho,Instr.buildSlice,run_underlying hu,sizeOf,typeInfo,zeroValue,hi,hz,hsz,hz0,hn1,newRow,f1']
      have hxl:x.len=len:=by rw[r3,hlen2,hlen];omega
      refine zd6 (cl:=(len,len)) hs' hrun (fun g' n' hg' hn' _=>?_) (fun g' n' hg' hn'=>?_) (by rw[hnx];exact hK) (Eq.mp (S.allocSlc_eq _ _ _ _) hk2) hN
      ·refine RO.of_cells (w0:=w) (by rw[hxl];exact hg') r1 (heap_alloc_new w _) (by rw[f2,hzl,hst2]) (by rw[hxl];exact Nat.le_refl _) (fun b hI=>zci _ _ (hs'.bound b hI)) (fun k j y hk hy=>?_) hxl.symm
       have hjl:j<sz:=by
        have:=(List.getElem?_eq_some_iff.1 hy).1
        rwa [C.row_len _ _ r1,hst2]at this
       have hkl:k<parts.toList.length:=by rw[hlen,←hxl];exact hk
       have hkv:(parts.toList.map fun p=>a.eval p.2)[k]? = some (a.eval parts.toList[k].2):=by rw[List.getElem?_map,List.getElem?_eq_getElem hkl];rfl
       have:=r5 k _ hkv
       rw[Nat.zero_add]at this
       obtain⟨u,u1,u2,_⟩:=this.2 j y hy
       refine⟨u,?_,u2⟩
       have:=f4 k _ j hkv hjl
       rw[Nat.zero_add]at this
       rw[hst2,this,u1]
      ·exact .slc _ _ _ _ hn' hg'
     ·exact hk2.elim
    ·exact hk2.elim
   ·exact hk.elim
  ·exact hk.elim
 ·exact hk.elim
theorem ztg {fs:List (Nat×Nat×Bool)} (parts:List (Nat×Operand)):∀(cells cells':List V) (vs:List Value),St X I g s a w →
  zl0 fs cells (evp s.env parts)=some cells'→RVs I g s.nx w cells vs→(∀p∈parts,(evl s.env p.2).one=true∨∃l,evl s.env p.2=.agg l) →
  ∃vs':List Value,Instr.fill (fun i=>(fs[i]?).map fun x=>(x.1,x.2.1)) vs.toArray (parts.map fun p=>(p.1,a.eval p.2))=some vs'.toArray∧RVs I g s.nx w cells' vs':=by
 induction parts with
 |nil=>intro cells cells' vs h hb hv _;cases hb;exact⟨vs,rfl,hv⟩
 |cons p t ih =>
  intro cells cells' vs h hb hv h1
  obtain⟨i,x⟩:=p
  simp only[evp,zl0]at hb
  split at hb
  ·rename_i off sz ag hf
   split at hb
   ·rename_i hsz
    have hsz:=Nat.eq_of_beq_eq_true hsz
    split at hb
    ·rename_i hle
     have hle:=Nat.le_of_ble_eq_true hle
     have hcs:=ze0 (h.eval x) (h1 (i,x) List.mem_cons_self)
     have hvs:(a.eval x).cells.size=sz:=by rw[←hsz,hcs.1];simp
     obtain⟨vs',r1,r2⟩:=ih _ _ (putAt vs off (a.eval x).cells.toList) h hb (hv.putAt hcs off) (fun p hp=>h1 p (List.mem_cons_of_mem _ hp))
     refine⟨vs',?_,r2⟩
     simp only[List.map_cons,Instr.fill,hf,Option.map_some,hvs]
     rw[if_neg (by simp[hv.1]at hle⊢;omega)]
     have:Array.foldl (fun cs y=>Array.setIfInBounds cs (off+y.2) y.1) vs.toArray (a.eval x).cells.zipIdx=(putAt vs off (a.eval x).cells.toList).toArray:=by
      rw[←Array.foldl_toList,Array.toList_zipIdx]
      simpa using zny (a.eval x).cells.toList off vs.toArray 0
     rw[this]
     exact r1
    ·cases hb
   ·cases hb
  ·cases hb
theorem zp0 {fields:List Field} {fs:List (Nat×Nat×Bool)} (hok:zjs P fields fs) (w:World) :
  ((fields.mapM fun f=>do pure (f.offset,←sizeOf f.type):Sem (List (Nat×Nat)))).run P w=.ok (fs.map fun x=>(x.1,x.2.1)) w:=by
 induction fields generalizing fs with
 |nil=>cases fs with
  |nil=>simp
  |cons y t=>exact hok.elim
 |cons f t ih=>cases fs with
  |nil=>exact hok.elim
  |cons y u =>
   obtain⟨o1,o2,o3⟩:=y
   obtain⟨h1,h2,h3,h4,h5,h6⟩:=hok
   have:=ih h6
   simp only[bind_pure_comp]at this
   simp[List.mapM_cons,run_sizeOf' h2,h1,this]
theorem zu2 (hT:TOk P T) {t:Nat} {parts:Array (Nat×Operand)} (ho:o.op=.build t parts) (h:St X I g s a w)
  (h1:∀p∈parts.toList,(evl s.env p.2).one=true∨∃l,evl s.env p.2=.agg l)
  (hk:zgf T t (evp s.env parts.toList) fun v=>s.put o.dst v K) (hN:∀s' a' w',Sat X s' a' w'→K s'→N a' w'):o.wp P a w N Q:=by
 unfold zgf at hk
 split at hk
 ·rename_i fs zs hti
  have hh:=hT t
  rw[hti]at hh
  obtain⟨⟨fields,hu,hok⟩,hs,⟨cells,hz,hc⟩,_⟩:=hh
  split at hk
  ·rename_i cs hcs
   have hz0:RVs I g s.nx w zs cells:=⟨by rw[←hc];simp,fun i x v hx hv=>by
    rw[←hc,List.getElem?_map,hv]at hx;cases hx;exact zi9 _ v⟩
   obtain⟨vs',r1,r2⟩:=ztg parts.toList zs cs cells h hcs hz0 h1
   refine zaj (v:=.agg cs) (val:=.agg vs'.toArray) (w':=w) ?_ h (.agg cs vs' r2.1 r2.2) hk hN
   have hm:=zp0 hok w
   have hm2:((fields.mapM fun f=>do pure (f.offset,←sizeOf f.type):Sem (Array (Nat×Nat)))).run P w=.ok (fs.map fun x=>(x.1,x.2.1)).toArray w:=by
    have:(fields.mapM fun f=>do pure (f.offset,←sizeOf f.type):Sem (Array (Nat×Nat)))=(do let l ←fields.toList.mapM (fun f=>do pure (f.offset,←sizeOf f.type):Field→Sem (Nat×Nat));pure l.toArray):=by
     rw[Array.mapM_eq_mapM_toList];rfl
    rw[this]
    simp only[Sem.run_bind,hm]
    rfl
   have hpl:(fun i:Nat=>((fs.map fun x:Nat×Nat×Bool=>(x.1,x.2.1)).toArray)[i]?)=fun i:Nat=>(fs[i]?).map fun x=>(x.1,x.2.1):=by
    funext i;simp
   simp only[execOp,ho,Instr.build,Sem.run_bind,run_zero' hz,Result.andThen_ok,run_underlying hu,hm2,hpl,Value.cells,Array.toList_map]
   simp[r1]
  ·exact hk.elim
 ·exact hk.elim
end
end Go.VL
namespace Go.VL
set_option linter.unusedVariables false
set_option linter.unusedSimpArgs false
section
variable {P : Program} {T : TT} {X : Cx} {I : Nat → Prop} {g : Gam} {s : S} {a : Act} {w : World} {o : Oper} {K : S → Prop}
 {N:Act→World→Prop} {Q:Exit→Act→World→Prop}
theorem zb3 {n:Nat} {xs:List V} (h:zz n xs=true):∀x∈xs,x.idsLt n=true:=by
 induction xs with
 |nil=>intro x hx;cases hx
 |cons y t ih =>
  simp only[zz]at h
  split at h
  ·rename_i h1
   intro x hx
   rcases List.mem_cons.1 hx with hx|hx
   ·rw[hx];exact h1
   ·exact ih h x hx
  ·cases h
theorem RV.unren {r:Nat→Nat} {n m:Nat} {u:V} {val:Value} (h:RV I g m w u val):∀v:V,v.ren r=u→v.idsLt n=true→RV I (fun i=>g (r i)) n w v val:=by
 have list:∀(xs ys:List V) (vs:List Value),zag r ys=xs→zz n ys=true→(∀(i:Nat) x v,xs[i]? = some x→vs[i]? = some v→∀y:V,y.ren r=x→y.idsLt n=true→RV I (fun i=>g (r i)) n w y v) →
   ys.length=xs.length∧∀(i:Nat) y v,ys[i]? = some y→vs[i]? = some v→RV I (fun i=>g (r i)) n w y v:=by
  intro xs ys vs hx hb ih
  subst hx
  rw[za5]
  refine⟨by simp,fun i y v hy hv=>ih i (y.ren r) v ?_ hv y rfl (zb3 hb y (List.mem_of_getElem? hy))⟩
  rw[za5,List.getElem?_map,hy];rfl
 induction h with
 |any v=>intro v hv _;cases v<;>first|exact .any _|cases hv
 |tt=>intro v hv _;cases v<;>first|exact .tt|cases hv
 |ff=>intro v hv _;cases v<;>first|exact .ff|cases hv
 |nil=>intro v hv _;cases v<;>first|exact .nil|cases hv
 |c x u h=>intro v hv _;cases v<;>first|(cases hv;done)|(cases hv;exact .c _ _ h)
 |iptr row b off val hb hc hr=>intro v hv _;cases v<;>first|(cases hv;done)|(cases hv;exact .iptr row b off val hb hc hr)
 |agg xs vs hl _ ih =>
  intro v hv hb
  cases v with
  |agg ys =>
   simp only[V.ren,V.agg.injEq]at hv
   obtain⟨h1,h2⟩:=list xs ys vs hv hb ih
   exact .agg ys vs (h1.trans hl) h2
  |_=>cases hv
 |tup xs vs hl _ ih =>
  intro v hv hb
  cases v with
  |tup ys =>
   simp only[V.ren,V.tup.injEq]at hv
   obtain⟨h1,h2⟩:=list xs ys vs hv hb ih
   exact .tup ys vs (h1.trans hl) h2
  |_=>cases hv
 |fn f xs vs hl _ ih =>
  intro v hv hb
  cases v with
  |fn f' ys =>
   simp only[V.ren,V.fn.injEq]at hv
   obtain⟨rfl,hv⟩:=hv
   obtain⟨h1,h2⟩:=list xs ys vs hv hb ih
   exact .fn _ ys vs (h1.trans hl) h2
  |_=>cases hv
 |ptr id i st j b cl h1 h2 =>
  intro v hv hb
  cases v with
  |ptr k i' st' j' =>
   simp only[V.ren,V.ptr.injEq]at hv
   obtain⟨rfl,rfl,rfl,rfl⟩:=hv
   exact .ptr k _ _ _ b cl (Nat.blt_eq.mp hb) h2
  |_=>cases hv
 |slc id len b cap h1 h2 =>
  intro v hv hb
  cases v with
  |slc k =>
   simp only[V.ren,V.slc.injEq]at hv
   subst hv
   exact .slc k len b cap (Nat.blt_eq.mp hb) h2
  |_=>cases hv
 |slc0 id h1 h2 =>
  intro v hv hb
  cases v with
  |slc k =>
   simp only[V.ren,V.slc.injEq]at hv
   subst hv
   exact .slc0 k (Nat.blt_eq.mp hb) h2
  |_=>cases hv
theorem RV.reren {r:Nat→Nat} {g2:Gam} {n m:Nat} (hr:∀i,i<m→r i<n∧g2 (r i)=g i) {v:V} {val:Value} (h:RV I g m w v val):RV I g2 n w (v.ren r) val:=by
 have mapped:∀(xs:List V) (vs:List Value),(∀(i:Nat) x v,xs[i]? = some x→vs[i]? = some v→RV I g2 n w (x.ren r) v)→∀(i:Nat) x v,(zag r xs)[i]? = some x→vs[i]? = some v→RV I g2 n w x v:=by
  intro xs vs ih i x v hx hv
  rw[za5,List.getElem?_map]at hx
  cases hq:xs[i]? with
  |none=>rw[hq]at hx;cases hx
  |some y=>rw[hq]at hx;cases hx;exact ih i y v hq hv
 induction h with
 |any v=>exact .any v
 |tt=>exact .tt
 |ff=>exact .ff
 |nil=>exact .nil
 |c x v h=>exact .c x v h
 |agg xs vs hl _ ih=>exact .agg _ vs (by rw[za5];simpa using hl) (mapped xs vs ih)
 |tup xs vs hl _ ih=>exact .tup _ vs (by rw[za5];simpa using hl) (mapped xs vs ih)
 |fn f xs vs hl _ ih=>exact .fn f _ vs (by rw[za5];simpa using hl) (mapped xs vs ih)
 |iptr row b off val hb hc hr=>exact .iptr row b off val hb hc hr
 |ptr id i st j b cl h1 h2=>exact .ptr _ i st j b cl (hr id h1).1 (by rw[(hr id h1).2];exact h2)
 |slc id len b cap h1 h2=>exact .slc _ len b cap (hr id h1).1 (by rw[(hr id h1).2];exact h2)
 |slc0 id h1 h2=>exact .slc0 _ (hr id h1).1 (by rw[(hr id h1).2];exact h2)
def OLt (n:Nat) (ob:O):Prop :=
 match ob with
 |.box pre _ post=>zz n pre=true∧zz n post=true
 |.arr _=>True
 |.hol _ _ vs=>zz n vs=true
 |.deep _ _ _ hs=>∀i us,(i,us)∈hs→zz n us=true
theorem RO.unren {r:Nat→Nat} {n m i:Nat} {ob:O} (h:RO I g m w (r i) (ob.map (zag r))) (hbl:OLt n ob) :
  RO I (fun i=>g (r i)) n w i ob:=by
 cases ob with
 |arr x=>cases h with
  |none _ hg hs h0=>exact .none x hg hs h0
  |arr _ b cap cells ty hg hs hb hl hcap hh ht=>exact .arr x b cap cells ty hg hs hb hl hcap hh ht
 |hol x hi vs=>cases h with
  |hol _ _ _ b cap cells ty hg hs hb hl hcap hhi hv hh h2 ht =>
   refine .hol x hi vs b cap cells ty hg hs hb hl hcap hhi (by rw[za5]at hv;simpa using hv) hh (fun j hj=>?_) ht
   obtain⟨u,v,a1,a2,a3,a4⟩:=h2 j hj
   rw[za5,List.getElem?_map]at a1
   cases hq:vs[j]? with
   |none=>rw[hq]at a1;cases a1
   |some y=>rw[hq]at a1;cases a1;exact⟨y,v,rfl,a2,a3,a4.unren y rfl (zb3 hbl y (List.mem_of_getElem? hq))⟩
 |deep p f x hs =>
  simp only[O.map]at h
  have hmem:∀{i us},(i,us)∈hs→(i,zag r us)∈zbk (zag r) hs:=fun {i us} hm=>by rw[zjt];exact List.mem_map.2 ⟨_,hm,rfl⟩
  generalize hq:zbk (zag r) hs=hs' at h
  have hkeys:zx hs'=zx hs:=by rw[←hq,zbs]
  cases h with
  |deep0 _ _ _ hg hs0 h0 =>
   have:hs=[]:=by cases hs with
    |nil=>rfl
    |cons q t=>obtain⟨a,b⟩:=q;simp[zbk]at hq
   subst this
   exact .deep0 p f x hg hs0 h0
  |deep _ _ _ _ b cap cells ty hg hsl hb hl hcap hh hkn ht h2 hd hty =>
   subst hq
   rw[hkeys]at hkn ht hd
   refine .deep p f x hs b cap cells ty hg hsl hb hl hcap (fun k us hm=>?_) hkn ht (fun k us hm j hj=>?_) hd hty
   ·have:=hh k _ (hmem hm);rw[za5,List.length_map]at this;exact this
   ·obtain⟨u,v,a1,a2,a3,a4⟩:=h2 k _ (hmem hm) j hj
    rw[za5,List.getElem?_map]at a1
    cases hq:us[j]? with
    |none=>rw[hq]at a1;cases a1
    |some y=>rw[hq]at a1;cases a1;exact⟨y,v,rfl,a2,a3,a4.unren y rfl (zb3 (hbl k us hm) y (List.mem_of_getElem? hq))⟩
 |box pre bs post =>
  obtain⟨hb1,hb2⟩:=hbl
  cases h with
  |box _ _ _ b cl cells ty hg hbk hl h1 h2 h3 =>
   have e1:(zag r pre).length=pre.length:=by rw[za5];simp
   have e2:(zag r post).length=post.length:=by rw[za5];simp
   rw[e1,e2]at hl
   rw[e1]at h2 h3
   refine .box pre bs post b cl cells ty hg hbk hl (fun k x v hx hv=>?_) h2 (fun k x v hx hv=>?_)
   ·exact(h1 k (x.ren r) v (by rw[za5,List.getElem?_map,hx];rfl) hv).unren x rfl (zb3 hb1 x (List.mem_of_getElem? hx))
   ·exact(h3 k (x.ren r) v (by rw[za5,List.getElem?_map,hx];rfl) hv).unren x rfl (zb3 hb2 x (List.mem_of_getElem? hx))
theorem RO.reren {r:Nat→Nat} {g2:Gam} {n m i:Nat} (hr:∀i,i<m→r i<n∧g2 (r i)=g i) (hi:i<m) {ob:O} (h:RO I g m w i ob):RO I g2 n w (r i) (ob.map (zag r)):=by
 cases h with
 |none x hg hs h0=>exact .none x (by rw[(hr i hi).2];exact hg) hs h0
 |arr x b cap cells ty hg hs hb hl hcap hh ht=>exact .arr x b cap cells ty (by rw[(hr i hi).2];exact hg) hs hb hl hcap hh ht
 |hol x hi' vs b cap cells ty hg hs hb hl hcap hhi hv hh h2 ht =>
  exact .hol x hi' _ b cap cells ty (by rw[(hr i hi).2];exact hg) hs hb hl hcap hhi (by rw[za5];simpa using hv) hh (fun j hj =>
   let ⟨u,v,a1,a2,a3,a4⟩:=h2 j hj;⟨u.ren r,v,by rw[za5,List.getElem?_map,a1];rfl,a2,a3,a4.reren hr⟩) ht
 |deep0 p f x hg hs h0=>exact .deep0 p f x (by rw[(hr i hi).2];exact hg) hs h0
 |deep p f x hs b cap cells ty hg hsl hb hl hcap hh hkn ht h2 hd hty =>
  simp only[O.map]
  refine .deep p f x _ b cap cells ty (by rw[(hr i hi).2];exact hg) hsl hb hl hcap (fun k us hm=>?_) (by rw[zbs];exact hkn) (by rw[zbs];exact ht) (fun k us hm j hj=>?_) (by rw[zbs];exact hd) hty
  ·obtain⟨vs,hm2,rfl⟩:=zg2 hm
   exact⟨(hh k vs hm2).1,by rw[za5,List.length_map];exact(hh k vs hm2).2⟩
  ·obtain⟨vs,hm2,rfl⟩:=zg2 hm
   obtain⟨u,v,a1,a2,a3,a4⟩:=h2 k vs hm2 j hj
   exact⟨u.ren r,v,by rw[za5,List.getElem?_map,a1];rfl,a2,a3,a4.reren hr⟩
 |box pre bs post b cl cells ty hg hbk hl h1 h2 h3 =>
  have e1:(zag r pre).length=pre.length:=by rw[za5];simp
  have e2:(zag r post).length=post.length:=by rw[za5];simp
  have hm:∀(xs:List V) (k:Nat) x,(zag r xs)[k]? = some x→∃y,xs[k]? = some y∧x=y.ren r:=fun xs k x hx=>by
   rw[za5,List.getElem?_map]at hx
   cases hq:xs[k]? with
   |none=>rw[hq]at hx;cases hx
   |some y=>rw[hq]at hx;cases hx;exact⟨y,rfl,rfl⟩
  refine .box _ bs _ b cl cells ty (by rw[(hr i hi).2];exact hg) hbk (by rw[e1,e2];exact hl) (fun k x v hx hv=>?_) (by rw[e1];exact h2) (fun k x v hx hv=>?_)
  ·obtain⟨y,h4,rfl⟩:=hm _ _ _ hx;exact(h1 k y v h4 hv).reren hr
  ·obtain⟨y,h4,rfl⟩:=hm _ _ _ hx;rw[e1]at hv;exact(h3 k y v h4 hv).reren hr
theorem zfx {a:Nat} {l:List Nat}:zc7 a l=true↔a∈l:=by
 induction l with
 |nil=>simp[zc7]
 |cons b t ih =>
  simp only[zc7]
  cases h:Nat.beq a b with
  |true=>have:=Nat.eq_of_beq_eq_true h;simp[this]
  |false=>have:=Nat.ne_of_beq_eq_false h;simp[ih,this]
theorem zcj {l:List Nat}:zav l=true↔l.Nodup:=by
 induction l with
 |nil=>simp[zav]
 |cons a t ih =>
  simp only[zav,List.nodup_cons]
  cases h:zc7 a t with
  |true=>have:=zfx.1 h;simp[this]
  |false =>
   have:a∉t:=fun hc=>by rw[zfx.2 hc]at h;cases h
   simp[ih,this]
theorem zh1 (rn:List Nat) (i:Nat) (h:i<rn.length):rn[i]? = some (rnf rn i):=by
 induction rn generalizing i with
 |nil=>simp at h
 |cons a t ih=>cases i with
  |zero=>rfl
  |succ i=>simpa [rnf]using ih i (by simpa using h)
theorem zvk {rn:List Nat} {i:Nat} (h:i<rn.length):rnf rn i∈rn:=List.mem_of_getElem? (zh1 rn i h)
theorem zks {rn:List Nat} (hn:rn.Nodup):∀{i j:Nat},i<rn.length→j<rn.length→rnf rn i=rnf rn j→i=j:=by
 induction rn with
 |nil=>intro i j hi;simp at hi
 |cons a t ih =>
  intro i j hi hj h
  rw[List.nodup_cons]at hn
  cases i with
  |zero=>cases j with
   |zero=>rfl
   |succ j=>exact(hn.1 (by have e:a=rnf t j:=h;rw[e];exact zvk (by simpa using hj))).elim
  |succ i=>cases j with
   |zero=>exact(hn.1 (by have e:rnf t i=a:=h;rw[←e];exact zvk (by simpa using hi))).elim
   |succ j=>rw[ih hn.2 (i:=i) (j:=j) (by simpa using hi) (by simpa using hj) h]
theorem z2m {rn:List Nat} {i:Nat} (hi:i<rn.length):rnf rn i<zcq rn:=by
 induction rn generalizing i with
 |nil=>simp at hi
 |cons a t ih=>cases i with
  |zero=>simp only[rnf,zcq];exact Nat.lt_of_lt_of_le (Nat.lt_succ_self a) (Nat.le_max_left _ _)
  |succ i=>exact Nat.lt_of_lt_of_le (ih (i:=i) (by simpa using hi)) (Nat.le_max_right _ _)
theorem zcg (hp:List (Nat×O)):zbl hp=hp.map (·.1):=by
 induction hp with
 |nil=>rfl
 |cons x t ih=>obtain⟨k,v⟩:=x;simp[zbl,ih]
theorem zl5 {r:Nat→Nat} {nx:Nat} {ks:List Nat}:∀{m:Nat},zd5 r nx ks m=true→∀i,i<m→i∈ks∨nx≤r i:=by
 intro m
 induction m with
 |zero=>intro _ i hi;omega
 |succ m ih =>
  intro h i hi
  simp only[zd5]at h
  split at h
  ·rename_i h1
   by_cases e:i=m
   ·subst e
    split at h1
    ·rename_i h2;exact .inl (zfx.1 h2)
    ·exact .inr (Nat.le_of_ble_eq_true h1)
   ·exact ih h i (by omega)
  ·cases h
theorem zrw {r:Nat→Nat} {hp hin:List (Nat×O)} (h:zhj r hp hin):∀i o,(i,o)∈hin→zq hp (r i)=some (o.map (zag r)):=by
 induction hin with
 |nil=>intro i o hm;cases hm
 |cons x t ih =>
  obtain⟨k,v⟩:=x
  intro i o hm
  rcases List.mem_cons.1 hm with hm|hm
  ·cases hm;exact h.1
  ·exact ih h.2 i o hm
theorem zun {n:Nat} {hs:List (Nat×List V)} (h:zht n hs=true):∀i us,(i,us)∈hs→zz n us=true:=by
 induction hs with
 |nil=>intro i us hm;cases hm
 |cons x t ih =>
  obtain⟨k,vs⟩:=x
  simp only[zht]at h
  split at h
  ·rename_i h1
   intro i us hm
   rcases List.mem_cons.1 hm with hm|hm
   ·cases hm;exact h1
   ·exact ih h i us hm
  ·cases h
theorem zhk {n:Nat} {hp:List (Nat×O)} (h:zba n hp=true):∀i o,(i,o)∈hp→i<n∧OLt n o:=by
 induction hp with
 |nil=>intro i o hm;cases hm
 |cons x t ih =>
  obtain⟨k,v⟩:=x
  intro i o hm
  simp only[zba]at h
  split at h
  ·rename_i h1
   have h1:=Nat.blt_eq.mp h1
   cases v with
   |arr x =>
    rcases List.mem_cons.1 hm with hm|hm
    ·cases hm;exact⟨h1,trivial⟩
    ·exact ih h i o hm
   |hol x hi vs =>
    simp only at h
    split at h
    ·rename_i h2
     rcases List.mem_cons.1 hm with hm|hm
     ·cases hm;exact⟨h1,h2⟩
     ·exact ih h i o hm
    ·cases h
   |deep p f x hs =>
    simp only at h
    split at h
    ·rename_i h2
     rcases List.mem_cons.1 hm with hm|hm
     ·cases hm;exact⟨h1,zun h2⟩
     ·exact ih h i o hm
    ·cases h
   |box pre bs post =>
    simp only at h
    split at h
    ·rename_i h2 h3
     rcases List.mem_cons.1 hm with hm|hm
     ·cases hm;exact⟨h1,h2,h3⟩
     ·exact ih h i o hm
    ·cases h
  ·cases h
theorem zk1 {hin:List (Nat×O)}:∀{hout:List (Nat×O)},za3 hin hout=true→∀i o,(i,o)∈hout→o.isBox=true→∀ob,zq hin i=some ob→ob.isBox=true:=by
 intro hout
 induction hout with
 |nil=>intro _ i o hm;cases hm
 |cons x t ih =>
  obtain⟨k,v⟩:=x
  intro h i o hm hb
  simp only[za3]at h
  rcases List.mem_cons.1 hm with hm|hm
  ·cases hm
   rw[hb]at h
   intro ob hob
   rw[hob]at h
   simp only at h
   split at h
   ·assumption
   ·cases h
  ·split at h
   ·exact ih h i o hm hb
   ·split at h
    ·split at h
     ·exact ih h i o hm hb
     ·cases h
    ·exact ih h i o hm hb
def fgs:List Nat→V→V
 |[],v=>v
 |i::t,v=>fgs t (v.forget i)
def zep (r:Nat→Nat) (hout:List (Nat×O)):List (Nat×O)→List Nat
 |[]=>[]
 |(i,o)::t=>match zeh hout i o with
  |true=>zep r hout t
  |false=>r i::zep r hout t
theorem zvx (l:List Nat):fgs l .any=.any:=by induction l with|nil=>rfl|cons a t ih=>exact ih
theorem zrg (f h:V→V) (env:List (Nat×V)):zb2 f (zb2 h env)=zb2 (fun v=>f (h v)) env:=by
 induction env with
 |nil=>rfl
 |cons x t ih=>obtain⟨k,v⟩:=x;simp[zb2,ih]
theorem zvl (env:List (Nat×V)):zb2 (fun v=>v) env=env:=by
 induction env with
 |nil=>rfl
 |cons x t ih=>obtain⟨k,v⟩:=x;simp[zb2,ih]
theorem zrx (f h:List V→List V) (hp:List (Nat×O)):za7 f (za7 h hp)=za7 (fun v=>f (h v)) hp:=by
 induction hp with
 |nil=>rfl
 |cons x t ih=>obtain⟨k,v⟩:=x;cases v<;>simp[za7,ih,O.map,zjt]
theorem zvh (hp:List (Nat×O)):za7 (fun v=>v) hp=hp:=by
 induction hp with
 |nil=>rfl
 |cons x t ih=>obtain⟨k,v⟩:=x;cases v<;>simp[za7,ih,O.map,zjt]
theorem zu1 (r:Nat→Nat) (hout hin:List (Nat×O)):∀s:S,(zax r hout hin s).env=zb2 (fgs (zep r hout hin)) s.env∧(zax r hout hin s).hp=za7 (List.map (fgs (zep r hout hin))) s.hp∧(zax r hout hin s).nt=s.nt:=by
 induction hin with
 |nil=>intro s;exact⟨(zvl _).symm,by
   show s.hp=za7 (List.map fun v=>v) s.hp
   rw[show(List.map fun v:V=>v)=fun v=>v from by funext l;simp];exact(zvh _).symm,rfl⟩
 |cons x t ih =>
  obtain⟨k,v⟩:=x
  intro s
  simp only[zax,zep]
  cases zeh hout k v with
  |true=>exact ih s
  |false =>
   simp only
   obtain⟨h1,h2,h3⟩:=ih (s.forget (r k))
   refine⟨by rw[h1];exact zrg _ _ _,?_,h3⟩
   rw[h2]
   show za7 _ (za7 (z6 (r k)) s.hp)=_
   rw[zrx]
   congr 1
   funext l
   rw[zcw,List.map_map];rfl
theorem RV.fgs {n:Nat} {g2:Gam} (l:List Nat):∀{g:Gam} {v:V} {val:Value},(∀i,i<n→i∉l→g2 i=g i)→RV I g n w v val→RV I g2 n w (fgs l v) val:=by
 induction l with
 |nil=>intro g v val hg h;exact h.mono (fun _ h=>h) (fun _ _=>rfl) (Nat.le_refl _) fun i hi=>hg i hi (by simp)
 |cons a t ih =>
  intro g v val hg h
  have h1:RV I (fun i=>if i=a then g2 i else g i) n w (v.forget a) val:=h.forget (fun i _ hne=>by simp[hne])
  exact ih (fun i hi hnt=>by
   by_cases e:i=a
   ·simp[e]
   ·simp only[e,if_false];exact hg i hi (by simp[e,hnt])) h1
theorem zwx {r:Nat→Nat} {hout hin:List (Nat×O)} {j:Nat} (h:j∈zep r hout hin):∃i ob,(i,ob)∈hin∧j=r i:=by
 induction hin with
 |nil=>cases h
 |cons y t ih =>
  obtain⟨k,v⟩:=y
  simp only[zep]at h
  cases hst:zeh hout k v with
  |true=>rw[hst]at h;obtain⟨i,x,h1,h2⟩:=ih h;exact⟨i,x,List.mem_cons_of_mem _ h1,h2⟩
  |false =>
   rw[hst]at h
   rcases List.mem_cons.1 h with h|h
   ·exact⟨k,_,List.mem_cons_self,h⟩
   ·obtain⟨i,x,h1,h2⟩:=ih h;exact⟨i,x,List.mem_cons_of_mem _ h1,h2⟩
theorem zwy {r:Nat→Nat} {hout hin:List (Nat×O)} {i:Nat} {ob:O} (hb:zeh hout i ob=false) (h:(i,ob)∈hin):r i∈zep r hout hin:=by
 induction hin with
 |nil=>cases h
 |cons y t ih =>
  obtain⟨k,v⟩:=y
  simp only[zep]
  rcases List.mem_cons.1 h with h1|h1
  ·cases h1;rw[hb];exact List.mem_cons_self
  ·have h2:=ih h1
   cases zeh hout k v with
   |true=>exact h2
   |false=>exact List.mem_cons_of_mem _ h2
theorem zy6 {hout:List (Nat×O)} {i:Nat} {ob:O} (h:zeh hout i ob=true):ob.isBox=true∧∃o',zq hout i=some o'∧o'.isBox=true:=by
 unfold zeh at h
 split at h
 ·rename_i h1
  split at h
  ·rename_i o' h2;exact⟨h1,o',h2,h⟩
  ·cases h
 ·cases h
theorem zlx {r:Nat→Nat} (hin:List (Nat×O)):∀{hp:List (Nat×O)},(hp.map (·.1)).Nodup→∀{j o'},(j,o')∈zdm r hin hp→(j,o')∈hp∧∀i o,(i,o)∈hin→j≠r i:=by
 induction hin with
 |nil=>intro hp _ j o' h;exact⟨h,fun i o hm=>by cases hm⟩
 |cons y t ih =>
  obtain⟨k,v⟩:=y
  intro hp hn j o' h
  obtain⟨h1,h2⟩:=ih (zkp hn (r k)) h
  obtain⟨h3,h4⟩:=zjz hn h1
  refine⟨h3,fun i o hm=>?_⟩
  rcases List.mem_cons.1 hm with hm|hm
  ·cases hm;exact h4
  ·exact h2 i o hm
theorem zq1 (r:Nat→Nat) (hin:List (Nat×O)):∀hp:List (Nat×O),(zdm r hin hp).Sublist hp:=by
 induction hin with
 |nil=>intro hp;exact List.Sublist.refl _
 |cons y t ih=>obtain⟨k,v⟩:=y;intro hp;exact(ih _).trans (zis _ _)
theorem zjw {r:Nat→Nat} {hout:List (Nat×O)} {j:Nat} {o':O} (h:(j,o')∈zbm r hout):∃i o,(i,o)∈hout∧j=r i∧o'=o.map (zag r):=by
 induction hout with
 |nil=>cases h
 |cons y t ih =>
  obtain⟨k,v⟩:=y
  rcases List.mem_cons.1 h with h|h
  ·cases h;exact⟨k,v,List.mem_cons_self,rfl,rfl⟩
  ·obtain⟨i,o,h1,h2⟩:=ih h;exact⟨i,o,List.mem_cons_of_mem _ h1,h2⟩
theorem zet (r:Nat→Nat) (hout:List (Nat×O)):(zbm r hout).map (·.1)=(hout.map (·.1)).map r:=by
 induction hout with
 |nil=>rfl
 |cons y t ih=>obtain⟨k,v⟩:=y;simp[zbm,ih]
end
end Go.VL
namespace Go.VL
set_option linter.unusedVariables false
set_option linter.unusedSimpArgs false
section
variable {P : Program} {T : TT} {X : Cx} {I : Nat → Prop} {g : Gam} {s : S} {a : Act} {w : World} {o : Oper} {K : S → Prop}
 {N:Act→World→Prop} {Q:Exit→Act→World→Prop}
theorem V.idsLt_mono {n:Nat} {v:V} {val:Value} (m:Nat) (h:RV I g n w v val) (hv:v.idsLt m=true):RV I g m w v val:=by
 induction h with
 |any v=>exact .any v
 |tt=>exact .tt
 |ff=>exact .ff
 |nil=>exact .nil
 |c x v h=>exact .c x v h
 |agg xs vs hl _ ih=>exact .agg xs vs hl fun i x v hx hv'=>ih i x v hx hv' (zb3 hv x (List.mem_of_getElem? hx))
 |tup xs vs hl _ ih=>exact .tup xs vs hl fun i x v hx hv'=>ih i x v hx hv' (zb3 hv x (List.mem_of_getElem? hx))
 |fn f xs vs hl _ ih=>exact .fn f xs vs hl fun i x v hx hv'=>ih i x v hx hv' (zb3 hv x (List.mem_of_getElem? hx))
 |iptr row b off val hb hc hr=>exact .iptr row b off val hb hc hr
 |ptr id i st j b cl h1 h2=>exact .ptr id i st j b cl (Nat.blt_eq.mp hv) h2
 |slc id len b cap h1 h2=>exact .slc id len b cap (Nat.blt_eq.mp hv) h2
 |slc0 id h1 h2=>exact .slc0 id (Nat.blt_eq.mp hv) h2
theorem zs1 {I':Nat→Prop} {g':Gam} {n n':Nat} {w':World} {v:V} {val:Value} (hf:v.flat=true) (h:RV I g n w v val):RV I' g' n' w' v val:=by
 cases v with
 |any=>exact .any _
 |tt=>cases h;exact .tt
 |ff=>cases h;exact .ff
 |c x =>
  cases x with
  |int k m=>rw[h.int_inv];exact RV.mkint _ _ _
  |bool b=>rw[h.bool_inv];exact RV.mkbool _ _
  |_=>cases hf
 |_=>cases hf
theorem zzp {xs:List V} (h:zsd xs=true):∀x∈xs,x.flat=true:=by
 induction xs with
 |nil=>intro x hx;cases hx
 |cons y t ih =>
  simp only[zsd]at h
  split at h
  ·rename_i h1
   intro x hx
   rcases List.mem_cons.1 hx with hx|hx
   ·rw[hx];exact h1
   ·exact ih h x hx
  ·cases h
theorem zwl {I':Nat→Prop} {g':Gam} {n n':Nat} {w':World} {v:V} {val:Value} (hf:v.scalar=true) (h:RV I g n w v val):RV I' g' n' w' v val:=by
 have go:v.flat=true→RV I' g' n' w' v val:=fun hf=>zs1 hf h
 cases v with
 |tup xs =>
  obtain⟨vs,rfl,hl,hr⟩:=h.tup_inv
  exact .tup xs vs hl fun i x v hx hv=>zs1 (zzp hf x (List.mem_of_getElem? hx)) (hr i x v hx hv)
 |_=>exact go hf
theorem Fr.trans {D D':Nat→Prop} {W w w':World} (h:Fr D W w) (h':Fr D' w w') (hD:∀b,b<W.heap.size→¬D b→¬D' b):Fr D W w' :=
 ⟨h'.os.trans h.os,h'.tape.trans h.tape,h'.output.trans h.output,Nat.le_trans h.size h'.size,fun b hb hd=>by
  rw[h'.block b (Nat.lt_of_lt_of_le hb h.size) (hD b hb hd)];exact h.block b hb hd⟩
mutual
theorem V.ren_congr {n:Nat} {r r':Nat→Nat} (hr:∀i,i<n→r i=r' i):∀v:V,v.idsLt n=true→v.ren r=v.ren r'
 |.ptr i a b c,h=>by simp only[V.idsLt]at h;simp only[V.ren];rw[hr i (by simpa using h)]
 |.slc i,h=>by simp only[V.idsLt]at h;simp only[V.ren];rw[hr i (by simpa using h)]
 |.agg xs,h=>by simp only[V.idsLt]at h;simp only[V.ren];rw[zch hr xs h]
 |.tup xs,h=>by simp only[V.idsLt]at h;simp only[V.ren];rw[zch hr xs h]
 |.fn f xs,h=>by simp only[V.idsLt]at h;simp only[V.ren];rw[zch hr xs h]
 |.any,_=>rfl
 |.tt,_=>rfl
 |.ff,_=>rfl
 |.nil,_=>rfl
 |.c _,_=>rfl
 |.iptr _,_=>rfl
theorem zch {n:Nat} {r r':Nat→Nat} (hr:∀i,i<n→r i=r' i):∀xs:List V,zz n xs=true→zag r xs=zag r' xs
 |[],_=>rfl
 |x::t,h=>by
  simp only[zz]at h
  split at h
  ·rename_i h1
   simp only[zag];rw[V.ren_congr hr x h1,zch hr t h]
  ·cases h
end
mutual
theorem V.ren_id:∀v:V,v.ren (fun i=>i)=v
 |.ptr i a b c=>rfl
 |.slc i=>rfl
 |.agg xs=>by simp only[V.ren];rw[zkz xs]
 |.tup xs=>by simp only[V.ren];rw[zkz xs]
 |.fn f xs=>by simp only[V.ren];rw[zkz xs]
 |.any=>rfl
 |.tt=>rfl
 |.ff=>rfl
 |.nil=>rfl
 |.c _=>rfl
 |.iptr _=>rfl
theorem zkz:∀xs:List V,zag (fun i=>i) xs=xs
 |[]=>rfl
 |x::t=>by simp only[zag];rw[V.ren_id x,zkz t]
end
theorem V.ren_flat {r:Nat→Nat} {v:V} (h:v.idsLt 0=true):v.ren r=v:=(V.ren_congr (n:=0) (fun _ h=>by omega) v h).trans (V.ren_id v)
theorem zeu {r:Nat→Nat} {xs:List V} (h:zz 0 xs=true):zag r xs=xs:=(zch (n:=0) (fun _ h=>by omega) xs h).trans (zkz xs)
theorem RO.flat {n id id':Nat} {z:C} (h:RO I g n w id (.arr z)) (hz:z.flatB=true) {I':Nat→Prop} {g':Gam} {n':Nat} (hg:g' id'=g id):RO I' g' n' w id' (.arr z):=by
 cases h with
 |none _ hg' hs h0=>exact .none z (hg.trans hg') hs h0
 |arr _ b cap cells ty hg' hs hb hl hcap hh =>
  refine .arr z b cap cells ty (hg.trans hg') hs hb hl hcap (fun i j y hi hy=>?_) (fun hp=>by cases z<;>simp[C.flatB,C.isPg]at hz hp)
  obtain⟨v,a1,a2⟩:=hh i j y hi hy
  refine⟨v,a1,?_⟩
  have hy':(∃k m,y=.int k m)∨∃b,y=.bool b:=by
   cases z with
   |nums k xs=>cases j with
    |zero=>simp only[C.row,List.getElem?_cons_zero,Option.some.injEq]at hy;exact .inl ⟨_,_,hy.symm⟩
    |succ j=>simp[C.row]at hy
   |bools xs=>cases j with
    |zero=>simp only[C.row,List.getElem?_cons_zero,Option.some.injEq]at hy;exact .inr ⟨_,hy.symm⟩
    |succ j=>simp[C.row]at hy
   |prs xs=>match j with
    |0=>simp only[C.row,Pr.row,List.getElem?_cons_zero,Option.some.injEq]at hy;exact .inl ⟨_,_,hy.symm⟩
    |1=>simp only[C.row,Pr.row,List.getElem?_cons_succ,List.getElem?_cons_zero,Option.some.injEq]at hy;exact .inl ⟨_,_,hy.symm⟩
    |j+2=>simp[C.row,Pr.row]at hy
   |ops xs=>match j with
    |0=>simp only[C.row,Opn.row,List.getElem?_cons_zero,Option.some.injEq]at hy;exact .inl ⟨_,_,hy.symm⟩
    |1=>simp only[C.row,Opn.row,List.getElem?_cons_succ,List.getElem?_cons_zero,Option.some.injEq]at hy;exact .inl ⟨_,_,hy.symm⟩
    |2=>simp only[C.row,Opn.row,List.getElem?_cons_succ,List.getElem?_cons_zero,Option.some.injEq]at hy;exact .inl ⟨_,_,hy.symm⟩
    |j+3=>simp[C.row,Opn.row]at hy
   |_=>cases hz
  rcases hy' with ⟨k,m,rfl⟩|⟨b,rfl⟩
  ·cases a2 with
   |int=>exact .int k m
   |empty _ _ _ hs=>cases hs
   |sl _ _ _ _ _ hs=>cases hs
  ·cases a2 with
   |bool=>exact .bool b
   |empty _ _ _ hs=>cases hs
   |sl _ _ _ _ _ hs=>cases hs
theorem zj9 (lk:Nat→Option O) (xs:List V):zbv lk xs=xs.map (V.lend lk):=by
 induction xs with
 |nil=>rfl
 |cons x t ih=>simp[zbv,ih]
theorem zn8 {lk:Nat→Option O} {xs:List V} (h:zfe lk xs=true):∀x∈xs,x.lentPg lk=true:=by
 induction xs with
 |nil=>intro x hx;cases hx
 |cons y t ih =>
  simp only[zfe]at h
  split at h
  ·rename_i h1
   intro x hx
   rcases List.mem_cons.1 hx with hx|hx
   ·rw[hx];exact h1
   ·exact ih h x hx
  ·cases h
theorem RV.lend {J:Nat→Prop} {Q:O→Prop} {n:Nat} (hh:HOk I g n w s.hp) (hI:∀b,I b→J b) (hb:∀id o y b,zq s.hp id=some o→(o=.arr y∨∃p,o=.deep p 0 y [])→Q o→Own g w id o b→J b) {z:V} {v:Value}
  (hz:(∀y,Q y)∨((∀y:C,y.isPg=true→Q (.arr y))∧z.lentPg (zq s.hp)=true)) (h:RV I g n w z v):RV J g n w (z.lend (zq s.hp)) v:=by
 have up:∀{z v},RV I g n w z v→RV J g n w z v:=fun h=>h.mono hI (fun _ _=>rfl) (Nat.le_refl _) fun _ _=>rfl
 have slc:∀id v,(∀o y,zq s.hp id=some o→(o=.arr y∨∃p,o=.deep p 0 y [])→Q o)→RV I g n w (.slc id) v→RV J g n w (V.lend (zq s.hp) (.slc id)) v:=fun id v hq h=>by
  simp only[V.lend]
  split
  ·rename_i y hl
   exact .c _ _ (RC.of_slc (hh.obj id _ (zt hl)).2 hI (fun b cl hg=>hb id _ y b hl (.inl rfl) (hq _ y hl (.inl rfl)) (.pri hg)) h)
  ·rename_i p y hl
   exact .c _ _ (RC.of_deep (hh.obj id _ (zt hl)).2 (fun b ho=>hb id _ y b hl (.inr ⟨p,rfl⟩) (hq _ y hl (.inr ⟨p,rfl⟩)) ho) h)
  ·exact up h
 have hq:∀id,((∀y,Q y)∨((∀y:C,y.isPg=true→Q (.arr y))∧V.lentPg (zq s.hp) (.slc id)=true))→∀o y,zq s.hp id=some o→(o=.arr y∨∃p,o=.deep p 0 y [])→Q o:=fun id hz o y hl ho=>by
  rcases hz with hz|⟨hz,h2⟩
  ·exact hz o
  ·rcases ho with rfl|⟨p,rfl⟩
   ·simp only[V.lentPg,hl]at h2;exact hz y h2
   ·simp only[V.lentPg,hl]at h2;cases h2
 induction h with
 |slc id len b cap hn hg=>exact slc id _ (hq id hz) (.slc id len b cap hn hg)
 |slc0 id hn hg=>exact slc id _ (hq id hz) (.slc0 id hn hg)
 |agg xs vs hl hr ih =>
  simp only[V.lend]
  refine .agg _ vs (by rw[zj9];simpa using hl) fun i x v hx hv=>?_
  rw[zj9,List.getElem?_map]at hx
  cases hq:xs[i]? with
  |none=>rw[hq]at hx;cases hx
  |some y =>
   rw[hq]at hx;cases hx
   refine ih i y v hq hv (hz.imp id fun⟨h1,h2⟩=>⟨h1,?_⟩)
   simp only[V.lentPg]at h2
   exact zn8 h2 y (List.mem_of_getElem? hq)
 |any v=>exact .any v
 |tt=>exact .tt
 |ff=>exact .ff
 |nil=>exact .nil
 |c x v h=>exact up (.c x v h)
 |tup xs vs hl hr ih=>exact up (.tup xs vs hl hr)
 |fn f xs vs hl hr ih=>exact up (.fn f xs vs hl hr)
 |iptr row b off val hb hc hr=>exact up (.iptr row b off val hb hc hr)
 |ptr id i st j b cl h1 h2=>exact up (.ptr id i st j b cl h1 h2)
theorem RVs.lend {J:Nat→Prop} {Q:O→Prop} {n:Nat} (hh:HOk I g n w s.hp) (hI:∀b,I b→J b) (hb:∀id o y b,zq s.hp id=some o→(o=.arr y∨∃p,o=.deep p 0 y [])→Q o→Own g w id o b→J b) {args:List V} {vals:List Value}
  (hz:(∀y,Q y)∨((∀y:C,y.isPg=true→Q (.arr y))∧zfe (zq s.hp) args=true)) (hlt:zz 0 (zbv (zq s.hp) args)=true) (h:RVs I g n w args vals) :
  (zbv (zq s.hp) args).length=vals.length∧∀(i:Nat) x v,(zbv (zq s.hp) args)[i]? = some x→vals[i]? = some v→RV J g 0 w x v:=by
 refine⟨by rw[zj9];simpa using h.1,fun i x v hx hv=>?_⟩
 have hid:=zb3 hlt x (List.mem_of_getElem? hx)
 rw[zj9,List.getElem?_map]at hx
 cases hq:args[i]? with
 |none=>rw[hq]at hx;cases hx
 |some y =>
  rw[hq]at hx;cases hx
  exact V.idsLt_mono 0 ((h.2 i y v hq hv).lend hh hI hb (hz.imp id fun⟨h1,h2⟩=>⟨h1,zn8 h2 y (List.mem_of_getElem? hq)⟩)) hid
theorem zqr (J:Nat→Prop):HOk J g 0 w []:=⟨fun _ _ h=>(by cases h),fun _ _ _ h=>(by cases h),by simp,fun _ _ _ _ _ h=>(by cases h)⟩
theorem St.lendScalar (h:St X I g s a w) {f:Nat} {args:List V} {vals:List Value} {res:V} (hsc:res.scalar=true) (hid:zz 0 (zbv (zq s.hp) args)=true) (hspec:zr P f 0 (zbv (zq s.hp) args) [] 0 res [])
  (hargs:RVs I g s.nx w args vals):Calls P f vals.toArray w fun e w'=>∃v,e=.returned v∧St X I g s a w'∧RV I g s.nx w' res v:=by
 obtain⟨l1,l2⟩:=hargs.lend (J:=fun b=>b<w.heap.size) (Q:=fun _=>True) h.heap h.bound (fun id o y b hl _ _ hg=>(h.heap.apart id _ b (zt hl) hg).2) (.inl fun _=>trivial) hid
 refine(hspec.2 w (fun b=>b<w.heap.size) g _ (fun _ h=>h) (zqr _) l1 l2).mono fun e w' he=>?_
 obtain⟨v,I',g',rfl,_,_,_,_,hres,_,_,hfr⟩:=he
 exact⟨v,rfl,h.world hfr.os hfr.tape hfr.output hfr.size fun b hb=>hfr.block b hb fun⟨_,_,hm,_⟩=>(by cases hm),zwl hsc hres⟩
theorem zxt {xs:List V} (h:zk3 xs=true):∀x∈xs,x.flat1=true:=by
 induction xs with
 |nil=>intro x hx;cases hx
 |cons y t ih =>
  simp only[zk3]at h
  split at h
  ·rename_i h1
   intro x hx
   rcases List.mem_cons.1 hx with hx|hx
   ·rw[hx];exact h1
   ·exact ih h x hx
  ·cases h
theorem zq6 {I2:Nat→Prop} {g2:Gam} {n2 n:Nat} {r:Nat→Nat} {w':World} (hk:∀i,i<n→r i<n2∧g2 (r i)=g i) {v:V} {val:Value} (h:RV I g n w v val):v.flat1=true→RV I2 g2 n2 w' (v.ren r) val:=by
 have mapped:∀(xs:List V) (vs:List Value),(∀(i:Nat) y v,xs[i]? = some y→vs[i]? = some v→y.flat1=true→RV I2 g2 n2 w' (y.ren r) v)→zk3 xs=true →
   ∀(i:Nat) y v,(zag r xs)[i]? = some y→vs[i]? = some v→RV I2 g2 n2 w' y v:=by
  intro xs vs ih hf i y v hy hv
  rw[za5,List.getElem?_map]at hy
  cases hq:xs[i]? with
  |none=>rw[hq]at hy;cases hy
  |some z=>rw[hq]at hy;cases hy;exact ih i z v hq hv (zxt hf z (List.mem_of_getElem? hq))
 induction h with
 |any v=>intro _;exact .any v
 |tt=>intro _;exact .tt
 |ff=>intro _;exact .ff
 |nil=>intro _;exact .nil
 |c x v h =>
  intro hf
  cases h with
  |int k m=>exact RV.mkint _ _ _
  |bool b=>exact RV.mkbool _ _
  |empty _ a cap hs h0=>cases x<;>simp[C.isSl,V.flat1]at hs hf
  |sl _ b off cap val hs=>cases x<;>simp[C.isSl,V.flat1]at hs hf
 |agg xs vs hl hr ih=>intro hf;exact .agg _ vs (by rw[za5];simpa using hl) (mapped xs vs ih hf)
 |tup xs vs hl hr ih=>intro hf;exact .tup _ vs (by rw[za5];simpa using hl) (mapped xs vs ih hf)
 |fn f xs vs hl hr ih=>intro hf;cases hf
 |iptr row b off val hb hc hr=>intro hf;cases hf
 |ptr id i st j b cl h1 h2=>intro _;exact .ptr _ i st j b cl (hk id h1).1 (by rw[(hk id h1).2];exact h2)
 |slc id len b cap h1 h2=>intro _;exact .slc _ len b cap (hk id h1).1 (by rw[(hk id h1).2];exact h2)
 |slc0 id h1 h2=>intro _;exact .slc0 _ (hk id h1).1 (by rw[(hk id h1).2];exact h2)
theorem RO.deep_move {n n' id id' f:Nat} {pn:Bool} {x:C} {I':Nat→Prop} {g':Gam} (h:RO I g n w id (.deep pn f x [])) (hg:g' id'=g id):RO I' g' n' w id' (.deep pn f x []):=by
 cases h with
 |deep0 _ _ _ hg' hs h0=>exact .deep0 _ _ _ (hg.trans hg') hs h0
 |deep _ _ _ _ b cap cells ty hg' hsl hb hl hcap hh hkn ht h2 hd hty=>exact .deep _ _ _ _ b cap cells ty (hg.trans hg') hsl hb hl hcap (fun i us hm=>by cases hm) hkn ht (fun i us hm=>by cases hm) hd hty
theorem St.adopt (h:St X I g s a w) {m:Nat} {hout:List (Nat×O)} {I2:Nat→Prop} {g':Gam} {n0:Nat} (hI:∀b,I b→I2 b) (hI2:∀b,I2 b→I b∨n0≤b) (hI2b:∀b,I2 b→b<w.heap.size) (hob:∀i o' b,(i,o')∈s.hp→Own g w i o' b→b<n0) (hW:X.W.heap.size≤n0)
  (hlt:∀i ob,(i,ob)∈hout→i<m) (hnd:(hout.map (·.1)).Nodup) (hnew:∀i ob b,(i,ob)∈hout→Own g' w i ob b→n0≤b∧b<w.heap.size∧¬I2 b) (hinj:∀i ob i' ob' b,(i,ob)∈hout→(i',ob')∈hout→Own g' w i ob b→Own g' w i' ob' b→i=i')
  (hpure:∀i ob,(i,ob)∈hout→ob.map (zag fun i=>s.nx+i)=ob) (hro:∀i ob,(i,ob)∈hout→∀gg:Gam,gg (s.nx+i)=g' i→RO I2 gg (s.nx+m) w (s.nx+i) ob) :
  ∃g2,(∀i,g2 (s.nx+i)=g' i)∧St X I2 g2 {s with nx:=s.nx+m,hp:=zbm (fun i=>s.nx+i) hout++s.hp} a w:=by
 obtain⟨g2,hgn,hg⟩:∃g2:Gam,(∀i,g2 (s.nx+i)=g' i)∧∀id,id<s.nx→g2 id=g id :=
  ⟨fun i=>if i<s.nx then g i else g' (i-s.nx),fun i=>by
   show(if s.nx+i<s.nx then g (s.nx+i)else g' (s.nx+i-s.nx))=g' i
   rw[if_neg (by omega),Nat.add_sub_cancel_left],fun id hid=>by simp[hid]⟩
 refine⟨g2,hgn,?_⟩
 have hid:∀id o,(id,o)∈s.hp→id<s.nx:=fun id o hm=>(h.heap.obj id o hm).1
 have hgo:∀id o,(id,o)∈s.hp→g2 id=g id:=fun id o hm=>hg id (hid id o hm)
 have hmem:∀{j o'},(j,o')∈zbm (fun i=>s.nx+i) hout++s.hp→(∃i,(i,o')∈hout∧j=s.nx+i)∨(j,o')∈s.hp:=fun {j o'} hm=>by
  rcases List.mem_append.1 hm with hm|hm
  ·obtain⟨i,o,h1,h2,h3⟩:=zjw hm
   rw[hpure i o h1]at h3
   exact .inl ⟨i,h3▸h1,h2⟩
  ·exact .inr hm
 have hold:∀{id o b},(id,o)∈s.hp→Own g2 w id o b→Own g w id o b:=fun {id o b} hm ho=>ho.congr (hgo id o hm) fun _ _ _=>rfl
 have hfre:∀{i o b},Own g2 w (s.nx+i) o b→Own g' w i o b:=fun {i o b} ho=>ho.congr (hgn i) fun _ _ _=>rfl
 refine⟨h.df,h.sz,fun j=>(h.slots j).mono hI (fun b hI=>rfl) (by simp) hg,⟨?_,?_,?_,?_⟩,hI2b,fun b hb=>hI b (h.up b hb),?_,?_,?_,h.fr,fun id hid=>by have:=h.low id hid;simp;omega⟩
 ·intro id o' hm
  rcases hmem hm with ⟨i,hm2,rfl⟩|hm
  ·exact⟨by have:=hlt i o' hm2;simp;omega,hro i o' hm2 g2 (hgn i)⟩
  ·refine⟨by have:=hid id o' hm;simp;omega,?_⟩
   exact(h.heap.obj id o' hm).2.mono hI (fun b hI=>rfl) (by simp) hg (hid id o' hm) fun b hgb=>rfl
 ·intro id o' b hm hgb
  rcases hmem hm with ⟨i,hm2,rfl⟩|hm
  ·have:=hnew i o' b hm2 (hfre hgb);exact⟨this.2.2,this.2.1⟩
  ·obtain⟨h1,h2⟩:=h.heap.apart id o' b hm (hold hm hgb)
   refine⟨fun hc=>?_,h2⟩
   rcases hI2 b hc with hc|hc
   ·exact h1 hc
   ·have:=hob id o' b hm (hold hm hgb);omega
 ·show(List.map _ (zbm _ hout++s.hp)).Nodup
  rw[List.map_append,zet,List.nodup_append]
  refine⟨?_,h.heap.nodup,fun a ha b hb=>?_⟩
  ·have:∀l:List Nat,l.Nodup→(l.map fun i=>s.nx+i).Nodup:=by
    intro l
    induction l with
    |nil=>intro _;simp
    |cons a t ih =>
     intro hn
     rw[List.nodup_cons]at hn
     rw[List.map_cons,List.nodup_cons]
     refine⟨fun hc=>?_,ih hn.2⟩
     obtain⟨k,hk,he⟩:=List.mem_map.1 hc
     have:k=a:=by omega
     exact hn.1 (this▸hk)
   exact this _ hnd
  ·obtain⟨i,_,rfl⟩:=List.mem_map.1 ha
   obtain⟨⟨k,o⟩,hk,rfl⟩:=List.mem_map.1 hb
   have:=hid k o hk
   simp only
   omega
 ·intro id o1 id' o2 b hm hm' hgb hgb'
  rcases hmem hm with ⟨i,hm2,rfl⟩|hm<;>rcases hmem hm' with ⟨i',hm2',rfl⟩|hm'
  ·rw[hinj i o1 i' o2 b hm2 hm2' (hfre hgb) (hfre hgb')]
  ·have:=hnew i o1 b hm2 (hfre hgb)
   have:=hob _ _ b hm' (hold hm' hgb')
   omega
  ·have:=hnew i' o2 b hm2' (hfre hgb')
   have:=hob _ _ b hm (hold hm hgb)
   omega
  ·exact h.heap.inj id o1 id' o2 b hm hm' (hold hm hgb) (hold hm' hgb')
 ·intro b hb
  rcases hI2 b hb with hb|hb
  ·exact h.down b hb
  ·exact .inr (.inl (by omega))
 ·rintro b ⟨id,o',hm,hgb⟩
  rcases hmem hm with ⟨i,hm2,rfl⟩|hm
  ·have:=hnew i o' b hm2 (hfre hgb);exact .inl (by omega)
  ·exact h.own b ⟨id,o',hm,hold hm hgb⟩
 ·intro id o' hm hbx hK0
  rcases hmem hm with ⟨i,hm2,rfl⟩|hm
  ·have:=h.low _ hK0;omega
  ·rw[hgo _ _ hm];exact h.keep id o' hm hbx hK0
theorem RO.pgs {n id id':Nat} {z:C} (h:RO I g n w id (.arr z)) (hz:z.isPg=true) {I2:Nat→Prop} (hI:∀b,I b→I2 b∨∃(cells:List Value) (ty:TypeId),w.heap[b]? = some (.cells cells.toArray ty (0,0))∧∀v∈cells,zc5 v) {g':Gam} {n':Nat}
  (hg:g' id'=g id):RO I2 g' n' w id' (.arr z):=by
 cases h with
 |none _ hg' hs h0=>exact .none z (hg.trans hg') hs h0
 |arr _ b cap cells ty hg' hs hb hl hcap hh ht =>
  refine .arr z b cap cells ty (hg.trans hg') hs hb hl hcap (fun i j y hi hy=>?_) ht
  obtain⟨v,a1,a2⟩:=hh i j y hi hy
  refine⟨v,a1,?_⟩
  obtain⟨ys,rfl⟩:∃ys,y=.nums .i64 ys:=by
   cases z with
   |pgs xs =>
    match j with
    |0=>simp only[C.row,Pg.row,List.getElem?_cons_zero,Option.some.injEq]at hy;exact⟨_,hy.symm⟩
    |1=>simp only[C.row,Pg.row,List.getElem?_cons_succ,List.getElem?_cons_zero,Option.some.injEq]at hy;exact⟨_,hy.symm⟩
    |2=>simp only[C.row,Pg.row,List.getElem?_cons_succ,List.getElem?_cons_zero,Option.some.injEq]at hy;exact⟨_,hy.symm⟩
    |j+3=>simp[C.row,Pg.row]at hy
   |_=>cases hz
  cases a2 with
  |empty _ a cap hs h0=>exact .empty _ a cap hs h0
  |sl _ b' off cap val hs hIb hcap hc hr =>
   cases ys with
   |nil=>exact .empty _ _ _ rfl rfl
   |cons y0 ys =>
    have h00:=hc 0 0 (.int .i64 y0) (by simp[C.len]) (by simp[C.row])
    have hv0:val 0 0=.int .i64 y0:=by
     have:=hr 0 0 (.int .i64 y0) (by simp[C.len]) (by simp[C.row])
     generalize val 0 0=q at this
     cases this with
     |int=>rfl
     |empty _ _ _ hs=>cases hs
     |sl _ _ _ _ _ hs=>cases hs
    rcases hI b' hIb with h2|⟨cells',ty',h2,h3⟩
    ·refine .sl _ b' off cap val hs h2 hcap hc fun i j x hi hx=>?_
     have hx':∃m,x=.int .i64 m:=by
      cases j with
      |zero=>simp only[C.row,List.getElem?_cons_zero,Option.some.injEq]at hx;exact⟨_,hx.symm⟩
      |succ j=>simp[C.row]at hx
     obtain⟨m,rfl⟩:=hx'
     have:=hr i j _ hi hx
     generalize val i j=q at this
     cases this with
     |int=>exact .int _ _
     |empty _ _ _ hs=>cases hs
     |sl _ _ _ _ _ hs=>cases hs
    ·rw[hv0,cell_of_row w b' _ cells'.toArray ty' (0,0) h2]at h00
     simp only[List.getElem?_toArray]at h00
     obtain⟨_,_,_,hc⟩:=h3 _ (List.mem_of_getElem? h00)
     cases hc
theorem zzz {lk:Nat→Option O} {args:List V} {hout:List (Nat×O)} (h:zfn lk args hout=true):∀i ob,(i,ob)∈hout→(∃z,ob=.arr z∧zi2 z lk args=true)∨∃p f x,ob=.deep p f x []:=by
 induction hout with
 |nil=>intro i ob hm;cases hm
 |cons y t ih =>
  obtain⟨k,v⟩:=y
  intro i ob hm
  simp only[zfn]at h
  split at h
  ·rename_i z
   split at h
   ·rename_i h1
    rcases List.mem_cons.1 hm with hm|hm
    ·cases hm;exact .inl ⟨z,rfl,h1⟩
    ·exact ih h i ob hm
   ·cases h
  ·rename_i p f x
   rcases List.mem_cons.1 hm with hm|hm
   ·cases hm;exact .inr ⟨p,f,x,rfl⟩
   ·exact ih h i ob hm
  ·cases h
theorem St.lendNew (h:St X I g s a w) {f m:Nat} {args:List V} {vals:List Value} {hout:List (Nat×O)} {st:V} (hok:zfn (zq s.hp) args hout=true) (hf:st.flat1=true)
  (hid:zz 0 (zbv (zq s.hp) args)=true) (hspec:zr P f 0 (zbv (zq s.hp) args) [] m st hout) (hargs:RVs I g s.nx w args vals) :
  Calls P f vals.toArray w fun e w'=>∃v I2 g2,e=.returned v∧St X I2 g2 {s with nx:=s.nx+m,hp:=zbm (fun i=>s.nx+i) hout++s.hp} a w'∧RV I2 g2 (s.nx+m) w' (st.ren fun i=>s.nx+i) v:=by
 have hobj:∀i o' b,(i,o')∈s.hp→Own g w i o' b→b<w.heap.size:=fun i o' b hm hg=>(h.heap.apart i o' b hm hg).2
 have hoks:=zzz hok
 have hpure:∀i ob,(i,ob)∈hout→ob.map (zag fun i=>s.nx+i)=ob:=fun i ob hm=>by
  rcases hoks i ob hm with ⟨z,rfl,_⟩|⟨p,q,x,rfl⟩<;>rfl
 have hnoD:∀b,¬Dom g w ([]:List (Nat×O)) b:=fun b ⟨_,_,hm,_⟩=>by cases hm
 by_cases hlp:zfe (zq s.hp) args=true
 ·let LB:Nat→Prop:=fun b=>∃id y cl,zq s.hp id=some (.arr y)∧y.isPg=true∧g id=some (b,cl)
  have hLB:∀b,LB b→b<w.heap.size∧¬I b:=fun b ⟨id,y,cl,hl,_,hg⟩=>⟨hobj id _ b (zt hl) (.pri hg),(h.heap.apart id _ b (zt hl) (.pri hg)).1⟩
  obtain⟨l1,l2⟩:=hargs.lend (J:=fun b=>I b∨LB b) (Q:=fun o=>∃y,o=.arr y∧y.isPg=true) h.heap (fun _ h=>.inl h) (fun id o y b hl _ ⟨y',e,hy⟩ hg=>by
   subst e
   obtain⟨cl,hg⟩:=hg.nd (fun _ _ _ _ e=>by cases e)
   exact .inr ⟨id,y',cl,hl,hy,hg⟩) (.inr ⟨fun y h=>⟨y,rfl,h⟩,hlp⟩) hid
  refine(hspec.2 w (fun b=>I b∨LB b) g _ (fun b hb=>hb.elim (h.bound b) fun hb=>(hLB b hb).1) (zqr _) l1 l2).mono fun e w' he=>?_
  obtain⟨v,I',g',rfl,hI1,hI2,hI3,hH,hres,_,hown,hfr⟩:=he
  have hst1:St X I g s a w':=h.world hfr.os hfr.tape hfr.output hfr.size fun b hb=>hfr.block b hb (hnoD b)
  obtain⟨g2,hg2,hst2⟩:=hst1.adopt (m:=m) (hout:=hout) (I2:=fun b=>I' b∧¬LB b) (g':=g') (n0:=w.heap.size) (fun b hb=>⟨hI1 b (.inl hb),fun hc=>(hLB b hc).2 hb⟩) (fun b hb=>by
    rcases hI2 b hb.1 with (h1|h1)|h1|h1
    ·exact .inl h1
    ·exact absurd h1 hb.2
    ·exact .inr h1
    ·exact absurd h1 (hnoD b)) (fun b hb=>hI3 b hb.1) (fun i o' b hm hg=>hobj i o' b hm (hg.congr rfl fun b cl hgb=>hfr.block b (hobj i o' b hm (.pri hgb)) (hnoD b))) h.fr.size (fun i ob hm=>(hH.obj i ob hm).1) hH.nodup (fun i ob b hm hg=>by
   have h1:=hH.apart i ob b hm hg
   refine⟨?_,h1.2,fun hc=>h1.1 hc.1⟩
   rcases hown b ⟨i,ob,hm,hg⟩with h2|h2
   ·exact h2
   ·exact absurd h2 (hnoD b)) hH.inj hpure (fun i ob hm gg hgg=>by
   have hro:=(hH.obj i ob hm).2
   rcases hoks i ob hm with ⟨z,rfl,hz⟩|⟨p,q,x,rfl⟩
   ·unfold zi2 at hz
    split at hz
    ·rename_i hzf;exact hro.flat hzf hgg
    ·split at hz
     ·rename_i hzp
      refine hro.pgs hzp (fun b hb=>?_) hgg
      by_cases hc:LB b
      ·right
       have hlt:=(hLB b hc).1
       obtain⟨id,y,cl,hl,hy,hg⟩:=hc
       have hro:=(h.heap.obj id _ (zt hl)).2
       cases hro with
       |none _ hg'=>rw[hg]at hg';cases hg'
       |arr _ b' cap cells ty hg' hs hb' hl' hcap hh ht =>
        rw[hg]at hg';cases hg'
        exact⟨cells,ty,by rw[hfr.block b hlt (hnoD b)];exact hb',ht hy⟩
      ·exact .inl ⟨hb,hc⟩
     ·cases hz
   ·exact hro.deep_move hgg)
  exact⟨v,_,g2,rfl,hst2,zq6 (fun i hi=>⟨by omega,hg2 i⟩) hres hf⟩
 ·obtain⟨l1,l2⟩:=hargs.lend (J:=fun b=>b<w.heap.size) (Q:=fun _=>True) h.heap h.bound (fun id o y b hl _ _ hg=>(h.heap.apart id _ b (zt hl) hg).2) (.inl fun _=>trivial) hid
  refine(hspec.2 w (fun b=>b<w.heap.size) g _ (fun _ h=>h) (zqr _) l1 l2).mono fun e w' he=>?_
  obtain⟨v,I',g',rfl,hI1,hI2,hI3,hH,hres,_,hown,hfr⟩:=he
  have hst1:St X I g s a w':=h.world hfr.os hfr.tape hfr.output hfr.size fun b hb=>hfr.block b hb (hnoD b)
  obtain⟨g2,hg2,hst2⟩:=hst1.adopt (m:=m) (hout:=hout) (I2:=I) (g':=g') (n0:=w.heap.size) (fun _ h=>h) (fun _ h=>.inl h) hst1.bound (fun i o' b hm hg=>hobj i o' b hm (hg.congr rfl fun b cl hgb=>hfr.block b (hobj i o' b hm (.pri hgb)) (hnoD b))) h.fr.size
   (fun i ob hm=>(hH.obj i ob hm).1) hH.nodup (fun i ob b hm hg=>by
   have:=hH.apart i ob b hm hg
   have hge:w.heap.size≤b:=by
    rcases Nat.lt_or_ge b w.heap.size with c|c
    ·exact absurd (hI1 b c) this.1
    ·exact c
   exact⟨hge,this.2,fun hc=>by have:=h.bound b hc;omega⟩) hH.inj hpure (fun i ob hm gg hgg=>by
   have hro:=(hH.obj i ob hm).2
   rcases hoks i ob hm with ⟨z,rfl,hz⟩|⟨p,q,x,rfl⟩
   ·unfold zi2 at hz
    split at hz
    ·rename_i hzf;exact hro.flat hzf hgg
    ·split at hz
     ·exact absurd hz hlp
     ·cases hz
   ·exact hro.deep_move hgg)
  exact⟨v,I,g2,rfl,hst2,zq6 (fun i hi=>⟨by omega,hg2 i⟩) hres hf⟩
theorem zta {c:Call} {f:Nat} {caps:List Value} (ho:o.op=.call c) {x:Operand} (hc:c.callee=.value x) (hx:a.eval x=.func (.func f) #[] caps.toArray) (hcall:zhw P f) :
  (execOp a.eval o).run P w=.ok (.enter f ((c.args.toList.map a.eval)++caps).toArray) w:=by
 obtain⟨fn,hf,hn,hb⟩:=hcall
 have h1 : fn.name ≠ "runtime.NumGoroutine" := by simpa using hn
 have hb':fn.body≠none:=fun e=>by rw[e]at hb;cases hb
 simp[execOp,ho,resolve,hc,hx,Deferred.ofValue,invoke,callFunc,hf,h1,hb']
theorem zs0 (env:List (Nat×V)) (l:List Operand):evs env l=l.map (evl env):=by
 induction l with
 |nil=>rfl
 |cons x t ih=>simp[evs,ih]
theorem St.evals' (h:St X I g s a w) (l:List Operand):RVs I g s.nx w (evs s.env l) (l.map a.eval):=by
 rw[zs0]
 refine⟨by simp,fun i x v hx hv=>?_⟩
 simp only[List.getElem?_map]at hx hv
 cases hq:l[i]? with
 |none=>rw[hq]at hx;cases hx
 |some p=>rw[hq]at hx hv;cases hx;cases hv;exact h.eval p
theorem RVs.append {n:Nat} {xs ys:List V} {vs us:List Value} (h:RVs I g n w xs vs) (k:RVs I g n w ys us):RVs I g n w (xs++ys) (vs++us):=by
 refine⟨by simp[h.1,k.1],fun i x v hx hv=>?_⟩
 by_cases c:i<xs.length
 ·rw[List.getElem?_append_left c]at hx
  rw[List.getElem?_append_left (by rw[←h.1];exact c)]at hv
  exact h.2 i x v hx hv
 ·rw[List.getElem?_append_right (by omega)]at hx
  rw[List.getElem?_append_right (by have:=h.1;omega),←h.1]at hv
  exact k.2 _ x v hx hv
theorem St.calledPre (h:St X I g s a w) {n:Nat} {fargs:List V} {hin:List (Nat×O)} {rn:List Nat} {vals:List Value}
  (hargs:RVs I g s.nx w (zag (rnf rn) fargs) vals) (hlt:zz n fargs=true) (hltH:zba n hin=true) (hhas:zhj (rnf rn) s.hp hin) (hnd:zav rn=true)
  (hn:n≤rn.length) (hkn:zav (zbl hin)=true) :
  HOk I (fun i=>g (rnf rn i)) n w hin∧fargs.length=vals.length∧∀(i:Nat) x v,fargs[i]? = some x→vals[i]? = some v→RV I (fun i=>g (rnf rn i)) n w x v:=by
 have hnd':=zcj.1 hnd
 have hkn':=zcj.1 hkn
 rw[zcg]at hkn'
 have hlk:=zrw hhas
 have hidl:=zhk hltH
 have hmemc:∀i o,(i,o)∈hin→(rnf rn i,o.map (zag (rnf rn)))∈s.hp:=fun i o hm=>zt (hlk i o hm)
 have hcal:∀i o b,Own (fun i=>g (rnf rn i)) w i o b→Own g w (rnf rn i) (o.map (zag (rnf rn))) b:=fun i o b ho=>by
  rcases ho with ⟨cl,ho⟩|ho
  ·exact .inl ⟨cl,ho⟩
  ·refine .inr ?_
   cases o with
   |deep p f x hs=>simpa only[Nst,O.map,zbs]using ho
   |_=>exact ho.elim
 have hcalH:HOk I (fun i=>g (rnf rn i)) n w hin:=by
  refine⟨fun i o hmi=>⟨(hidl i o hmi).1,?_⟩,fun i o b hmi hg=>h.heap.apart _ _ b (hmemc i o hmi) (hcal i o b hg),hkn',fun i o i' o' b h1 h2 g1 g2=>?_⟩
  ·exact(h.heap.obj _ _ (hmemc i o hmi)).2.unren (hidl i o hmi).2
  ·exact zks hnd' (Nat.lt_of_lt_of_le (hidl i o h1).1 hn) (Nat.lt_of_lt_of_le (hidl i' o' h2).1 hn) (h.heap.inj _ _ _ _ b (hmemc i o h1) (hmemc i' o' h2) (hcal i o b g1) (hcal i' o' b g2))
 exact⟨hcalH,(by have:=hargs.1;rwa [za5,List.length_map]at this),fun i x v hx hv=>(hargs.2 i (x.ren (rnf rn)) v (by rw[za5,List.getElem?_map,hx];rfl) hv).unren x rfl (zb3 hlt x (List.mem_of_getElem? hx))⟩
theorem St.calledPost (h:St X I g s a w) {n m:Nat} {hin hout:List (Nat×O)} {res:V} {rn:List Nat} {e:Ending} {w':World}
  (hltH:zba n hin=true) (hhas:zhj (rnf rn) s.hp hin) (hnd:zav rn=true)
  (hn:n≤rn.length) (hm:m≤rn.length) (hnew:zd5 (rnf rn) s.nx (zbl hin) m=true) (hbs2:za3 hin hout=true) (hkn:zav (zbl hin)=true)
  (hcalH:HOk I (fun i=>g (rnf rn i)) n w hin) (he:zte w I (fun i=>g (rnf rn i)) hin m res hout e w') :
  ∃v I' g',e=.returned v∧RV I' g' (Nat.max s.nx (zcq rn)) w' (res.ren (rnf rn)) v ∧
   St X I' g' {zax (rnf rn) hout hin s with nx:=Nat.max s.nx (zcq rn),hp:=zbm (rnf rn) hout++zdm (rnf rn) hin (zax (rnf rn) hout hin s).hp} a w':=by
 have hnd':=zcj.1 hnd
 have hkn':=zcj.1 hkn
 rw[zcg]at hkn'
 have hlk:=zrw hhas
 have hidl:=zhk hltH
 have hmemc:∀i o,(i,o)∈hin→(rnf rn i,o.map (zag (rnf rn)))∈s.hp:=fun i o hm=>zt (hlk i o hm)
 have hcal:∀i o b,Own (fun i=>g (rnf rn i)) w i o b→Own g w (rnf rn i) (o.map (zag (rnf rn))) b:=fun i o b ho=>by
  rcases ho with ⟨cl,ho⟩|ho
  ·exact .inl ⟨cl,ho⟩
  ·refine .inr ?_
   cases o with
   |deep p f x hs=>simpa only[Nst,O.map,zbs]using ho
   |_=>exact ho.elim
 obtain⟨v,I',g',rfl,hI1,hI2,hI3,hH,hres,hbox,hown,hfr⟩:=he
 obtain⟨g2,hg2a,hg2b⟩:∃g2:Gam,(∀i,i<m→g2 (rnf rn i)=g' i)∧∀j,(∀i,i<m→rnf rn i≠j)→g2 j=g j:=by
  refine⟨fun j=>if hj:∃i,i<m∧rnf rn i=j then g' hj.choose else g j,fun i hi=>?_,fun j hj=>?_⟩
  ·have hex:∃k,k<m∧rnf rn k=rnf rn i:=⟨i,hi,rfl⟩
   simp only[hex,dif_pos]
   rw[zks hnd' (Nat.lt_of_lt_of_le hex.choose_spec.1 hm) (Nat.lt_of_lt_of_le hi hm) hex.choose_spec.2]
  ·show(if hj:∃i,i<m∧rnf rn i=j then g' hj.choose else g j)=g j
   rw[dif_neg];rintro⟨i,hi,he⟩;exact hj i hi he
 have hDom:∀b,Dom (fun i=>g (rnf rn i)) w hin b→Dom g w s.hp b:=fun b ⟨i,o,hm,hg⟩=>⟨_,_,hmemc i o hm,hcal i o b hg⟩
 have hnotI:∀b,Dom (fun i=>g (rnf rn i)) w hin b→¬I b:=fun b hb=>let ⟨id,o,hm,hg⟩:=hDom b hb;(h.heap.apart id o b hm hg).1
 have hwI:∀b,I b→w'.heap[b]? = w.heap[b]?:=fun b hb=>hfr.block b (h.bound b hb) fun hd=>hnotI b hd hb
 have hnx:s.nx≤Nat.max s.nx (zcq rn):=Nat.le_max_left _ _
 have hgold:∀j,j<s.nx→j∉zep (rnf rn) hout hin→g2 j=g j:=fun j hj hna=>by
  by_cases hex:∃i,i<m∧rnf rn i=j
  ·obtain⟨i,hi,rfl⟩:=hex
   rcases zl5 hnew i hi with h1|h1
   ·rw[zcg]at h1
    obtain⟨⟨k,ob⟩,hk,rfl⟩:=List.mem_map.1 h1
    cases hst:zeh hout k ob with
    |false=>exact(hna (zwy hst hk)).elim
    |true =>
     obtain⟨_,o',hl,hb'⟩:=zy6 hst
     rw[hg2a k hi]
     exact hbox k _ _ hk (zt hl) hb'
   ·omega
  ·exact hg2b j fun i hi he=>hex ⟨i,hi,he⟩
 have hold:∀v val,RV I g s.nx w v val→RV I' g2 (Nat.max s.nx (zcq rn)) w' (fgs (zep (rnf rn) hout hin) v) val:=fun v val hv =>
  ((hv.mono hI1 hwI (Nat.le_refl _) (fun _ _=>rfl)).fgs _ hgold).mono (fun _ h=>h) (fun _ _=>rfl) hnx fun _ _=>rfl
 obtain⟨hfe,hfh,hfn⟩:=zu1 (rnf rn) hout hin s
 have hre:∀i,i<m→rnf rn i<Nat.max s.nx (zcq rn)∧g2 (rnf rn i)=g' i:=fun i hi=>⟨Nat.lt_of_lt_of_le (z2m (Nat.lt_of_lt_of_le hi hm)) (Nat.le_max_right _ _),hg2a i hi⟩
 refine⟨v,I',g2,rfl,hres.reren hre,?_⟩
 have hndf:((zax (rnf rn) hout hin s).hp.map (·.1)).Nodup:=by rw[hfh,zif];exact h.heap.nodup
 have hmem:∀j o',(j,o')∈zbm (rnf rn) hout++zdm (rnf rn) hin (zax (rnf rn) hout hin s).hp →
   (∃i o,(i,o)∈hout∧j=rnf rn i∧o'=o.map (zag (rnf rn)))∨(∃o,(j,o)∈s.hp∧o'=o.map (List.map (fgs (zep (rnf rn) hout hin)))∧∀i o,(i,o)∈hin→j≠rnf rn i):=fun j o' hmj=>by
  rcases List.mem_append.1 hmj with h1|h1
  ·exact .inl (zjw h1)
  ·obtain⟨h2,h3⟩:=zlx hin hndf h1
   rw[hfh]at h2
   obtain⟨o,h4,h5⟩:=zjp h2
   exact .inr ⟨o,h4,h5,h3⟩
 have hlt':∀i o,(i,o)∈hout→i<m:=fun i o hmi=>(hH.obj i o hmi).1
 have hrest:∀j o,(j,o)∈s.hp→(∀i o,(i,o)∈hin→j≠rnf rn i)→g2 j=g j:=fun j o hmj hne=>hgold j (h.heap.obj j o hmj).1 fun hc=>by
  obtain⟨i,x,h1,h2⟩:=zwx hc;exact hne i _ h1 h2
 have hrestD:∀j o b,(j,o)∈s.hp→(∀i o,(i,o)∈hin→j≠rnf rn i)→Own g w j o b→¬Dom (fun i=>g (rnf rn i)) w hin b:=fun j o b hmj hne hg ⟨i,o',hmi,hgi⟩ =>
  hne i o' hmi (h.heap.inj _ _ _ _ b hmj (hmemc i o' hmi) hg (hcal i o' b hgi))
 have hrestW:∀j o b,(j,o)∈s.hp→(∀i o,(i,o)∈hin→j≠rnf rn i)→Own g w j o b→w'.heap[b]? = w.heap[b]?:=fun j o b hmj hne hg=>hfr.block b (h.heap.apart j o b hmj hg).2 (hrestD j o b hmj hne hg)
 have hrestO:∀j o b fl,(j,o)∈s.hp→(∀i o,(i,o)∈hin→j≠rnf rn i)→Own g2 w' j (o.map fl) b→Own g w j o b:=fun j o b fl hmj hne hg=>hg.map.congr (hrest j o hmj hne) fun b cl hgb=>hrestW j o b hmj hne (.pri hgb)
 have hnewO:∀i ob b,(i,ob)∈hout→Own g2 w' (rnf rn i) (ob.map (zag (rnf rn))) b→Own g' w' i ob b:=fun i ob b hmi hg=>hg.map.congr (hg2a i (hlt' i ob hmi)) fun _ _ _=>rfl
 refine⟨h.df,by show a.tmps.size=(zax (rnf rn) hout hin s).nt;rw[hfn];exact h.sz,fun j=>?_,⟨?_,?_,?_,?_⟩,hI3,fun b hb=>hI1 b (h.up b hb),?_,?_,?_,?_,?_⟩
 ·show RV I' g2 _ w' (zaw (zax (rnf rn) hout hin s).env j) _
  rw[hfe,zex _ (zvx _)];exact hold _ _ (h.slots j)
 ·intro j o' hmj
  rcases hmem j o' hmj with ⟨i,ob,hmi,rfl,rfl⟩|⟨ob,hmi,rfl,hne⟩
  ·exact⟨(hre i (hlt' i ob hmi)).1,(hH.obj i ob hmi).2.reren hre (hlt' i ob hmi)⟩
  ·refine⟨Nat.lt_of_lt_of_le (h.heap.obj j ob hmi).1 hnx,?_⟩
   exact(h.heap.obj j ob hmi).2.mapV (fgs (zep (rnf rn) hout hin)) hold (fun _=>rfl) hI1 hwI (hrest j ob hmi hne) fun b hg=>hrestW j ob b hmi hne hg
 ·intro j o' b hmj hg
  rcases hmem j o' hmj with ⟨i,ob,hmi,rfl,rfl⟩|⟨ob,hmi,rfl,hne⟩
  ·exact hH.apart i ob b hmi (hnewO i ob b hmi hg)
  ·have hg:=hrestO j ob b _ hmi hne hg
   obtain⟨h1,h2⟩:=h.heap.apart j ob b hmi hg
   refine⟨fun hb=>?_,Nat.lt_of_lt_of_le h2 hfr.size⟩
   rcases hI2 b hb with h3|h3|h3
   ·exact h1 h3
   ·omega
   ·exact hrestD j ob b hmi hne hg h3
 ·show(List.map _ (zbm (rnf rn) hout++zdm (rnf rn) hin (zax (rnf rn) hout hin s).hp)).Nodup
  rw[List.map_append,List.nodup_append]
  refine⟨?_,hndf.sublist ((zq1 _ _ _).map _),?_⟩
  ·rw[zet]
   have:∀(l:List Nat),l.Nodup→(∀i∈l,i<m)→(l.map (rnf rn)).Nodup:=by
    intro l
    induction l with
    |nil=>intro _ _;simp
    |cons i t ih =>
     intro hn hl
     rw[List.nodup_cons]at hn
     rw[List.map_cons,List.nodup_cons]
     refine⟨fun hc=>?_,ih hn.2 fun k hk=>hl k (List.mem_cons_of_mem _ hk)⟩
     obtain⟨k,hk,he⟩:=List.mem_map.1 hc
     have:=zks hnd' (Nat.lt_of_lt_of_le (hl k (List.mem_cons_of_mem _ hk)) hm) (Nat.lt_of_lt_of_le (hl i List.mem_cons_self) hm) he
     exact hn.1 (this▸hk)
   exact this _ hH.nodup fun i hi=>by
    obtain⟨⟨k,ob⟩,hk,rfl⟩:=List.mem_map.1 hi;exact hlt' k ob hk
  ·intro x hx y hy hxy
   subst hxy
   rw[zet]at hx
   obtain⟨i,hi,rfl⟩:=List.mem_map.1 hx
   obtain⟨⟨k,ob⟩,hk,rfl⟩:=List.mem_map.1 hi
   obtain⟨⟨k',ob'⟩,hk',he⟩:=List.mem_map.1 hy
   obtain⟨h2,h3⟩:=zlx hin hndf hk'
   simp only at he
   rcases zl5 hnew k (hlt' k ob hk)with h1|h1
   ·rw[zcg]at h1
    obtain⟨⟨k2,ob2⟩,hk2,e2⟩:=List.mem_map.1 h1
    simp only at e2
    subst e2
    exact h3 _ ob2 hk2 he
   ·rw[hfh]at h2
    obtain⟨ob3,h4,_⟩:=zjp h2
    have:=(h.heap.obj _ _ h4).1
    omega
 ·intro j o1 j' o2 b h1 h2 g1 g2'
  have mixed:∀i ob j ob',(i,ob)∈hout→(j,ob')∈s.hp→(∀i o,(i,o)∈hin→j≠rnf rn i)→Own g' w' i ob b→Own g w j ob' b→False:=fun i ob j ob' hmi hmj hne hg1 hg2=>by
   rcases hown b ⟨i,ob,hmi,hg1⟩with h3|h3
   ·have:=(h.heap.apart j ob' b hmj hg2).2;omega
   ·exact hrestD j ob' b hmj hne hg2 h3
  rcases hmem j o1 h1 with ⟨i,ob,hmi,rfl,rfl⟩|⟨ob,hmi,rfl,hne⟩<;>rcases hmem j' o2 h2 with ⟨i',ob',hmi',rfl,rfl⟩|⟨ob',hmi',rfl,hne'⟩
  ·rw[hH.inj i ob i' ob' b hmi hmi' (hnewO i ob b hmi g1) (hnewO i' ob' b hmi' g2')]
  ·exact(mixed i ob j' ob' hmi hmi' hne' (hnewO i ob b hmi g1) (hrestO j' ob' b _ hmi' hne' g2')).elim
  ·exact(mixed i' ob' j ob hmi' hmi hne (hnewO i' ob' b hmi' g2') (hrestO j ob b _ hmi hne g1)).elim
  ·exact h.heap.inj j ob j' ob' b hmi hmi' (hrestO j ob b _ hmi hne g1) (hrestO j' ob' b _ hmi' hne' g2')
 ·intro b hb
  rcases hI2 b hb with h3|h3|h3
  ·exact h.down b h3
  ·exact .inr (.inl (Nat.le_trans h.fr.size h3))
  ·exact .inr (h.own b (hDom b h3))
 ·rintro b ⟨j,o',hmj,hg⟩
  rcases hmem j o' hmj with ⟨i,ob,hmi,rfl,rfl⟩|⟨ob,hmi,rfl,hne⟩
  ·rcases hown b ⟨i,ob,hmi,hnewO i ob b hmi hg⟩with h3|h3
   ·exact .inl (Nat.le_trans h.fr.size h3)
   ·exact h.own b (hDom b h3)
  ·exact h.own b ⟨j,ob,hmi,hrestO j ob b _ hmi hne hg⟩
 ·intro j o' hmj hb hK
  rcases hmem j o' hmj with ⟨i,ob,hmi,rfl,rfl⟩|⟨ob,hmi,rfl,hne⟩
  ·rw[O.isBox_map]at hb
   rw[hg2a i (hlt' i _ hmi)]
   rcases zl5 hnew i (hlt' i _ hmi)with h1|h1
   ·rw[zcg]at h1
    obtain⟨⟨k2,ob2⟩,hk2,e2⟩:=List.mem_map.1 h1
    simp only at e2
    subst e2
    have hb2:=zk1 hbs2 _ ob hmi hb ob2 (zco hkn' hk2)
    rw[hbox _ _ _ hk2 hmi hb]
    exact h.keep _ _ (hmemc _ _ hk2) (by rw[O.isBox_map];exact hb2) hK
   ·have:=h.low _ hK;omega
  ·rw[O.isBox_map]at hb
   rw[hrest j ob hmi hne];exact h.keep j ob hmi hb hK
 ·exact h.fr.trans hfr fun b hb hd hc=>by
   rcases h.own b (hDom b hc)with h3|h3
   ·omega
   ·exact hd h3
 ·exact fun id hid=>Nat.lt_of_lt_of_le (h.low id hid) hnx
theorem St.called (h:St X I g s a w) {f n m:Nat} {fargs:List V} {hin hout:List (Nat×O)} {res:V} {rn:List Nat} {vals:List Value} (hspec:zr P f n fargs hin m res hout)
  (hargs:RVs I g s.nx w (zag (rnf rn) fargs) vals) (hlt:zz n fargs=true) (hltH:zba n hin=true) (hhas:zhj (rnf rn) s.hp hin) (hnd:zav rn=true)
  (hn:n≤rn.length) (hm:m≤rn.length) (hnew:zd5 (rnf rn) s.nx (zbl hin) m=true) (hbs2:za3 hin hout=true) (hkn:zav (zbl hin)=true) :
  Calls P f vals.toArray w fun e w'=>∃v I' g',e=.returned v∧RV I' g' (Nat.max s.nx (zcq rn)) w' (res.ren (rnf rn)) v ∧
   St X I' g' {zax (rnf rn) hout hin s with nx:=Nat.max s.nx (zcq rn),hp:=zbm (rnf rn) hout++zdm (rnf rn) hin (zax (rnf rn) hout hin s).hp} a w':=by
 obtain⟨hcalH,hla,hva⟩:=h.calledPre hargs hlt hltH hhas hnd hn hkn
 exact(hspec.2 w I (fun i=>g (rnf rn i)) vals h.bound hcalH hla hva).mono fun e w' he=>h.calledPost hltH hhas hnd hn hm hnew hbs2 hkn hcalH he
theorem St.calledX (h:St X I g s a w) {f n:Nat} {fargs:List V} {hin:List (Nat×O)} {R:Nat→V→List (Nat×O)→Prop} {rn:List Nat} {vals:List Value} (hspec:zce P f n fargs hin R)
  (hargs:RVs I g s.nx w (zag (rnf rn) fargs) vals) (hlt:zz n fargs=true) (hltH:zba n hin=true) (hhas:zhj (rnf rn) s.hp hin) (hnd:zav rn=true)
  (hn:n≤rn.length) (hkn:zav (zbl hin)=true)
  (hr:∀m res hout,R m res hout→m≤rn.length∧zd5 (rnf rn) s.nx (zbl hin) m=true∧za3 hin hout=true) :
  Calls P f vals.toArray w fun e w'=>∃m res hout,R m res hout∧∃v I' g',e=.returned v∧RV I' g' (Nat.max s.nx (zcq rn)) w' (res.ren (rnf rn)) v ∧
   St X I' g' {zax (rnf rn) hout hin s with nx:=Nat.max s.nx (zcq rn),hp:=zbm (rnf rn) hout++zdm (rnf rn) hin (zax (rnf rn) hout hin s).hp} a w':=by
 obtain⟨hcalH,hla,hva⟩:=h.calledPre hargs hlt hltH hhas hnd hn hkn
 exact(hspec.2 w I (fun i=>g (rnf rn i)) vals h.bound hcalH hla hva).mono fun e w' he=>by
  obtain⟨m,res,hout,hR,he⟩:=he
  obtain⟨h1,h2,h3⟩:=hr m res hout hR
  exact⟨m,res,hout,hR,h.calledPost hltH hhas hnd hn h1 h2 h3 hkn hcalH he⟩
theorem zx6 {c:Call} {f:Nat} {caps:List V} (ho:o.op=.call c) {x:Operand} (hc:c.callee=.value x) (h:St X I g s a w) (hx:evl s.env x=.fn f caps)
  (hk:vcall P f (evs s.env c.args.toList++caps) s o.dst K) (hN:∀s' a' w',Sat X s' a' w'→K s'→N a' w'):o.wp P a w N Q:=by
 have hfx:=h.eval x
 rw[hx]at hfx
 obtain⟨cvs,hev,hcl,hcr⟩:∃cvs:List Value,a.eval x=.func (.func f) #[] cvs.toArray∧caps.length=cvs.length∧∀(i:Nat) x v,caps[i]? = some x→cvs[i]? = some v→RV I g s.nx w x v:=by
  generalize a.eval x=vx at hfx
  cases hfx with|fn _ _ vs hl hr=>exact⟨vs,rfl,hl,hr⟩
 have hargs:RVs I g s.nx w (evs s.env c.args.toList++caps) (c.args.toList.map a.eval++cvs):=(h.evals' c.args.toList).append ⟨hcl,hcr⟩
 unfold vcall at hk
 have hwp:∀{R:Ending→World→Prop},zhw P f→Calls P f ((c.args.toList.map a.eval)++cvs).toArray w R→(∀e w',R e w'→∃v,e=.returned v∧N (a.put o.dst v) w')→o.wp P a w N Q:=fun hcb hcalls hR=>by
  simp only[Oper.wp,zta ho hc hev hcb,Oper.upon]
  exact hcalls.mono fun e w' he=>by
   obtain⟨v,rfl,hn⟩:=hR e w' he
   exact hn
 rcases hk with ⟨res,hsc,hid,hspec,hk⟩|⟨m,st,hout,hok,hf,hid,hspec,hk⟩|⟨fz,rn,n,fargs,hin,m,res,hout,hspec,hk⟩|⟨res,hview,hk⟩|⟨fz,rn,n,fargs,hin,R,hspec,hk⟩
 ·refine hwp hspec.1 (h.lendScalar hsc hid hspec hargs) fun e w' he=>?_
  obtain⟨v,rfl,hst,hres⟩:=he
  obtain⟨s',h1,h2⟩:=hst.putO (v:=res) (val:=v) hres hk
  exact⟨v,rfl,hN s' _ _ h1 h2⟩
 ·refine hwp hspec.1 (h.lendNew hok hf hid hspec hargs) fun e w' he=>?_
  obtain⟨v,I2,g2,rfl,hst2,hres⟩:=he
  rw[S.force_eq]at hk
  obtain⟨s',h1,h2⟩:=hst2.putO (v:=st.ren fun i=>s.nx+i) (val:=v) hres hk
  exact⟨v,rfl,hN s' _ _ h1 h2⟩
 ·obtain⟨s',I',vs',hs',hv',hk2,hI,hnx,hnt⟩:=zew fz s I _ _ _ h hargs hk
  obtain⟨e1,e2,e3,e4,⟨e5,e6,e7,e8,e10,e11⟩,hk3⟩:=hk2
  rw[S.force_eq]at hk3
  subst e1
  refine hwp hspec.1 (hs'.called hspec hv' e2 e3 e4 e5 (Nat.le_of_ble_eq_true e6) (Nat.le_of_ble_eq_true e7) e8 e10 e11) (fun e w' he=>?_)
  obtain⟨v,I2,g2,rfl,hres,hst⟩:=he
  obtain⟨s2,h1,h2⟩:=hst.putO hres hk3
  exact⟨v,rfl,hN s2 _ _ h1 h2⟩
 ·refine hwp hview.1 (hview.2 w I g s.nx _ h.bound hargs.1 hargs.2) fun e w' he=>?_
  obtain⟨v,rfl,⟨q1,q2,q3,q4,q5⟩,hres⟩:=he
  obtain⟨s',h1,h2⟩:=(h.world q1 q2 q3 q4 q5).putO (v:=res) (val:=v) hres hk
  exact⟨v,rfl,hN s' _ _ h1 h2⟩
 ·obtain⟨s',I',vs',hs',hv',hk2,hI,hnx,hnt⟩:=zew fz s I _ _ _ h hargs hk
  obtain⟨e1,e2,e3,e4,⟨e5,e6,e11⟩,hk3⟩:=hk2
  subst e1
  refine hwp hspec.1 (hs'.calledX hspec hv' e2 e3 e4 e5 (Nat.le_of_ble_eq_true e6) e11 fun m res hout hR=>by
   obtain⟨⟨q1,q2,q3⟩,-⟩:=hk3 m res hout hR
   exact⟨Nat.le_of_ble_eq_true q1,q2,q3⟩) (fun e w' he=>?_)
  obtain⟨m,res,hout,hR,v,I2,g2,rfl,hres,hst⟩:=he
  obtain⟨-,hk4⟩:=hk3 m res hout hR
  rw[S.force_eq]at hk4
  obtain⟨s2,h1,h2⟩:=hst.putO hres hk4
  exact⟨v,rfl,hN s2 _ _ h1 h2⟩
end
end Go.VL
