/- V-logic: Sound18 Sound19 Sound20 Sound21 -/
import Derived.Test.YtfogmgldlemngaaVED
namespace Go.VL
set_option linter.unusedVariables false
set_option linter.unusedSimpArgs false
section
variable {P : Program} {T : TT} {X : Cx} {I : Nat → Prop} {g : Gam} {s : S} {a : Act} {w : World} {o : Oper}
def zfl (P:Program) (X:Cx) (s:S) (o:Oper) (a:Act) (w:World) (e:Ef):Prop :=
 ∀(N:Act→World→Prop) (Q:Exit→Act→World→Prop),(∀a' w',Sat X (e.bump o.dst s) a' w'→N a' w')→o.wp P a w N Q
theorem zcu {dst:Option Nat} {v:V} (hd:∀d,dst=some d→d<s.nt) {K:S→Prop} (hk:K ⟨s.nt,s.nx,zcb dst v s.env,s.hp⟩):s.put dst v K:=by
 cases dst with
 |none=>rw[S.put_none];exact hk
 |some d=>rw[S.put_some];exact⟨hd d rfl,hk⟩
theorem zfg (hT:TOk P T) (hE:EOk P T) (h:St X I g s a w) {e:Ef} (hk:vop T P o s fun s'=>s'=e.bump o.dst s):zfl P X s o a w e:=fun _ _ hN =>
 zol hT hE h hk fun s' a' w' h' he=>hN a' w' (he▸h')
theorem zl8 (h:St X I g s a w) (hd:∀d,o.dst=some d→d<s.nt) {v:V} {val:Value} (hrun:(execOp a.eval o).run P w=.ok (.value val) w) (hv:RV I g s.nx w v val) :
  zfl P X s o a w (.val v):=fun _ _ hN =>
 zaj hrun h hv (K:=fun s'=>s'=(Ef.val v).bump o.dst s) (zcu hd rfl) fun s' a' w' h' he=>hN a' w' (he▸h')
theorem zzg {N:Act→World→Prop} (h:St X I g s a w) (hd:∀d,o.dst=some d→d<s.nt) (hN:∀a' w',Sat X ((Ef.val (.tup [])).apply 0 o.dst s) a' w'→N a' w'):N (a.put o.dst undef) w:=by
 obtain⟨s',h1,h2⟩:=h.putO (v:=.tup []) (val:=undef) (RV.tup [] [] rfl (by simp)) (K:=fun s'=>s'=(Ef.val (.tup [])).apply 0 o.dst s) (zcu hd rfl)
 exact hN _ _ (h2▸h1)
theorem zl1 {n:Nat} {v:V} {val:Value} {K:Ef→Prop} (hv:RV I g n w v val) (hk:fin v K):∃v',RV I g n w v' val∧K (.val v'):=by
 unfold fin at hk
 split at hk
 ·rename_i b
  have:=hv.bool_inv
  subst this
  cases b with
  |true=>exact⟨.tt,.tt,(zd8 hk).1 rfl⟩
  |false=>exact⟨.ff,.ff,(zd8 hk).2 rfl⟩
 ·rw[V.force_eq]at hk;exact⟨_,hv,hk⟩
theorem zcv (h:St X I g s a w) (hd:∀d,o.dst=some d→d<s.nt) {K:Ef→Prop} {v:Sem Value} (hv:∀val,v.run P w=.ok val w→(execOp a.eval o).run P w=.ok (.value val) w)
  (hk:∃y val,v.run P w=.ok val w∧RV I g s.nx w y val∧fin y K):∃e,K e∧zfl P X s o a w e:=by
 obtain⟨y,val,h1,h2,h3⟩:=hk
 obtain⟨v',h4,h5⟩:=zl1 h2 h3
 exact⟨_,h5,zl8 h hd (hv val h1) h4⟩
theorem zix {dst:Option Nat} {ob:O} (st:V) (hst:st.idsLt 1=true) (hd:∀d,dst=some d→d<s.nt) {K:S→Prop} (hk:K ((Ef.new st hst ob).bump dst s)):s.alloc dst ob (Ef.val? s.nx (.new st hst ob)) K:=by
 rw[S.alloc_eq]
 exact zcu (s:=⟨s.nt,s.nx+1,s.env,(s.nx,ob)::s.hp⟩) hd hk
theorem zgb {dst:Option Nat} {ob:O} (hd:∀d,dst=some d→d<s.nt) {K:S→Prop} (hk:K ((Ef.new (.slc 0) rfl ob).bump dst s)):s.allocSlc dst ob K:=by
 rw[S.allocSlc_eq];exact zix (.slc 0) rfl hd hk
theorem zuo {dst:Option Nat} {ob:O} (hd:∀d,dst=some d→d<s.nt) {K:S→Prop} (hk:K ((Ef.new (.ptr 0 0 0 0) rfl ob).bump dst s)):s.allocPtr dst ob 0 0 0 K:=by
 rw[S.allocPtr_eq];exact zix (.ptr 0 0 0 0) rfl hd hk
theorem zsn (hT:TOk P T) (hE:EOk P T) (h:St X I g s a w) (hd:∀d,o.dst=some d→d<s.nt) {t:Nat} (ho:o.op=.alloc t) {K:Ef→Prop} (hk:zh4 T t K):∃e,K e∧zfl P X s o a w e:=by
 unfold zh4 at hk
 have key:∀st ob,K (.new (.ptr 0 0 st 0) rfl ob)→(s.alloc o.dst ob (.ptr s.nx 0 st 0) (fun s'=>s'=(Ef.new (.ptr 0 0 st 0) rfl ob).bump o.dst s)→vop T P o s fun s'=>s'=(Ef.new (.ptr 0 0 st 0) rfl ob).bump o.dst s)→∃e,K e∧zfl P X s o a w e :=
  fun st ob hk hv=>⟨_,hk,zfg hT hE h (hv (zix (.ptr 0 0 st 0) rfl hd rfl))⟩
 have hv:∀K',zg6 T t s o.dst K'→vop T P o s K':=fun K' h=>by unfold vop;rw[ho];exact h
 split at hk<;>rename_i hti
 ·exact key _ _ hk fun h=>hv _ (by unfold zg6;rw[hti];exact h)
 ·exact key _ _ hk fun h=>hv _ (by unfold zg6;rw[hti];exact h)
 ·exact key _ _ hk fun h=>hv _ (by unfold zg6;rw[hti];exact h)
 ·exact key _ _ hk fun h=>hv _ (by unfold zg6;rw[hti];exact h)
 ·exact key _ _ hk fun h=>hv _ (by unfold zg6;rw[hti];exact h)
 ·exact hk.elim
theorem zu3 (hT:TOk P T) (hE:EOk P T) (h:St X I g s a w) (hd:∀d,o.dst=some d→d<s.nt) {t:Nat} {l c:Operand} (ho:o.op=.makeSlice t l c) {K:Ef→Prop}
  (hk:zhh T t (evl s.env l) (evl s.env c) K):∃e,K e∧zfl P X s o a w e:=by
 unfold zhh at hk
 split at hk
 ·rename_i hti
  split at hk
  ·rename_i h1 h2
   split at hk
   ·rename_i hst
    obtain⟨hc,hk⟩:=zv hk
    split at hk
    ·rename_i hnest
     refine⟨_,hk,zfg hT hE h ?_⟩
     unfold vop;rw[ho]
     simp only[znp,hti,h1,h2,hst,hnest]
     unfold vneed
     exact⟨hc,zgb hd rfl⟩
    ·rename_i hnest
     unfold vch at hk
     rcases hk with hk|hk
     ·refine⟨_,hk,zfg hT hE h ?_⟩
      unfold vop;rw[ho]
      simp only[znp,hti,h1,h2,hst,hnest]
      unfold vneed vch
      exact⟨hc,.inl (zgb hd rfl)⟩
     ·refine⟨_,hk,zfg hT hE h ?_⟩
      unfold vop;rw[ho]
      simp only[znp,hti,h1,h2,hst,hnest]
      unfold vneed vch
      exact⟨hc,.inr (zgb hd rfl)⟩
   ·exact hk.elim
  ·exact hk.elim
 ·exact hk.elim
theorem z05 {kd:Kd} {lk:Nat→Option O} {v:V} {KC:C→Option (Nat×List V)→Prop} (h:zds kd lk v KC):∃z hz,KC z hz∧∀KC':C→Option (Nat×List V)→Prop,KC' z hz→zds kd lk v KC':=by
 unfold zds at h
 split at h
 ·exact⟨_,_,h,fun _ h=>h⟩
 ·rw[C.force_eq]at h;exact⟨_,_,h,fun _ h=>by simp only[zds,C.force_eq];exact h⟩
 ·split at h
  ·rename_i hl
   rw[C.force_eq]at h;exact⟨_,_,h,fun _ h=>by simp only[zds,hl,C.force_eq];exact h⟩
  ·rename_i hl
   rw[C.force_eq]at h;exact⟨_,_,h,fun _ h=>by simp only[zds,hl,C.force_eq];exact h⟩
  ·exact h.elim
 ·exact h.elim
mutual
theorem V.forget_self {id:Nat}:∀{v:V},id∉v.ids→v.forget id=v
 |.ptr i a b c,h=>by
  simp only[V.ids,List.mem_singleton]at h
  simp only[V.forget]
  split
  ·rename_i e;exact absurd (Nat.eq_of_beq_eq_true e).symm h
  ·rfl
 |.slc i,h=>by
  simp only[V.ids,List.mem_singleton]at h
  simp only[V.forget]
  split
  ·rename_i e;exact absurd (Nat.eq_of_beq_eq_true e).symm h
  ·rfl
 |.agg xs,h=>by simp only[V.ids]at h;simp only[V.forget,zc2 h]
 |.tup xs,h=>by simp only[V.ids]at h;simp only[V.forget,zc2 h]
 |.fn f xs,h=>by simp only[V.ids]at h;simp only[V.forget,zc2 h]
 |.any,_=>rfl
 |.tt,_=>rfl
 |.ff,_=>rfl
 |.nil,_=>rfl
 |.c _,_=>rfl
 |.iptr _,_=>rfl
theorem zc2 {id:Nat}:∀{xs:List V},id∉za9 xs→z6 id xs=xs
 |[],_=>rfl
 |x::t,h=>by
  simp only[za9,List.mem_append,not_or]at h
  simp only[z6,V.forget_self h.1,zc2 h.2]
end
theorem O.forget_self {id:Nat} {o:O} (h:id∉o.ids):o.map (z6 id)=o:=by
 cases o with
 |box pre bs post =>
  simp only[O.ids,List.mem_append,not_or]at h
  simp only[O.map,zc2 h.1,zc2 h.2]
 |arr x=>rfl
 |hol x hi' vs=>simp only[O.ids]at h;simp only[O.map,zc2 h]
 |deep p f x hs =>
  simp only[O.ids]at h
  simp only[O.map]
  congr 1
  induction hs with
  |nil=>rfl
  |cons q t ih =>
   obtain⟨a,b⟩:=q
   simp only[zia,List.mem_append,not_or]at h
   simp only[zbk,zc2 h.1,ih h.2]
theorem St.again (h:St X I g s a w) {id:Nat} {x:C} (hl:zq s.hp id=some (.arr x)) :
  St X I (fun i=>if i=s.nx then g id else g i) ⟨s.nt,s.nx+1,s.env,(s.nx,.arr x)::zbx s.hp id⟩ a w:=by
 have hm:=zt hl
 have hlt:=(h.heap.obj id _ hm).1
 have hg:∀i,i<s.nx→(if i=s.nx then g id else g i)=g i:=fun i hi=>if_neg (by omega)
 have hown:∀i o b,(i,o)∈(s.nx,O.arr x)::zbx s.hp id→Own (fun i=>if i=s.nx then g id else g i) w i o b→∃j o',(j,o')∈s.hp∧Own g w j o' b∧((i=s.nx∧j=id)∨(i=j∧o=o'∧j≠id)):=fun i o b hm' ho=>by
  rcases List.mem_cons.1 hm' with hm'|hm'
  ·cases hm'
   exact⟨id,_,hm,ho.congr (by simp) fun _ _ _=>rfl,.inl ⟨rfl,rfl⟩⟩
  ·obtain⟨h1,h2⟩:=zee hm'
   exact⟨i,o,h1,ho.congr (hg i (h.heap.obj i o h1).1) fun _ _ _=>rfl,.inr ⟨rfl,rfl,h2⟩⟩
 refine⟨h.df,h.sz,fun j=>(h.slots j).move fun i hi=>?_,⟨fun i o hm'=>?_,fun i o b hm' ho=>?_,?_,fun i o i' o' b h1 h2 o1 o2=>?_⟩,h.bound,h.up,h.down,fun b hb=>?_,fun i o hm' hb hk=>?_,h.fr,fun i hi=>Nat.lt_succ_of_lt (h.low i hi)⟩
 ·have:=(h.slots j).ids_lt i hi
  exact⟨Nat.lt_succ_of_lt this,hg i this⟩
 ·rcases List.mem_cons.1 hm' with hm'|hm'
  ·cases hm'
   exact⟨Nat.lt_succ_self _,(h.heap.obj id _ hm).2.move (by simp) (by simp[O.ids])⟩
  ·obtain⟨h1,h2⟩:=zee hm'
   have hi:=(h.heap.obj i o h1).1
   refine⟨Nat.lt_succ_of_lt hi,(h.heap.obj i o h1).2.move (hg i hi) fun q hq=>?_⟩
   have:=(h.heap.obj i o h1).2.ids_lt q hq
   exact⟨Nat.lt_succ_of_lt this,hg q this⟩
 ·obtain⟨j,o',h1,h2,_⟩:=hown i o b hm' ho
  exact h.heap.apart j o' b h1 h2
 ·rw[List.map_cons,List.nodup_cons]
  refine⟨fun hc=>?_,h.heap.nodup.sublist ((zjd _ _).map _)⟩
  obtain⟨⟨i,o⟩,h1,h2⟩:=List.mem_map.1 hc
  have:=(h.heap.obj i o (zee h1).1).1
  simp only at h2
  omega
 ·obtain⟨j,q,a1,a2,a3⟩:=hown i o b h1 o1
  obtain⟨j',q',b1,b2,b3⟩:=hown i' o' b h2 o2
  have e:=h.heap.inj j q j' q' b a1 b1 a2 b2
  subst e
  rcases a3 with ⟨e1,e2⟩|⟨e1,_,e2⟩<;>rcases b3 with ⟨e3,e4⟩|⟨e3,_,e4⟩
  ·rw[e1,e3]
  ·exact(e4 e2).elim
  ·exact(e2 e4).elim
  ·rw[e1,e3]
 ·obtain⟨i,o,hm',ho⟩:=hb
  obtain⟨j,o',h1,h2,_⟩:=hown i o b hm' ho
  exact h.own b ⟨j,o',h1,h2⟩
 ·rcases List.mem_cons.1 hm' with hm'|hm'
  ·cases hm';cases hb
  ·obtain⟨h1,h2⟩:=zee hm'
   show(if i=s.nx then g id else g i)=_
   rw[hg i (h.heap.obj i o h1).1];exact h.keep i o h1 hb hk
structure Eqv' (s s':S):Prop where
 nt:s.nt=s'.nt
 nx:s.nx=s'.nx
 env:∀j,zaw s.env j=zaw s'.env j
 hp:∀i,zq s.hp i=zq s'.hp i
 nodup:(s'.hp.map (·.1)).Nodup
theorem Sat.eqv' (h:Sat X s a w) {s':S} (e:Eqv' s s'):Sat X s' a w:=by
 obtain⟨I,g,h⟩:=h
 have hm:∀i o,(i,o)∈s'.hp→(i,o)∈s.hp:=fun i o hm=>zt ((e.hp i).trans (zco e.nodup hm))
 refine⟨I,g,h.df,h.sz.trans e.nt,fun j=>by rw[←e.env,←e.nx];exact h.slots j,⟨fun i o h1=>by rw[←e.nx];exact h.heap.obj i o (hm i o h1),fun i o b h1=>h.heap.apart i o b (hm i o h1),e.nodup,
  fun i o i' o' b h1 h2=>h.heap.inj i o i' o' b (hm i o h1) (hm i' o' h2)⟩,h.bound,h.up,h.down,?_,fun i o h1=>h.keep i o (hm i o h1),h.fr,fun i hi=>by rw[←e.nx];exact h.low i hi⟩
 rintro b ⟨i,o,h1,h2⟩
 exact h.own b ⟨i,o,hm i o h1,h2⟩
theorem V.idsOf_slc {id:Nat}:(V.slc id).ids=[id]:=by simp[V.ids]
theorem zvi (hT:TOk P T) (h:St X I g s a w) (hd:∀d,o.dst=some d→d<s.nt) {t tx:Nat} {x y:Operand} {id:Nat} {x' z y':C} {e sz by':Nat} {kd:Kd} (hti:T t=.slice e sz by' kd) (ht:∃e' sz' b' kd',T tx=.slice e' sz' b' kd')
  (hrun:∀v w',(Builtin.append_ #[t,tx] o.type #[a.eval x,a.eval y]).run P w=.ok v w'→(execOp a.eval o).run P w=.ok (.value v) w')
  (hx:evl s.env x=.slc id) (hl:zq s.hp id=some (.arr x')) (hview:∀KC:C→Option (Nat×List V)→Prop,KC y' none→zds kd (zq s.hp) (evl s.env y) KC) (hni:id∉(evl s.env y).ids) (hz:C.app x' y'=some z) (hfit:zhf kd z sz=true) (hc:z.len≤4294967296) :
  zfl P X s o a w (.mv id z):=by
 intro N Q hN
 have h1:=h.again hl
 have hxv:=h.eval x
 rw[hx]at hxv
 have hlt:=(h.heap.obj id _ (zt hl)).1
 have hbx:RV I (fun i=>if i=s.nx then g id else g i) (s.nx+1) w (.slc s.nx) (a.eval x):=by
  generalize a.eval x=vx at hxv
  cases hxv with
  |slc _ len b cap hn hg=>exact .slc _ len b cap (Nat.lt_succ_self _) (by simp[hg])
  |slc0 _ hn hg=>exact .slc0 _ (Nat.lt_succ_self _) (by simp[hg])
 have hlk:∀i,i≠id→i≠s.nx→zq ((s.nx,O.arr x')::zbx s.hp id) i=zq s.hp i:=fun i h1 h2=>by
  rw[zaz,if_neg (fun e=>h2 e.symm),zlq,if_neg (fun e=>h1 e.symm)]
 have hyi:=(h.eval y).ids_lt
 have hv2:zds kd (zq ((s.nx,O.arr x')::zbx s.hp id)) (evl s.env y)=zds kd (zq s.hp) (evl s.env y):=by
  funext KC
  unfold zds
  split
  ·rfl
  ·rfl
  ·rename_i j hj
   rw[hj]at hni hyi
   have e1:j≠id:=fun e=>hni (by rw[V.idsOf_slc,e];exact List.mem_singleton.2 rfl)
   have e2:j≠s.nx:=fun e=>by have:=hyi j (by rw[V.idsOf_slc];exact List.mem_singleton.2 rfl);omega
   rw[hlk j e1 e2]
  ·rfl
 refine zmc (s:=⟨s.nt,s.nx+1,s.env,(s.nx,.arr x')::zbx s.hp id⟩) (bx:=fun _=>.slc s.nx) (K:=fun s'=>s'=⟨s.nt,s.nx+1,zcb o.dst (.slc s.nx) (zb2 (V.forget s.nx) s.env),zac (za7 (z6 s.nx) ((s.nx,O.arr x')::zbx s.hp id)) s.nx (.arr z)⟩) hT hbx ht hrun h1 ?_ fun s' a' w' hs' hk'=>hN a' w' (Sat.eqv' (hk'▸hs') ?_)
 ·simp only[zel,hti]
  show zds kd (zq ((s.nx,O.arr x')::zbx s.hp id)) (evl s.env y) _
  rw[hv2]
  refine hview _ ?_
  have e0:zq ((s.nx,O.arr x')::zbx s.hp id) s.nx=some (.arr x'):=by rw[zaz,if_pos rfl]
  simp only[e0,hz,hfit]
  unfold vneed
  rw[C.force_eq]
  refine⟨hc,?_⟩
  rw[S.force_eq]
  exact zcu (s:=⟨s.nt,s.nx+1,zb2 (V.forget s.nx) s.env,zac (za7 (z6 s.nx) ((s.nx,O.arr x')::zbx s.hp id)) s.nx (.arr z)⟩) hd rfl
 ·refine⟨rfl,rfl,fun j=>?_,fun i=>?_,?_⟩
  ·show zaw (zcb o.dst (.slc s.nx) (zb2 (V.forget s.nx) s.env)) j=zaw (zcb o.dst (.slc s.nx) s.env) j
   rw[zcp,zcp,zex _ rfl,V.forget_self fun hc=>by have:=(h.slots j).ids_lt _ hc;omega]
  ·show zq (zac (za7 (z6 s.nx) ((s.nx,O.arr x')::zbx s.hp id)) s.nx (.arr z)) i=zq ((s.nx,O.arr z)::zbx s.hp id) i
   simp only[za7,O.map,zac,Nat.beq_refl,zaz]
   by_cases c:s.nx=i
   ·rw[if_pos c,if_pos c]
   ·rw[if_neg c,if_neg c,ziv]
    cases hq:zq (zbx s.hp id) i with
    |none=>rfl
    |some ob =>
     have:=(h.heap.obj i ob (zee (zt hq)).1).2.ids_lt
     show some (ob.map (z6 s.nx))=some ob
     rw[O.forget_self fun hc=>by have:=this _ hc;omega]
  ·exact h1.heap.nodup
theorem zwu (hd:∀d,o.dst=some d→d<s.nt) {t:Nat} {x y:Operand} {K:Ef→Prop}
  (hop:∀e:Ef,zel T t s o.dst (evl s.env x) (evl s.env y) (fun s'=>s'=e.bump o.dst s)→zfl P X s o a w e)
  (hmv:∀(id:Nat) (x' z y':C) (e sz by':Nat) (kd:Kd),T t=.slice e sz by' kd→evl s.env x=.slc id→zq s.hp id=some (.arr x')→(∀KC:C→Option (Nat×List V)→Prop,KC y' none→zds kd (zq s.hp) (evl s.env y) KC) →
   id∉(evl s.env y).ids→C.app x' y'=some z→zhf kd z sz=true→z.len≤4294967296→zfl P X s o a w (.mv id z))
  (hmf:∀(id:Nat) (x' z y':C) (e sz by':Nat) (kd:Kd),T t=.slice e sz by' kd→evl s.env x=.slc id→zq s.hp id=some (.arr x')→(∀KC:C→Option (Nat×List V)→Prop,KC y' none→zds kd (zq s.hp) (evl s.env y) KC) →
   id∉(evl s.env y).ids→C.app x' y'=some z→zhf kd z sz=true→z.len≤4294967296→zfl P X s o a w (.mf id z))
  (hk:zgm T t (zq s.hp) (evl s.env x) (evl s.env y) K):∃e,K e∧zfl P X s o a w e:=by
 unfold zgm at hk
 split at hk
 ·rename_i e sz by' kd hti
  obtain⟨y',hy',hk,hview⟩:=z05 hk
  split at hk
  ·rename_i hx
   split at hk
   ·rename_i z hz
    split at hk
    ·rename_i hst
     obtain⟨hc,hk⟩:=zv hk
     rw[C.force_eq]at hk
     refine⟨_,hk,hop _ ?_⟩
     simp only[zel,hti]
     refine hview _ ?_
     simp only[hx,hz,hst]
     unfold vneed
     rw[C.force_eq]
     exact⟨hc,zgb hd rfl⟩
    ·exact hk.elim
   ·exact hk.elim
  ·rename_i id hx
   split at hk
   ·rename_i x' hl
    split at hk
    ·rename_i z hz
     split at hk
     ·rename_i hst
      obtain⟨hc,hk⟩:=zv hk
      rw[C.force_eq]at hk
      unfold vch at hk
      rcases hk with hk|hk
      ·refine⟨_,hk,hop _ ?_⟩
       simp only[zel,hti]
       refine hview _ ?_
       simp only[hx,hl,hz,hst]
       unfold vneed
       rw[C.force_eq]
       refine⟨hc,?_⟩
       rw[S.force_eq]
       exact zcu (s:=⟨s.nt,s.nx,zb2 (V.forget id) s.env,zac (za7 (z6 id) s.hp) id (holO z x'.len (zjj id hy'))⟩) hd rfl
      ·cases hmn:zc7 id (evl s.env y).ids with
       |true=>rw[hmn]at hk;cases hy'<;>exact hk.elim
       |false =>
        rw[hmn]at hk
        cases hy' with
        |none =>
         have hk:K (.mf id z)∨K (.mv id z):=hk
         rcases hk with hk|hk
         ·exact⟨_,hk,hmf id x' z y' _ _ _ _ hti hx hl hview (fun hc=>by rw[zfx.2 hc]at hmn;cases hmn) hz hst hc⟩
         ·exact⟨_,hk,hmv id x' z y' _ _ _ _ hti hx hl hview (fun hc=>by rw[zfx.2 hc]at hmn;cases hmn) hz hst hc⟩
        |some q=>exact hk.elim
     ·exact hk.elim
    ·exact hk.elim
   ·rename_i x' hi' us' hl
    split at hk
    ·rename_i z hz
     split at hk
     ·rename_i hst
      obtain⟨hc,hk⟩:=zv hk
      rw[C.force_eq]at hk
      refine⟨_,hk,hop _ ?_⟩
      simp only[zel,hti]
      refine hview _ ?_
      simp only[hx,hl,hz,hst]
      unfold vneed
      rw[C.force_eq]
      refine⟨hc,?_⟩
      rw[S.force_eq]
      exact zcu (s:=⟨s.nt,s.nx,zb2 (V.forget id) s.env,zac (za7 (z6 id) s.hp) id (.hol z hi' (z6 id us'))⟩) hd rfl
     ·exact hk.elim
    ·exact hk.elim
   ·rename_i f' x' hs' hl
    split at hk
    ·rename_i z us hz hyl
     split at hk
     ·rename_i hst
      obtain⟨hc,hk⟩:=zv hk
      rw[C.force_eq]at hk
      refine⟨_,hk,hop _ ?_⟩
      simp only[zel,hti]
      refine hview _ ?_
      simp only[hx,hl,hz,hst,hyl]
      unfold vneed
      rw[C.force_eq]
      refine⟨hc,?_⟩
      rw[S.force_eq]
      exact zcu (s:=⟨s.nt,s.nx,zb2 (V.forget id) s.env,zac (za7 (z6 id) s.hp) id (.deep false f' z (zbk (z6 id) hs'++[(x'.len,z6 id us)]))⟩) hd rfl
     ·exact hk.elim
    ·exact hk.elim
   ·exact hk.elim
  ·exact hk.elim
 ·exact hk.elim
theorem zry {i:Nat} {A:List (Nat×List V)→Nat→List V→List (Nat×List V)→Prop} {B:Prop}:∀{hs pre:List (Nat×List V)},zfp i pre hs A B →
  (∃p1 us t,A (pre++p1) i us t∧∀(A':List (Nat×List V)→Nat→List V→List (Nat×List V)→Prop) (B':Prop),A' (pre++p1) i us t→zfp i pre hs A' B')∨(B∧∀(A':List (Nat×List V)→Nat→List V→List (Nat×List V)→Prop) (B':Prop),B'→zfp i pre hs A' B'):=by
 intro hs
 induction hs with
 |nil=>intro pre h;exact .inr ⟨h,fun _ _ h=>h⟩
 |cons x t ih =>
  obtain⟨hi,us⟩:=x
  intro pre h
  simp only[zfp]at h
  rcases zgt h with ⟨rfl,h⟩|⟨hne,h⟩
  ·exact .inl ⟨[],us,t,by simpa using h,fun A' B' h'=>by unfold zfp vor;exact .inl ⟨rfl,by simpa using h'⟩⟩
  ·rcases ih h with ⟨p1,us',t',h1,h2⟩|⟨h1,h2⟩
   ·refine .inl ⟨(hi,us)::p1,us',t',by simpa using h1,fun A' B' h'=>?_⟩
    simp only[zfp];unfold vor
    exact .inr ⟨hne,h2 A' B' (by simpa using h')⟩
   ·exact .inr ⟨h1,fun A' B' h'=>by simp only[zfp];unfold vor;exact .inr ⟨hne,h2 A' B' h'⟩⟩
theorem zyp {x:C} {ti:TI} {i j:Nat} {v:V} {KC:C→Prop} (h:zc8 x ti i j v KC):∃z,KC z∧∀KC':C→Prop,KC' z→zc8 x ti i j v KC':=by
 unfold zc8 at h
 split at h
 ·rename_i q1
  split at h
  ·rename_i q2
   split at h
   ·rename_i q3
    exact⟨_,h,fun K' hk=>by simp only[zc8,q1,q2,q3];exact hk⟩
   ·exact h.elim
  ·exact h.elim
 ·rename_i q1
  split at h
  ·exact h.elim
  ·rename_i q2
   split at h
   ·rename_i q3
    exact⟨_,h,fun K' hk=>by simp only[zc8,q1,q2,q3];exact hk⟩
   ·exact h.elim
theorem zi3 {pn:Bool} {f:Nat} {x:C} {hs:List (Nat×List V)} {ti:TI} {i j:Nat} {v:V} {KO:O→Prop} (h:zgc pn f x hs ti i j v KO):∃ob,KO ob∧∀KO':O→Prop,KO' ob→zgc pn f x hs ti i j v KO':=by
 unfold zgc at h
 rcases zry h with ⟨p1,us,t,h1,h2⟩|⟨h1,h2⟩
 ·split at h1
  ·rename_i q1
   split at h1
   ·rename_i q2
    refine⟨_,h1,fun KO' hk=>?_⟩
    unfold zgc
    refine h2 _ _ ?_
    simp only[q2]
    rw[q1];exact hk
   ·exact h1.elim
  ·exact h1.elim
 ·split at h1
  ·rename_i q1
   obtain⟨z,h3,h4⟩:=zyp h1
   refine⟨_,h3,fun KO' hk=>?_⟩
   unfold zgc
   refine h2 _ _ ?_
   simp only[q1]
   exact h4 (fun x'=>KO' (.deep pn f x' hs)) hk
  ·rename_i q1
   split at h1
   ·rename_i q2
    refine⟨_,h1,fun KO' hk=>?_⟩
    unfold zgc
    refine h2 _ _ ?_
    simp only[q1,q2]
    exact hk
   ·exact h1.elim
theorem zw9 (hT:TOk P T) (hE:EOk P T) (h:St X I g s a w) (hd:∀d,o.dst=some d→d<s.nt) {t:Nat} {x y:Operand} (ho:o.op=.store t x y) (hok:(T t).ok=true) {K:Ef→Prop}
  (hk:zc4 T t (zq s.hp) (evl s.env x) (evl s.env y) fun id ob=>K (.set (.tup []) id ob)):∃e,K e∧zfl P X s o a w e:=by
 have key:∀id ob,K (.set (.tup []) id ob)→(∀K':S→Prop,K' ⟨s.nt,s.nx,s.env,zac s.hp id ob⟩→zej T t s (evl s.env x) (evl s.env y) K')→∃e,K e∧zfl P X s o a w e:=by
  intro id ob hk hv
  refine⟨_,hk,zfg hT hE h ?_⟩
  unfold vop;rw[ho]
  simp only[hok]
  exact hv _ (zcu (s:=⟨s.nt,s.nx,s.env,zac s.hp id ob⟩) hd rfl)
 unfold zc4 at hk
 split at hk
 ·split at hk
  ·rename_i hx
   split at hk
   ·rename_i hl
    split at hk
    ·rename_i h0
     split at hk
     ·rename_i h1
      split at hk
      ·rename_i h2
       refine key _ _ hk fun K' hK'=>?_
       simp only[zej,hx,hl,h0,h2,S.withHp_eq]
       rw[h1];exact hK'
      ·exact hk.elim
     ·exact hk.elim
    ·exact hk.elim
   ·rename_i x' hl
    split at hk
    ·rename_i hwh
     obtain⟨hc,hk⟩:=zv hk
     simp only[whOk,Bool.and_eq_true]at hwh
     obtain⟨⟨⟨⟨w1,w2⟩,w3⟩,w4⟩,w5⟩:=hwh
     have w4:=Nat.eq_of_beq_eq_true w4
     subst w4
     exact⟨_,hk,fun N Q hN=>ztb hT ho h hok hx hl hc.1 hc.2 w1 (Nat.eq_of_beq_eq_true w2) (Nat.eq_of_beq_eq_true w3) w5 (K:=fun s'=>s'=(Ef.set (.tup []) _ (.hol x' _ (evl s.env y).cells)).bump o.dst s)
      (zcu (s:=⟨s.nt,s.nx,s.env,zac s.hp _ (.hol x' _ (evl s.env y).cells)⟩) hd rfl) fun s' a' w' h' he=>hN a' w' (he▸h')⟩
    ·exact hk.elim
   ·rename_i hl
    obtain⟨hc,hk⟩:=zv hk
    obtain⟨ob,hk1,hk2⟩:=zi3 hk
    refine key _ _ hk1 fun K' hK'=>?_
    simp only[zej,hx,hl]
    unfold vneed
    exact⟨hc,hk2 _ (by rw[S.withHp_eq];exact hK')⟩
   ·exact hk.elim
  ·exact hk.elim
 ·rename_i hsl
  split at hk
  ·rename_i hx
   split at hk
   ·rename_i hl
    obtain⟨hc,hk⟩:=zv hk
    unfold zc8 at hk
    split at hk
    ·rename_i q1
     split at hk
     ·rename_i q2
      split at hk
      ·rename_i q3
       refine key _ _ hk fun K' hK'=>?_
       simp only[zej,hx,hl,hsl,vfz,S.withHp_eq]
       unfold vneed
       refine⟨hc,?_⟩
       simp only[zc8,q1,q2,q3];exact hK'
      ·exact hk.elim
     ·exact hk.elim
    ·rename_i q1
     split at hk
     ·exact hk.elim
     ·rename_i q2
      split at hk
      ·rename_i q3
       refine key _ _ hk fun K' hK'=>?_
       simp only[zej,hx,hl,hsl,vfz,S.withHp_eq]
       unfold vneed
       refine⟨hc,?_⟩
       simp only[zc8,q1,q2,q3];exact hK'
      ·exact hk.elim
   ·rename_i hl
    obtain⟨hc,hk⟩:=zv hk
    rcases zgt hk with ⟨e,hk⟩|⟨hne,hk⟩
    ·split at hk
     ·rename_i h1
      split at hk
      ·rename_i h2
       refine key _ _ hk fun K' hK'=>?_
       simp only[zej,hx,hl]
       unfold vneed vor
       refine⟨hc,.inl ⟨e,?_⟩⟩
       rw[h1]
       simp only[h2,S.withHp_eq];exact hK'
      ·exact hk.elim
     ·exact hk.elim
    ·unfold zc8 at hk
     split at hk
     ·rename_i q1
      split at hk
      ·rename_i q2
       split at hk
       ·rename_i q3
        refine key _ _ hk fun K' hK'=>?_
        simp only[zej,hx,hl]
        unfold vneed vor
        refine⟨hc,.inr ⟨hne,?_⟩⟩
        simp only[zc8,q1,q2,q3,S.withHp_eq];exact hK'
       ·exact hk.elim
      ·exact hk.elim
     ·rename_i q1
      split at hk
      ·exact hk.elim
      ·rename_i q2
       split at hk
       ·rename_i q3
        refine key _ _ hk fun K' hK'=>?_
        simp only[zej,hx,hl]
        unfold vneed vor
        refine⟨hc,.inr ⟨hne,?_⟩⟩
        simp only[zc8,q1,q2,q3,S.withHp_eq];exact hK'
       ·exact hk.elim
   ·rename_i hl
    obtain⟨hc,hk⟩:=zv hk
    obtain⟨ob,hk1,hk2⟩:=zi3 hk
    refine key _ _ hk1 fun K' hK'=>?_
    simp only[zej,hx,hl]
    unfold vneed
    exact⟨hc,hk2 _ (by rw[S.withHp_eq];exact hK')⟩
   ·rename_i hl
    split at hk
    ·rename_i h0
     split at hk
     ·rename_i h1
      split at hk
      ·rename_i h2
       refine key _ _ hk fun K' hK'=>?_
       simp only[zej,hx,hl,h0,h2,S.withHp_eq]
       rw[h1];exact hK'
      ·exact hk.elim
     ·exact hk.elim
    ·exact hk.elim
   ·exact hk.elim
  ·exact hk.elim
structure Eqv (s s':S):Prop where
 nt:s.nt=s'.nt
 nx:s.nx=s'.nx
 env:∀j,zaw s.env j=zaw s'.env j
 hp:∀i,zq s.hp i=zq s'.hp i
 nodup:(s'.hp.map (·.1)).Nodup
theorem St.eqv (h:St X I g s a w) {s':S} (e:Eqv s s'):St X I g s' a w:=by
 have hm:∀i o,(i,o)∈s'.hp→(i,o)∈s.hp:=fun i o hm=>zt ((e.hp i).trans (zco e.nodup hm))
 refine⟨h.df,h.sz.trans e.nt,fun j=>by rw[←e.env,←e.nx];exact h.slots j,⟨fun i o h1=>by rw[←e.nx];exact h.heap.obj i o (hm i o h1),fun i o b h1=>h.heap.apart i o b (hm i o h1),e.nodup,
  fun i o i' o' b h1 h2=>h.heap.inj i o i' o' b (hm i o h1) (hm i' o' h2)⟩,h.bound,h.up,h.down,?_,fun i o h1=>h.keep i o (hm i o h1),h.fr,fun i hi=>by rw[←e.nx];exact h.low i hi⟩
 rintro b ⟨i,o,h1,h2⟩
 exact h.own b ⟨i,o,hm i o h1,h2⟩
theorem Sat.eqv (h:Sat X s a w) {s':S} (e:Eqv s s'):Sat X s' a w:=let ⟨I,g,h⟩:=h;⟨I,g,h.eqv e⟩
theorem zw4 {hp:List (Nat×O)} {id:Nat} {ob ob0:O} (h:zq hp id=some ob0) (i:Nat):zq (zac hp id ob) i=if id=i then some ob else zq hp i:=by
 induction hp with
 |nil=>cases h
 |cons x t ih =>
  obtain⟨k,v⟩:=x
  simp only[zac]
  rw[zaz]at h
  cases hk:Nat.beq k id with
  |true =>
   have hk:=Nat.eq_of_beq_eq_true hk
   subst hk
   simp only[zaz]
   split<;>rfl
  |false =>
   have hk:=Nat.ne_of_beq_eq_false hk
   rw[if_neg hk]at h
   simp only[zaz,ih h]
   by_cases c:k=i
   ·rw[if_pos c,if_neg (fun e=>hk (c.trans e.symm)),if_pos c]
   ·rw[if_neg c,if_neg c]
theorem zvd {hp:List (Nat×O)} (hn:(hp.map (·.1)).Nodup) (id i:Nat):zq (zbu hp id) i=if id=i then none else zq hp i:=by
 by_cases c:id=i
 ·rw[if_pos c]
  cases hq:zq (zbu hp id) i with
  |none=>rfl
  |some o=>exact absurd c.symm (zjz hn (zt hq)).2
 ·rw[if_neg c]
  induction hp with
  |nil=>rfl
  |cons x t ih =>
   obtain⟨k,v⟩:=x
   simp only[List.map_cons,List.nodup_cons]at hn
   simp only[zbu]
   cases hk:Nat.beq k id with
   |true =>
    have hk:=Nat.eq_of_beq_eq_true hk
    rw[zaz,if_neg (by omega)]
   |false =>
    simp only[zaz,ih hn.2]
theorem z2w {c:Call} {f:Nat} {caps:List V} (ho:o.op=.call c) {x:Operand} (hc:c.callee=.value x) (h:St X I g s a w) (hx:evl s.env x=.fn f caps) :
  ∃vals:List Value,RVs I g s.nx w (evs s.env c.args.toList++caps) vals∧∀{R:Ending→World→Prop} (N:Act→World→Prop) (Q:Exit→Act→World→Prop),zhw P f→Calls P f vals.toArray w R→(∀e w',R e w'→∃v,e=.returned v∧N (a.put o.dst v) w')→o.wp P a w N Q:=by
 have hfx:=h.eval x
 rw[hx]at hfx
 obtain⟨cvs,hev,hcl,hcr⟩:∃cvs:List Value,a.eval x=.func (.func f) #[] cvs.toArray∧caps.length=cvs.length∧∀(i:Nat) x v,caps[i]? = some x→cvs[i]? = some v→RV I g s.nx w x v:=by
  generalize a.eval x=vx at hfx
  cases hfx with|fn _ _ vs hl hr=>exact⟨vs,rfl,hl,hr⟩
 refine⟨_,(h.evals' c.args.toList).append ⟨hcl,hcr⟩,fun N Q hcb hcalls hR=>?_⟩
 simp only[Oper.wp,zta ho hc hev hcb,Oper.upon]
 exact hcalls.mono fun e w' he=>by
  obtain⟨v,rfl,hn⟩:=hR e w' he
  exact hn
theorem zvo {v:V} {K:Ef→Prop} (hk:fin v K):∃v',K (.val v')∧∀{I:Nat→Prop} {g:Gam} {n:Nat} {w:World} {val:Value},RV I g n w v val→RV I g n w v' val:=by
 unfold fin at hk
 split at hk
 ·rename_i b
  cases b with
  |true=>exact⟨.tt,(zd8 hk).1 rfl,fun h=>by rw[h.bool_inv];exact .tt⟩
  |false=>exact⟨.ff,(zd8 hk).2 rfl,fun h=>by rw[h.bool_inv];exact .ff⟩
 ·rw[V.force_eq]at hk;exact⟨_,hk,fun h=>h⟩
theorem St.putS {dst:Option Nat} {v:V} {val:Value} (h:St X I g s a w) (hd:∀d,dst=some d→d<s.nt) (hv:RV I g s.nx w v val):Sat X ⟨s.nt,s.nx,zcb dst v s.env,s.hp⟩ (a.put dst val) w:=by
 obtain⟨s',h1,h2⟩:=h.putO hv (K:=fun s'=>s'=⟨s.nt,s.nx,zcb dst v s.env,s.hp⟩) (zcu hd rfl)
 exact h2▸h1
mutual
theorem V.ren_ren {r r':Nat→Nat}:∀v:V,(v.ren r).ren r'=v.ren fun i=>r' (r i)
 |.ptr i a b c=>rfl
 |.slc i=>rfl
 |.agg xs=>by simp only[V.ren];rw[zj7 xs]
 |.tup xs=>by simp only[V.ren];rw[zj7 xs]
 |.fn f xs=>by simp only[V.ren];rw[zj7 xs]
 |.any=>rfl
 |.tt=>rfl
 |.ff=>rfl
 |.nil=>rfl
 |.c _=>rfl
 |.iptr _=>rfl
theorem zj7 {r r':Nat→Nat}:∀xs:List V,zag r' (zag r xs)=zag (fun i=>r' (r i)) xs
 |[]=>rfl
 |x::t=>by simp only[zag];rw[V.ren_ren x,zj7 t]
end
mutual
theorem V.idsLt_up {n m:Nat} (hnm:n≤m):∀v:V,v.idsLt n=true→v.idsLt m=true
 |.ptr i a b c,h=>by simp only[V.idsLt,Nat.blt_eq]at h⊢;omega
 |.slc i,h=>by simp only[V.idsLt,Nat.blt_eq]at h⊢;omega
 |.agg xs,h=>by simp only[V.idsLt]at h⊢;exact zf0 hnm xs h
 |.tup xs,h=>by simp only[V.idsLt]at h⊢;exact zf0 hnm xs h
 |.fn f xs,h=>by simp only[V.idsLt]at h⊢;exact zf0 hnm xs h
 |.any,_=>rfl
 |.tt,_=>rfl
 |.ff,_=>rfl
 |.nil,_=>rfl
 |.c _,_=>rfl
 |.iptr _,_=>rfl
theorem zf0 {n m:Nat} (hnm:n≤m):∀xs:List V,zz n xs=true→zz m xs=true
 |[],_=>rfl
 |x::t,h=>by
  simp only[zz]at h⊢
  split at h
  ·rename_i h1
   rw[V.idsLt_up hnm x h1,zf0 hnm t h]
  ·cases h
end
theorem zhm (sets:List (Nat×O)):∀hp:List (Nat×O),(zdv sets hp).map (·.1)=hp.map (·.1):=by
 induction sets with
 |nil=>intro hp;rfl
 |cons q t ih=>obtain⟨i,o⟩:=q;intro hp;simp only[zdv,ih,zcc]
theorem zx9 {sets:List (Nat×O)}:∀{hp:List (Nat×O)},(hp.map (·.1)).Nodup→(sets.map (·.1)).Nodup→∀{i o},(i,o)∈zdv sets hp→(i,o)∈sets∨((i,o)∈hp∧i∉sets.map (·.1)):=by
 induction sets with
 |nil=>intro hp _ _ i o h;exact .inr ⟨h,by simp⟩
 |cons q t ih =>
  obtain⟨k,ob⟩:=q
  intro hp hn hs i o h
  simp only[zdv]at h
  rw[List.map_cons,List.nodup_cons]at hs
  rcases ih (by rw[zcc];exact hn) hs.2 h with h|⟨h,h2⟩
  ·exact .inl (List.mem_cons_of_mem _ h)
  ·rcases zd7 hn h with ⟨rfl,rfl⟩|⟨h3,h4⟩
   ·exact .inl List.mem_cons_self
   ·exact .inr ⟨h3,by simp only[List.map_cons,List.mem_cons,not_or];exact⟨h4,h2⟩⟩
theorem zq5 {sets:List (Nat×O)}:∀{hp:List (Nat×O)},(hp.map (·.1)).Nodup→(sets.map (·.1)).Nodup→∀{i o},((i,o)∈sets∧i∈hp.map (·.1))∨((i,o)∈hp∧i∉sets.map (·.1))→(i,o)∈zdv sets hp:=by
 have one:∀{hp:List (Nat×O)} {k i ob o},((i,o)∈hp∧i≠k)∨(i=k∧o=ob∧k∈hp.map (·.1))→(i,o)∈zac hp k ob:=by
  intro hp
  induction hp with
  |nil=>intro k i ob o h;rcases h with ⟨h,_⟩|⟨_,_,h⟩<;>simp at h
  |cons q t ih =>
   obtain⟨a,b⟩:=q
   intro k i ob o h
   simp only[zac]
   cases hk:Nat.beq a k with
   |true =>
    have hk:=Nat.eq_of_beq_eq_true hk
    rcases h with ⟨h,h2⟩|⟨rfl,rfl,h⟩
    ·rcases List.mem_cons.1 h with h|h
     ·cases h;exact absurd hk h2
     ·exact List.mem_cons_of_mem _ h
    ·rw[hk];exact List.mem_cons_self
   |false =>
    have hk:=Nat.ne_of_beq_eq_false hk
    rcases h with ⟨h,h2⟩|⟨rfl,rfl,h⟩
    ·rcases List.mem_cons.1 h with h|h
     ·cases h;exact List.mem_cons_self
     ·exact List.mem_cons_of_mem _ (ih (.inl ⟨h,h2⟩))
    ·simp only[List.map_cons,List.mem_cons]at h
     rcases h with h|h
     ·exact absurd h.symm hk
     ·exact List.mem_cons_of_mem _ (ih (.inr ⟨rfl,rfl,h⟩))
 induction sets with
 |nil =>
  intro hp _ _ i o h
  rcases h with ⟨h,_⟩|⟨h,_⟩
  ·cases h
  ·exact h
 |cons q t ih =>
  obtain⟨k,ob⟩:=q
  intro hp hn hs i o h
  simp only[zdv]
  rw[List.map_cons,List.nodup_cons]at hs
  refine ih (by rw[zcc];exact hn) hs.2 ?_
  rw[zcc]
  rcases h with ⟨h,h2⟩|⟨h,h2⟩
  ·rcases List.mem_cons.1 h with h|h
   ·cases h;exact .inr ⟨one (.inr ⟨rfl,rfl,h2⟩),hs.1⟩
   ·exact .inl ⟨h,h2⟩
  ·simp only[List.map_cons,List.mem_cons,not_or]at h2
   exact .inr ⟨one (.inl ⟨h,h2.1⟩),h2.2⟩
theorem zyy {A B:List (Nat×O)} (hA:(A.map (·.1)).Nodup) (hB:(B.map (·.1)).Nodup) (h:∀i o,(i,o)∈A↔(i,o)∈B) (i:Nat):zq A i=zq B i:=by
 cases hq:zq A i with
 |some o=>exact(zco hB ((h i o).1 (zt hq))).symm
 |none =>
  cases hq':zq B i with
  |none=>rfl
  |some o=>rw[zco hA ((h i o).2 (zt hq'))]at hq;cases hq
def zh2 (k:Nat):Nat→List Nat
 |0=>[]
 |m+1=>k::zh2 (k+1) m
theorem zn7 (k m:Nat):(zh2 k m).length=m:=by
 induction m generalizing k with
 |zero=>rfl
 |succ m ih=>simp[zh2,ih]
theorem zjh (k m j:Nat) (h:j<m):(zh2 k m)[j]? = some (k+j):=by
 induction m generalizing k j with
 |zero=>omega
 |succ m ih =>
  cases j with
  |zero=>rfl
  |succ j=>simp only[zh2,List.getElem?_cons_succ];rw[ih (k+1) j (by omega)];congr 1;omega
theorem zgp {k m x:Nat} (h:x∈zh2 k m):k≤x∧x<k+m:=by
 obtain⟨j,hj⟩:=List.getElem?_of_mem h
 have hlt:j<m:=by rw[←zn7 k m];exact(List.getElem?_eq_some_iff.1 hj).1
 rw[zjh k m j hlt]at hj;cases hj;omega
theorem ze1 (k m:Nat):(zh2 k m).Nodup:=by
 induction m generalizing k with
 |zero=>simp[zh2]
 |succ m ih =>
  simp only[zh2,List.nodup_cons]
  exact⟨fun h=>by have:=zgp h;omega,ih _⟩
theorem z2i {l:List Nat} {x n:Nat} (h:∀x∈l,x<n):zcq l≤n:=by
 induction l with
 |nil=>exact Nat.zero_le _
 |cons a t ih =>
  show Nat.max (a+1) (zcq t)≤n
  exact Nat.max_le.2 ⟨h a List.mem_cons_self,ih fun x hx=>h x (List.mem_cons_of_mem _ hx)⟩
theorem z0v {l:List Nat} {x:Nat} (h:x∈l):x+1≤zcq l:=by
 induction l with
 |nil=>cases h
 |cons a t ih =>
  show x+1≤Nat.max (a+1) (zcq t)
  rcases List.mem_cons.1 h with rfl|h
  ·exact Nat.le_max_left _ _
  ·exact Nat.le_trans (ih h) (Nat.le_max_right _ _)
theorem zzw {r:Nat→Nat} {nx:Nat} {ks:List Nat}:∀{m:Nat},(∀i,i<m→i∈ks∨nx≤r i)→zd5 r nx ks m=true:=by
 intro m
 induction m with
 |zero=>intro _;rfl
 |succ m ih =>
  intro h
  have ht:=ih fun i hi=>h i (Nat.lt_succ_of_lt hi)
  cases hq:zc7 m ks with
  |true=>simp only[zd5,hq];exact ht
  |false =>
   rcases h m (Nat.lt_succ_self m)with h2|h2
   ·rw[zfx.2 h2]at hq;cases hq
   ·have h3:Nat.ble nx (r m)=true:=by rw[Nat.ble_eq];exact h2
    simp only[zd5,hq,h3];exact ht
theorem zr4 {hin:List (Nat×O)} (h:∀i ob,zq hin i=some ob→ob.isBox=true):∀hout:List (Nat×O),za3 hin hout=true:=by
 intro hout
 induction hout with
 |nil=>rfl
 |cons q t ih =>
  obtain⟨i,o⟩:=q
  simp only[za3]
  split
  ·exact ih
  ·split
   ·rename_i ob hl
    rw[h i ob hl];exact ih
   ·exact ih
theorem zt1 {l:List O} (h:zl4 l=true):∀(j:Nat) ob,l[j]? = some ob→ob.isBox=true:=by
 induction l with
 |nil=>intro j ob hj;cases hj
 |cons o t ih =>
  simp only[zl4]at h
  split at h
  ·rename_i h1
   intro j ob hj
   cases j with
   |zero=>cases hj;exact h1
   |succ j=>exact ih h j ob (by simpa using hj)
  ·cases h
theorem zr5 {r:Nat→Nat} {hout:List (Nat×O)}:∀{hin:List (Nat×O)},(∀i o,(i,o)∈hin→zeh hout i o=true)→∀s:S,zax r hout hin s=s:=by
 intro hin
 induction hin with
 |nil=>intro _ s;rfl
 |cons q t ih =>
  obtain⟨i,o⟩:=q
  intro h s
  simp only[zax,h i o List.mem_cons_self]
  exact ih (fun i o hm=>h i o (List.mem_cons_of_mem _ hm)) s
theorem zm6 {r:Nat→Nat} {lk:Nat→Option O} {l:List (Nat×O)} (h:zlo r lk l):∀i o,(i,o)∈l→lk (r i)=some (o.map (zag r)):=by
 induction l with
 |nil=>intro i o hm;cases hm
 |cons q t ih =>
  obtain⟨k,ob⟩:=q
  intro i o hm
  rcases List.mem_cons.1 hm with hm|hm
  ·cases hm;exact h.1
  ·exact ih h.2 i o hm
theorem z0h {r:Nat→Nat} {hp:List (Nat×O)} {l:List (Nat×O)} (h:∀i o,(i,o)∈l→zq hp (r i)=some (o.map (zag r))):zhj r hp l:=by
 induction l with
 |nil=>trivial
 |cons q t ih=>obtain⟨k,ob⟩:=q;exact⟨h k ob List.mem_cons_self,ih fun i o hm=>h i o (List.mem_cons_of_mem _ hm)⟩
theorem zdy (l:List O):∀k,(zak k l).map (·.1)=zh2 k l.length:=by
 induction l with
 |nil=>intro k;rfl
 |cons o t ih=>intro k;simp only[zak,List.map_cons,List.length_cons,zh2,ih]
theorem O.map_congr {n:Nat} {r r':Nat→Nat} (hr:∀i,i<n→r i=r' i) {o:O} (h:OLt n o):o.map (zag r)=o.map (zag r'):=by
 cases o with
 |box pre bs post=>simp only[O.map];rw[zch hr pre h.1,zch hr post h.2]
 |arr x=>rfl
 |hol x hi vs=>simp only[O.map];rw[zch hr vs h]
 |deep p f x hs =>
  simp only[O.map,zjt]
  congr 1
  exact List.map_congr_left fun q hq=>by rw[zch hr q.2 (h q.1 q.2 hq)]
theorem zh7 {r:Nat→Nat}:∀{l:List (Nat×O)} {i o},(i,o)∈l→(r i,o.map (zag r))∈zbm r l:=by
 intro l
 induction l with
 |nil=>intro i o hm;cases hm
 |cons q t ih =>
  obtain⟨a,b⟩:=q
  intro i o hm
  rcases List.mem_cons.1 hm with hm|hm
  ·cases hm;simp[zbm]
  ·simp only[zbm];exact List.mem_cons_of_mem _ (ih hm)
theorem yfa {hp:List (Nat×O)} {id:Nat} {ob:O} (h:zq hp id=some ob):zac hp id ob=hp:=by
 induction hp with
 |nil=>rfl
 |cons x t ih =>
  obtain⟨k,v⟩:=x
  simp only[zq]at h
  simp only[zac]
  cases c:Nat.beq k id with
  |true =>
   rw[c]at h
   cases h
   rfl
  |false =>
   rw[c]at h
   show(k,v)::zac t id ob=_
   rw[ih h]
theorem z13 (h:St X I g s a w) (hd:∀d,o.dst=some d→d<s.nt) {f:Nat} {args:List V} {vals:List Value} (hargs:RVs I g s.nx w args vals)
  (hwp:∀{R:Ending→World→Prop} (N:Act→World→Prop) (Q:Exit→Act→World→Prop),zhw P f→Calls P f vals.toArray w R→(∀e w',R e w'→∃v,e=.returned v∧N (a.put o.dst v) w')→o.wp P a w N Q)
  {rn:List Nat} {fargs:List V} {hin hos news:List O} {st:V} (hst:st.idsLt news.length=true)
  (hspec:zr P f rn.length fargs (zak 0 hin) (rn.length+news.length) (st.ren fun j=>rn.length+j) (zak 0 hos++zak rn.length news))
  (c1:hin.length=rn.length) (c2:hos.length=rn.length) (c3:zav rn=true) (c4:zl4 hin=true) (c5:zl4 hos=true) (c6:zka news=true) (c7:zz rn.length fargs=true) (c8:zba rn.length (zak 0 hin)=true) (c9:zba rn.length (zak 0 hos)=true)
  (he:zag (rnf rn) fargs=args) (hlk:zlo (rnf rn) (zq s.hp) (zak 0 hin)):zfl P X s o a w (.fx (zbm (rnf rn) (zak 0 hos)) news rn st hst):=by
 have hnd:=zcj.1 c3
 have hpure:=zrp c6
 have hrlt:∀i,i<rn.length→rnf rn i<s.nx:=fun i hi=>by
  have:=zm6 hlk i (hin[i]'(by omega)) (by have:=zey (k:=0) (List.getElem?_eq_getElem (show i<hin.length by omega));rwa [Nat.zero_add]at this)
  exact(h.heap.obj _ _ (zt this)).1
 let rn':=rn++zh2 s.nx news.length
 have hlen':rn'.length=rn.length+news.length:=by simp[rn',zn7]
 have hr1:∀i,i<rn.length→rnf rn' i=rnf rn i:=fun i hi=>by
  have e1:=zh1 rn' i (by omega)
  have e2:=zh1 rn i hi
  rw[List.getElem?_append_left hi,e2]at e1
  exact(Option.some.inj e1).symm
 have hr2:∀j,j<news.length→rnf rn' (rn.length+j)=s.nx+j:=fun j hj=>by
  have e1:=zh1 rn' (rn.length+j) (by omega)
  rw[List.getElem?_append_right (by omega),Nat.add_sub_cancel_left,zjh _ _ _ hj]at e1
  exact(Option.some.inj e1).symm
 have hnd':rn'.Nodup:=by
  rw[List.nodup_append]
  refine⟨hnd,ze1 _ _,fun x hx y hy e=>?_⟩
  obtain⟨i,hi⟩:=List.getElem?_of_mem hx
  have hil:=(List.getElem?_eq_some_iff.1 hi).1
  have e9:=zh1 rn i hil
  rw[hi]at e9
  have:=hrlt i hil
  have:=zgp hy
  have e3:x=rnf rn i:=Option.some.inj e9
  omega
 have hmx:Nat.max s.nx (zcq rn')=s.nx+news.length:=by
  apply Nat.le_antisymm
  ·refine Nat.max_le.2 ⟨Nat.le_add_right _ _,z2i (x:=0) fun x hx=>?_⟩
   rcases List.mem_append.1 hx with hx|hx
   ·obtain⟨i,hi⟩:=List.getElem?_of_mem hx
    have hil:=(List.getElem?_eq_some_iff.1 hi).1
    have e:=zh1 rn i hil
    rw[hi]at e
    have:=hrlt i hil
    have e3:x=rnf rn i:=Option.some.inj e
    omega
   ·have:=zgp hx;omega
  ·rcases Nat.eq_zero_or_pos news.length with h0|h0
   ·rw[h0];exact Nat.le_max_left _ _
   ·refine Nat.le_trans ?_ (Nat.le_max_right _ _)
    have hin:s.nx+(news.length-1)∈rn':=List.mem_append_right _ (List.mem_of_getElem? (zjh s.nx news.length (news.length-1) (by omega)))
    have:=z0v hin
    omega
 have hk0:zbl (zak 0 hin)=zh2 0 hin.length:=by rw[zcg,zdy]
 have hinb:∀i ob,(i,ob)∈zak 0 hin→i<rn.length∧ob.isBox=true:=fun i ob hm=>by
  obtain⟨j,rfl,hj⟩:=zj8 hm
  exact⟨by have:=(List.getElem?_eq_some_iff.1 hj).1;omega,zt1 c4 j ob hj⟩
 have hout_nd:((zak 0 hos++zak rn.length news).map (·.1)).Nodup:=by
  rw[List.map_append,zdy,zdy,List.nodup_append]
  exact⟨ze1 _ _,ze1 _ _,fun x hx y hy=>by have:=zgp hx;have:=zgp hy;omega⟩
 have hstay:∀i ob,(i,ob)∈zak 0 hin→zeh (zak 0 hos++zak rn.length news) i ob=true:=fun i ob hm=>by
  obtain⟨hil,hb⟩:=hinb i ob hm
  have hl:zq (zak 0 hos++zak rn.length news) i=some (hos[i]'(by omega)):=zco hout_nd (List.mem_append_left _ (by
   have:=zey (k:=0) (List.getElem?_eq_getElem (show i<hos.length by omega));rwa [Nat.zero_add]at this))
  unfold zeh
  rw[hb,hl]
  exact zt1 c5 i _ (List.getElem?_eq_getElem (by omega))
 have hOlt:=(zhk c8)
 have hOlt2:=(zhk c9)
 have hcall:=h.called (rn:=rn') hspec (by rw[zch hr1 fargs c7,he];exact hargs) c7 c8 (z0h fun i ob hm=>by
  rw[hr1 i (hinb i ob hm).1,O.map_congr hr1 (hOlt i ob hm).2];exact zm6 hlk i ob hm) (zcj.2 hnd') (by omega) (by omega) (zzw fun i hi=>by
  by_cases c:i<rn.length
  ·left;rw[hk0];exact List.mem_of_getElem? (i:=i) (by rw[zjh _ _ _ (by omega),Nat.zero_add])
  ·right;obtain⟨j,rfl⟩:∃j,i=rn.length+j:=⟨i-rn.length,by omega⟩
   rw[hr2 j (by omega)];omega) (zr4 (fun i ob hl=>(hinb i ob (zt hl)).2) _) (zcj.2 (by rw[hk0];exact ze1 _ _))
 intro N Q hN
 refine hwp N Q hspec.1 hcall fun e w' he2=>?_
 obtain⟨v,I2,g2,rfl,hres,hst2⟩:=he2
 refine⟨v,rfl,hN _ _ ?_⟩
 have hfs:∀s2:S,zax (rnf rn') (zak 0 hos++zak rn.length news) (zak 0 hin) s2=s2:=zr5 hstay
 rw[hfs s]at hst2
 have hren:((st.ren fun j=>rn.length+j).ren (rnf rn'))=st.ren fun j=>s.nx+j:=by
  have key:∀v:V,v.idsLt news.length=true→(v.ren fun j=>rn.length+j).ren (rnf rn')=v.ren fun j=>s.nx+j:=by
   intro v hv
   rw[V.ren_ren]
   exact V.ren_congr (n:=news.length) (fun i hi=>hr2 i hi) v hv
  exact key st hst
 rw[hren,hmx]at hres
 have hput:=hst2.putS (dst:=o.dst) (v:=st.ren fun j=>s.nx+j) (val:=v) hd (by rw[hmx];exact hres)
 simp only[hmx]at hput
 refine hput.eqv ⟨rfl,rfl,fun _=>rfl,fun i=>?_,?_⟩
 ·have hsk:((zbm (rnf rn) (zak 0 hos)).map (·.1)).Nodup:=by
   rw[zet,zdy]
   have:∀l:List Nat,l.Nodup→(∀x∈l,x<rn.length)→(l.map (rnf rn)).Nodup:=by
    intro l
    induction l with
    |nil=>intro _ _;simp
    |cons a t ih =>
     intro hn hl
     rw[List.nodup_cons]at hn
     rw[List.map_cons,List.nodup_cons]
     refine⟨fun hc=>?_,ih hn.2 fun x hx=>hl x (List.mem_cons_of_mem _ hx)⟩
     obtain⟨q,hq,e⟩:=List.mem_map.1 hc
     have:=zks hnd (hl q (List.mem_cons_of_mem _ hq)) (hl a List.mem_cons_self) e
     exact hn.1 (this▸hq)
   exact this _ (ze1 _ _) fun x hx=>by have:=zgp hx;omega
  have hA:=hst2.heap.nodup
  have hB:((zbm (fun j=>s.nx+j) (zak 0 news)++zdv (zbm (rnf rn) (zak 0 hos)) s.hp).map (·.1)).Nodup:=by
   rw[List.map_append,zet,zdy,zhm,List.nodup_append]
   refine⟨?_,h.heap.nodup,fun x hx y hy e=>?_⟩
   ·have:∀l:List Nat,l.Nodup→(l.map fun j=>s.nx+j).Nodup:=by
     intro l
     induction l with
     |nil=>intro _;simp
     |cons a t ih =>
      intro hn
      rw[List.nodup_cons]at hn
      rw[List.map_cons,List.nodup_cons]
      refine⟨fun hc=>?_,ih hn.2⟩
      obtain⟨q,hq,e⟩:=List.mem_map.1 hc
      have:q=a:=by omega
      exact hn.1 (this▸hq)
    exact this _ (ze1 _ _)
   ·obtain⟨q,hq,rfl⟩:=List.mem_map.1 hx
    obtain⟨⟨i,ob⟩,hm,rfl⟩:=List.mem_map.1 hy
    have:=(h.heap.obj i ob hm).1
    simp only at e
    omega
  refine zyy hA hB (fun i ob=>?_) i
  have hdrop:∀{i ob},(i,ob)∈zdm (rnf rn') (zak 0 hin) s.hp→(i,ob)∈s.hp∧i∉(zbm (rnf rn) (zak 0 hos)).map (·.1):=fun {i ob} hm=>by
   obtain⟨h3,h4⟩:=zlx _ h.heap.nodup hm
   refine⟨h3,fun hc=>?_⟩
   rw[zet,zdy]at hc
   obtain⟨q,hq,rfl⟩:=List.mem_map.1 hc
   have hq:=zgp hq
   refine h4 q (hin[q]'(by omega)) (by have:=zey (k:=0) (List.getElem?_eq_getElem (show q<hin.length by omega));rwa [Nat.zero_add]at this) ?_
   rw[hr1 q (by omega)]
  constructor
  ·intro hm
   rcases List.mem_append.1 hm with hm|hm
   ·obtain⟨k,ob',hk,rfl,rfl⟩:=zjw hm
    rcases List.mem_append.1 hk with hk|hk
    ·obtain⟨hkl,hko⟩:=hOlt2 k ob' hk
     rw[hr1 k hkl,O.map_congr hr1 hko]
     refine List.mem_append_right _ (zq5 h.heap.nodup hsk (.inl ⟨zh7 hk,?_⟩))
     have:=zm6 hlk k (hin[k]'(by omega)) (by have:=zey (k:=0) (List.getElem?_eq_getElem (show k<hin.length by omega));rwa [Nat.zero_add]at this)
     exact List.mem_map.2 ⟨_,zt this,rfl⟩
    ·obtain⟨j,rfl,hj⟩:=zj8 hk
     rw[hr2 j (List.getElem?_eq_some_iff.1 hj).1,(hpure j ob' hj).2]
     refine List.mem_append_left _ ?_
     have:=zh7 (r:=fun j=>s.nx+j) (zey (k:=0) hj)
     rwa [Nat.zero_add,(hpure j ob' hj).2]at this
   ·obtain⟨h3,h4⟩:=hdrop hm
    exact List.mem_append_right _ (zq5 h.heap.nodup hsk (.inr ⟨h3,h4⟩))
  ·intro hm
   rcases List.mem_append.1 hm with hm|hm
   ·obtain⟨k,ob',hk,rfl,rfl⟩:=zjw hm
    obtain⟨j,rfl,hj⟩:=zj8 hk
    refine List.mem_append_left _ ?_
    have:=zh7 (r:=rnf rn') (List.mem_append_right (zak 0 hos) (zey (k:=rn.length) hj))
    rw[hr2 j (List.getElem?_eq_some_iff.1 hj).1,(hpure j ob' hj).2]at this
    rw[(hpure j ob' hj).2,Nat.zero_add];exact this
   ·rcases zx9 h.heap.nodup hsk hm with hm|⟨h3,h4⟩
    ·obtain⟨k,ob',hk,rfl,rfl⟩:=zjw hm
     obtain⟨hkl,hko⟩:=hOlt2 k ob' hk
     refine List.mem_append_left _ ?_
     have:=zh7 (r:=rnf rn') (List.mem_append_left (zak rn.length news) hk)
     rwa [hr1 k hkl,O.map_congr hr1 hko]at this
    ·refine List.mem_append_right _ ?_
     have key:∀(l:List (Nat×O)) {hp:List (Nat×O)},(i,ob)∈hp→(∀q o',(q,o')∈l→i≠rnf rn' q)→(i,ob)∈zdm (rnf rn') l hp:=by
      intro l
      induction l with
      |nil=>intro hp h5 _;exact h5
      |cons q t ih =>
       obtain⟨a,b⟩:=q
       intro hp h5 h6
       refine ih ?_ fun q o' hm=>h6 q o' (List.mem_cons_of_mem _ hm)
       have hne:=h6 a b List.mem_cons_self
       have one:∀{hp:List (Nat×O)},(i,ob)∈hp→(i,ob)∈zbu hp (rnf rn' a):=by
        intro hp
        induction hp with
        |nil=>intro h7;cases h7
        |cons q2 t2 ih2 =>
         obtain⟨a2,b2⟩:=q2
         intro h7
         simp only[zbu]
         cases hk:Nat.beq a2 (rnf rn' a)with
         |true =>
          have hk:=Nat.eq_of_beq_eq_true hk
          rcases List.mem_cons.1 h7 with h7|h7
          ·cases h7;exact absurd hk hne
          ·exact h7
         |false =>
          rcases List.mem_cons.1 h7 with h7|h7
          ·cases h7;exact List.mem_cons_self
          ·exact List.mem_cons_of_mem _ (ih2 h7)
       exact one h5
     refine key _ h3 fun q o' hq hc=>h4 ?_
     obtain⟨hql,_⟩:=hinb q o' hq
     rw[zet,zdy]
     refine List.mem_map.2 ⟨q,List.mem_of_getElem? (i:=q) (by rw[zjh _ _ _ (by omega),Nat.zero_add]),?_⟩
     rw[←hr1 q hql];exact hc.symm
 ·show(List.map _ (zbm (fun j=>s.nx+j) (zak 0 news)++zdv (zbm (rnf rn) (zak 0 hos)) s.hp)).Nodup
  rw[List.map_append,zet,zdy,zhm,List.nodup_append]
  refine⟨?_,h.heap.nodup,fun x hx y hy e=>?_⟩
  ·have:∀l:List Nat,l.Nodup→(l.map fun j=>s.nx+j).Nodup:=by
    intro l
    induction l with
    |nil=>intro _;simp
    |cons a t ih =>
     intro hn
     rw[List.nodup_cons]at hn
     rw[List.map_cons,List.nodup_cons]
     refine⟨fun hc=>?_,ih hn.2⟩
     obtain⟨q,hq,e⟩:=List.mem_map.1 hc
     have:q=a:=by omega
     exact hn.1 (this▸hq)
   exact this _ (ze1 _ _)
  ·obtain⟨q,hq,rfl⟩:=List.mem_map.1 hx
   obtain⟨⟨i,ob⟩,hm,rfl⟩:=List.mem_map.1 hy
   have:=(h.heap.obj i ob hm).1
   simp only at e
   omega
theorem zyl (env:List (Nat×V)) (l:List (Nat×Operand)):eps (evl env) l=evp env l:=by
 induction l with
 |nil=>rfl
 |cons x t ih=>obtain⟨i,x⟩:=x;simp only[eps,evp,ih]
theorem zz9 (env:List (Nat×V)) (l:List Operand):ess (evl env) l=evs env l:=by
 induction l with
 |nil=>rfl
 |cons x t ih=>simp only[ess,evs,ih]
theorem z07 (ps:List (Nat×V)):zqj ps (zod ps)=ps:=by
 induction ps with
 |nil=>rfl
 |cons x t ih=>obtain⟨i,x⟩:=x;simp only[zod,zqj,ih]
mutual
theorem V.frz_other {id:Nat} {x:C}:∀v:V,id∉v.ids→v.frz id x=v
 |.ptr i a b c,h=>by
  simp only[V.ids,List.mem_singleton]at h
  simp only[V.frz]
  cases hq:Nat.beq i id with
  |true=>exact absurd (Nat.eq_of_beq_eq_true hq).symm h
  |false=>rfl
 |.slc i,h=>by
  simp only[V.ids,List.mem_singleton]at h
  simp only[V.frz]
  cases hq:Nat.beq i id with
  |true=>exact absurd (Nat.eq_of_beq_eq_true hq).symm h
  |false=>rfl
 |.agg xs,h=>by simp only[V.ids]at h;simp only[V.frz,zd1 xs h]
 |.tup xs,h=>by simp only[V.ids]at h;simp only[V.frz,zd1 xs h]
 |.fn f xs,h=>by simp only[V.ids]at h;simp only[V.frz,zd1 xs h]
 |.any,_=>rfl
 |.tt,_=>rfl
 |.ff,_=>rfl
 |.nil,_=>rfl
 |.c _,_=>rfl
 |.iptr _,_=>rfl
theorem zd1 {id:Nat} {x:C}:∀xs:List V,id∉za9 xs→zcl id x xs=xs
 |[],_=>rfl
 |y::t,h=>by
  simp only[za9,List.mem_append,not_or]at h
  simp only[zcl,V.frz_other y h.1,zd1 t h.2]
end
theorem O.frz_other {id:Nat} {x:C} {ob:O} (h:id∉ob.ids):ob.map (zcl id x)=ob:=by
 cases ob with
 |box pre bs post=>simp only[O.ids,List.mem_append,not_or]at h;simp only[O.map,zd1 _ h.1,zd1 _ h.2]
 |arr y=>rfl
 |hol y hi vs=>simp only[O.ids]at h;simp only[O.map,zd1 _ h]
 |deep p f y hs =>
  simp only[O.ids]at h
  have:zbk (zcl id x) hs=hs:=by
   induction hs with
   |nil=>rfl
   |cons q t ih =>
    obtain⟨i,us⟩:=q
    simp only[zia,List.mem_append,not_or]at h
    simp only[zbk,zd1 _ h.1,ih h.2]
  simp only[O.map,this]
theorem St.lower {nt n1 n:Nat} {env:List (Nat×V)} {hp:List (Nat×O)} (h:St X I g ⟨nt,n1,env,hp⟩ a w) (he:∀j,∀i∈(zaw env j).ids,i<n) (hh:∀i o,(i,o)∈hp→i<n∧∀k∈o.ids,k<n)
  (hl:∀id,X.K0 id→id<n):St X I g ⟨nt,n,env,hp⟩ a w :=
 ⟨h.df,h.sz,fun j=>(h.slots j).move fun i hi=>⟨he j i hi,rfl⟩,⟨fun i o hm=>⟨(hh i o hm).1,(h.heap.obj i o hm).2.move rfl fun k hk=>⟨(hh i o hm).2 k hk,rfl⟩⟩,h.heap.apart,h.heap.nodup,h.heap.inj⟩,
  h.bound,h.up,h.down,h.own,h.keep,h.fr,hl⟩
theorem Sat.frozen {x:C} {dst:Option Nat} {a':Act} {w':World} (h:St X I g s a w) (h1:Sat X (Ef.bump dst (.new (.slc 0) rfl (.arr x)) s) a' w'):Sat X ((Ef.val (.c x)).apply 0 dst s) a' w':=by
 obtain⟨I1,g1,h1⟩:=h1
 obtain⟨I2,_,_,h2⟩:=h1.freeze (id:=s.nx) (x:=x) (by simp only[Ef.bump];rw[zaz,if_pos rfl])
 have hlt:∀i o,(i,o)∈s.hp→i<s.nx∧∀k∈o.ids,k<s.nx:=fun i o hm=>⟨(h.heap.obj i o hm).1,(h.heap.obj i o hm).2.ids_lt⟩
 refine⟨I2,g1,St.lower (n1:=s.nx+1) (h2.eqv ⟨rfl,rfl,fun j=>?_,fun i=>?_,h.heap.nodup⟩) (fun j i hi=>?_) hlt h.low⟩
 ·show zaw (zb2 (V.frz s.nx x) (zcb dst (.slc s.nx) s.env)) j=zaw (zcb dst (.c x) s.env) j
  rw[zex _ rfl,zcp,zcp]
  split
  ·simp[V.frz,Nat.beq_refl]
  ·exact V.frz_other _ fun hm=>by have:=(h.slots j).ids_lt _ hm;omega
 ·show zq (za7 (zcl s.nx x) (zbu ((s.nx,.arr x)::s.hp) s.nx)) i=zq s.hp i
  have hdr:zbu ((s.nx,O.arr x)::s.hp) s.nx=s.hp:=by simp[zbu,Nat.beq_refl]
  rw[hdr,ziv]
  cases hq:zq s.hp i with
  |none=>rfl
  |some ob =>
   simp only[Option.map_some]
   rw[O.frz_other fun hm=>by have:=(hlt i ob (zt hq)).2 _ hm;omega]
 ·rw[zcp]at hi
  split at hi
  ·simp[V.ids]at hi
  ·exact(h.slots j).ids_lt i hi
theorem Sat.frozenM {id:Nat} {x:C} {dst:Option Nat} {a':Act} {w':World} (h:St X I g s a w) (h1:Sat X (Ef.bump dst (.mv id x) s) a' w'):Sat X ((Ef.mf id x).apply 0 dst s) a' w':=by
 obtain⟨I1,g1,h1⟩:=h1
 obtain⟨I2,_,_,h2⟩:=h1.freeze (id:=s.nx) (x:=x) (by simp only[Ef.bump];rw[zaz,if_pos rfl])
 have hlt:∀i o,(i,o)∈zbx s.hp id→i<s.nx∧∀k∈o.ids,k<s.nx:=fun i o hm=>⟨(h.heap.obj i o (zee hm).1).1,(h.heap.obj i o (zee hm).1).2.ids_lt⟩
 refine⟨I2,g1,St.lower (n1:=s.nx+1) (h2.eqv ⟨rfl,rfl,fun j=>?_,fun i=>?_,h.heap.nodup.sublist ((zjd _ _).map _)⟩) (fun j i hi=>?_) hlt h.low⟩
 ·show zaw (zb2 (V.frz s.nx x) (zcb dst (.slc s.nx) s.env)) j=zaw (zcb dst (.c x) s.env) j
  rw[zex _ rfl,zcp,zcp]
  split
  ·simp[V.frz,Nat.beq_refl]
  ·exact V.frz_other _ fun hm=>by have:=(h.slots j).ids_lt _ hm;omega
 ·show zq (za7 (zcl s.nx x) (zbu ((s.nx,.arr x)::zbx s.hp id) s.nx)) i=zq (zbx s.hp id) i
  have hdr:zbu ((s.nx,O.arr x)::zbx s.hp id) s.nx=zbx s.hp id:=by simp[zbu,Nat.beq_refl]
  rw[hdr,ziv]
  cases hq:zq (zbx s.hp id) i with
  |none=>rfl
  |some ob =>
   simp only[Option.map_some]
   rw[O.frz_other fun hm=>by have:=(hlt i ob (zt hq)).2 _ hm;omega]
 ·rw[zcp]at hi
  split at hi
  ·simp[V.ids]at hi
  ·exact(h.slots j).ids_lt i hi
theorem z9y (h:St X I g s a w) (hd:∀d,o.dst=some d→d<s.nt) {f:Nat} {args fargs:List V} {vals:List Value} {id:Nat} {x z:C} (hargs:RVs I g s.nx w args vals)
  (hwp:∀{R:Ending→World→Prop} (N:Act→World→Prop) (Q:Exit→Act→World→Prop),zhw P f→Calls P f vals.toArray w R→(∀e w',R e w'→∃v,e=.returned v∧N (a.put o.dst v) w')→o.wp P a w N Q)
  (hspec:zr P f 1 fargs [(0,.arr x)] 1 (.slc 0) [(0,.arr z)]) (hl:zq s.hp id=some (.arr x)) (hlt:zz 1 fargs=true) (he:zag (fun _=>id) fargs=args):zfl P X s o a w (.mv id z):=by
 intro N Q hN
 have h1:=h.again hl
 have hid:=(h.heap.obj id _ (zt hl)).1
 have hargs1:RVs I (fun i=>if i=s.nx then g id else g i) (s.nx+1) w (zag (rnf [s.nx]) fargs) vals:=by
  subst he
  refine⟨by have:=hargs.1;rw[za5,List.length_map]at this⊢;exact this,fun i u v hu hv=>?_⟩
  rw[za5,List.getElem?_map]at hu
  cases hq:fargs[i]? with
  |none=>rw[hq]at hu;cases hu
  |some y =>
   rw[hq]at hu
   cases hu
   have hy:=zb3 hlt y (List.mem_of_getElem? hq)
   have e1:=(hargs.2 i (y.ren fun _=>id) v (by rw[za5,List.getElem?_map,hq];rfl) hv).unren y rfl hy
   refine e1.reren fun k hk=>?_
   have:k=0:=by omega
   subst this
   exact⟨Nat.lt_succ_self _,by show(if s.nx=s.nx then g id else g s.nx)=g id;rw[if_pos rfl]⟩
 have hcall:=h1.called (rn:=[s.nx]) hspec hargs1 hlt rfl ⟨by show zq ((s.nx,O.arr x)::zbx s.hp id) s.nx=_;rw[zaz,if_pos rfl];rfl,trivial⟩ rfl (Nat.le_refl _) (Nat.le_refl _) rfl rfl rfl
 refine hwp N Q hspec.1 hcall fun e w' hb=>?_
 obtain⟨v,I2,g2,rfl,hres,hst⟩:=hb
 refine⟨v,rfl,hN _ _ ?_⟩
 have hmx:Nat.max (s.nx+1) (zcq [s.nx])=s.nx+1:=by show Nat.max (s.nx+1) (Nat.max (s.nx+1) 0)=s.nx+1;simp[Nat.max_def]
 have hst2:=hst.putS (dst:=o.dst) (v:=.slc s.nx) (val:=v) hd hres
 refine hst2.eqv' ⟨rfl,hmx,fun j=>?_,fun i=>?_,?_⟩
 ·show zaw (zcb o.dst (.slc s.nx) (zb2 (V.forget s.nx) s.env)) j=zaw (zcb o.dst (.slc s.nx) s.env) j
  rw[zcp,zcp,zex _ rfl,V.forget_self fun hc=>by have:=(h.slots j).ids_lt _ hc;omega]
 ·show zq ((s.nx,O.arr z)::zbu (za7 (z6 s.nx) ((s.nx,O.arr x)::zbx s.hp id)) s.nx) i=zq ((s.nx,O.arr z)::zbx s.hp id) i
  simp only[za7,O.map,zbu,Nat.beq_refl,zaz]
  by_cases c:s.nx=i
  ·rw[if_pos c,if_pos c]
  ·rw[if_neg c,if_neg c,ziv]
   cases hq:zq (zbx s.hp id) i with
   |none=>rfl
   |some ob =>
    have:=(h.heap.obj i ob (zee (zt hq)).1).2.ids_lt
    show some (ob.map (z6 s.nx))=some ob
    rw[O.forget_self fun hc=>by have:=this _ hc;omega]
 ·exact h1.heap.nodup
theorem ybv (h:St X I g s a w) (hd:∀d,o.dst=some d→d<s.nt) {f:Nat} {args fargs:List V} {vals:List Value} {id1 id2:Nat} {x1 x2:C} {res:V} (hargs:RVs I g s.nx w args vals)
  (hwp:∀{R:Ending→World→Prop} (N:Act→World→Prop) (Q:Exit→Act→World→Prop),zhw P f→Calls P f vals.toArray w R→(∀e w',R e w'→∃v,e=.returned v∧N (a.put o.dst v) w')→o.wp P a w N Q)
  (hspec:zr P f 2 fargs [(0,.arr x1),(1,.arr x2)] 0 res []) (hl1:zq s.hp id1=some (.arr x1)) (hl2:zq s.hp id2=some (.arr x2)) (hne:id1≠id2) (hlt:zz 2 fargs=true) (he:zag (rnf [id1,id2]) fargs=args)
  (hr:res.idsLt 0=true):zfl P X s o a w (.tk [id1,id2] res):=by
 intro N Q hN
 have h1:=h.again hl1
 have hid2:=(h.heap.obj id2 _ (zt hl2)).1
 have hl2':zq ((s.nx,O.arr x1)::zbx s.hp id1) id2=some (.arr x2):=by
  rw[zaz,if_neg (by omega),zlq,if_neg hne];exact hl2
 have h2:=h1.again (id:=id2) (x:=x2) hl2'
 have hargs2:RVs I (fun i=>if i=s.nx+1 then(if id2=s.nx then g id1 else g id2)else(if i=s.nx then g id1 else g i)) (s.nx+1+1) w (zag (rnf [s.nx,s.nx+1]) fargs) vals:=by
  subst he
  refine⟨by have:=hargs.1;rw[za5,List.length_map]at this⊢;exact this,fun i u v hu hv=>?_⟩
  rw[za5,List.getElem?_map]at hu
  cases hq:fargs[i]? with
  |none=>rw[hq]at hu;cases hu
  |some y =>
   rw[hq]at hu
   cases hu
   have hy:=zb3 hlt y (List.mem_of_getElem? hq)
   have e1:=(hargs.2 i (y.ren (rnf [id1,id2])) v (by rw[za5,List.getElem?_map,hq];rfl) hv).unren y rfl hy
   refine e1.reren fun k hk=>?_
   match k,hk with
   |0,_=>exact⟨by show s.nx<s.nx+1+1;omega,by show(if s.nx=s.nx+1 then _ else(if s.nx=s.nx then g id1 else g s.nx))=g id1;rw[if_neg (by omega),if_pos rfl]⟩
   |1,_=>exact⟨by show s.nx+1<s.nx+1+1;omega,by show(if s.nx+1=s.nx+1 then(if id2=s.nx then g id1 else g id2)else _)=g id2;rw[if_pos rfl,if_neg (by omega)]⟩
 have hnd:zav [s.nx,s.nx+1]=true:=zcj.2 (by simp)
 have hcall:=h2.called (rn:=[s.nx,s.nx+1]) hspec hargs2 hlt rfl ⟨by
  show zq ((s.nx+1,O.arr x2)::zbx ((s.nx,O.arr x1)::zbx s.hp id1) id2) s.nx=_
  rw[zaz,if_neg (by omega),zlq,if_neg (by omega),zaz,if_pos rfl];rfl,by
  show zq ((s.nx+1,O.arr x2)::zbx ((s.nx,O.arr x1)::zbx s.hp id1) id2) (s.nx+1)=_
  rw[zaz,if_pos rfl];rfl,trivial⟩ hnd (Nat.le_refl _) (Nat.zero_le _) rfl rfl rfl
 refine hwp N Q hspec.1 hcall fun e w' hb=>?_
 obtain⟨v,I2,g2,rfl,hres,hst⟩:=hb
 refine⟨v,rfl,hN _ _ ?_⟩
 rw[V.ren_flat hr]at hres
 have hst2:=hst.putS (dst:=o.dst) (v:=res) (val:=v) hd hres
 have hmx:Nat.max (s.nx+1+1) (zcq [s.nx,s.nx+1])=s.nx+1+1:=by
  show Nat.max (s.nx+1+1) (Nat.max (s.nx+1) (Nat.max (s.nx+1+1) 0))=s.nx+1+1
  simp[Nat.max_def]
 have hlo:∀i ob,(i,ob)∈zbx (zbx s.hp id1) id2→i<s.nx∧∀k∈ob.ids,k<s.nx:=fun i ob hm=>by
  have hm':=(zee (zee hm).1).1
  exact⟨(h.heap.obj i ob hm').1,(h.heap.obj i ob hm').2.ids_lt⟩
 have hfin:Sat X ⟨s.nt,s.nx+1+1,zcb o.dst res s.env,zbx (zbx s.hp id1) id2⟩ (a.put o.dst v) w':=by
  refine hst2.eqv' ⟨rfl,hmx,fun j=>?_,fun i=>?_,h.heap.nodup.sublist ((((zjd _ _).trans (zjd _ _))).map _)⟩
  ·show zaw (zcb o.dst res (zb2 (V.forget (s.nx+1)) (zb2 (V.forget s.nx) s.env))) j=zaw (zcb o.dst res s.env) j
   rw[zcp,zcp,zex _ rfl,zex _ rfl,V.forget_self (id:=s.nx) fun hc=>(by have:=(h.slots j).ids_lt _ hc;omega),V.forget_self fun hc=>(by have:=(h.slots j).ids_lt _ hc;omega)]
  ·have hd1:zbx ((s.nx,O.arr x1)::zbx s.hp id1) id2=(s.nx,O.arr x1)::zbx (zbx s.hp id1) id2:=by
    show(match Nat.beq s.nx id2 with|true=>zbx (zbx s.hp id1) id2|false=>(s.nx,O.arr x1)::zbx (zbx s.hp id1) id2)=_
    rw[show Nat.beq s.nx id2=false from by
     cases q:Nat.beq s.nx id2 with
     |false=>rfl
     |true=>have:=Nat.eq_of_beq_eq_true q;omega]
   show zq (zbu (zbu (za7 (z6 (s.nx+1)) (za7 (z6 s.nx) ((s.nx+1,O.arr x2)::zbx ((s.nx,O.arr x1)::zbx s.hp id1) id2))) s.nx) (s.nx+1)) i=zq (zbx (zbx s.hp id1) id2) i
   rw[hd1]
   have hb1:Nat.beq (s.nx+1) s.nx=false:=by
    cases q:Nat.beq (s.nx+1) s.nx with
    |false=>rfl
    |true=>have:=Nat.eq_of_beq_eq_true q;omega
   simp only[za7,O.map,zbu,Nat.beq_refl,hb1]
   rw[ziv,ziv]
   cases hq:zq (zbx (zbx s.hp id1) id2) i with
   |none=>rfl
   |some ob =>
    have:=(hlo i ob (zt hq)).2
    show some ((ob.map (z6 s.nx)).map (z6 (s.nx+1)))=some ob
    rw[O.forget_self (id:=s.nx) fun hc=>(by have:=this _ hc;omega),O.forget_self fun hc=>(by have:=this _ hc;omega)]
 obtain⟨I3,g3,h3⟩:=hfin
 refine⟨I3,g3,St.lower (n1:=s.nx+1+1) h3 (fun j i hi=>?_) hlo h.low⟩
 rw[zcp]at hi
 split at hi
 ·exact absurd (V.ids_of_lt hr i hi) (Nat.not_lt_zero _)
 ·exact(h.slots j).ids_lt i hi
theorem zyz (h:St X I g s a w) (hd:∀d,o.dst=some d→d<s.nt) {c:Call} {f:Nat} {caps:List V} (ho:o.op=.call c) {x:Operand} (hc:c.callee=.value x) (hx:evl s.env x=.fn f caps) {K:Ef→Prop}
  (hk:vcalld P f (evs s.env c.args.toList++caps) (zq s.hp) K):∃e,K e∧zfl P X s o a w e:=by
 obtain⟨vals,hargs,hwp⟩:=z2w (P:=P) ho hc h hx
 generalize evs s.env c.args.toList++caps=args at hk hargs
 unfold vcalld at hk
 rcases hk with ⟨res,e1,e2,hspec,hk⟩|⟨res,hsc,hid,hspec,hk⟩|⟨z,st,hst,e1,hspec,hk⟩|⟨z,st,hst,e1,e2,e3,hspec,hk⟩|⟨id,fargs,pre,post,bs,pre',post',bs',res,hspec,hl,q1,q2,q3,q4,q6,q7,q8,_,hk⟩|⟨news,st,hst,e1,e2,e3,hspec,hk⟩ |
  ⟨rn,fargs,hin,hos,news,st,hst,hspec,⟨c1,c2,c3,c4,c5,c6,c7,c8,c9⟩,he,hlk,hk⟩|⟨res,hview,hk⟩|⟨z,e1,e2,hspec,hk⟩|⟨id1,id2,fargs,x1,x2,res,hspec,hl1,hl2,hne,hlt,he,_,_,hrf,hrb,hk⟩|⟨id,fargs,x,z,hspec,hl,q1,q2,_,hk⟩
 ·simp only[zz]at e2
  have e2:res.idsLt 0=true:=by split at e2<;>first|assumption|cases e2
  have hcall:=h.called (rn:=[]) hspec (by rw[zeu e1];exact hargs) e1 rfl trivial rfl (Nat.zero_le _) (Nat.zero_le _) rfl rfl rfl
  obtain⟨v',hk',hv'⟩:=zvo hk
  refine⟨_,hk',fun N Q hN=>hwp N Q hspec.1 hcall fun e w' he=>?_⟩
  obtain⟨v,I2,g2,rfl,hres,hst⟩:=he
  refine⟨v,rfl,hN _ _ ?_⟩
  rw[V.ren_flat e2]at hres
  have hmx:Nat.max s.nx (zcq [])=s.nx:=Nat.max_eq_left (Nat.zero_le _)
  rw[hmx]at hres
  have:=hst.putS (dst:=o.dst) (v:=v') (val:=v) hd (by rw[hmx];exact hv' hres)
  simp only[hmx]at this
  exact this
 ·obtain⟨v',hk',hv'⟩:=zvo hk
  refine⟨_,hk',fun N Q hN=>hwp N Q hspec.1 (h.lendScalar hsc hid hspec hargs) fun e w' he=>?_⟩
  obtain⟨v,rfl,hst,hres⟩:=he
  exact⟨v,rfl,hN _ _ (hst.putS hd (hv' hres))⟩
 ·have hmx:Nat.max s.nx (zcq [s.nx])=s.nx+1:=by show Nat.max s.nx (Nat.max (s.nx+1) 0)=s.nx+1;simp[Nat.max_def]
  have hcall:=h.called (rn:=[s.nx]) hspec (by rw[zeu e1];exact hargs) e1 rfl trivial rfl (Nat.zero_le _) (Nat.le_refl _) (by
   have:Nat.ble s.nx s.nx=true:=by simp
   simp only[zd5,zbl,zc7,rnf,this]) rfl rfl
  refine⟨_,hk,fun N Q hN=>hwp N Q hspec.1 hcall fun e w' he=>?_⟩
  obtain⟨v,I2,g2,rfl,hres,hst2⟩:=he
  refine⟨v,rfl,hN _ _ ?_⟩
  have hr0:∀i,i<1→rnf [s.nx] i=(fun _=>s.nx) i:=fun i hi=>by
   have e:i=0:=by omega
   rw[e];rfl
  have hren:st.ren (rnf [s.nx])=st.ren fun _=>s.nx:=V.ren_congr hr0 st hst
  rw[hren,hmx]at hres
  have:=hst2.putS (dst:=o.dst) (v:=st.ren fun _=>s.nx) (val:=v) hd (by rw[hmx];exact hres)
  simp only[hmx]at this
  exact this
 ·refine⟨_,hk,fun N Q hN=>hwp N Q hspec.1 (h.lendNew (m:=1) (hout:=[(0,.arr z)]) (by simp only[zfn];rw[e1]) e2 e3 hspec hargs) fun e w' he=>?_⟩
  obtain⟨v,I2,g2,rfl,hst2,hres⟩:=he
  have hren:(st.ren fun i=>s.nx+i)=st.ren fun _=>s.nx:=V.ren_congr (n:=1) (fun i hi=>by
   have e:i=0:=by omega
   rw[e];rfl) st hst
  rw[hren]at hres
  exact⟨v,rfl,hN _ _ (hst2.putS (s:=⟨s.nt,s.nx+1,s.env,(s.nx,.arr z)::s.hp⟩) hd hres)⟩
 ·have hmem:=zt hl
  have hlt:id<s.nx:=(h.heap.obj id _ hmem).1
  simp only[zz]at q6
  have q6:res.idsLt 0=true:=by split at q6<;>first|assumption|cases q6
  have hr:∀i,i<1→rnf [id] i=(fun _=>id) i:=fun i hi=>by
   have:i=0:=by omega
   subst this;rfl
  have hin0:zba 1 [(0,O.box pre bs post)]=true:=by
   simp only[zba]
   rw[zf0 (Nat.zero_le 1) _ q1,zf0 (Nat.zero_le 1) _ q2];rfl
  have hcall:=h.called (rn:=[id]) hspec (by rw[zch hr fargs q7,q8];exact hargs) q7 hin0 ⟨by
   show zq s.hp id=some (.box (zag (rnf [id]) pre) bs (zag (rnf [id]) post))
   rw[zeu q1,zeu q2];exact hl,trivial⟩ rfl (Nat.le_refl _) (Nat.le_refl _) rfl rfl rfl
  have hmx:Nat.max s.nx (zcq [id])=s.nx:=Nat.max_eq_left (by show Nat.max (id+1) 0≤s.nx;exact Nat.max_le.2 ⟨hlt,Nat.zero_le _⟩)
  refine⟨_,hk,fun N Q hN=>hwp N Q hspec.1 hcall fun e w' he=>?_⟩
  obtain⟨v,I2,g2,rfl,hres,hst⟩:=he
  refine⟨v,rfl,hN _ _ ?_⟩
  rw[V.ren_flat q6,hmx]at hres
  have hst2:=hst.putS (dst:=o.dst) (v:=res) (val:=v) hd (by rw[hmx];exact hres)
  refine hst2.eqv ⟨rfl,hmx,fun _=>rfl,fun i=>?_,by show(List.map _ (zac s.hp id _)).Nodup;rw[zcc];exact h.heap.nodup⟩
  show zq ((id,O.box (zag (rnf [id]) pre') bs' (zag (rnf [id]) post'))::zbu s.hp id) i=zq (zac s.hp id _) i
  rw[zeu q3,zeu q4,zaz,zw4 hl,zvd h.heap.nodup]
  split<;>rfl
 ·refine⟨_,hk,fun N Q hN=>hwp N Q hspec.1 (h.lendNew e1 e2 e3 hspec hargs) fun e w' he=>?_⟩
  obtain⟨v,I2,g2,rfl,hst2,hres⟩:=he
  exact⟨v,rfl,hN _ _ (hst2.putS hd hres)⟩
 ·have hdo:=z13 h hd hargs hwp hst hspec c1 c2 c3 c4 c5 c6 c7 c8 c9 he hlk
  rcases hk with hk|⟨ob,h2,o2,rfl,rfl,hk⟩
  ·exact⟨_,hk,hdo⟩
  ·have e:zdv (zbm (rnf rn) (zak 0 (ob::o2))) s.hp=zdv (zbm (rnf rn) (zak 1 o2)) s.hp:=by
    show zdv (zbm (rnf rn) (zak 1 o2)) (zac s.hp (rnf rn 0) (ob.map (zag (rnf rn))))=_
    rw[yfa hlk.1]
   refine⟨_,hk,fun N Q hN=>hdo N Q fun a' w' h'=>hN a' w' ?_⟩
   simp only[Ef.bump]at h'⊢
   rw[e]at h'
   exact h'
 ·obtain⟨v',hk',hv'⟩:=zvo hk
  refine⟨_,hk',fun N Q hN=>hwp N Q hview.1 (hview.2 w I g s.nx _ h.bound hargs.1 hargs.2) fun e w' he=>?_⟩
  obtain⟨v,rfl,⟨q1,q2,q3,q4,q5⟩,hres⟩:=he
  exact⟨v,rfl,hN _ _ ((h.world q1 q2 q3 q4 q5).putS hd (hv' hres))⟩
 ·refine⟨_,hk,fun N Q hN=>hwp N Q hspec.1 (h.lendNew (m:=1) (hout:=[(0,.arr z)]) (by simp only[zfn];rw[e1]) rfl e2 hspec hargs) fun e w' he=>?_⟩
  obtain⟨v,I2,g2,rfl,hst2,hres⟩:=he
  have hren:((V.slc 0).ren fun i=>s.nx+i)=.slc s.nx:=rfl
  rw[hren]at hres
  exact⟨v,rfl,hN _ _ (Sat.frozen h (hst2.putS (s:=⟨s.nt,s.nx+1,s.env,(s.nx,.arr z)::s.hp⟩) hd hres))⟩
 ·simp only[zz]at hrf
  have hrf:res.idsLt 0=true:=by split at hrf<;>first|assumption|cases hrf
  exact⟨_,hk,ybv h hd hargs hwp hspec hl1 hl2 (fun q=>by subst q;rw[Nat.beq_refl]at hne;cases hne) hlt he hrf⟩
 ·have hdo:=z9y h hd hargs hwp hspec hl q1 q2
  rcases hk with hk|hk
  ·exact⟨_,hk,fun N Q hN=>hdo N Q fun a' w' h'=>hN a' w' (Sat.frozenM h h')⟩
  ·exact⟨_,hk,hdo⟩
theorem zt8 (hT:TOk P T) {t len:Nat} {parts:Array (Nat×Operand)} (ho:o.op=.buildSlice t len parts) (h:St X I g s a w) {e sz by':Nat} {kd:Kd} (hti:T t=.slice e sz by' kd) {cs:List V}
  (hps:evp s.env parts.toList=[(0,.agg cs)]) (hlen:Nat.beq (evp s.env parts.toList).length len=true) (hmax:Nat.ble (len*sz) 1000000=true) (hok:zp7 kd.empty sz cs=true) {N:Act→World→Prop} {Q:Exit→Act→World→Prop}
  (hd:∀d,o.dst=some d→d<s.nt) (hN:∀s' a' w',Sat X s' a' w'→s'=(Ef.new (.slc 0) rfl (.hol (kd.zeros 1) 0 cs)).bump o.dst s→N a' w'):o.wp P a w N Q :=
 zl9 hT ho h hti hps hlen hmax hok (K:=fun s'=>s'=(Ef.new (.slc 0) rfl (.hol (kd.zeros 1) 0 cs)).bump o.dst s) (zix (.slc 0) rfl hd rfl) hN
theorem z7x (hT:TOk P T) {t len:Nat} {parts:Array (Nat×Operand)} (ho:o.op=.buildSlice t len parts) (h:St X I g s a w) {e sz by':Nat} {kd:Kd} (hti:T t=.slice e sz by' kd) {id:Nat}
  (hps:evp s.env parts.toList=[(0,.slc id)]) (hlen:Nat.beq (evp s.env parts.toList).length len=true) (hmax:Nat.ble (len*sz) 1000000=true) (hok:zp7 kd.empty sz [.slc id]=true) {N:Act→World→Prop} {Q:Exit→Act→World→Prop}
  (hd:∀d,o.dst=some d→d<s.nt) (hN:∀s' a' w',Sat X s' a' w'→s'=(Ef.new (.slc 0) rfl (.hol (kd.zeros 1) 0 [.slc id])).bump o.dst s→N a' w'):o.wp P a w N Q :=
 z7w hT ho h hti hps hlen hmax hok (K:=fun s'=>s'=(Ef.new (.slc 0) rfl (.hol (kd.zeros 1) 0 [.slc id])).bump o.dst s) (zix (.slc 0) rfl hd rfl) hN
theorem zvf {t len:Nat} {parts:List (Nat×V)} {dst:Option Nat} {e sz by':Nat} {kd:Kd} {K:S→Prop} (hti:T t=.slice e sz by' kd) (h1:Nat.beq parts.length len=true) (h2:Nat.ble (len*sz) 1000000=true)
  (h:ziw kd sz parts s dst K):zgi T t len parts s dst K:=by
 simp only[zgi,hti,h1,h2]
 split
 ·exact h
 ·split
  ·unfold vch;exact .inl h
  ·split
   ·unfold vch;exact .inl h
   ·exact h
  ·exact h
theorem z0f (hT:TOk P T) (hE:EOk P T) (h:St X I g s a w) (hd:∀d,o.dst=some d→d<s.nt) {own:Bool} {t len:Nat} {parts:Array (Nat×Operand)} (ho:o.op=.buildSlice t len parts) {K:Ef→Prop}
  (hk:zgn T own t len (eps (evl s.env) parts.toList) (fun x=>K (.val (.c x))) fun ob=>K (.new (.slc 0) rfl ob)):∃e,K e∧zfl P X s o a w e:=by
 rw[zyl]at hk
 unfold zgn at hk
 split at hk
 ·rename_i hti
  split at hk
  ·rename_i q1
   split at hk
   ·rename_i q2
    split at hk
    ·rename_i q3
     split at hk
     ·rename_i x q4
      split at hk
      ·rename_i q5
       rw[C.force_eq]at hk
       have hop:∀N:Act→World→Prop,∀Q:Exit→Act→World→Prop,(∀a' w',Sat X (Ef.bump o.dst (.new (.slc 0) rfl (.arr x)) s) a' w'→N a' w')→o.wp P a w N Q:=fun N Q hN=>by
        refine zol hT hE h (K:=fun s'=>s'=(Ef.new (.slc 0) rfl (.arr x)).bump o.dst s) ?_ fun s' a' w' h' he=>hN a' w' (he▸h')
        unfold vop;rw[ho]
        refine zvf hti q1 q2 ?_
        simp only[ziw,q3,vfz,z07,q4,q5,C.force_eq]
        exact zgb hd rfl
       have hval:K (.val (.c x))→∃e,K e∧zfl P X s o a w e:=fun hk=>⟨_,hk,fun N Q hN=>hop N Q fun a' w' h'=>hN a' w' (Sat.frozen h h')⟩
       split at hk
       ·unfold vch at hk
        rcases hk with hk|hk
        ·exact hval hk
        ·exact⟨_,hk,fun N Q hN=>hop N Q fun a' w' h'=>hN a' w' h'⟩
       ·split at hk
        ·unfold vch at hk
         rcases hk with hk|hk
         ·exact hval hk
         ·exact⟨_,hk,fun N Q hN=>hop N Q fun a' w' h'=>hN a' w' h'⟩
        ·split at hk
         ·exact⟨_,hk,fun N Q hN=>hop N Q fun a' w' h'=>hN a' w' h'⟩
         ·exact hval hk
      ·exact hk.elim
     ·exact hk.elim
    ·split at hk
     ·rename_i cs hps
      split at hk
      ·rename_i q4
       rw[zdd]at hk
       refine⟨_,hk,fun N Q hN=>?_⟩
       exact zt8 hT ho h hti hps q1 q2 q4 hd fun s' a' w' h' he=>hN a' w' (he▸h')
      ·exact hk.elim
     ·rename_i id hps
      split at hk
      ·rename_i q4
       refine⟨_,hk,fun N Q hN=>?_⟩
       exact z7x hT ho h hti hps q1 q2 q4 hd fun s' a' w' h' he=>hN a' w' (he▸h')
      ·exact hk.elim
     ·exact hk.elim
   ·exact hk.elim
  ·exact hk.elim
 ·exact hk.elim
theorem z01 (hT:TOk P T) (hE:EOk P T) (h:St X I g s a w) (hd:∀d,o.dst=some d→d<s.nt) {K:Ef→Prop} (hk:vd T P o (evl s.env) (zq s.hp) K):∃e,K e∧zfl P X s o a w e:=by
 unfold vd at hk
 split at hk
 ·rename_i x ho
  exact zcv (v:=pure (a.eval x)) h hd (fun val hr=>by simp at hr;simp[execOp,ho,hr]) ⟨_,a.eval x,by simp,h.eval x,hk⟩
 ·rename_i x ho
  exact zcv (v:=pure (a.eval x)) h hd (fun val hr=>by simp at hr;simp[execOp,ho,hr]) ⟨_,a.eval x,by simp,h.eval x,hk⟩
 ·rename_i c x y ho
  have hc:=h.eval c
  split at hk
  ·rename_i e
   rw[e]at hc
   have hp:=hc.tt_inv
   exact zcv (v:=pure (a.eval x)) h hd (fun val hr=>by simp at hr;simp[execOp,ho,hp,asBool,hr]) ⟨_,a.eval x,by simp,h.eval x,hk⟩
  ·rename_i e
   rw[e]at hc
   have hp:=hc.ff_inv
   exact zcv (v:=pure (a.eval y)) h hd (fun val hr=>by simp at hr;simp[execOp,ho,hp,asBool,hr]) ⟨_,a.eval y,by simp,h.eval y,hk⟩
  ·exact hk.elim
 ·rename_i t ho;exact zsn hT hE h hd ho hk
 ·rename_i t x ho
  split at hk
  ·rename_i h1
   refine⟨_,hk,zfg hT hE h ?_⟩
   unfold vop;rw[ho]
   simp only[h1]
   exact zuo hd rfl
  ·exact hk.elim
 ·rename_i t parts ho
  rw[zyl]at hk
  split at hk
  ·rename_i h1
   unfold zgf at hk
   split at hk
   ·rename_i fs zs hti
    split at hk
    ·rename_i cs hcs
     refine⟨.val (.agg cs),?_,zfg hT hE h ?_⟩
     ·simpa only[fin,V.force_eq]using hk
     ·unfold vop;rw[ho]
      simp only[h1,zgf,hti,hcs]
      exact zcu hd rfl
    ·exact hk.elim
   ·exact hk.elim
  ·exact hk.elim
 ·rename_i t len parts ho;exact z0f hT hE h hd ho hk
 ·rename_i t x ho
  exact zcv h hd (fun val hr=>by simp[execOp,ho,hr]) (znb hT h.heap (h.eval x) hk)
 ·rename_i t x y ho
  split at hk
  ·rename_i hok;exact zw9 hT hE h hd ho hok hk
  ·exact hk.elim
 ·rename_i x ho
  split at hk
  ·rename_i row he
   refine⟨_,hk,zfg hT hE h ?_⟩
   unfold vop;rw[ho]
   simp only[he]
   exact zcu hd rfl
  ·rename_i he
   refine⟨_,hk,zfg hT hE h ?_⟩
   unfold vop;rw[ho]
   simp only[he]
   exact zcu hd rfl
  ·exact hk.elim
 ·rename_i op t x y yt ho
  split at hk
  ·rename_i hok
   refine zcv h hd (v:=do eqGuard op t x y (a.eval x) (a.eval y);binOp op t (a.eval x) (a.eval y)) (fun val hr=>?_) (zsk (P:=P) (t:=t) (ox:=x) (oy:=y) (h.eval x) (h.eval y) hk (fun⟨b,b',hb,_⟩=>by
    have hbt:zo4 (T t)=true:=by
     unfold zkv at hok
     split at hok
     ·rename_i l he;rw[he]at hb;cases hb
     ·rename_i k m he;rw[he]at hb;cases hb
     ·exact hok
    unfold zo4 at hbt
    split at hbt
    ·rename_i hti;have:=hT t;rw[hti]at this;exact this.2.2.2.2 rfl
    ·cases hbt) (fun⟨l,hl⟩=>by
    unfold zkv at hok
    rw[hl]at hok
    exact hE t hok))
   simp only[execOp,ho,Sem.run_bind];simp only[Sem.run_bind]at hr;rw[hr];rfl
  ·exact hk.elim
 ·rename_i op t x ho
  exact zcv h hd (fun val hr=>by simp[execOp,ho,hr]) (zv3 (h.eval x) hk)
 ·rename_i r d x ho
  split at hk
  ·rename_i hok
   refine zcv h hd (fun val hr=>by simp[execOp,ho,hr]) (zrd hT (src:=r) (h.eval x) hk ?_)
   unfold intT at hok
   split at hok
   ·rename_i k m hti;have:=hT r;rw[hti]at this;exact⟨k,this.2.2.2.1 k m rfl⟩
   ·cases hok
  ·exact hk.elim
 ·rename_i t l c ho;exact zu3 hT hE h hd ho hk
 ·rename_i t x lo hi mx ho
  refine zcv (v:=Instr.sliceAt t (a.eval x) (lo.map a.eval) (hi.map a.eval) (mx.map a.eval)) h hd (fun val hr=>by simp[execOp,ho,hr]) (zpp hT (h.eval x) (fun y hy=>?_) (fun e=>?_) (fun y hy=>?_) (fun e=>?_) (fun e=>?_) hk)
  ·cases lo with
   |none=>cases hy
   |some z=>cases hy;exact⟨_,rfl,h.eval z⟩
  ·cases lo with
   |none=>rfl
   |some z=>cases e
  ·cases hi with
   |none=>cases hy
   |some z=>cases hy;exact⟨_,rfl,h.eval z⟩
  ·cases hi with
   |none=>rfl
   |some z=>cases e
  ·cases mx with
   |none=>rfl
   |some z=>cases e
 ·rename_i t x f ho
  exact zcv h hd (fun val hr=>by simp[execOp,ho,hr]) (zk6 hT (h.eval x) hk)
 ·rename_i t x f ho
  exact zcv h hd (fun val hr=>by simp[execOp,ho,hr]) (zpd hT (h.eval x) hk)
 ·rename_i t x ix ho
  exact zcv h hd (fun val hr=>by simp[execOp,ho,hr]) (zkx hT h.heap (h.eval x) (h.eval ix) hk)
 ·rename_i x i ho
  have hx:=h.eval x
  split at hk
  ·rename_i vs he
   rw[he]at hx
   split at hk
   ·rename_i v hv
    have hv:=zoy hv
    obtain⟨us,hu,hl,hr⟩:=hx.tup_inv
    have hlt:i<us.length:=by rw[←hl];exact(List.getElem?_eq_some_iff.1 hv).1
    exact zcv (v:=pure us[i]) h hd (fun val hr=>by simp at hr;subst hr;simp[execOp,ho,hu,Instr.extract,hlt]) ⟨v,us[i],by simp,hr i v _ hv (List.getElem?_eq_getElem hlt),hk⟩
   ·exact hk.elim
  ·exact hk.elim
 ·rename_i c ho
  split at hk
  ·rename_i b hc
   rw[zz9]at hk
   have hargs:=h.evals' c.args.toList
   have hvals:(c.args.map a.eval).toList=c.args.toList.map a.eval:=by simp
   split at hk
   ·rename_i x he
    rw[he]at hargs
    split at hk
    ·rename_i t ts hts
     split at hk
     ·rename_i e sz by' kd hti
      obtain⟨v,hv⟩:∃v,c.args.toList.map a.eval=[v]:=by
       have:=hargs.1
       match hq:c.args.toList.map a.eval,this with
       |[v],_=>exact⟨v,rfl⟩
      have hx:=hargs.2 0 x v rfl (by rw[hv];rfl)
      have harr:c.args.map a.eval=#[v]:=by apply Array.ext';rw[hvals,hv]
      have hu:=(zdh hT hti).1
      have h0:c.argTypes[0]? = some t:=by rw[←Array.getElem?_toList,hts];rfl
      obtain⟨y,val,r1,r2,r3⟩:=zsm (t:=o.type) h0 hu h.heap hx hk
      obtain⟨v',h4,h5⟩:=zl1 r2 r3
      exact⟨_,h5,zl8 h hd (by simp[execOp,ho,resolve,hc,invoke,builtin,harr,r1]) h4⟩
     ·exact hk.elim
    ·exact hk.elim
   ·rename_i x y he
    split at hk
    ·rename_i t t' hts
     split at hk
     ·rename_i e sz by' kd hti
      have hlen:∃p q,c.args.toList=[p,q]:=by
       have:(evs s.env c.args.toList).length=2:=by rw[he];rfl
       rw[zs0,List.length_map]at this
       match hq:c.args.toList,this with
       |[p,q],_=>exact⟨p,q,rfl⟩
      obtain⟨p,q,hpq⟩:=hlen
      have he':=he
      rw[hpq]at he'
      simp only[evs,List.cons.injEq,and_true]at he'
      obtain⟨hx,hy⟩:=he'
      rw[←hx,←hy]at hk
      have harr:c.args.map a.eval=#[a.eval p,a.eval q]:=by apply Array.ext';rw[hvals,hpq];rfl
      have hat:c.argTypes=#[t,t']:=by apply Array.ext';rw[hts]
      refine zwu hd (fun e he2=>zfg hT hE h ?_) (fun id x' z y' e2 sz2 by2 kd2 g1 g2 g3 g4 g5 g6 g7 g8=>zvi hT h hd g1 ⟨_,_,_,_,hti⟩ (fun v w' hr=>by simp[execOp,ho,resolve,hc,invoke,builtin,harr,hat,hr]) g2 g3 g4 g5 g6 g7 g8) (fun id x' z y' e2 sz2 by2 kd2 g1 g2 g3 g4 g5 g6 g7 g8=>fun N Q hN=>zvi hT h hd g1 ⟨_,_,_,_,hti⟩ (fun v w' hr=>by simp[execOp,ho,resolve,hc,invoke,builtin,harr,hat,hr]) g2 g3 g4 g5 g6 g7 g8 N Q fun a' w' h'=>hN a' w' (Sat.frozenM h h')) hk
      unfold vop;rw[ho]
      simp only[hc,zle,he,hts,hti]
      rw[←hx,←hy]
      exact he2
     ·exact hk.elim
    ·exact hk.elim
   ·rename_i x y he
    rw[he]at hargs
    obtain⟨z,val,r1,r2,r3⟩:=znt (P:=P) (ts:=c.argTypes) (t:=o.type) (isMax:=false) hargs.1 hargs.2 hk
    have harr:c.args.map a.eval=(c.args.toList.map a.eval).toArray:=by apply Array.ext';simp
    simp only[Bool.false_eq_true,if_false]at r1
    obtain⟨v',h4,h5⟩:=zl1 r2 r3
    exact⟨_,h5,zl8 h hd (by simp only[execOp,ho,resolve,hc,invoke,builtin,Sem.run_bind,Sem.run_pure,Result.andThen_ok];rw[harr,r1];rfl) h4⟩
   ·rename_i x y he
    rw[he]at hargs
    obtain⟨z,val,r1,r2,r3⟩:=znt (P:=P) (ts:=c.argTypes) (t:=o.type) (isMax:=true) hargs.1 hargs.2 hk
    have harr:c.args.map a.eval=(c.args.toList.map a.eval).toArray:=by apply Array.ext';simp
    simp only[if_true]at r1
    obtain⟨v',h4,h5⟩:=zl1 r2 r3
    exact⟨_,h5,zl8 h hd (by simp only[execOp,ho,resolve,hc,invoke,builtin,Sem.run_bind,Sem.run_pure,Result.andThen_ok];rw[harr,r1];rfl) h4⟩
   ·exact hk.elim
  ·rename_i f hc
   split at hk
   ·rename_i g' caps he
    rw[zz9]at hk
    exact zyz h hd ho hc he hk
   ·exact hk.elim
  ·exact hk.elim
 ·exact hk.elim
end
end Go.VL
namespace Go.VL
set_option linter.unusedVariables false
set_option linter.unusedSimpArgs false
section
variable {P : Program} {T : TT} {o : Oper} {lk : Nat → Option O} {KV : V → Prop}
theorem zan {c A:Prop} (hc:c) (h:A):vneed c A:=by unfold vneed;exact⟨hc,h⟩
theorem zlu {k:IntKind} {r:Int} (h:vint k r KV):∃v,KV v∧∀K':V→Prop,K' v→vint k r K':=by
 unfold vint at h
 rcases h with ⟨e,h⟩|h
 ·exact⟨_,h,fun K' h=>by unfold vint;exact .inl ⟨e,h⟩⟩
 ·exact⟨_,h,fun K' h=>by unfold vint;exact .inr h⟩
theorem zjn {ti:TI} {row:List C} (h:ze6 ti row KV):∃v,KV v∧∀K':V→Prop,K' v→ze6 ti row K':=by
 unfold ze6 at h
 repeat' split at h
 all_goals first
  |exact h.elim
  |exact⟨_,h,fun K' h'=>by simp only[ze6, *]⟩
theorem zl {c A B:Prop} (hc:c) (h:A):vor c A B:=by unfold vor;exact .inl ⟨hc,h⟩
theorem zj {c A B:Prop} (hc:¬c) (h:B):vor c A B:=by unfold vor;exact .inr ⟨hc,h⟩
theorem zke {ti:TI} {row:List V} (h:zfi ti row KV):∃v,KV v∧∀K':V→Prop,K' v→zfi ti row K':=by
 unfold zfi at h
 split at h
 ·rename_i q1
  split at h
  ·rename_i q2
   exact⟨_,h,fun K' hk=>by simp only[zfi,q1,q2];exact hk⟩
  ·exact h.elim
 ·rename_i q1
  split at h
  ·rw[V.force_eq]at h
   exact⟨_,h,fun K' hk=>by simp only[zfi,q1,V.force_eq];exact hk⟩
  ·exact h.elim
theorem zy5 {t:Nat} {x:V} (h:zdw T lk t x KV):∃v,KV v∧∀(lk':Nat→Option O) (K':V→Prop),(∀i∈x.ids,lk' i=lk i)→K' v→zdw T lk' t x K':=by
 unfold zdw at h
 split at h
 ·exact h.elim
 ·rename_i hok
  split at h
  ·obtain⟨v,h1,h2⟩:=zjn h
   exact⟨v,h1,fun lk' K' hl hk=>by simp only[zdw,hok];exact h2 _ hk⟩
  ·rename_i id i st j
   split at h
   ·rename_i x hx
    obtain⟨hc,h⟩:=zv h
    obtain⟨v,h1,h2⟩:=zjn h
    exact⟨v,h1,fun lk' K' hl hk=>by simp only[zdw,hok,hl id (by simp[V.ids]),hx];exact zan hc (h2 _ hk)⟩
   ·rename_i x hi vs hx
    obtain⟨hc,h⟩:=zv h
    rcases zgt h with ⟨e,h⟩|⟨e,h⟩
    ·obtain⟨v,h1,h2⟩:=zke h
     exact⟨v,h1,fun lk' K' hl hk=>by simp only[zdw,hok,hl id (by simp[V.ids]),hx];exact zan hc (zl e (h2 _ hk))⟩
    ·obtain⟨v,h1,h2⟩:=zjn h
     exact⟨v,h1,fun lk' K' hl hk=>by simp only[zdw,hok,hl id (by simp[V.ids]),hx];exact zan hc (zj e (h2 _ hk))⟩
   ·rename_i p f x hs hx
    obtain⟨hc,h⟩:=zv h
    rcases zry h with ⟨p1,us,t1,h,h3⟩|⟨h,h3⟩
    ·obtain⟨v,h1,h2⟩:=zke h
     exact⟨v,h1,fun lk' K' hl hk=>by simp only[zdw,hok,hl id (by simp[V.ids]),hx];exact zan hc (h3 _ _ (h2 _ hk))⟩
    ·obtain⟨hf,h⟩:=zv h
     obtain⟨v,h1,h2⟩:=zke h
     exact⟨v,h1,fun lk' K' hl hk=>by simp only[zdw,hok,hl id (by simp[V.ids]),hx];exact zan hc (h3 _ _ (zan hf (h2 _ hk)))⟩
   ·rename_i pre bs post hx
    repeat' split at h
    all_goals first
     |exact h.elim
     |exact⟨_,h,fun lk' K' hl hk=>by simp only[zdw,hok,hl id (by simp[V.ids]),hx, *]⟩
     |(rw[V.force_eq]at h
       exact⟨_,h,fun lk' K' hl hk=>by simp only[zdw,hok,hl id (by simp[V.ids]),hx,V.force_eq, *]⟩)
     |(rename_i q1 _ q2
       obtain⟨hc,h⟩:=zv h
       exact⟨_,h,fun lk' K' hl hk=>by simp only[zdw,hok,hl id (by simp[V.ids]),hx,q1,q2];exact zan hc hk⟩)
   ·exact h.elim
  ·exact h.elim
theorem z0j {op:BinOp} {x y:V} (h:zhu op x y KV):∃v,KV v∧∀K':V→Prop,K' v→zhu op x y K':=by
 unfold zhu at h
 split at h
 ·split at h
  ·exact h.elim
  ·rename_i hs
   split at h
   all_goals first
    |exact h.elim
    |exact⟨_,h,fun K' hk=>by simp only[zhu,hs];exact hk⟩
    |(obtain⟨v,h1,h2⟩:=zlu h
      exact⟨v,h1,fun K' hk=>by simp only[zhu,hs];exact h2 _ hk⟩)
    |(obtain⟨hc,h⟩:=zv h
      obtain⟨v,h1,h2⟩:=zlu h
      exact⟨v,h1,fun K' hk=>by simp only[zhu,hs];exact zan hc (h2 _ hk)⟩)
    |(obtain⟨hc,h⟩:=zv h
      exact⟨_,h,fun K' hk=>by simp only[zhu,hs];exact zan hc hk⟩)
 ·split at h
  all_goals first
   |exact h.elim
   |exact⟨_,h,fun K' hk=>by simp only[zhu];exact hk⟩
 ·rename_i n1 n2
  split at h
  ·rename_i q1 q2
   split at h
   all_goals first
    |exact h.elim
    |exact⟨_,h,fun K' hk=>by simp only[zhu,q1,q2];exact hk⟩
  ·exact h.elim
theorem z12 {op:UnOp} {x:V} (h:vun op x KV):∃v,KV v∧∀K':V→Prop,K' v→vun op x K':=by
 unfold vun at h
 split at h
 ·split at h
  all_goals first
   |exact h.elim
   |exact⟨_,h,fun K' hk=>by simp only[vun];exact hk⟩
 ·split at h
  ·obtain⟨v,h1,h2⟩:=zlu h
   exact⟨v,h1,fun K' hk=>by simp only[vun];exact h2 _ hk⟩
  ·exact h.elim
 ·exact h.elim
theorem zz3 {t:Nat} {x:V} (h:zj3 T t x KV):∃v,KV v∧∀K':V→Prop,K' v→zj3 T t x K':=by
 unfold zj3 at h
 split at h
 ·rename_i hti
  obtain⟨v,h1,h2⟩:=zlu h
  exact⟨v,h1,fun K' hk=>by simp only[zj3,hti];exact h2 _ hk⟩
 ·exact h.elim
theorem zwa {m:Bool} {xs:List V} (h:vmm m xs KV):∃v,KV v∧∀K':V→Prop,K' v→vmm m xs K':=by
 unfold vmm at h
 split at h
 ·split at h
  ·rename_i hs
   split at h
   ·exact⟨_,h,fun K' hk=>by simp only[vmm,hs];exact hk⟩
   ·exact⟨_,h,fun K' hk=>by simp only[vmm,hs];exact hk⟩
  ·exact h.elim
 ·exact h.elim
theorem zxg {t:Nat} {x:V} {lo hi mx:Option V} (h:zdz T t x lo hi mx KV):∃v,KV v∧∀K':V→Prop,K' v→zdz T t x lo hi mx K':=by
 unfold zdz at h
 split at h
 ·rename_i hti
  split at h
  ·exact h.elim
  ·rename_i hs
   split at h
   ·obtain⟨hc,h⟩:=zv h
    exact⟨_,h,fun K' hk=>by simp only[zdz,hti,hs];exact zan hc hk⟩
   ·obtain⟨hc,h⟩:=zv h
    rw[C.force_eq]at h
    exact⟨_,h,fun K' hk=>by simp only[zdz,hti,hs,C.force_eq];exact zan hc hk⟩
   ·obtain⟨hc,h⟩:=zv h
    rw[C.force_eq]at h
    exact⟨_,h,fun K' hk=>by simp only[zdz,hti,hs,C.force_eq];exact zan hc hk⟩
   ·obtain⟨hc,h⟩:=zv h
    rw[C.force_eq]at h
    exact⟨_,h,fun K' hk=>by simp only[zdz,hti,hs,C.force_eq];exact zan hc hk⟩
   ·exact h.elim
 ·exact h.elim
theorem zq0 {t f:Nat} {x:V} (h:zdc T t x f KV):∃v,KV v∧∀K':V→Prop,K' v→zdc T t x f K':=by
 unfold zdc at h
 split at h
 ·rename_i hf
  split at h
  ·exact⟨_,h,fun K' hk=>by simp only[zdc,hf];exact hk⟩
  ·exact⟨_,h,fun K' hk=>by simp only[zdc,hf];exact hk⟩
  ·exact h.elim
 ·exact h.elim
theorem zwn {t f:Nat} {x:V} (h:zhi T t x f KV):∃v,KV v∧∀K':V→Prop,K' v→zhi T t x f K':=by
 unfold zhi at h
 split at h
 ·rename_i hti
  split at h
  ·rename_i hf
   split at h
   ·split at h
    ·rename_i q1
     split at h
     ·split at h
      ·rename_i q2
       exact⟨_,h,fun K' hk=>by simp only[zhi,hti,hf,q1,q2];exact hk⟩
      ·exact h.elim
     ·split at h
      ·rename_i q2
       rw[V.force_eq]at h
       exact⟨_,h,fun K' hk=>by simp only[zhi,hti,hf,q1,q2,V.force_eq];exact hk⟩
      ·exact h.elim
    ·exact h.elim
   ·exact h.elim
  ·exact h.elim
 ·exact h.elim
theorem zqn {t:Nat} {x ix:V} (h:zb9 T lk t x ix KV):∃v,KV v∧∀(lk':Nat→Option O) (K':V→Prop),(∀i∈x.ids,lk' i=lk i)→K' v→zb9 T lk' t x ix K':=by
 unfold zb9 at h
 split at h
 ·split at h
  ·rename_i hti
   split at h
   ·split at h
    ·rename_i q1
     obtain⟨hc,h⟩:=zv h
     exact⟨_,h,fun lk' K' hl hk=>by simp only[zb9,hti,q1];exact zan hc hk⟩
    ·exact h.elim
   ·rename_i id
    split at h
    ·rename_i hx
     split at h
     ·rename_i q1
      obtain⟨hc,h⟩:=zv h
      exact⟨_,h,fun lk' K' hl hk=>by simp only[zb9,hti,hl id (by simp[V.ids]),hx,q1];exact zan hc hk⟩
     ·exact h.elim
    ·rename_i hx
     split at h
     ·rename_i q1
      obtain⟨hc,h⟩:=zv h
      exact⟨_,h,fun lk' K' hl hk=>by simp only[zb9,hti,hl id (by simp[V.ids]),hx,q1];exact zan hc hk⟩
     ·exact h.elim
    ·rename_i hx
     split at h
     ·rename_i q1
      obtain⟨hc,h⟩:=zv h
      exact⟨_,h,fun lk' K' hl hk=>by simp only[zb9,hti,hl id (by simp[V.ids]),hx,q1];exact zan hc hk⟩
     ·exact h.elim
    ·exact h.elim
   ·exact h.elim
  ·rename_i hti
   split at h
   ·obtain⟨hc,h⟩:=zv h
    exact⟨_,h,fun lk' K' hl hk=>by simp only[zb9,hti];exact zan hc hk⟩
   ·exact h.elim
  ·exact h.elim
 ·exact h.elim
theorem z0e {x:V} (h:ziq lk x KV):∃v,KV v∧∀(lk':Nat→Option O) (K':V→Prop),(∀i∈x.ids,lk' i=lk i)→K' v→ziq lk' x K':=by
 unfold ziq at h
 split at h
 ·exact⟨_,h,fun lk' K' hl hk=>by simp only[ziq];exact hk⟩
 ·split at h
  ·rename_i hs
   exact⟨_,h,fun lk' K' hl hk=>by simp only[ziq,hs];exact hk⟩
  ·exact h.elim
 ·rename_i id
  split at h
  ·rename_i hx
   exact⟨_,h,fun lk' K' hl hk=>by simp only[ziq,hl id (by simp[V.ids]),hx];exact hk⟩
  ·rename_i hx
   exact⟨_,h,fun lk' K' hl hk=>by simp only[ziq,hl id (by simp[V.ids]),hx];exact hk⟩
  ·rename_i hx
   exact⟨_,h,fun lk' K' hl hk=>by simp only[ziq,hl id (by simp[V.ids]),hx];exact hk⟩
  ·exact h.elim
 ·exact h.elim
theorem zb1 {v:V} {K:Ef→Prop} (h:fin v K):∃e,K e∧∀K':Ef→Prop,K' e→fin v K':=by
 unfold fin at h
 split at h
 ·rename_i b
  cases b with
  |true=>exact⟨_,(zd8 h).1 rfl,fun K' hk=>by simp only[fin];unfold vif;exact⟨fun _=>hk,fun h=>by cases h⟩⟩
  |false=>exact⟨_,(zd8 h).2 rfl,fun K' hk=>by simp only[fin];unfold vif;exact⟨fun h=>(by cases h),fun _=>hk⟩⟩
 ·rename_i hn
  rw[V.force_eq]at h
  refine⟨_,h,fun K' hk=>?_⟩
  unfold fin
  split
  ·exact(hn _ rfl).elim
  ·rw[V.force_eq];exact hk
theorem zz7 {kd:Kd} {v:V} {KC:C→Option (Nat×List V)→Prop} (h:zds kd lk v KC):∃z hz,KC z hz∧∀(lk':Nat→Option O) (KC':C→Option (Nat×List V)→Prop),(∀i∈v.ids,lk' i=lk i)→KC' z hz→zds kd lk' v KC':=by
 unfold zds at h
 split at h
 ·exact⟨_,_,h,fun _ _ _ h=>h⟩
 ·rw[C.force_eq]at h;exact⟨_,_,h,fun _ _ _ h=>by simp only[zds,C.force_eq];exact h⟩
 ·rename_i id
  split at h
  ·rename_i hx
   rw[C.force_eq]at h;exact⟨_,_,h,fun lk' _ hl h=>by simp only[zds,hl id (by simp[V.ids]),hx,C.force_eq];exact h⟩
  ·rename_i hx
   rw[C.force_eq]at h;exact⟨_,_,h,fun lk' _ hl h=>by simp only[zds,hl id (by simp[V.ids]),hx,C.force_eq];exact h⟩
  ·exact h.elim
 ·exact h.elim
theorem zsp {x:C} {ti:TI} {i j:Nat} {v:V} {KC:C→Prop} (h:zc8 x ti i j v KC):∃z,KC z∧∀KC':C→Prop,KC' z→zc8 x ti i j v KC':=by
 unfold zc8 at h
 split at h
 ·rename_i q1
  split at h
  ·rename_i q2
   split at h
   ·rename_i q3
    exact⟨_,h,fun K' hk=>by simp only[zc8,q1,q2,q3];exact hk⟩
   ·exact h.elim
  ·exact h.elim
 ·rename_i q1
  split at h
  ·exact h.elim
  ·rename_i q2
   split at h
   ·rename_i q3
    exact⟨_,h,fun K' hk=>by simp only[zc8,q1,q2,q3];exact hk⟩
   ·exact h.elim
theorem zu8 {t:Nat} {x v:V} {K:Nat→O→Prop} (h:zc4 T t lk x v K):∃id ob,K id ob∧∀(lk':Nat→Option O) (K':Nat→O→Prop),(∀i∈x.ids,lk' i=lk i)→K' id ob→zc4 T t lk' x v K':=by
 unfold zc4 at h
 split at h
 ·rename_i hsl
  split at h
  ·rename_i id i st j
   split at h
   ·rename_i hx
    split at h
    ·rename_i q0
     split at h
     ·rename_i q1
      split at h
      ·rename_i q2
       exact⟨_,_,h,fun lk' K' hl hk=>by simp only[zc4,hsl,hl id (by simp[V.ids]),hx,q0,q2];rw[q1];exact hk⟩
      ·exact h.elim
     ·exact h.elim
    ·exact h.elim
   ·rename_i x' hx
    split at h
    ·rename_i q0
     obtain⟨hc,h⟩:=zv h
     exact⟨_,_,h,fun lk' K' hl hk=>by simp only[zc4,hsl,hl id (by simp[V.ids]),hx,q0];exact zan hc hk⟩
    ·exact h.elim
   ·rename_i hx
    obtain⟨hc,h⟩:=zv h
    obtain⟨ob,h1,h2⟩:=zi3 h
    exact⟨_,_,h1,fun lk' K' hl hk=>by simp only[zc4,hsl,hl id (by simp[V.ids]),hx];exact zan hc (h2 _ hk)⟩
   ·exact h.elim
  ·exact h.elim
 ·rename_i hsl
  split at h
  ·rename_i id i st j
   split at h
   ·rename_i hx
    obtain⟨hc,h⟩:=zv h
    obtain⟨z,h1,h2⟩:=zsp h
    exact⟨_,_,h1,fun lk' K' hl hk=>by simp only[zc4,hsl,hl id (by simp[V.ids]),hx];exact zan hc (h2 (fun x'=>K' id (.arr x')) hk)⟩
   ·rename_i x hi vs hx
    obtain⟨hc,h⟩:=zv h
    rcases zgt h with ⟨e,h⟩|⟨e,h⟩
    ·split at h
     ·rename_i q1
      split at h
      ·rename_i q2
       exact⟨_,_,h,fun lk' K' hl hk=>by simp only[zc4,hsl,hl id (by simp[V.ids]),hx,q2];exact zan hc (zl e (by rw[q1];exact hk))⟩
      ·exact h.elim
     ·exact h.elim
    ·obtain⟨z,h1,h2⟩:=zsp h
     exact⟨_,_,h1,fun lk' K' hl hk=>by simp only[zc4,hsl,hl id (by simp[V.ids]),hx];exact zan hc (zj e (h2 (fun x'=>K' id (.hol x' hi vs)) hk))⟩
   ·rename_i hx
    obtain⟨hc,h⟩:=zv h
    obtain⟨ob,h1,h2⟩:=zi3 h
    exact⟨_,_,h1,fun lk' K' hl hk=>by simp only[zc4,hsl,hl id (by simp[V.ids]),hx];exact zan hc (h2 _ hk)⟩
   ·rename_i hx
    split at h
    ·rename_i q0
     split at h
     ·rename_i q1
      split at h
      ·rename_i q2
       exact⟨_,_,h,fun lk' K' hl hk=>by simp only[zc4,hsl,hl id (by simp[V.ids]),hx,q0,q2];rw[q1];exact hk⟩
      ·exact h.elim
     ·exact h.elim
    ·exact h.elim
   ·exact h.elim
  ·exact h.elim
theorem zum {t:Nat} {K:Ef→Prop} (h:zh4 T t K):∃e,K e∧∀K':Ef→Prop,K' e→zh4 T t K':=by
 unfold zh4 at h
 split at h<;>first|exact h.elim|(rename_i hti;exact⟨_,h,fun K' hk=>by simp only[zh4,hti];exact hk⟩)
theorem zwe {t:Nat} {l c:V} {K:Ef→Prop} (h:zhh T t l c K):∃e,K e∧∀K':Ef→Prop,K' e→zhh T t l c K':=by
 unfold zhh at h
 split at h
 ·rename_i hti
  split at h
  ·rename_i a b
   split at h
   ·rename_i q1
    obtain⟨hc,h⟩:=zv h
    split at h
    ·rename_i q2
     exact⟨_,h,fun K' hk=>by simp only[zhh,hti,q1,q2];exact zan hc hk⟩
    ·rename_i q2
     unfold vch at h
     rcases h with h|h
     ·exact⟨_,h,fun K' hk=>by simp only[zhh,hti,q1,q2];exact zan hc (by unfold vch;exact .inl hk)⟩
     ·exact⟨_,h,fun K' hk=>by simp only[zhh,hti,q1,q2];exact zan hc (by unfold vch;exact .inr hk)⟩
   ·exact h.elim
  ·exact h.elim
 ·exact h.elim
theorem zys {t:Nat} {x y:V} {K:Ef→Prop} (h:zgm T t lk x y K):∃e,K e∧∀(lk':Nat→Option O) (K':Ef→Prop),(∀i,i∈x.ids∨i∈y.ids→lk' i=lk i)→K' e→zgm T t lk' x y K':=by
 unfold zgm at h
 split at h
 ·rename_i hti
  obtain⟨z,hz,h2,hv⟩:=zz7 h
  clear h
  have h:=h2
  clear h2
  split at h
  ·split at h
   ·rename_i q1
    split at h
    ·rename_i q2
     obtain⟨hc,h⟩:=zv h
     rw[C.force_eq]at h
     exact⟨_,h,fun lk' K' hl hk=>by simp only[zgm,hti];exact hv _ _ (fun i hi=>hl i (.inr hi)) (by simp only[q1,q2,C.force_eq];exact zan hc hk)⟩
    ·exact h.elim
   ·exact h.elim
  ·rename_i id
   split at h
   ·rename_i hx
    split at h
    ·rename_i q1
     split at h
     ·rename_i q2
      obtain⟨hc,h⟩:=zv h
      rw[C.force_eq]at h
      unfold vch at h
      rcases h with h|h
      ·exact⟨_,h,fun lk' K' hl hk=>by simp only[zgm,hti];exact hv _ _ (fun i hi=>hl i (.inr hi)) (by simp only[hl id (.inl (by simp[V.ids])),hx,q1,q2,C.force_eq];unfold vch;exact zan hc (.inl hk))⟩
      ·cases hmn:zc7 id y.ids with
       |true=>rw[hmn]at h;cases hz<;>exact h.elim
       |false =>
        rw[hmn]at h
        cases hz with
        |some q=>exact h.elim
        |none =>
         rcases h with h1|h1
         ·exact⟨_,h1,fun lk' K' hl hk=>by simp only[zgm,hti];exact hv _ _ (fun i hi=>hl i (.inr hi)) (by simp only[hl id (.inl (by simp[V.ids])),hx,q1,q2,C.force_eq];unfold vch;refine zan hc (.inr ?_);rw[hmn];exact(Or.inl hk:K' _∨K' _))⟩
         ·exact⟨_,h1,fun lk' K' hl hk=>by simp only[zgm,hti];exact hv _ _ (fun i hi=>hl i (.inr hi)) (by simp only[hl id (.inl (by simp[V.ids])),hx,q1,q2,C.force_eq];unfold vch;refine zan hc (.inr ?_);rw[hmn];exact(Or.inr hk:K' _∨K' _))⟩
     ·exact h.elim
    ·exact h.elim
   ·rename_i hx
    split at h
    ·rename_i q1
     split at h
     ·rename_i q2
      obtain⟨hc,h⟩:=zv h
      rw[C.force_eq]at h
      exact⟨_,h,fun lk' K' hl hk=>by simp only[zgm,hti];exact hv _ _ (fun i hi=>hl i (.inr hi)) (by simp only[hl id (.inl (by simp[V.ids])),hx,q1,q2,C.force_eq];exact zan hc hk)⟩
     ·exact h.elim
    ·exact h.elim
   ·rename_i hx
    split at h
    ·rename_i q1 q3
     split at h
     ·rename_i q2
      obtain⟨hc,h⟩:=zv h
      rw[C.force_eq]at h
      exact⟨_,h,fun lk' K' hl hk=>by simp only[zgm,hti];exact hv _ _ (fun i hi=>hl i (.inr hi)) (by simp only[hl id (.inl (by simp[V.ids])),hx,q1,q2,q3,C.force_eq];exact zan hc hk)⟩
     ·exact h.elim
    ·exact h.elim
   ·exact h.elim
  ·exact h.elim
 ·exact h.elim
theorem zyb {own:Bool} {t len:Nat} {ps:List (Nat×V)} {K:Ef→Prop} (h:zgn T own t len ps (fun x=>K (.val (.c x))) fun ob=>K (.new (.slc 0) rfl ob)):∃e,K e∧∀K':Ef→Prop,K' e→zgn T own t len ps (fun x=>K' (.val (.c x))) fun ob=>K' (.new (.slc 0) rfl ob):=by
 unfold zgn at h
 split at h
 ·rename_i hti
  split at h
  ·rename_i q1
   split at h
   ·rename_i q2
    split at h
    ·rename_i q3
     split at h
     ·rename_i q4
      split at h
      ·rename_i q5
       rw[C.force_eq]at h
       split at h
       ·unfold vch at h
        rcases h with h|h
        ·exact⟨_,h,fun K' hk=>by simp only[zgn,hti,q1,q2,q3,q4,q5,C.force_eq];unfold vch;exact .inl hk⟩
        ·exact⟨_,h,fun K' hk=>by simp only[zgn,hti,q1,q2,q3,q4,q5,C.force_eq];unfold vch;exact .inr hk⟩
       ·split at h
        ·rename_i q6
         unfold vch at h
         rcases h with h|h
         ·exact⟨_,h,fun K' hk=>by simp only[zgn,hti,q1,q2,q3,q4,q5,q6,C.force_eq];unfold vch;exact .inl hk⟩
         ·exact⟨_,h,fun K' hk=>by simp only[zgn,hti,q1,q2,q3,q4,q5,q6,C.force_eq];unfold vch;exact .inr hk⟩
        ·rename_i q6
         cases own with
         |true=>exact⟨_,h,fun K' hk=>by simp only[zgn,hti,q1,q2,q3,q4,q5,q6,C.force_eq];exact hk⟩
         |false=>exact⟨_,h,fun K' hk=>by simp only[zgn,hti,q1,q2,q3,q4,q5,q6,C.force_eq];exact hk⟩
      ·exact h.elim
     ·exact h.elim
    ·rename_i q3
     split at h
     ·split at h
      ·rename_i q4
       rw[zdd]at h
       refine⟨_,h,fun K' hk=>?_⟩
       unfold zgn
       simp only[hti,q1,q2]
       split
       ·rw[zdd];exact hk
       ·rename_i q5;rw[q4]at q5;cases q5
      ·exact h.elim
     ·split at h
      ·rename_i q4
       refine⟨_,h,fun K' hk=>?_⟩
       unfold zgn
       simp only[hti,q1,q2]
       split
       ·exact hk
       ·rename_i q5;rw[q4]at q5;cases q5
      ·exact h.elim
     ·exact h.elim
   ·exact h.elim
  ·exact h.elim
 ·exact h.elim
theorem zxp {t:Nat} {ps:List (Nat×V)} (h:zgf T t ps KV):∃v,KV v∧∀K':V→Prop,K' v→zgf T t ps K':=by
 unfold zgf at h
 split at h
 ·rename_i hti
  split at h
  ·rename_i q1
   exact⟨_,h,fun K' hk=>by simp only[zgf,hti,q1];exact hk⟩
  ·exact h.elim
 ·exact h.elim
mutual
theorem V.lend_congr {lk':Nat→Option O}:∀x:V,(∀i∈x.ids,lk' i=lk i)→x.lend lk'=x.lend lk
 |.slc id,h=>by simp only[V.lend];rw[h id (by simp[V.ids])]
 |.agg xs,h=>by simp only[V.lend];rw[zgg xs h]
 |.ptr _ _ _ _,_=>rfl
 |.tup _,_=>rfl
 |.fn _ _,_=>rfl
 |.any,_=>rfl
 |.tt,_=>rfl
 |.ff,_=>rfl
 |.nil,_=>rfl
 |.c _,_=>rfl
 |.iptr _,_=>rfl
theorem zgg {lk':Nat→Option O}:∀xs:List V,(∀i∈za9 xs,lk' i=lk i)→zbv lk' xs=zbv lk xs
 |[],_=>rfl
 |x::t,h=>by
  simp only[zbv]
  rw[V.lend_congr x fun i hi=>h i (by simp only[za9];exact List.mem_append_left _ hi),zgg t fun i hi=>h i (by simp only[za9];exact List.mem_append_right _ hi)]
end
mutual
theorem V.lentPg_congr {lk':Nat→Option O}:∀x:V,(∀i∈x.ids,lk' i=lk i)→x.lentPg lk'=x.lentPg lk
 |.slc id,h=>by simp only[V.lentPg];rw[h id (by simp[V.ids])]
 |.agg xs,h=>by simp only[V.lentPg];rw[zio xs h]
 |.ptr _ _ _ _,_=>rfl
 |.tup _,_=>rfl
 |.fn _ _,_=>rfl
 |.any,_=>rfl
 |.tt,_=>rfl
 |.ff,_=>rfl
 |.nil,_=>rfl
 |.c _,_=>rfl
 |.iptr _,_=>rfl
theorem zio {lk':Nat→Option O}:∀xs:List V,(∀i∈za9 xs,lk' i=lk i)→zfe lk' xs=zfe lk xs
 |[],_=>rfl
 |x::t,h=>by
  simp only[zfe]
  rw[V.lentPg_congr x fun i hi=>h i (by simp only[za9];exact List.mem_append_left _ hi),zio t fun i hi=>h i (by simp only[za9];exact List.mem_append_right _ hi)]
end
theorem znx {lk':Nat→Option O} {z:C} {xs:List V} (h:∀i∈za9 xs,lk' i=lk i):zi2 z lk' xs=zi2 z lk xs:=by
 unfold zi2;rw[zio xs h]
end
end Go.VL
namespace Go.VL
set_option linter.unusedVariables false
set_option linter.unusedSimpArgs false
section
variable {P : Program} {T : TT} {o : Oper} {lk : Nat → Option O}
def rdOf (o:Oper) (ev:Operand→V):List Nat:=match Op.quietName o.op with|true=>[]|false=>za9 (ess ev o.op.operands.toList)
theorem zi6 (ev:Operand→V) (l:List Operand):ess ev l=l.map ev:=by
 induction l with
 |nil=>rfl
 |cons x t ih=>simp only[ess,ih,List.map_cons]
theorem znj (ev:Operand→V) (l:List (Nat×Operand)):eps ev l=l.map fun p=>(p.1,ev p.2):=by
 induction l with
 |nil=>rfl
 |cons x t ih=>obtain⟨i,x⟩:=x;simp only[eps,ih,List.map_cons]
theorem z11 {ev:Operand→V} {l:List Operand} {x:Operand} (hx:x∈l) {i:Nat} (hi:i∈(ev x).ids):i∈za9 (ess ev l):=by
 rw[zi6];exact zdo.2 ⟨_,List.mem_map.2 ⟨x,hx,rfl⟩,hi⟩
structure Same (o:Oper) (ev ev':Operand→V) (lk lk':Nat→Option O):Prop where
 evs:∀x∈o.op.operands,ev' x=ev x
 lks:∀i∈rdOf o ev,lk' i=lk i
theorem Same.rd {ev ev':Operand→V} {lk':Nat→Option O} (h:Same o ev ev' lk lk') (hq:Op.quietName o.op=false) {x:Operand} (hx:x∈o.op.operands):∀i∈(ev x).ids,lk' i=lk i:=fun i hi =>
 h.lks i (by unfold rdOf;rw[hq];exact z11 (by simpa using hx) hi)
theorem zvc {lk':Nat→Option O} {xs:List V} (h:∀i∈za9 xs,lk' i=lk i):∀{l:List (Nat×O)},zfn lk' xs l=zfn lk xs l:=by
 intro l
 induction l with
 |nil=>rfl
 |cons q t ih =>
  obtain⟨i,o⟩:=q
  cases o with
  |arr z=>simp only[zfn,znx h,ih]
  |deep p f x hs=>cases hs<;>simp only[zfn,ih]
  |_=>rfl
theorem zuw {r:Nat→Nat} {lk lk':Nat→Option O} {l:List (Nat×O)} (h:∀q o,(q,o)∈l→lk' (r q)=lk (r q)) (hl:zlo r lk l):zlo r lk' l:=by
 induction l with
 |nil=>trivial
 |cons q t ih =>
  obtain⟨i,o⟩:=q
  exact⟨(h i o List.mem_cons_self).trans hl.1,ih (fun q o hq=>h q o (List.mem_cons_of_mem _ hq)) hl.2⟩
theorem zw1 {f:Nat} {args:List V} {K:Ef→Prop} (h:vcalld P f args lk K):∃e,K e∧∀(lk':Nat→Option O) (K':Ef→Prop),(∀i∈za9 args,lk' i=lk i)→(∀i∈e.rds,lk' i=lk i)→K' e→vcalld P f args lk' K':=by
 unfold vcalld at h
 rcases h with ⟨res,e1,e2,hspec,hk⟩|⟨res,hsc,hid,hspec,hk⟩|⟨z,st,hst,e1,hspec,hk⟩|⟨z,st,hst,e1,e2,e3,hspec,hk⟩|⟨id,fargs,pre,post,bs,pre',post',bs',res,hspec,hl,q1,q2,q3,q4,q6,q7,q8,q9,hk⟩|⟨news,st,hst,e1,e2,e3,hspec,hk⟩|⟨rn,fargs,hin,hos,news,st,hst,hspec,hc,e1,hl,hk⟩|⟨res,hview,hk⟩|⟨z,e1,e2,hspec,hk⟩|⟨id1,id2,fargs,x1,x2,res,hspec,hl1,hl2,hne,hlt,he,m1,m2,hrf,hrb,hk⟩|⟨id,fargs,x,z,hspec,hl,q1,q2,q3,hk⟩
 ·obtain⟨e,h1,h2⟩:=zb1 hk
  exact⟨e,h1,fun lk' K' hl hr hk=>by unfold vcalld;exact .inl ⟨res,e1,e2,hspec,h2 _ hk⟩⟩
 ·obtain⟨e,h1,h2⟩:=zb1 hk
  exact⟨e,h1,fun lk' K' hl hr hk=>by unfold vcalld;rw[zgg _ hl];exact .inr (.inl ⟨res,hsc,hid,hspec,h2 _ hk⟩)⟩
 ·exact⟨_,hk,fun lk' K' hl hr hk=>by unfold vcalld;exact .inr (.inr (.inl ⟨z,st,hst,e1,hspec,hk⟩))⟩
 ·exact⟨_,hk,fun lk' K' hl hr hk=>by unfold vcalld;rw[zgg _ hl];exact .inr (.inr (.inr (.inl ⟨z,st,hst,(znx hl).trans e1,e2,e3,hspec,hk⟩)))⟩
 ·refine⟨_,hk,fun lk' K' hl' hr hk=>?_⟩
  unfold vcalld
  exact .inr (.inr (.inr (.inr (.inl ⟨id,fargs,pre,post,bs,pre',post',bs',res,hspec,(hl' id (zfx.1 q9)).trans hl,q1,q2,q3,q4,q6,q7,q8,q9,hk⟩))))
 ·refine⟨_,hk,fun lk' K' hl' hr hk=>?_⟩
  unfold vcalld;rw[zgg _ hl']
  exact .inr (.inr (.inr (.inr (.inr (.inl ⟨news,st,hst,(zvc hl').trans e1,e2,e3,hspec,hk⟩)))))
 ·rcases hk with hk|⟨ob,h2,o2,f1,f2,hk⟩
  ·refine⟨_,hk,fun lk' K' hl' hr hk=>?_⟩
   unfold vcalld
   refine .inr (.inr (.inr (.inr (.inr (.inr (.inl ⟨rn,fargs,hin,hos,news,st,hst,hspec,hc,e1,zuw (fun q o hq=>hr _ ?_) hl,.inl hk⟩))))))
   obtain⟨j,rfl,hj⟩:=zj8 hq
   have hlt:0+j<rn.length:=by have:=(List.getElem?_eq_some_iff.1 hj).1;have:=hc.1;omega
   exact List.mem_of_getElem? (zh1 rn _ hlt)
  ·refine⟨_,hk,fun lk' K' hl' hr hk=>?_⟩
   unfold vcalld
   refine .inr (.inr (.inr (.inr (.inr (.inr (.inl ⟨rn,fargs,hin,hos,news,st,hst,hspec,hc,e1,zuw (fun q o hq=>hr _ ?_) hl,.inr ⟨ob,h2,o2,f1,f2,hk⟩⟩))))))
   obtain⟨j,rfl,hj⟩:=zj8 hq
   have hlt:0+j<rn.length:=by have:=(List.getElem?_eq_some_iff.1 hj).1;have:=hc.1;omega
   exact List.mem_of_getElem? (zh1 rn _ hlt)
 ·obtain⟨e,h1,h2⟩:=zb1 hk
  exact⟨e,h1,fun lk' K' hl hr hk=>by unfold vcalld;exact .inr (.inr (.inr (.inr (.inr (.inr (.inr (.inl ⟨res,hview,h2 _ hk⟩)))))))⟩
 ·refine⟨_,hk,fun lk' K' hl' hr hk=>?_⟩
  unfold vcalld;rw[zgg _ hl']
  exact .inr (.inr (.inr (.inr (.inr (.inr (.inr (.inr (.inl ⟨z,(znx hl').trans e1,e2,hspec,hk⟩))))))))
 ·refine⟨_,hk,fun lk' K' hl' hr hk=>?_⟩
  unfold vcalld
  exact .inr (.inr (.inr (.inr (.inr (.inr (.inr (.inr (.inr (.inl ⟨id1,id2,fargs,x1,x2,res,hspec,(hl' id1 (zfx.1 m1)).trans hl1,(hl' id2 (zfx.1 m2)).trans hl2,hne,hlt,he,m1,m2,hrf,hrb,hk⟩)))))))))
 ·rcases hk with hk|hk
  ·refine⟨_,hk,fun lk' K' hl' hr hk=>?_⟩
   unfold vcalld
   exact .inr (.inr (.inr (.inr (.inr (.inr (.inr (.inr (.inr (.inr ⟨id,fargs,x,z,hspec,(hl' id (zfx.1 q3)).trans hl,q1,q2,q3,.inl hk⟩)))))))))
  ·refine⟨_,hk,fun lk' K' hl' hr hk=>?_⟩
   unfold vcalld
   exact .inr (.inr (.inr (.inr (.inr (.inr (.inr (.inr (.inr (.inr ⟨id,fargs,x,z,hspec,(hl' id (zfx.1 q3)).trans hl,q1,q2,q3,.inr hk⟩)))))))))
theorem z3b {ev:Operand→V} {K:Ef→Prop} (h:vd T P o ev lk K):∃e,K e∧∀(ev':Operand→V) (lk':Nat→Option O) (K':Ef→Prop),Same o ev ev' lk lk'→(∀i∈e.rds,lk' i=lk i)→K' e→vd T P o ev' lk' K':=by
 unfold vd at h
 split at h
 ·rename_i x ho
  obtain⟨e,h1,h2⟩:=zb1 h
  exact⟨e,h1,fun ev' lk' K' hs hr0 hk=>by unfold vd;rw[ho];simp only[hs.evs x (by simp[ho,Op.operands])];exact h2 _ hk⟩
 ·rename_i x ho
  obtain⟨e,h1,h2⟩:=zb1 h
  exact⟨e,h1,fun ev' lk' K' hs hr0 hk=>by unfold vd;rw[ho];simp only[hs.evs x (by simp[ho,Op.operands])];exact h2 _ hk⟩
 ·rename_i c x y ho
  split at h
  ·rename_i q
   obtain⟨e,h1,h2⟩:=zb1 h
   exact⟨e,h1,fun ev' lk' K' hs hr0 hk=>by unfold vd;rw[ho];simp only[hs.evs x (by simp[ho,Op.operands]),hs.evs c (by simp[ho,Op.operands]),q];exact h2 _ hk⟩
  ·rename_i q
   obtain⟨e,h1,h2⟩:=zb1 h
   exact⟨e,h1,fun ev' lk' K' hs hr0 hk=>by unfold vd;rw[ho];simp only[hs.evs y (by simp[ho,Op.operands]),hs.evs c (by simp[ho,Op.operands]),q];exact h2 _ hk⟩
  ·exact h.elim
 ·rename_i t ho
  obtain⟨e,h1,h2⟩:=zum h
  exact⟨e,h1,fun ev' lk' K' hs hr0 hk=>by unfold vd;rw[ho];exact h2 _ hk⟩
 ·rename_i t x ho
  split at h
  ·rename_i q
   exact⟨_,h,fun ev' lk' K' hs hr0 hk=>by unfold vd;rw[ho];simp only[hs.evs x (by simp[ho,Op.operands]),q];exact hk⟩
  ·exact h.elim
 ·rename_i t parts ho
  split at h
  ·rename_i q
   obtain⟨v,h1,h2⟩:=zxp h
   obtain⟨e,h3,h4⟩:=zb1 h1
   refine⟨e,h3,fun ev' lk' K' hs hr0 hk=>?_⟩
   have he:eps ev' parts.toList=eps ev parts.toList:=by
    rw[znj,znj];exact List.map_congr_left fun p hp=>by rw[hs.evs p.2 (by simp only[ho,Op.operands,List.mem_toArray];exact List.mem_map.2 ⟨p,hp,rfl⟩)]
   unfold vd;rw[ho]
   simp only[he,q]
   exact h2 _ (h4 _ hk)
  ·exact h.elim
 ·rename_i t len parts ho
  obtain⟨v,h1,h2⟩:=zyb h
  refine⟨_,h1,fun ev' lk' K' hs hr0 hk=>?_⟩
  have he:eps ev' parts.toList=eps ev parts.toList:=by
   rw[znj,znj];exact List.map_congr_left fun p hp=>by rw[hs.evs p.2 (by simp only[ho,Op.operands,List.mem_toArray];exact List.mem_map.2 ⟨p,hp,rfl⟩)]
  unfold vd;rw[ho]
  simp only[he]
  exact h2 K' hk
 ·rename_i t x ho
  obtain⟨v,h1,h2⟩:=zy5 h
  obtain⟨e,h3,h4⟩:=zb1 h1
  refine⟨e,h3,fun ev' lk' K' hs hr0 hk=>?_⟩
  have hx:x∈o.op.operands:=by simp[ho,Op.operands]
  have hr:=hs.rd (by rw[ho];rfl) hx
  unfold vd;rw[ho];simp only[hs.evs x hx]
  exact h2 _ _ hr (h4 _ hk)
 ·rename_i t x y ho
  split at h
  ·rename_i q
   obtain⟨id,ob,h1,h2⟩:=zu8 h
   refine⟨_,h1,fun ev' lk' K' hs hr0 hk=>?_⟩
   have hx:x∈o.op.operands:=by simp[ho,Op.operands]
   have hr:=hs.rd (by rw[ho];rfl) hx
   unfold vd;rw[ho];simp only[q,hs.evs x hx,hs.evs y (by simp[ho,Op.operands])]
   exact h2 _ (fun id ob=>K' (.set (.tup []) id ob)) hr hk
  ·exact h.elim
 ·rename_i x ho
  split at h
  ·rename_i q
   exact⟨_,h,fun ev' lk' K' hs hr0 hk=>by unfold vd;rw[ho];simp only[hs.evs x (by simp[ho,Op.operands]),q];exact hk⟩
  ·rename_i q
   exact⟨_,h,fun ev' lk' K' hs hr0 hk=>by unfold vd;rw[ho];simp only[hs.evs x (by simp[ho,Op.operands]),q];exact hk⟩
  ·exact h.elim
 ·rename_i op t x y yt ho
  split at h
  ·rename_i q
   obtain⟨v,h1,h2⟩:=z0j h
   obtain⟨e,h3,h4⟩:=zb1 h1
   exact⟨e,h3,fun ev' lk' K' hs hr0 hk=>by unfold vd;rw[ho];simp only[hs.evs x (by simp[ho,Op.operands]),hs.evs y (by simp[ho,Op.operands]),q];exact h2 _ (h4 _ hk)⟩
  ·exact h.elim
 ·rename_i op t x ho
  obtain⟨v,h1,h2⟩:=z12 h
  obtain⟨e,h3,h4⟩:=zb1 h1
  exact⟨e,h3,fun ev' lk' K' hs hr0 hk=>by unfold vd;rw[ho];simp only[hs.evs x (by simp[ho,Op.operands])];exact h2 _ (h4 _ hk)⟩
 ·rename_i r d x ho
  split at h
  ·rename_i q
   obtain⟨v,h1,h2⟩:=zz3 h
   obtain⟨e,h3,h4⟩:=zb1 h1
   exact⟨e,h3,fun ev' lk' K' hs hr0 hk=>by unfold vd;rw[ho];simp only[hs.evs x (by simp[ho,Op.operands]),q];exact h2 _ (h4 _ hk)⟩
  ·exact h.elim
 ·rename_i t l c ho
  obtain⟨e,h1,h2⟩:=zwe h
  exact⟨e,h1,fun ev' lk' K' hs hr0 hk=>by unfold vd;rw[ho];simp only[hs.evs l (by simp[ho,Op.operands]),hs.evs c (by simp[ho,Op.operands])];exact h2 _ hk⟩
 ·rename_i t x lo hi mx ho
  obtain⟨v,h1,h2⟩:=zxg h
  obtain⟨e,h3,h4⟩:=zb1 h1
  refine⟨e,h3,fun ev' lk' K' hs hr0 hk=>?_⟩
  have hlo:lo.map ev'=lo.map ev:=by cases lo with|none=>rfl|some z=>simp only[Option.map_some,hs.evs z (by simp[ho,Op.operands])]
  have hhi:hi.map ev'=hi.map ev:=by cases hi with|none=>rfl|some z=>simp only[Option.map_some,hs.evs z (by simp[ho,Op.operands])]
  have hmx:mx.map ev'=mx.map ev:=by cases mx with|none=>rfl|some z=>simp only[Option.map_some,hs.evs z (by simp[ho,Op.operands])]
  unfold vd;rw[ho];simp only[hs.evs x (by simp[ho,Op.operands]),hlo,hhi,hmx];exact h2 _ (h4 _ hk)
 ·rename_i t x f ho
  obtain⟨v,h1,h2⟩:=zq0 h
  obtain⟨e,h3,h4⟩:=zb1 h1
  exact⟨e,h3,fun ev' lk' K' hs hr0 hk=>by unfold vd;rw[ho];simp only[hs.evs x (by simp[ho,Op.operands])];exact h2 _ (h4 _ hk)⟩
 ·rename_i t x f ho
  obtain⟨v,h1,h2⟩:=zwn h
  obtain⟨e,h3,h4⟩:=zb1 h1
  exact⟨e,h3,fun ev' lk' K' hs hr0 hk=>by unfold vd;rw[ho];simp only[hs.evs x (by simp[ho,Op.operands])];exact h2 _ (h4 _ hk)⟩
 ·rename_i t x ix ho
  obtain⟨v,h1,h2⟩:=zqn h
  obtain⟨e,h3,h4⟩:=zb1 h1
  refine⟨e,h3,fun ev' lk' K' hs hr0 hk=>?_⟩
  have hx:x∈o.op.operands:=by simp[ho,Op.operands]
  have hr:=hs.rd (by rw[ho];rfl) hx
  unfold vd;rw[ho];simp only[hs.evs x hx,hs.evs ix (by simp[ho,Op.operands])];exact h2 _ _ hr (h4 _ hk)
 ·rename_i x i ho
  split at h
  ·rename_i q
   split at h
   ·rename_i q2
    obtain⟨e,h3,h4⟩:=zb1 h
    exact⟨e,h3,fun ev' lk' K' hs hr0 hk=>by unfold vd;rw[ho];simp only[hs.evs x (by simp[ho,Op.operands]),q,q2];exact h4 _ hk⟩
   ·exact h.elim
  ·exact h.elim
 ·rename_i c ho
  have hargs:∀{ev':Operand→V} {lk':Nat→Option O},Same o ev ev' lk lk'→ess ev' c.args.toList=ess ev c.args.toList:=fun hs=>by
   rw[zi6,zi6];exact List.map_congr_left fun p hp=>hs.evs p (by simp only[ho,Op.operands,Call.operands];cases c.callee<;>simp_all)
  have hrd:∀{ev':Operand→V} {lk':Nat→Option O},Same o ev ev' lk lk'→∀x∈c.args.toList,∀i∈(ev x).ids,lk' i=lk i:=fun hs x hx=>hs.rd (by rw[ho];rfl) (by simp only[ho,Op.operands,Call.operands];cases c.callee<;>simp_all)
  split at h
  ·rename_i b hc
   split at h
   ·rename_i x he
    split at h
    ·rename_i t ts hts
     split at h
     ·rename_i e sz by' kd hti
      obtain⟨v,h1,h2⟩:=z0e h
      obtain⟨e,h3,h4⟩:=zb1 h1
      refine⟨e,h3,fun ev' lk' K' hs hr0 hk=>?_⟩
      unfold vd;rw[ho];simp only[hc,hargs hs,he,hts,hti]
      refine h2 _ _ (fun i hi=>?_) (h4 _ hk)
      have:x∈ess ev c.args.toList:=by rw[he];simp
      rw[zi6]at this
      obtain⟨y,hy,rfl⟩:=List.mem_map.1 this
      exact hrd hs y hy i hi
     ·exact h.elim
    ·exact h.elim
   ·rename_i x y he
    split at h
    ·rename_i t t' hts
     split at h
     ·rename_i e sz by' kd hti
      obtain⟨e,h1,h2⟩:=zys h
      refine⟨e,h1,fun ev' lk' K' hs hr0 hk=>?_⟩
      unfold vd;rw[ho];simp only[hc,hargs hs,he,hts,hti]
      refine h2 _ _ (fun i hi=>?_) hk
      have h5:x∈ess ev c.args.toList:=by rw[he];simp
      have h6:y∈ess ev c.args.toList:=by rw[he];simp
      rw[zi6]at h5 h6
      obtain⟨p,hp,rfl⟩:=List.mem_map.1 h5
      obtain⟨q,hq,rfl⟩:=List.mem_map.1 h6
      rcases hi with hi|hi
      ·exact hrd hs p hp i hi
      ·exact hrd hs q hq i hi
     ·exact h.elim
    ·exact h.elim
   ·rename_i x y he
    obtain⟨v,h1,h2⟩:=zwa h
    obtain⟨e,h3,h4⟩:=zb1 h1
    exact⟨e,h3,fun ev' lk' K' hs hr0 hk=>by unfold vd;rw[ho];simp only[hc,hargs hs,he];exact h2 _ (h4 _ hk)⟩
   ·rename_i x y he
    obtain⟨v,h1,h2⟩:=zwa h
    obtain⟨e,h3,h4⟩:=zb1 h1
    exact⟨e,h3,fun ev' lk' K' hs hr0 hk=>by unfold vd;rw[ho];simp only[hc,hargs hs,he];exact h2 _ (h4 _ hk)⟩
   ·exact h.elim
  ·rename_i f hc
   split at h
   ·rename_i g' caps he
    obtain⟨e,h1,h2⟩:=zw1 h
    refine⟨e,h1,fun ev' lk' K' hs hr0 hk=>?_⟩
    have hf:f∈o.op.operands:=by simp[ho,Op.operands,Call.operands,hc]
    unfold vd;rw[ho];simp only[hc,hargs hs,hs.evs f hf,he]
    refine h2 _ _ (fun i hi=>?_) hr0 hk
    obtain⟨x,hx,hi⟩:=zdo.1 hi
    rcases List.mem_append.1 hx with hx|hx
    ·rw[zi6]at hx
     obtain⟨y,hy,rfl⟩:=List.mem_map.1 hx
     exact hrd hs y hy i hi
    ·exact hs.rd (by rw[ho];rfl) hf i (by rw[he];simp only[V.ids];exact zdo.2 ⟨x,hx,hi⟩)
   ·exact h.elim
  ·exact h.elim
 ·exact h.elim
end
end Go.VL
namespace Go.VL
set_option linter.unusedVariables false
set_option linter.unusedSimpArgs false
section
variable {P : Program} {T : TT} {ops : List Oper}
def fo (nx0:Nat) (M:Nat→Bool):List (Oper×Ef)→Nat→S→S
 |[],_,s=>s
 |(o,e)::t,i,s=>fo nx0 M t (i+1) (match M i with|true=>e.apply (nx0+i) o.dst s|false=>s)
def zst (T:TT) (P:Program) (o:Oper) (s:S) (e:Ef):Prop :=
 ∀(ev':Operand→V) (lk':Nat→Option O) (K':Ef→Prop),Same o (evl s.env) ev' (zq s.hp) lk'→(∀i∈e.rds,lk' i=zq s.hp i)→K' e→vd T P o ev' lk' K'
def zkf (T:TT) (P:Program) (ops:List Oper) (o:Oper) (s:S) (e:Ef):Prop :=
 match o.guard with
 |none=>zst T P o s e
 |some (j,want)=>∃d,zig ops j=some d ∧
  ((zaw s.env d=.tt∧(match want with|true=>zst T P o s e|false=>e=.val (.tup []))) ∨
   (zaw s.env d=.ff∧(match want with|true=>e=.val (.tup [])|false=>zst T P o s e)) ∨
   ((∃vs,zaw s.env d=.tup vs)∧e=.val (.tup [])))
def znc (T:TT) (P:Program) (ops:List Oper) (nx0:Nat):List (Oper×Ef)→Nat→S→Prop
 |[],_,_=>True
 |(o,e)::t,i,s=>zkf T P ops o s e∧znc T P ops nx0 t (i+1) (e.apply (nx0+i) o.dst s)
def zm0 (ops:List Oper) (nx0:Nat):List (Oper×Ef)→Nat→S→List Rec
 |[],_,_=>[]
 |(o,e)::t,i,s=>zda ops (nx0+i) o (evl s.env) e::zm0 ops nx0 t (i+1) (e.apply (nx0+i) o.dst s)
theorem zrt (k:Nat) (dst:Option Nat) (e:Ef) (s:S):e.applyM k dst s=e.apply k dst s:=by cases s;cases e<;>rfl
theorem zyc (k:Nat) (dst:Option Nat) (e:Ef) (s:S) (K:S→Prop):e.applyK k dst s K=K (e.apply k dst s):=by
 obtain⟨nt,nx,env,hp⟩:=s
 cases e with
 |val v=>simp only[Ef.applyK,V.force_eq];cases dst<;>rfl
 |set v id ob=>simp only[Ef.applyK,V.force_eq,zfv];cases dst<;>rfl
 |new st h ob=>simp only[Ef.applyK,V.force_eq,zfv];cases dst<;>rfl
 |app id z=>simp only[Ef.applyK,S.force_eq,zrt]
 |fx sets news rds st h=>simp only[Ef.applyK,S.force_eq,zrt]
 |mv id z=>simp only[Ef.applyK,C.force_eq,zfv];cases dst<;>rfl
 |mf id z=>simp only[Ef.applyK,C.force_eq,zfv];cases dst<;>rfl
 |tk ids v=>simp only[Ef.applyK,V.force_eq,zfv];cases dst<;>rfl
theorem z2l {nx0:Nat} {K:S→List Rec→Prop} (rest:List Oper):∀{i:Nat} {s:S} {rs:List Rec},vds T P ops nx0 rest i s rs K →
  ∃E:List (Oper×Ef),E.map (·.1)=rest∧znc T P ops nx0 E i s∧K (fo nx0 (fun _=>true) E i s) (rs++zm0 ops nx0 E i s):=by
 induction rest with
 |nil=>intro i s rs h;exact⟨[],rfl,trivial,by simpa [zm0,fo]using(show K s rs from h)⟩
 |cons o t ih =>
  intro i s rs h
  have next:∀e:Ef,zkf T P ops o s e→vds T P ops nx0 t (i+1) (e.apply (nx0+i) o.dst s) (rs++[zda ops (nx0+i) o (evl s.env) e]) K →
    ∃E:List (Oper×Ef),E.map (·.1)=o::t∧znc T P ops nx0 E i s∧K (fo nx0 (fun _=>true) E i s) (rs++zm0 ops nx0 E i s):=by
   intro e hs hk
   obtain⟨E,h1,h2,h3⟩:=ih hk
   exact⟨(o,e)::E,by simp[h1],⟨hs,h2⟩,by simpa [zm0,fo]using h3⟩
  have run:vd T P o (evl s.env) (zq s.hp) (fun e=>vds T P ops nx0 t (i+1) (e.apply (nx0+i) o.dst s) (rs++[zda ops (nx0+i) o (evl s.env) e]) K) →
    ∃e,zst T P o s e∧vds T P ops nx0 t (i+1) (e.apply (nx0+i) o.dst s) (rs++[zda ops (nx0+i) o (evl s.env) e]) K:=fun h=>by
   obtain⟨e,h1,h2⟩:=z3b h
   exact⟨e,h2,h1⟩
  have h:zqa T P ops nx0 o (vds T P ops nx0 t) i s rs K:=h
  simp only[zqa,zpb,znf,zyc]at h
  split at h
  ·rename_i hg
   obtain⟨e,h1,h2⟩:=run h
   exact next e (by unfold zkf;rw[hg];exact h1) h2
  ·rename_i j want hg
   split at h
   ·exact h.elim
   ·rename_i d hd
    split at h
    ·rename_i hl
     cases want with
     |true =>
      obtain⟨e,h1,h2⟩:=run h
      exact next e (by unfold zkf;rw[hg];exact⟨d,hd,.inl ⟨hl,h1⟩⟩) h2
     |false =>
      exact next _ (by unfold zkf;rw[hg];exact⟨d,hd,.inl ⟨hl,rfl⟩⟩) h
    ·rename_i hl
     cases want with
     |true =>
      exact next _ (by unfold zkf;rw[hg];exact⟨d,hd,.inr (.inl ⟨hl,rfl⟩)⟩) h
     |false =>
      obtain⟨e,h1,h2⟩:=run h
      exact next e (by unfold zkf;rw[hg];exact⟨d,hd,.inr (.inl ⟨hl,h1⟩)⟩) h2
    ·rename_i vs hl
     exact next _ (by unfold zkf;rw[hg];exact⟨d,hd,.inr (.inr ⟨⟨vs,hl⟩,rfl⟩)⟩) h
    ·exact h.elim
theorem zv6 {nx0:Nat} {M:Nat→Bool} (E:List (Oper×Ef)):∀{i:Nat} {s:S},(∀j,i≤j→M j=false)→fo nx0 M E i s=s:=by
 induction E with
 |nil=>intro i s _;rfl
 |cons x t ih =>
  obtain⟨o,e⟩:=x
  intro i s h
  simp only[fo,h i (Nat.le_refl i)]
  exact ih fun j hj=>h j (by omega)
theorem zof {nx0:Nat} {M M':Nat→Bool} (E:List (Oper×Ef)):∀{i:Nat} {s:S},(∀j,i≤j→j<i+E.length→M j=M' j)→fo nx0 M E i s=fo nx0 M' E i s:=by
 induction E with
 |nil=>intro i s _;rfl
 |cons x t ih =>
  obtain⟨o,e⟩:=x
  intro i s h
  simp only[List.length_cons]at h
  simp only[fo,h i (Nat.le_refl i) (by omega)]
  exact ih fun j hj hj2=>h j (by omega) (by omega)
theorem zib {nx0:Nat} (E:List (Oper×Ef)):∀{i k:Nat} {s:S} {o:Oper} {e:Ef},znc T P ops nx0 E i s→E[k]? = some (o,e) →
  zkf T P ops o (fo nx0 (fun j=>decide (j<i+k)) E i s) e∧(zm0 ops nx0 E i s)[k]? = some (zda ops (nx0+(i+k)) o (evl (fo nx0 (fun j=>decide (j<i+k)) E i s).env) e):=by
 induction E with
 |nil=>intro i k s o e _ h;simp at h
 |cons x t ih =>
  obtain⟨o',e'⟩:=x
  intro i k s o e hs hk
  cases k with
  |zero =>
   simp only[List.getElem?_cons_zero,Option.some.injEq,Prod.mk.injEq]at hk
   obtain⟨rfl,rfl⟩:=hk
   have h0:fo nx0 (fun j=>decide (j<i+0)) ((o',e')::t) i s=s:=zv6 _ fun j hj=>by simp;omega
   rw[h0]
   exact⟨hs.1,rfl⟩
  |succ k =>
   have:=ih hs.2 (by simpa using hk)
   have h1:fo nx0 (fun j=>decide (j<i+(k+1))) ((o',e')::t) i s=fo nx0 (fun j=>decide (j<i+1+k)) t (i+1) (e'.apply (nx0+i) o'.dst s):=by
    simp only[fo]
    rw[show decide (i<i+(k+1))=true by simp]
    exact zof t fun j _ _=>by rw[show i+(k+1)=i+1+k by omega]
   rw[h1]
   refine⟨this.1,?_⟩
   simp only[zm0,List.getElem?_cons_succ]
   rw[this.2,show i+(k+1)=i+1+k by omega]
theorem zh9 {n:Nat} {ms:List Nat} (rs:List Rec):∀{j0:Nat} {seen:List (Nat×Rec)},zk7 n ms rs j0 seen=true→∀k r,rs[k]? = some r →
  r.own n=true∧(∀p∈seen,zga ((ms.getD (j0+k) 0).testBit p.1) p.2 r=true)∧∀k' r',k'<k→rs[k']? = some r'→zga ((ms.getD (j0+k) 0).testBit (j0+k')) r' r=true:=by
 induction rs with
 |nil=>intro j0 seen _ k r h;simp at h
 |cons x t ih =>
  intro j0 seen h k r hk
  simp only[zk7]at h
  split at h
  ·rename_i hc
   simp only[Bool.and_eq_true,List.all_eq_true]at hc
   cases k with
   |zero =>
    simp only[List.getElem?_cons_zero,Option.some.injEq]at hk
    subst hk
    exact⟨hc.1,hc.2,fun k' r' hlt=>by omega⟩
   |succ k =>
    obtain⟨h1,h2,h3⟩:=ih h k r (by simpa using hk)
    have e1:j0+(k+1)=j0+1+k:=by omega
    refine⟨h1,fun p hp=>by rw[e1];exact h2 p (List.mem_append_left _ hp),fun k' r' hlt hk'=>?_⟩
    cases k' with
    |zero =>
     simp only[List.getElem?_cons_zero,Option.some.injEq]at hk'
     subst hk'
     rw[e1];exact h2 (j0,x) (List.mem_append_right _ List.mem_cons_self)
    |succ k' =>
     have:=h3 k' r' (by omega) (by simpa using hk')
     rw[e1,show j0+(k'+1)=j0+1+k' by omega];exact this
  ·cases h
theorem za4 {l l':List Nat} (h:zcm l l'=false):∀x∈l,x∉l':=by
 induction l with
 |nil=>intro x hx;cases hx
 |cons a t ih =>
  simp only[zcm]at h
  split at h
  ·cases h
  ·rename_i hm
   intro x hx
   rcases List.mem_cons.1 hx with hx|hx
   ·subst hx;intro hc;rw[zfx.2 hc]at hm;cases hm
   ·exact ih h x hx
theorem zrl {n:Nat} {l:List Nat} (h:zpu n l=true):∀x∈l,x<n:=by
 induction l with
 |nil=>intro x hx;cases hx
 |cons a t ih =>
  simp only[zpu]at h
  split at h
  ·rename_i h1
   intro x hx
   rcases List.mem_cons.1 hx with hx|hx
   ·subst hx;simpa using h1
   ·exact ih h x hx
  ·cases h
theorem zxc {after:List Edge} {acc:List Nat} {j:Nat} (h:(zjb after acc).testBit j=true):∃e∈after,Region.binds .any e=true∧(j=e.on∨(acc.getD e.on 0).testBit j=true):=by
 induction after with
 |nil=>simp[zjb]at h
 |cons e t ih =>
  simp only[zjb]at h
  split at h
  ·rename_i hb
   rw[Nat.testBit_or,Nat.testBit_or,Bool.or_eq_true,Bool.or_eq_true]at h
   rcases h with (h|h)|h
   ·rw[Nat.testBit_two_pow]at h
    exact⟨e,List.mem_cons_self,hb,.inl (by simpa using h:e.on=j).symm⟩
   ·exact⟨e,List.mem_cons_self,hb,.inr h⟩
   ·obtain⟨e',h1,h2⟩:=ih h
    exact⟨e',List.mem_cons_of_mem _ h1,h2⟩
  ·obtain⟨e',h1,h2⟩:=ih h
   exact⟨e',List.mem_cons_of_mem _ h1,h2⟩
theorem zm1 (t:List Oper):∀{acc:List Nat} {i:Nat},i<acc.length→(zd4 t acc).getD i 0=acc.getD i 0:=by
 induction t with
 |nil=>intro acc i _;rfl
 |cons o t ih =>
  intro acc i hi
  simp only[zd4]
  rw[ih (by simp;omega)]
  simp[List.getD_eq_getElem?_getD,List.getElem?_append_left hi]
theorem z1b (t:List Oper) {acc:List Nat} {i j:Nat} (h:(acc.getD i 0).testBit j=true):((zd4 t acc).getD i 0).testBit j=true:=by
 by_cases c:i<acc.length
 ·rw[zm1 t c];exact h
 ·rw[List.getD_eq_getElem?_getD,List.getElem?_eq_none (by omega)]at h
  simp at h
theorem zy8 (t:List Oper):∀{acc:List Nat} {k j:Nat} {o:Oper},t[k]? = some o→((zd4 t acc).getD (acc.length+k) 0).testBit j=true →
  ∃e∈o.after.toList,Region.binds .any e=true∧(j=e.on∨((zd4 t acc).getD e.on 0).testBit j=true):=by
 induction t with
 |nil=>intro acc k j o h;simp at h
 |cons x t ih =>
  intro acc k j o hk hb
  simp only[zd4]at hb⊢
  cases k with
  |zero =>
   simp only[List.getElem?_cons_zero,Option.some.injEq]at hk
   subst hk
   rw[zm1 t (by simp)]at hb
   simp only[Nat.add_zero,List.getD_eq_getElem?_getD,List.getElem?_concat_length,Option.getD_some]at hb
   obtain⟨e,h1,h2,h3⟩:=zxc hb
   refine⟨e,h1,h2,h3.imp id fun h3=>z1b t ?_⟩
   by_cases c:e.on<acc.length
   ·rw[List.getD_eq_getElem?_getD,List.getElem?_append_left c,←List.getD_eq_getElem?_getD];exact h3
   ·rw[List.getD_eq_getElem?_getD,List.getElem?_eq_none (by omega)]at h3
    simp at h3
  |succ k =>
   have e1:acc.length+(k+1)=(acc++[zjb x.after.toList acc]).length+k:=by simp;omega
   rw[e1]at hb
   exact ih (by simpa using hk) hb
theorem zn2 (l:List Oper):∀{i:Nat},zja l i=true→∀k o,l[k]? = some o→∀e∈o.after.toList,Region.binds .any e=true→e.on<i+k:=by
 induction l with
 |nil=>intro i _ k o h;simp at h
 |cons x t ih =>
  intro i h k o hk e he hb
  simp only[zja]at h
  split at h
  ·rename_i hc
   cases k with
   |zero =>
    simp only[List.getElem?_cons_zero,Option.some.injEq]at hk
    subst hk
    have:=List.all_eq_true.1 hc e he
    rw[hb]at this
    simpa using this
   |succ k=>have:=ih h k o (by simpa using hk) e he hb;omega
  ·cases h
theorem zwp {nt:Nat} (l:List Oper) (h:zkt nt l=true):∀o∈l,∀d,o.dst=some d→d<nt:=by
 induction l with
 |nil=>intro o ho;cases ho
 |cons x t ih =>
  simp only[zkt]at h
  intro o ho d hd
  rcases List.mem_cons.1 ho with ho|ho
  ·subst ho
   rw[hd]at h
   simp only at h
   split at h
   ·rename_i h1;simpa using h1
   ·cases h
  ·refine ih ?_ o ho d hd
   split at h
   ·exact h
   ·split at h
    ·exact h
    ·cases h
def zp4 (ops:List Oper) (M:Nat→Bool):Prop:=∀k o,M k=true→ops[k]? = some o→∀e∈o.after.toList,Region.binds .any e=true→M e.on=true
theorem zn6 {M:Nat→Bool} (hE:zja ops 0=true) (hM:zp4 ops M):∀(k:Nat) (o:Oper) (j:Nat),ops[k]? = some o→(∀e∈o.after.toList,Region.binds .any e=true→M e.on=true) →
  ((zd4 ops []).getD k 0).testBit j=true→M j=true:=by
 intro k
 induction k using Nat.strongRecOn with
 |_ k ih =>
  intro o j ho ha hb
  obtain⟨e,h1,h2,h3⟩:=zy8 ops (acc:=[]) (k:=k) ho (by simpa using hb)
  rcases h3 with h3|h3
  ·rw[h3];exact ha e h1 h2
  ·have hlt:e.on<k:=by have:=zn2 ops hE k o ho e h1 h2;omega
   have hk:k<ops.length:=(List.getElem?_eq_some_iff.1 ho).1
   exact ih e.on hlt _ j (List.getElem?_eq_getElem (by omega)) (hM _ _ (ha e h1 h2) (List.getElem?_eq_getElem (by omega))) h3
end
end Go.VL
