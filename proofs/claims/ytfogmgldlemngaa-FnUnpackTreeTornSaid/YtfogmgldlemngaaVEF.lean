/- V-logic: Sound22 Sound23 Walk Short Flat Flat2 -/
import Derived.Test.YtfogmgldlemngaaVEE
import Derived.Laws.BitsLemmas
namespace Go.VL
set_option linter.unusedVariables false
set_option linter.unusedSimpArgs false
section
variable {P : Program} {T : TT} {ops : List Oper}
theorem lookH_setH' (hp:List (Nat×O)) (id:Nat) (ob:O) (i:Nat):zq (zac hp id ob) i=if id=i then(zq hp i).map (fun _=>ob)else zq hp i:=by
 induction hp with
 |nil=>simp[zac,zq]
 |cons x t ih =>
  obtain⟨k,v⟩:=x
  simp only[zac]
  cases hk:Nat.beq k id with
  |true =>
   have hk:=Nat.eq_of_beq_eq_true hk
   subst hk
   simp only[zaz]
   by_cases c:k=i
   ·simp[c]
   ·simp[c]
  |false =>
   have hk:=Nat.ne_of_beq_eq_false hk
   simp only[zaz,ih]
   by_cases c:k=i
   ·rw[if_pos c,if_neg (fun e=>hk (c.trans e.symm)),if_pos c]
   ·rw[if_neg c,if_neg c]
theorem z8z (ids:List Nat):∀(hp:List (Nat×O)) (i:Nat),zq (z54 hp ids) i=if i∈ids then none else zq hp i:=by
 induction ids with
 |nil=>intro hp i;rw[if_neg (by simp)];rfl
 |cons a t ih =>
  intro hp i
  show zq (z54 (zbx hp a) t) i=_
  rw[ih,zlq]
  by_cases c:i∈t
  ·rw[if_pos c,if_pos (List.mem_cons_of_mem _ c)]
  ·by_cases c2:a=i
   ·rw[if_neg c,if_pos c2,if_pos (by rw[c2];exact List.mem_cons_self)]
   ·rw[if_neg c,if_neg c2,if_neg (by rw[List.mem_cons,not_or];exact⟨fun e=>c2 e.symm,c⟩)]
theorem z99 (ids:List Nat):∀hp:List (Nat×O),(z54 hp ids).Sublist hp:=by
 induction ids with
 |nil=>intro hp;exact List.Sublist.refl _
 |cons a t ih=>intro hp;exact(ih _).trans (zjd _ _)
def Ef.lk (k:Nat) (dst:Option Nat) (e:Ef) (j:Nat) (v:V):V :=
 if dst=some j then e.val? k else match e with|.app id _=>v.forget id|_=>v
def Ef.newL (k:Nat):Ef→List (Nat×O)
 |.new _ _ ob=>[(k,ob)]
 |.fx _ news _ _ _=>zd2 k 0 news
 |.mv _ z=>[(k,.arr z)]
 |_=>[]
def Ef.delL:Ef→List Nat
 |.mv id _=>[id]
 |.mf id _=>[id]
 |.tk ids _=>ids
 |_=>[]
def Ef.setL:Ef→List (Nat×O)
 |.set _ id ob=>[(id,ob)]
 |.app id z=>[(id,z)]
 |.fx sets _ _ _ _=>sets
 |_=>[]
def zcx:List (Nat×O)→Nat→Option O
 |[],_=>none
 |(j,o)::t,i=>match zcx t i with|some o'=>some o'|none=>if j=i then some o else none
theorem zr0 {l:List (Nat×O)} {i:Nat} {o:O} (h:zcx l i=some o):(i,o)∈l:=by
 induction l with
 |nil=>cases h
 |cons x t ih =>
  obtain⟨j,o1⟩:=x
  simp only[zcx]at h
  split at h
  ·rename_i h1;cases h;exact List.mem_cons_of_mem _ (ih h1)
  ·split at h
   ·rename_i c;cases h;subst c;exact List.mem_cons_self
   ·cases h
theorem zu7 (sets:List (Nat×O)):∀(hp:List (Nat×O)) (i:Nat),zq (zdv sets hp) i=match zcx sets i with|some o=>(zq hp i).map (fun _=>o)|none=>zq hp i:=by
 induction sets with
 |nil=>intro hp i;rfl
 |cons x t ih =>
  obtain⟨j,o⟩:=x
  intro hp i
  simp only[zdv,ih,lookH_setH',zcx]
  cases hl:zcx t i with
  |some o'=>simp only[];split<;>simp[Option.map_map];rfl
  |none=>simp only[];split<;>rfl
theorem zza (a b:List (Nat×O)) (i:Nat):zq (a++b) i=match zq a i with|some o=>some o|none=>zq b i:=by
 induction a with
 |nil=>rfl
 |cons x t ih =>
  obtain⟨j,o⟩:=x
  simp only[List.cons_append,zaz,ih]
  split<;>rfl
def Ef.lh (k:Nat) (e:Ef) (i:Nat) (x:Option O):Option O :=
 match zq (e.newL k) i with
 |some o=>some o
 |none=>if i∈e.delL then none else match zcx e.setL i with
  |some o=>x.map fun _=>o
  |none=>match e with
   |.app id _=>x.map (O.map (z6 id))
   |_=>x
theorem Ef.newL_key {k:Nat} {e:Ef} {i:Nat} {o:O} (h:zq (e.newL k) i=some o):i∈e.nw k:=by
 have h:=zt h
 cases e with
 |new st hst ob=>simp only[Ef.newL,List.mem_singleton,Prod.mk.injEq]at h;simp[Ef.nw,h.1]
 |fx sets news rds st hst=>simp only[Ef.nw,zcg];exact List.mem_map.2 ⟨_,h,rfl⟩
 |mv id z=>simp only[Ef.newL,List.mem_singleton,Prod.mk.injEq]at h;simp[Ef.nw,h.1]
 |_=>simp[Ef.newL]at h
theorem Ef.newL_none {k:Nat} {e:Ef} {i:Nat} (h:i∉e.nw k):zq (e.newL k) i=none:=by
 cases hq:zq (e.newL k) i with
 |none=>rfl
 |some o=>exact absurd (Ef.newL_key hq) h
theorem Ef.setL_key {e:Ef} {i:Nat} {o:O} (h:zcx e.setL i=some o):i∈e.wr:=by
 have h:=zr0 h
 cases e with
 |set v id ob=>simp only[Ef.setL,List.mem_singleton,Prod.mk.injEq]at h;simp[Ef.wr,h.1]
 |app id z=>simp only[Ef.setL,List.mem_singleton,Prod.mk.injEq]at h;simp[Ef.wr,h.1]
 |fx sets news rds st hst=>simp only[Ef.wr,zcg];exact List.mem_map.2 ⟨_,h,rfl⟩
 |_=>simp[Ef.setL]at h
theorem Ef.setL_none {e:Ef} {i:Nat} (h:i∉e.wr):zcx e.setL i=none:=by
 cases hq:zcx e.setL i with
 |none=>rfl
 |some o=>exact absurd (Ef.setL_key hq) h
theorem Ef.lh_nt {k:Nat} {e:Ef} (ht:e.tot=false) (i:Nat) (x:Option O):e.lh k i x=match zq (e.newL k) i with|some o=>some o|none=>if i∈e.delL then none else match zcx e.setL i with|some o=>x.map fun _=>o|none=>x:=by
 cases e<;>first|rfl|cases ht
theorem Ef.delL_wr {e:Ef} {i:Nat} (h:i∈e.delL):i∈e.wr:=by
 cases e<;>first|exact h|cases h
theorem zcy (k:Nat) (dst:Option Nat) (e:Ef) (s:S) (j:Nat):zaw (e.apply k dst s).env j=e.lk k dst j (zaw s.env j):=by
 cases e with
 |app id z =>
  simp only[Ef.apply,Ef.lk,zcp,Ef.val?]
  rw[zex _ rfl]
 |_=>simp only[Ef.apply,Ef.lk,zcp,Ef.val?]
theorem zb7 (k:Nat) (dst:Option Nat) (e:Ef) (s:S) (i:Nat):zq (e.apply k dst s).hp i=e.lh k i (zq s.hp i):=by
 cases e with
 |val v=>rfl
 |set v id ob =>
  simp only[Ef.apply,Ef.lh,lookH_setH',Ef.newL,Ef.setL,zcx,zq]
  by_cases c:id=i<;>simp[c,Ef.delL]
 |new st hst ob =>
  simp only[Ef.apply,Ef.lh,zaz,Ef.newL,Ef.setL,zcx]
  by_cases c:k=i<;>simp[c,zq,Ef.delL]
 |app id z =>
  simp only[Ef.apply,Ef.lh,lookH_setH',ziv,Ef.newL,Ef.setL,zcx,zq]
  by_cases c:id=i
  ·simp[c,Option.map_map,Ef.delL];rfl
  ·simp[c,Ef.delL]
 |fx sets news rds st hst =>
  simp only[Ef.apply,Ef.lh,zza,zu7,Ef.newL,Ef.setL,Ef.delL,List.not_mem_nil,if_false]
 |mv id z =>
  simp only[Ef.apply,Ef.lh,zaz,Ef.newL,Ef.setL,Ef.delL,zcx,zq,zlq,List.mem_singleton]
  by_cases c:k=i
  ·simp[c]
  ·by_cases c2:id=i
   ·simp[c,c2]
   ·simp[c,c2];exact fun e=>(c2 e.symm).elim
 |tk ids v=>simp only[Ef.apply,Ef.lh,Ef.newL,Ef.setL,Ef.delL,zcx,zq,z8z]
 |mf id z =>
  simp only[Ef.apply,Ef.lh,Ef.newL,Ef.setL,Ef.delL,zcx,zq,zlq,List.mem_singleton]
  by_cases c2:id=i
  ·simp[c2]
  ·simp[c2];exact fun e=>(c2 e.symm).elim
structure Eq0 (s s':S):Prop where
 nt:s.nt=s'.nt
 nx:s.nx=s'.nx
 env:∀j,zaw s.env j=zaw s'.env j
 hp:∀i,zq s.hp i=zq s'.hp i
theorem zck (k:Nat) (dst:Option Nat) (e:Ef) (s:S):(e.apply k dst s).nt=s.nt∧(e.apply k dst s).nx=s.nx:=by cases e<;>exact⟨rfl,rfl⟩
theorem Eq0.refl (s:S):Eq0 s s:=⟨rfl,rfl,fun _=>rfl,fun _=>rfl⟩
theorem Eq0.trans {s s' s'':S} (h:Eq0 s s') (k:Eq0 s' s''):Eq0 s s'':=⟨h.nt.trans k.nt,h.nx.trans k.nx,fun j=>(h.env j).trans (k.env j),fun j=>(h.hp j).trans (k.hp j)⟩
theorem Eq0.apply {s s':S} (h:Eq0 s s') (k:Nat) (dst:Option Nat) (e:Ef):Eq0 (e.apply k dst s) (e.apply k dst s') :=
 ⟨by rw[(zck k dst e s).1,(zck k dst e s').1,h.nt],by rw[(zck k dst e s).2,(zck k dst e s').2,h.nx],fun j=>by rw[zcy,zcy,h.env],fun j=>by rw[zb7,zb7,h.hp]⟩
theorem z3j {nx0:Nat} {M:Nat→Bool} (E:List (Oper×Ef)):∀{i:Nat} {s s':S},Eq0 s s'→Eq0 (fo nx0 M E i s) (fo nx0 M E i s'):=by
 induction E with
 |nil=>intro i s s' h;exact h
 |cons x t ih =>
  obtain⟨o,e⟩:=x
  intro i s s' h
  simp only[fo]
  cases M i with
  |true=>exact ih (h.apply _ _ _)
  |false=>exact ih h
structure Comm (k:Nat) (dst:Option Nat) (e:Ef) (k':Nat) (dst':Option Nat) (e':Ef):Prop where
 dst:∀d,dst=some d→dst'≠some d
 t1:e.tot=false
 t2:e'.tot=false
 wr:∀x∈e.wr,x∉e'.wr
 n1:∀x∈e.nw k,x∉e'.wr∧x∉e'.nw k'
 n2:∀x∈e'.nw k',x∉e.wr
theorem Comm.swap {k k':Nat} {dst dst':Option Nat} {e e':Ef} (h:Comm k dst e k' dst' e') (s:S):Eq0 (e.apply k dst (e'.apply k' dst' s)) (e'.apply k' dst' (e.apply k dst s)):=by
 refine⟨by rw[(zck _ _ _ _).1,(zck _ _ _ _).1,(zck _ _ _ _).1,(zck _ _ _ _).1],by rw[(zck _ _ _ _).2,(zck _ _ _ _).2,(zck _ _ _ _).2,(zck _ _ _ _).2],fun j=>?_,fun i=>?_⟩
 ·rw[zcy,zcy,zcy,zcy]
  have h1:=h.t1
  have h2:=h.t2
  have hd:=h.dst
  cases e<;>cases e'<;>simp only[Ef.lk]<;>by_cases c:dst=some j<;>by_cases c':dst'=some j<;>first
   |(simp[Ef.tot]at h1;done)
   |(simp[Ef.tot]at h2;done)
   |exact absurd c' (hd j c)
   |simp[c,c']
 ·rw[zb7,zb7,zb7,zb7,Ef.lh_nt h.t1,Ef.lh_nt h.t2,Ef.lh_nt h.t2,Ef.lh_nt h.t1]
  cases a1:zq (e.newL k) i with
  |some o1 =>
   have hn:=h.n1 _ (Ef.newL_key a1)
   rw[Ef.newL_none hn.2,Ef.setL_none hn.1]
   simp only[if_neg (fun c=>hn.1 (Ef.delL_wr c))]
  |none =>
   cases a2:zq (e'.newL k') i with
   |some o2 =>
    have hn:=h.n2 _ (Ef.newL_key a2)
    rw[Ef.setL_none hn]
    simp only[if_neg (fun c=>hn (Ef.delL_wr c))]
   |none =>
    by_cases d1:i∈e.delL
    ·have hw:=h.wr _ (Ef.delL_wr d1)
     rw[Ef.setL_none hw]
     simp only[if_pos d1,if_neg (fun c=>hw (Ef.delL_wr c))]
    ·by_cases d2:i∈e'.delL
     ·have hw:i∉e.wr:=fun c=>h.wr _ c (Ef.delL_wr d2)
      rw[Ef.setL_none hw]
      simp only[if_neg d1,if_pos d2]
     ·simp only[if_neg d1,if_neg d2]
      cases a3:zcx e.setL i with
      |some o3=>rw[Ef.setL_none (h.wr _ (Ef.setL_key a3))]
      |none=>cases zcx e'.setL i<;>rfl
theorem z18 {nx0 k:Nat} {dst:Option Nat} {e:Ef} {M:Nat→Bool} (E:List (Oper×Ef)):∀{i:Nat} {s:S},(∀j o' e',E[j]? = some (o',e')→M (i+j)=true→Comm k dst e (nx0+(i+j)) o'.dst e') →
  Eq0 (e.apply k dst (fo nx0 M E i s)) (fo nx0 M E i (e.apply k dst s)):=by
 induction E with
 |nil=>intro i s _;exact Eq0.refl _
 |cons x t ih =>
  obtain⟨o',e'⟩:=x
  intro i s h
  have ht:∀j o2 e2,t[j]? = some (o2,e2)→M (i+1+j)=true→Comm k dst e (nx0+(i+1+j)) o2.dst e2:=fun j o2 e2 hj hm=>by
   have:=h (j+1) o2 e2 (by simpa using hj) (by rw[show i+(j+1)=i+1+j by omega];exact hm)
   rwa [show i+(j+1)=i+1+j by omega]at this
  simp only[fo]
  cases hm:M i with
  |true =>
   have hc:=h 0 o' e' rfl (by simpa using hm)
   exact(ih ht).trans (z3j t (hc.swap s))
  |false=>exact ih ht
theorem zz4 {nx0 k:Nat} {M M':Nat→Bool} (E:List (Oper×Ef)):∀{i:Nat} {s:S} {o:Oper} {e:Ef},E[k]? = some (o,e)→M (i+k)=false→M' (i+k)=true→(∀j,j≠i+k→M' j=M j) →
  (∀j o' e',k<j→E[j]? = some (o',e')→M (i+j)=true→Comm (nx0+(i+k)) o.dst e (nx0+(i+j)) o'.dst e') →
  Eq0 (e.apply (nx0+(i+k)) o.dst (fo nx0 M E i s)) (fo nx0 M' E i s):=by
 induction E generalizing k with
 |nil=>intro i s o e h;simp at h
 |cons x t ih =>
  obtain⟨o1,e1⟩:=x
  intro i s o e hk hm hm' heq hc
  cases k with
  |zero =>
   simp only[List.getElem?_cons_zero,Option.some.injEq,Prod.mk.injEq]at hk
   obtain⟨rfl,rfl⟩:=hk
   simp only[Nat.add_zero]at hm hm' heq hc⊢
   simp only[fo,hm,hm']
   rw[zof (M:=M') (M':=M) t fun j hj _=>heq j (by omega)]
   exact z18 t fun j o' e' hj hmj=>by
    have:=hc (j+1) o' e' (by omega) (by simpa using hj) (by rw[show i+(j+1)=i+1+j by omega];exact hmj)
    rwa [show i+(j+1)=i+1+j by omega]at this
  |succ k =>
   have e2:i+(k+1)=i+1+k:=by omega
   rw[e2]at hm hm' heq hc⊢
   simp only[fo]
   rw[heq i (by omega)]
   refine ih (by simpa using hk) hm hm' heq fun j o' e' hj hej hmj=>?_
   have:=hc (j+1) o' e' (by omega) (by simpa using hej) (by rw[show i+(j+1)=i+1+j by omega];exact hmj)
   rwa [show i+(j+1)=i+1+j by omega]at this
def zfo (D R:List Nat) (s s':S):Prop:=(∀d∈D,zaw s.env d=zaw s'.env d)∧∀i∈R,zq s.hp i=zq s'.hp i
theorem zfo.apply {D R:List Nat} {s s':S} (h:zfo D R s s') (k:Nat) (dst:Option Nat) (e:Ef):zfo D R (e.apply k dst s) (e.apply k dst s') :=
 ⟨fun d hd=>by rw[zcy,zcy,h.1 d hd],fun i hi=>by rw[zb7,zb7,h.2 i hi]⟩
structure Off (D R:List Nat) (k:Nat) (dst:Option Nat) (e:Ef):Prop where
 dst:∀d∈D,dst≠some d
 t:e.tot=false
 wr:∀x∈e.wr,x∉R
 nw:∀x∈e.nw k,x∉R
theorem Off.agree {D R:List Nat} {k:Nat} {dst:Option Nat} {e:Ef} (h:Off D R k dst e) (s:S):zfo D R (e.apply k dst s) s:=by
 have ht:=h.t
 have hw:=h.wr
 have hn:=h.nw
 refine⟨fun d hd=>?_,fun i hi=>?_⟩
 ·rw[zcy]
  unfold Ef.lk
  rw[if_neg (h.dst d hd)]
  cases e<;>first|rfl|cases ht
 ·rw[zb7,Ef.lh_nt ht,Ef.newL_none fun c=>hn i c hi,Ef.setL_none fun c=>hw i c hi]
  simp only[if_neg (fun c=>hw i (Ef.delL_wr c) hi)]
theorem zfo.trans {D R:List Nat} {s s' s'':S} (h:zfo D R s s') (k:zfo D R s' s''):zfo D R s s'':=⟨fun d hd=>(h.1 d hd).trans (k.1 d hd),fun i hi=>(h.2 i hi).trans (k.2 i hi)⟩
theorem zfo.symm {D R:List Nat} {s s':S} (h:zfo D R s s'):zfo D R s' s:=⟨fun d hd=>(h.1 d hd).symm,fun i hi=>(h.2 i hi).symm⟩
theorem z0d {nx0:Nat} {D R:List Nat} {M M':Nat→Bool} (E:List (Oper×Ef)):∀{i:Nat} {s s':S},zfo D R s s'→(∀j o e,E[j]? = some (o,e)→M (i+j)≠M' (i+j)→Off D R (nx0+(i+j)) o.dst e) →
  zfo D R (fo nx0 M E i s) (fo nx0 M' E i s'):=by
 induction E with
 |nil=>intro i s s' h _;exact h
 |cons x t ih =>
  obtain⟨o,e⟩:=x
  intro i s s' h ho
  have ht:∀j o2 e2,t[j]? = some (o2,e2)→M (i+1+j)≠M' (i+1+j)→Off D R (nx0+(i+1+j)) o2.dst e2:=fun j o2 e2 hj hm=>by
   have:=ho (j+1) o2 e2 (by simpa using hj) (by rw[show i+(j+1)=i+1+j by omega];exact hm)
   rwa [show i+(j+1)=i+1+j by omega]at this
  have h0:=ho 0 o e rfl
  simp only[Nat.add_zero]at h0
  simp only[fo]
  cases hm:M i<;>cases hm':M' i
  ·exact ih h ht
  ·exact ih (h.trans ((h0 (by rw[hm,hm'];simp)).agree s').symm) ht
  ·exact ih (((h0 (by rw[hm,hm'];simp)).agree s).trans h) ht
  ·exact ih (h.apply _ _ _) ht
structure Fresh (k:Nat) (s:S):Prop where
 env:∀j,k∉(zaw s.env j).ids
 key:zq s.hp k=none
 hp:∀i o,zq s.hp i=some o→k∉o.ids
mutual
theorem V.forget_ids {id k:Nat}:∀v:V,k∉v.ids→k∉(v.forget id).ids
 |.ptr i a b c,h=>by simp only[V.forget];split<;>first|exact h|simp[V.ids]
 |.slc i,h=>by simp only[V.forget];split<;>first|exact h|simp[V.ids]
 |.agg xs,h=>by simp only[V.ids]at h;simp only[V.forget,V.ids];exact zdg xs h
 |.tup xs,h=>by simp only[V.ids]at h;simp only[V.forget,V.ids];exact zdg xs h
 |.fn f xs,h=>by simp only[V.ids]at h;simp only[V.forget,V.ids];exact zdg xs h
 |.any,h=>h
 |.tt,h=>h
 |.ff,h=>h
 |.nil,h=>h
 |.c _,h=>h
 |.iptr _,h=>h
theorem zdg {id k:Nat}:∀xs:List V,k∉za9 xs→k∉za9 (z6 id xs)
 |[],h=>h
 |x::t,h=>by
  simp only[za9,List.mem_append,not_or]at h
  simp only[z6,za9,List.mem_append,not_or]
  exact⟨V.forget_ids x h.1,zdg t h.2⟩
end
def Ef.ids (k:Nat) (e:Ef):List Nat:=(match e.isNew with|true=>[]|false=>(e.val? k).ids)++e.obIds
mutual
theorem V.ids_ren_const {k i:Nat}:∀{v:V},i∈(v.ren fun _=>k).ids→i=k
 |.ptr _ _ _ _,h=>by simpa [V.ren,V.ids]using h
 |.slc _,h=>by simpa [V.ren,V.ids]using h
 |.agg xs,h=>by simp only[V.ren,V.ids]at h;exact zf5 h
 |.tup xs,h=>by simp only[V.ren,V.ids]at h;exact zf5 h
 |.fn _ xs,h=>by simp only[V.ren,V.ids]at h;exact zf5 h
 |.any,h=>by simp[V.ren,V.ids]at h
 |.tt,h=>by simp[V.ren,V.ids]at h
 |.ff,h=>by simp[V.ren,V.ids]at h
 |.nil,h=>by simp[V.ren,V.ids]at h
 |.c _,h=>by simp[V.ren,V.ids]at h
 |.iptr _,h=>by simp[V.ren,V.ids]at h
theorem zf5 {k i:Nat}:∀{xs:List V},i∈za9 (zag (fun _=>k) xs)→i=k
 |[],h=>by simp[zag,za9]at h
 |x::t,h=>by
  simp only[zag,za9,List.mem_append]at h
  rcases h with h|h
  ·exact V.ids_ren_const h
  ·exact zf5 h
end
mutual
theorem V.ids_ren_mem {r:Nat→Nat} {n i:Nat}:∀{v:V},v.idsLt n=true→i∈(v.ren r).ids→∃j,j<n∧i=r j
 |.ptr j _ _ _,hn,h=>⟨j,by simpa [V.idsLt]using hn,by simpa [V.ren,V.ids]using h⟩
 |.slc j,hn,h=>⟨j,by simpa [V.idsLt]using hn,by simpa [V.ren,V.ids]using h⟩
 |.agg xs,hn,h=>by simp only[V.ren,V.ids,V.idsLt]at h hn;exact zhb hn h
 |.tup xs,hn,h=>by simp only[V.ren,V.ids,V.idsLt]at h hn;exact zhb hn h
 |.fn _ xs,hn,h=>by simp only[V.ren,V.ids,V.idsLt]at h hn;exact zhb hn h
 |.any,_,h=>by simp[V.ren,V.ids]at h
 |.tt,_,h=>by simp[V.ren,V.ids]at h
 |.ff,_,h=>by simp[V.ren,V.ids]at h
 |.nil,_,h=>by simp[V.ren,V.ids]at h
 |.c _,_,h=>by simp[V.ren,V.ids]at h
 |.iptr _,_,h=>by simp[V.ren,V.ids]at h
theorem zhb {r:Nat→Nat} {n i:Nat}:∀{xs:List V},zz n xs=true→i∈za9 (zag r xs)→∃j,j<n∧i=r j
 |[],_,h=>by simp[zag,za9]at h
 |x::t,hn,h=>by
  simp only[zag,za9,List.mem_append]at h
  simp only[zz]at hn
  split at hn
  ·rename_i h1
   rcases h with h|h
   ·exact V.ids_ren_mem h1 h
   ·exact zhb hn h
  ·cases hn
end
theorem zoi {l:List (Nat×O)} {i j:Nat} {o:O} (h:(i,o)∈l) (hj:j∈o.ids):j∈idsO l:=by
 induction l with
 |nil=>cases h
 |cons x t ih =>
  obtain⟨q,o'⟩:=x
  rcases List.mem_cons.1 h with h|h
  ·cases h;exact List.mem_append_left _ hj
  ·exact List.mem_append_right _ (ih h)
theorem Ef.newL_ids {k:Nat} {e:Ef} {i j:Nat} {o:O} (h:zq (e.newL k) i=some o) (hj:j∈o.ids):j∈e.obIds:=by
 have h:=zt h
 cases e with
 |new st hst ob=>simp only[Ef.newL,List.mem_singleton,Prod.mk.injEq]at h;obtain⟨_,rfl⟩:=h;exact hj
 |fx sets news rds st hst =>
  simp only[Ef.newL]at h
  obtain⟨q,_,hq⟩:=zmu h
  have:=zey (k:=0) hq
  simp only[Ef.obIds]
  exact List.mem_append_left _ (List.mem_append_right _ (zoi this hj))
 |mv id z=>simp only[Ef.newL,List.mem_singleton,Prod.mk.injEq]at h;obtain⟨_,rfl⟩:=h;simp[O.ids]at hj
 |_=>simp[Ef.newL]at h
theorem Ef.setL_ids' {sets:List (Nat×O)} {news:List O} {rds:List Nat} {st:V} {hst} {i j:Nat} {o:O} (h:(i,o)∈sets) (hj:j∈o.ids):j∈(Ef.fx sets news rds st hst).obIds:=by
 simp only[Ef.obIds];exact List.mem_append_left _ (List.mem_append_left _ (List.mem_append_right _ (zoi h hj)))
theorem Ef.setL_ids {e:Ef} {i j:Nat} {o:O} (h:zcx e.setL i=some o) (hj:j∈o.ids):j∈e.obIds:=by
 have h:=zr0 h
 cases e with
 |set v id ob=>simp only[Ef.setL,List.mem_singleton,Prod.mk.injEq]at h;obtain⟨_,rfl⟩:=h;exact List.mem_cons_of_mem _ hj
 |app id z=>simp only[Ef.setL,List.mem_singleton,Prod.mk.injEq]at h;obtain⟨_,rfl⟩:=h;exact List.mem_cons_of_mem _ hj
 |fx sets news rds st hst=>simp only[Ef.obIds];exact List.mem_append_left _ (List.mem_append_left _ (List.mem_append_right _ (zoi h hj)))
 |_=>simp[Ef.setL]at h
theorem Ef.wr_ids {e:Ef} {i:Nat} (h:i∈e.wr):i∈e.obIds:=by
 cases e with
 |set v id ob=>simp only[Ef.wr,List.mem_singleton]at h;simp[Ef.obIds,h]
 |app id z=>simp only[Ef.wr,List.mem_singleton]at h;simp[Ef.obIds,h]
 |fx sets news rds st hst=>simp only[Ef.wr]at h;simp[Ef.obIds,h]
 |mv id z=>simp only[Ef.wr,List.mem_singleton]at h;simp[Ef.obIds,h]
 |mf id z=>simp only[Ef.wr,List.mem_singleton]at h;simp[Ef.obIds,h]
 |tk ids v=>exact h
 |_=>simp[Ef.wr]at h
theorem Ef.rds_ids {e:Ef} {i:Nat} (h:i∈e.rds):i∈e.obIds:=by
 cases e with
 |fx sets news rds st hst=>simp only[Ef.rds]at h;simp[Ef.obIds,h]
 |_=>simp[Ef.rds]at h
theorem O.forget_ids {id k:Nat} {o:O} (h:k∉o.ids):k∉(o.map (z6 id)).ids:=by
 cases o with
 |box pre bs post =>
  simp only[O.ids,List.mem_append,not_or]at h
  simp only[O.map,O.ids,List.mem_append,not_or]
  exact⟨zdg _ h.1,zdg _ h.2⟩
 |arr x=>simp[O.map,O.ids]
 |hol x hi' vs=>simp only[O.ids]at h;simp only[O.map,O.ids];exact zdg _ h
 |deep p f x hs =>
  simp only[O.ids]at h
  simp only[O.map,O.ids]
  intro hc
  obtain⟨q,us,hm,hc⟩:=zr1 hc
  obtain⟨vs,hm2,rfl⟩:=zg2 hm
  exact zdg vs (fun hc=>h (zrh hm2 hc)) hc
theorem Fresh.apply {k k':Nat} {dst:Option Nat} {e:Ef} {s:S} (h:Fresh k s) (hne:k∉e.nw k') (hids:k∉e.ids k'):Fresh k (e.apply k' dst s):=by
 have hob:k∉e.obIds:=fun hc=>hids (List.mem_append_right _ hc)
 refine⟨fun j=>?_,?_,fun i o hi=>?_⟩
 ·rw[zcy]
  unfold Ef.lk
  split
  ·cases e with
   |new st hst ob =>
    simp only[Ef.nw,List.mem_singleton]at hne
    simp only[Ef.val?]
    exact fun hc=>hne (V.ids_ren_const hc)
   |fx sets news rds st hst =>
    simp only[Ef.val?]
    intro hc
    obtain⟨j,hj,e1⟩:=V.ids_ren_mem hst hc
    refine hne ?_
    simp only[Ef.nw,zcg]
    exact zek.2 ⟨j,hj,by omega⟩
   |mv id z =>
    simp only[Ef.nw,List.mem_singleton]at hne
    simp only[Ef.val?,V.ids,List.mem_singleton]
    exact hne
   |_=>exact fun hc=>hids (List.mem_append_left _ hc)
  ·cases e with
   |app id z=>exact V.forget_ids _ (h.env j)
   |_=>exact h.env j
 ·rw[zb7,h.key]
  unfold Ef.lh
  rw[Ef.newL_none hne]
  simp only
  split
  ·rfl
  ·cases zcx e.setL k with
   |some o=>rfl
   |none=>cases e<;>rfl
 ·rw[zb7]at hi
  unfold Ef.lh at hi
  cases a1:zq (e.newL k') i with
  |some o1=>rw[a1]at hi;cases hi;exact fun hc=>hob (Ef.newL_ids a1 hc)
  |none =>
   rw[a1]at hi
   simp only at hi
   split at hi
   ·cases hi
   cases a2:zcx e.setL i with
   |some o2 =>
    rw[a2]at hi
    cases hq:zq s.hp i with
    |none=>rw[hq]at hi;cases hi
    |some o'=>rw[hq]at hi;cases hi;exact fun hc=>hob (Ef.setL_ids a2 hc)
   |none =>
    rw[a2]at hi
    cases e with
    |app id z =>
     simp only at hi
     cases hq:zq s.hp i with
     |none=>rw[hq]at hi;cases hi
     |some o'=>rw[hq]at hi;cases hi;exact O.forget_ids (h.hp i o' hq)
    |_=>exact h.hp i o hi
theorem z1g {nx0 k:Nat} {M:Nat→Bool} (E:List (Oper×Ef)):∀{i:Nat} {s:S},Fresh k s→(∀j o e,E[j]? = some (o,e)→M (i+j)=true→k∉e.nw (nx0+(i+j))∧k∉e.ids (nx0+(i+j)))→Fresh k (fo nx0 M E i s):=by
 induction E with
 |nil=>intro i s h _;exact h
 |cons x t ih =>
  obtain⟨o,e⟩:=x
  intro i s h ho
  have ht:∀j o2 e2,t[j]? = some (o2,e2)→M (i+1+j)=true→k∉e2.nw (nx0+(i+1+j))∧k∉e2.ids (nx0+(i+1+j)):=fun j o2 e2 hj hm=>by
   have:=ho (j+1) o2 e2 (by simpa using hj) (by rw[show i+(j+1)=i+1+j by omega];exact hm)
   rwa [show i+(j+1)=i+1+j by omega]at this
  simp only[fo]
  cases hm:M i with
  |true =>
   have h0:=ho 0 o e rfl (by simpa using hm)
   exact ih (h.apply h0.1 h0.2) ht
  |false=>exact ih h ht
theorem Ef.nw_nodup (k:Nat) (e:Ef):(e.nw k).Nodup:=by
 cases e with
 |new st hst ob=>simp[Ef.nw]
 |fx sets news rds st hst=>simp only[Ef.nw,zcg];exact znw _ _ _
 |_=>simp[Ef.nw]
theorem zpv (k:Nat) (dst:Option Nat) (e:Ef) (s:S):((e.apply k dst s).hp.map (·.1)).Sublist (e.nw k++s.hp.map (·.1)):=by
 cases e with
 |val v=>exact List.Sublist.refl _
 |set v id ob=>simp only[Ef.apply,Ef.nw,zcc,List.nil_append];exact List.Sublist.refl _
 |new st hst ob=>exact List.Sublist.refl _
 |app id z=>simp only[Ef.apply,Ef.nw,zcc,zif,List.nil_append];exact List.Sublist.refl _
 |fx sets news rds st hst=>simp only[Ef.apply,Ef.nw,List.map_append,zhm,zcg];exact List.Sublist.refl _
 |mv id z=>simp only[Ef.apply,Ef.nw,List.map_cons,List.singleton_append];exact((zjd _ _).map _).cons_cons _
 |mf id z=>simp only[Ef.apply,Ef.nw,List.nil_append];exact(zjd _ _).map _
 |tk ids v=>simp only[Ef.apply,Ef.nw,List.nil_append];exact(z99 _ _).map _
theorem z1a {nx0:Nat} {M:Nat→Bool} (E:List (Oper×Ef)):∀{i:Nat} {s:S},(s.hp.map (·.1)).Nodup→(∀(j:Nat) (o:Oper) (e:Ef),E[j]? = some (o,e)→∀x∈e.nw (nx0+(i+j)),x∉s.hp.map (·.1)) →
  (∀(j j':Nat) (o:Oper) (e:Ef) (o':Oper) (e':Ef),j<j'→E[j]? = some (o,e)→E[j']? = some (o',e')→∀x∈e.nw (nx0+(i+j)),x∉e'.nw (nx0+(i+j')))→((fo nx0 M E i s).hp.map (·.1)).Nodup:=by
 induction E with
 |nil=>intro i s h _ _;exact h
 |cons x t ih =>
  obtain⟨o,e⟩:=x
  intro i s h hb hp
  have eq1:∀j,i+(j+1)=i+1+j:=fun j=>by omega
  have hb':∀(j:Nat) (o':Oper) (e':Ef),t[j]? = some (o',e')→∀x∈e'.nw (nx0+(i+1+j)),x∉s.hp.map (·.1):=fun j o' e' hj x hx=>hb (j+1) o' e' (by simpa using hj) x (by rw[eq1];exact hx)
  have hp':∀(j j':Nat) (o:Oper) (e:Ef) (o':Oper) (e':Ef),j<j'→t[j]? = some (o,e)→t[j']? = some (o',e')→∀x∈e.nw (nx0+(i+1+j)),x∉e'.nw (nx0+(i+1+j')):=fun j j' o e o' e' hlt hj hj' x hx=>by
   rw[←eq1];exact hp (j+1) (j'+1) o e o' e' (by omega) (by simpa using hj) (by simpa using hj') x (by rw[eq1];exact hx)
  simp only[fo]
  cases hm:M i with
  |false=>exact ih h hb' hp'
  |true =>
   refine ih ?_ (fun j o' e' hj x hx hc=>?_) hp'
   ·refine List.Nodup.sublist (zpv _ _ _ _) (List.nodup_append.2 ?_)
    exact⟨Ef.nw_nodup _ _,h,fun x hx y hy c=>hb 0 o e rfl x hx (c▸hy)⟩
   ·rcases List.mem_append.1 ((zpv _ _ _ _).subset hc)with hc|hc
    ·exact hp 0 (j+1) o e o' e' (by omega) rfl (by simpa using hj) x hc (by rw[eq1];exact hx)
    ·exact hb' j o' e' hj x hx hc
end
end Go.VL
namespace Go.VL
set_option linter.unusedVariables false
set_option linter.unusedSimpArgs false
section
variable {P : Program} {T : TT} {X : Cx} {ops : Array Oper} {Q : Exit → Act → World → Prop}
theorem zf1 {a b:Rec} (h:zga false a b=true):zcm a.dst b.names=false∧zcm b.dst a.names=false∧zcm a.wr b.rd=false∧zcm b.wr a.rd=false∧zcm a.wr b.wr=false∧a.tot=false∧b.tot=false∧zcm a.nw b.mn=false∧zcm b.nw a.mn=false:=by
 simp only[zga,Bool.and_eq_true,Bool.not_eq_true']at h
 obtain⟨⟨⟨⟨⟨⟨⟨⟨⟨_,h1⟩,h2⟩,h3⟩,h4⟩,h5⟩,h6⟩,h7⟩,h8⟩,h9⟩:=h
 exact⟨h1,h2,h3,h4,h5,h6,h7,h8,h9⟩
theorem zj5 {anc:Bool} {a b:Rec} (h:zga anc a b=true):zcm b.nw a.mn=false∧zcm a.nw b.nw=false:=by
 cases anc with
 |false =>
  refine⟨(zf1 h).2.2.2.2.2.2.2.2,?_⟩
  simp only[zga,Bool.and_eq_true,Bool.not_eq_true']at h
  obtain⟨⟨⟨⟨⟨⟨⟨⟨⟨h0,h1⟩,h2⟩,h3⟩,h4⟩,h5⟩,h6⟩,h7⟩,h8⟩,h9⟩:=h
  exact h0
 |true =>
  simp only[zga]at h
  split at h
  ·rename_i h1 h2;exact⟨h1,h2⟩
  ·cases h
theorem zwh {l:List Operand} {t:Nat} (h:Operand.tmp t∈l):t∈zm9 l:=by
 induction l with
 |nil=>cases h
 |cons x r ih =>
  rcases List.mem_cons.1 h with h2|h2
  ·subst h2;exact List.mem_cons_self
  ·have h3:=ih h2
   clear h ih h2
   cases x<;>simp only[zm9]<;>first|exact List.mem_cons_of_mem _ h3|exact h3
theorem zpi {sets:List (Nat×O)}:∀{hp:List (Nat×O)} {i:Nat} {o:O},(i,o)∈zdv sets hp→(i,o)∈sets∨(i,o)∈hp:=by
 induction sets with
 |nil=>intro hp i o h;exact .inr h
 |cons q t ih =>
  obtain⟨k,ob⟩:=q
  intro hp i o h
  simp only[zdv]at h
  rcases ih h with h|h
  ·exact .inl (List.mem_cons_of_mem _ h)
  ·have:∀{hp:List (Nat×O)},(i,o)∈zac hp k ob→(i,o)=(k,ob)∨(i,o)∈hp:=by
    intro hp
    induction hp with
    |nil=>intro h;simp[zac]at h
    |cons q2 t2 ih2 =>
     obtain⟨k2,o2⟩:=q2
     intro h
     simp only[zac]at h
     split at h
     ·rename_i hk
      have hk:=Nat.eq_of_beq_eq_true hk
      rcases List.mem_cons.1 h with h|h
      ·rw[hk]at h;exact .inl h
      ·exact .inr (List.mem_cons_of_mem _ h)
     ·rcases List.mem_cons.1 h with h|h
      ·rw[h];exact .inr List.mem_cons_self
      ·rcases ih2 h with h|h
       ·exact .inl h
       ·exact .inr (List.mem_cons_of_mem _ h)
   rcases this h with h|h
   ·rw[h];exact .inl List.mem_cons_self
   ·exact .inr h
theorem Sat.ofBump {I:Nat→Prop} {g:Gam} {s:S} {a:Act} {w:World} {dst:Option Nat} {e:Ef} {k:Nat} (h:St X I g s a w) (hf:∀x∈e.nw k,x<s.nx∧Fresh x s∧¬X.K0 x)
  (hob:∀x∈e.obIds,x<s.nx∧x∉e.nw k) (hp:e.pu=true)
  {a':Act} {w':World} (h1:Sat X (e.bump dst s) a' w'):Sat X (e.apply k dst s) a' w':=by
 cases e with
 |new st hst ob =>
  obtain⟨hk,hfr,hK⟩:=hf k (by simp[Ef.nw])
  exact Sat.rename h hk hfr.key hfr.env (fun i o hm=>hfr.hp i o (zco h.heap.nodup hm)) (fun i hi=>⟨(hob i hi).1,fun c=>(hob i hi).2 (by simp[Ef.nw,c])⟩) hK h1
 |fx sets news rds st hst =>
  have hin:∀j,j<news.length→k+20*j∈(Ef.fx sets news rds st hst).nw k:=fun j hj=>by
   simp only[Ef.nw,zcg]
   exact zek.2 ⟨j,hj,by omega⟩
  refine Sat.renames (hp2:=zdv sets s.hp) h hst (zrp hp) (fun j hj=>?_) (fun i o hm=>?_) (by rw[zhm];exact h.heap.nodup) (fun i o hm q hq=>?_) h1
  ·obtain⟨a1,a2,a3⟩:=hf _ (hin j hj)
   refine⟨a1,a2.key,a2.env,fun i o hm=>?_,a3⟩
   rcases zpi hm with hm|hm
   ·exact fun hc=>(hob _ (Ef.setL_ids' hm hc)).2 (hin j hj)
   ·exact a2.hp i o (zco h.heap.nodup hm)
  ·have:i∈(zdv sets s.hp).map (·.1):=List.mem_map.2 ⟨_,hm,rfl⟩
   rw[zhm]at this
   obtain⟨⟨i',o'⟩,h3,rfl⟩:=List.mem_map.1 this
   exact⟨o',h3⟩
  ·rcases zpi hm with hm|hm
   ·exact(hob _ (Ef.setL_ids' hm hq)).1
   ·exact(h.heap.obj _ _ hm).2.ids_lt _ hq
 |mv id z =>
  obtain⟨hk,hfr,hK⟩:=hf k (by simp[Ef.nw])
  exact Sat.renames (st:=.slc 0) (news:=[.arr z]) (hp2:=zbx s.hp id) h rfl (fun j ob hj=>by
   cases j with
   |zero=>cases hj;exact⟨rfl,fun _=>rfl⟩
   |succ j=>simp at hj)
   (fun j hj=>by
    have:j=0:=by simpa using hj
    subst this
    exact⟨hk,hfr.key,hfr.env,fun i o hm=>hfr.hp i o (zco h.heap.nodup (zee hm).1),hK⟩)
   (fun i o hm=>⟨o,(zee hm).1⟩) (h.heap.nodup.sublist ((zjd _ _).map _)) (fun i o hm q hq=>(h.heap.obj _ _ (zee hm).1).2.ids_lt q hq) h1
 |_=>exact h1
theorem Ef.nw_ge {k:Nat} {e:Ef} {x:Nat} (h:x∈e.nw k):k≤x:=by
 cases e with
 |new st hst ob=>simp only[Ef.nw,List.mem_singleton]at h;omega
 |fx sets news rds st hst =>
  simp only[Ef.nw,zcg]at h
  obtain⟨j,_,h2⟩:=zek.1 h
  omega
 |mv id z=>simp only[Ef.nw,List.mem_singleton]at h;omega
 |_=>simp[Ef.nw]at h
structure Region' (T:TT) (P:Program) (X:Cx) (ops:Array Oper) (nx0:Nat) (E:List (Oper×Ef)) (s0:S):Prop where
 hE0:E.map (·.1)=ops.toList
 hst:znc T P ops.toList nx0 E 0 s0
 hedge:zja ops.toList 0=true
 hdst:zkt s0.nt ops.toList=true
 hlen:ops.toList.length≤100
 hpair:zk7 (nx0+100) (zd4 ops.toList []) (zm0 ops.toList nx0 E 0 s0) 0 []=true
 hnx:s0.nx=nx0+100
 hfresh:∀k,Fresh (nx0+k) s0
 hkeys:∀k∈s0.hp.map (·.1),k<nx0+0
 hnd:(s0.hp.map (·.1)).Nodup
 hK:∀id,X.K0 id→id<nx0
theorem z1n {nx0:Nat} {M:Nat→Bool} (E:List (Oper×Ef)):∀{i:Nat} {s:S},(fo nx0 M E i s).nt=s.nt∧(fo nx0 M E i s).nx=s.nx:=by
 induction E with
 |nil=>intro i s;exact⟨rfl,rfl⟩
 |cons x t ih =>
  obtain⟨o,e⟩:=x
  intro i s
  simp only[fo]
  cases M i with
  |true=>exact⟨(ih (i:=i+1) (s:=e.apply (nx0+i) o.dst s)).1.trans (zck _ _ _ _).1,(ih (i:=i+1) (s:=e.apply (nx0+i) o.dst s)).2.trans (zck _ _ _ _).2⟩
  |false=>exact ih
theorem zut (hT:TOk P T) (hE:EOk P T) {nx0:Nat} {E:List (Oper×Ef)} {s0:S} (R:Region' T P X ops nx0 E s0) {M M':Nat→Bool} {i:Nat} {o:Oper} (hM:zp4 ops.toList M) (hi:M i=false)
  (ho:ops.toList[i]? = some o) (hed:∀e∈o.after.toList,Region.binds .any e=true→M e.on=true) (hi':M' i=true) (hother:∀j,j≠i→M' j=M j) {a:Act} {w:World}
  (h:Sat X (fo nx0 M E 0 s0) a w) {KN:Act→World→Prop} (hN:∀a' w',Sat X (fo nx0 M' E 0 s0) a' w'→KN a' w'):wpOp P ops Q i KN a w:=by
 obtain⟨I,g,h⟩:=h
 have hlenE:E.length=ops.toList.length:=by rw[←R.hE0,List.length_map]
 obtain⟨e,hEi⟩:∃e,E[i]? = some (o,e):=by
  have:=R.hE0▸ho
  rw[List.getElem?_map]at this
  cases hq:E[i]? with
  |none=>rw[hq]at this;cases this
  |some x=>obtain⟨o',e⟩:=x;rw[hq]at this;cases this;exact⟨e,rfl⟩
 have hopsE:∀{j o' e'},E[j]? = some (o',e')→ops.toList[j]? = some o':=fun hj=>by rw[←R.hE0,List.getElem?_map,hj];rfl
 have hin:i<100:=Nat.lt_of_lt_of_le (List.getElem?_eq_some_iff.1 ho).1 R.hlen
 obtain⟨hstep,hrec⟩:=zib E R.hst hEi
 obtain⟨hown,_,_⟩:=zh9 _ R.hpair i _ hrec
 simp only[Nat.zero_add]at hstep hrec hown
 have anc1:∀j,M j=false→((zd4 ops.toList []).getD i 0).testBit j=false:=fun j hj=>by
  cases hb:((zd4 ops.toList []).getD i 0).testBit j with
  |false=>rfl
  |true=>have:=zn6 R.hedge hM i o j ho hed hb;rw[hj]at this;cases this
 have anc2:∀j o',ops.toList[j]? = some o'→M j=true→((zd4 ops.toList []).getD j 0).testBit i=false:=fun j o' hj hmj=>by
  cases hb:((zd4 ops.toList []).getD j 0).testBit i with
  |false=>rfl
  |true=>have:=zn6 R.hedge hM j o' i hj (hM j o' hmj hj) hb;rw[hi]at this;cases this
 have before:∀j o' e',j<i→E[j]? = some (o',e')→zga (((zd4 ops.toList []).getD i 0).testBit j) (zda ops.toList (nx0+j) o' (evl (fo nx0 (fun k=>decide (k<j)) E 0 s0).env) e') (zda ops.toList (nx0+i) o (evl (fo nx0 (fun k=>decide (k<i)) E 0 s0).env) e)=true:=fun j o' e' hlt hj=>by
  obtain⟨_,hr⟩:=zib E R.hst hj
  have:=(zh9 _ R.hpair i _ hrec).2.2 j _ hlt hr
  simpa only[Nat.zero_add]using this
 have behind:∀j o' e',i<j→E[j]? = some (o',e')→zga (((zd4 ops.toList []).getD j 0).testBit i) (zda ops.toList (nx0+i) o (evl (fo nx0 (fun k=>decide (k<i)) E 0 s0).env) e) (zda ops.toList (nx0+j) o' (evl (fo nx0 (fun k=>decide (k<j)) E 0 s0).env) e')=true:=fun j o' e' hlt hj=>by
  obtain⟨_,hr⟩:=zib E R.hst hj
  have:=(zh9 _ R.hpair j _ hr).2.2 i _ hlt hrec
  simpa only[Nat.zero_add]using this
 generalize hSi:fo nx0 (fun k=>decide (k<i)) E 0 s0=Si at hstep hrec hown before behind
 generalize hri:zda ops.toList (nx0+i) o (evl Si.env) e=ri at hrec hown before behind
 have hrd:ri.rd=e.rds++rdOf o (evl Si.env):=by rw[←hri];rfl
 have hagree:zfo ri.names ri.rd Si (fo nx0 M E 0 s0):=by
  rw[←hSi]
  refine z0d E ⟨fun _ _=>rfl,fun _ _=>rfl⟩ fun j o' e' hj hne=>?_
  simp only[Nat.zero_add]at hne⊢
  have hrdmn:∀x∈ri.rd,x∈ri.mn:=fun x hx=>by
   rw[←hri]at hx⊢
   simp only[zda]at hx⊢
   rcases List.mem_append.1 hx with hx|hx
   ·exact List.mem_append_left _ (List.mem_append_right _ (Ef.rds_ids hx))
   ·split at hx
    ·cases hx
    ·exact List.mem_append_right _ hx
  rcases Nat.lt_trichotomy j i with c|c|c
  ·have hmj:M j=false:=by
    cases hm:M j with
    |false=>rfl
    |true=>rw[hm]at hne;exact absurd (by simpa using c) hne
   have hp:=before j o' e' c hj
   rw[anc1 j hmj]at hp
   obtain⟨h1,h2,h3,h4,h5,h6,h7,h8,h9⟩:=zf1 hp
   refine⟨fun d hd hc=>za4 h1 d (by simp[zda,hc]) hd,h6,fun x hx=>za4 h3 x hx,fun x hx hc=>za4 h8 x hx (hrdmn x hc)⟩
  ·subst c;rw[hi]at hne;exact absurd (by simp) hne
  ·have hmj:M j=true:=by
    cases hm:M j with
    |true=>rfl
    |false=>rw[hm]at hne;exact absurd (by simpa using Nat.le_of_lt c) hne
   have hp:=behind j o' e' c hj
   rw[anc2 j o' (hopsE hj) hmj]at hp
   obtain⟨h1,h2,h3,h4,h5,h6,h7,h8,h9⟩:=zf1 hp
   refine⟨fun d hd hc=>za4 h2 d (by simp[zda,hc]) hd,h7,fun x hx=>za4 h4 x hx,fun x hx hc=>za4 h9 x hx (hrdmn x hc)⟩
 have hsame:Same o (evl Si.env) (evl (fo nx0 M E 0 s0).env) (zq Si.hp) (zq (fo nx0 M E 0 s0).hp):=by
  refine⟨fun x hx=>?_,fun j hj=>(hagree.2 j (by rw[hrd];exact List.mem_append_right _ hj)).symm⟩
  cases x with
  |tmp t =>
   refine(hagree.1 t ?_).symm
   rw[←hri]
   simp only[zda]
   exact List.mem_append_left _ (List.mem_append_right _ (zwh (by simpa using hx)))
  |_=>rfl
 have hrds:∀j∈e.rds,zq (fo nx0 M E 0 s0).hp j=zq Si.hp j:=fun j hj=>(hagree.2 j (by rw[hrd];exact List.mem_append_left _ hj)).symm
 have hnwri:ri.nw=e.nw (nx0+i):=by rw[←hri];rfl
 have hfr:∀x∈e.nw (nx0+i),Fresh x (fo nx0 M E 0 s0):=fun x hx=>by
  have hge:=Ef.nw_ge hx
  have hx':x∈ri.nw:=by rw[hnwri];exact hx
  have h00:=R.hfresh (x-nx0)
  rw[show nx0+(x-nx0)=x by omega]at h00
  refine z1g E h00 fun j o' e' hj hmj=>?_
  simp only[Nat.zero_add]at hmj⊢
  have hne:j≠i:=fun c=>by rw[c,hi]at hmj;cases hmj
  rcases Nat.lt_or_gt_of_ne hne with c2|c2
  ·obtain⟨q1,q2⟩:=zj5 (before j o' e' c2 hj)
   exact⟨fun c=>za4 q2 x c hx',fun c=>za4 q1 _ hx' (List.mem_append_left _ c)⟩
  ·have hp:=behind j o' e' c2 hj
   have q2:=(zj5 hp).2
   rw[anc2 j o' (hopsE hj) hmj]at hp
   exact⟨fun c=>za4 q2 x hx' c,fun c=>za4 (zf1 hp).2.2.2.2.2.2.2.1 _ hx' (List.mem_append_left _ c)⟩
 have hownf:ri.pu=true∧(∀x∈ri.mn,x<nx0+100)∧(∀x∈ri.nw,x<nx0+100)∧∀x∈ri.nw,x∉ri.mn:=by
  unfold Rec.own at hown
  split at hown
  ·rename_i h0
   split at hown
   ·rename_i h1 h1'
    split at hown
    ·cases hown
    ·rename_i h2;exact⟨h0,zrl h1,zrl h1',za4 h2⟩
   ·cases hown
  ·cases hown
 have hSnx:(fo nx0 M E 0 s0).nx=nx0+100:=(z1n E).2.trans R.hnx
 have hSnt:(fo nx0 M E 0 s0).nt=s0.nt:=(z1n E).1
 have hfin:∀a' w',Sat X (e.apply (nx0+i) o.dst (fo nx0 M E 0 s0)) a' w'→KN a' w':=fun a' w' hs=>by
  refine hN a' w' (hs.eqv ?_)
  have h0:=zz4 (nx0:=nx0) (k:=i) (M:=M) (M':=M') E (i:=0) (s:=s0) hEi (by simpa using hi) (by simpa using hi') (by simpa using hother) fun j o' e' hlt hj hmj=>by
   simp only[Nat.zero_add]at hmj⊢
   have hp:=behind j o' e' hlt hj
   rw[anc2 j o' (hopsE hj) hmj]at hp
   obtain⟨h1,h2,h3,h4,h5,h6,h7,h8,h9⟩:=zf1 hp
   rw[←hri]at h1 h2 h3 h4 h5 h6 h8 h9
   have q2:=(zj5 (behind j o' e' hlt hj)).2
   rw[←hri]at q2
   exact⟨fun d hd hd'=>za4 h1 d (by simp[zda,hd]) (by simp[zda,hd']),h6,h7,za4 h5,fun x hx=>⟨fun hc=>za4 h8 x hx (List.mem_append_left _ (List.mem_append_right _ (Ef.wr_ids hc))),fun hc=>za4 q2 x hx hc⟩,fun x hx hc=>za4 h9 x hx (List.mem_append_left _ (List.mem_append_right _ (Ef.wr_ids hc)))⟩
  simp only[Nat.zero_add]at h0
  refine⟨h0.nt,h0.nx,h0.env,h0.hp,z1a E R.hnd (fun j o' e' hj x hx hc=>?_) fun j j' o1 e1 o2 e2 hlt hj hj' x hx hc=>?_⟩
  ·have:=R.hkeys x hc
   have:=Ef.nw_ge hx
   omega
  ·obtain⟨_,hr1⟩:=zib E R.hst hj
   obtain⟨_,hr2⟩:=zib E R.hst hj'
   exact za4 (zj5 ((zh9 _ R.hpair j' _ hr2).2.2 j _ hlt hr1)).2 x hx hc
 have hdd:∀d,o.dst=some d→d<(fo nx0 M E 0 s0).nt:=fun d hd=>by rw[hSnt];exact zwp _ R.hdst o (List.mem_of_getElem? ho) d hd
 have hoArr:ops[i]? = some o:=by rw[←Array.getElem?_toList];exact ho
 have run:Region.wanted o (yielded ops a.tmps)=true→zst T P o Si e→wpOp P ops Q i KN a w:=fun hw hr=>by
  unfold wpOp
  simp only[hoArr,hw,if_true]
  obtain⟨e',he',hdoes⟩:=z01 hT hE h hdd (hr _ _ (fun e'=>e'=e) hsame hrds rfl)
  subst he'
  refine .inl (hdoes KN Q fun a' w' hs=>hfin a' w' (Sat.ofBump h (fun x hx=>⟨?_,hfr x hx,fun hk=>?_⟩) (fun x hx=>?_) ?_ hs))
  ·rw[hSnx];exact hownf.2.2.1 x (by rw[hnwri];exact hx)
  ·have:=R.hK _ hk;have:=Ef.nw_ge hx;omega
  ·have hmn:x∈ri.mn:=by rw[←hri];exact List.mem_append_left _ (List.mem_append_right _ hx)
   rw[hSnx]
   exact⟨hownf.2.1 x hmn,fun c=>hownf.2.2.2 x (by rw[hnwri];exact c) hmn⟩
  ·have:=hownf.1;rw[←hri]at this;exact this
 have skip:Region.wanted o (yielded ops a.tmps)=false→e=.val (.tup [])→wpOp P ops Q i KN a w:=fun hw he=>by
  unfold wpOp
  simp only[hoArr,hw,Bool.false_eq_true,if_false]
  exact zzg h hdd fun a' w' hs=>hfin a' w' (by rw[he];exact hs)
 unfold zkf at hstep
 split at hstep
 ·rename_i hg;exact run (by simp[Region.wanted,hg]) hstep
 ·rename_i j want hg
  obtain⟨d,hs,hcases⟩:=hstep
  have hw:∀y,yielded ops a.tmps j=y→Region.wanted o (yielded ops a.tmps)=(y==some want):=fun y hy=>by simp[Region.wanted,hg,hy]
  have hd:=h.slots d
  have hnames:d∈ri.names:=by
   rw[←hri];simp only[zda]
   refine List.mem_append_right _ ?_
   simp only[zrr,hg,hs,List.mem_singleton]
  rw[←hagree.1 d hnames]at hd
  rcases hcases with ⟨he,hc⟩|⟨he,hc⟩|⟨⟨vs,he⟩,hc⟩
  ·rw[he]at hd
   have hy:=zhl hs hd.tt_inv
   cases want with
   |true=>exact run (by rw[hw _ hy];rfl) hc
   |false=>exact skip (by rw[hw _ hy];rfl) hc
  ·rw[he]at hd
   have hy:=zhl hs hd.ff_inv
   cases want with
   |true=>exact skip (by rw[hw _ hy];rfl) hc
   |false=>exact run (by rw[hw _ hy];rfl) hc
  ·rw[he]at hd
   obtain⟨us,hv,_⟩:=hd.tup_inv
   have hy:=zmo hs hv
   exact skip (by rw[hw _ hy];simp) hc
def Mof (listed:Array Bool):Nat→Bool:=fun j=>listed.getD j false
theorem z1z {listed:Array Bool} {i:Nat} (hi:i<listed.size):Mof (listed.setIfInBounds i true) i=true∧∀j,j≠i→Mof (listed.setIfInBounds i true) j=Mof listed j:=by
 refine⟨?_,fun j hj=>?_⟩
 ·simp[Mof,hi]
 ·exact getD_set_ne false (Ne.symm hj)
theorem zz8 {p p':Nat→Bool} {i:Nat} (l:List Nat) (hle:∀j,p' j=true→p j=true) (hi:i∈l) (h1:p i=true) (h2:p' i=false):l.countP p'<l.countP p:=by
 induction l with
 |nil=>cases hi
 |cons x t ih =>
  rw[List.countP_cons,List.countP_cons]
  have hmono:t.countP p'≤t.countP p:=List.countP_mono_left fun j _ hj=>hle j hj
  rcases List.mem_cons.1 hi with hi|hi
  ·subst hi;simp only[h1,h2,if_true,Bool.false_eq_true,if_false];omega
  ·have:=ih hi
   cases hx:p' x with
   |true=>rw[hle x hx];simp only[if_true];omega
   |false=>simp only[Bool.false_eq_true,if_false];omega
theorem zw0 (hT:TOk P T) (hE:EOk P T) {nx0:Nat} {E:List (Oper×Ef)} {s0:S} (R:Region' T P X ops nx0 E s0) (hQ:∀a w,Sat X (fo nx0 (fun _=>true) E 0 s0) a w→Q .normal a w) :
  ∀(fuel:Nat) (listed:Array Bool) (a:Act) (w:World),listed.size=ops.size→zp4 ops.toList (Mof listed)→Sat X (fo nx0 (Mof listed) E 0 s0) a w →
   (List.range ops.size).countP (fun j=>!Mof listed j)≤fuel→wpAny P .any ops Q fuel listed a w:=by
 have hlenE:E.length=ops.size:=by have:=congrArg List.length R.hE0;simpa using this
 have hdone:∀(listed:Array Bool) (a:Act) (w:World),listed.size=ops.size→zp4 ops.toList (Mof listed)→Sat X (fo nx0 (Mof listed) E 0 s0) a w→Region.ready .any ops listed=[]→Q .normal a w:=by
  intro listed a w hsz hc hs hr
  have hall:∀j,j<ops.size→Mof listed j=true:=by
   intro j
   induction j using Nat.strongRecOn with
   |_ j ih =>
    intro hj
    cases hm:Mof listed j with
    |true=>rfl
    |false =>
     have:j∈Region.ready .any ops listed:=mem_ready.2 ⟨by
      have:listed.getD j true=listed.getD j false:=by simp[hsz,hj]
      rw[this];exact hm,ops[j],by simp[hj],fun e he hb=>by
       have hlt:=zn2 ops.toList R.hedge j ops[j] (by simp[hj]) e (by simpa using he) hb
       exact ih e.on (by omega) (by omega)⟩
     rw[hr]at this;cases this
  refine hQ a w ?_
  rw[zof (M':=Mof listed) E fun j _ hj=>(hall j (by omega)).symm]
  exact hs
 intro fuel
 induction fuel with
 |zero =>
  intro listed a w hsz hc hs hcount
  have hr:Region.ready .any ops listed=[]:=by
   cases hq:Region.ready .any ops listed with
   |nil=>rfl
   |cons i t =>
    have hi:i∈Region.ready .any ops listed:=by rw[hq];exact List.mem_cons_self
    obtain⟨h1,o,ho,_⟩:=mem_ready.1 hi
    have hlt:=(Array.getElem?_eq_some_iff.1 ho).1
    have hm:Mof listed i=false:=by
     have:listed.getD i true=listed.getD i false:=by simp[hsz,hlt]
     rw[this]at h1;exact h1
    have h0:(List.range ops.size).countP (fun j=>!Mof listed j)=0:=by omega
    rw[List.countP_eq_zero]at h0
    have:=h0 i (List.mem_range.2 hlt)
    rw[hm]at this;exact absurd rfl this
  exact⟨hr,hdone listed a w hsz hc hs hr⟩
 |succ fuel ih =>
  intro listed a w hsz hc hs hcount
  refine⟨hdone listed a w hsz hc hs,fun i hi=>?_⟩
  obtain⟨h1,o,ho,hed⟩:=mem_ready.1 hi
  have hlt:=(Array.getElem?_eq_some_iff.1 ho).1
  have hm:Mof listed i=false:=by
   have:listed.getD i true=listed.getD i false:=by simp[hsz,hlt]
   rw[this]at h1;exact h1
  obtain⟨m1,m2⟩:=z1z (listed:=listed) (i:=i) (by rw[hsz];exact hlt)
  refine zut hT hE R hc hm (by rw[Array.getElem?_toList];exact ho) (fun e he hb=>hed e (by simpa using he) hb) m1 m2 hs fun a' w' hs'=>ih _ a' w' (by simp[hsz]) ?_ hs' ?_
  ·intro k o' hk ho' e he hb
   by_cases c:k=i
   ·subst c
    rw[Array.getElem?_toList,ho]at ho'
    cases ho'
    exact getD_set_true (hed e (by simpa using he) hb)
   ·rw[m2 k c]at hk
    exact getD_set_true (hc k o' hk ho' e he hb)
  ·have:=zz8 (p:=fun j=>!Mof listed j) (p':=fun j=>!Mof (listed.setIfInBounds i true) j) (i:=i) (List.range ops.size) (fun j hj=>by
    by_cases c:j=i
    ·subst c;rw[m1]at hj;cases hj
    ·rw[m2 j c]at hj;exact hj) (List.mem_range.2 hlt) (by rw[hm];rfl) (by rw[m1];rfl)
   omega
theorem St.raise {I:Nat→Prop} {g:Gam} {s:S} {a:Act} {w:World} (h:St X I g s a w) (n:Nat) (hn:s.nx≤n):St X I g ⟨s.nt,n,s.env,s.hp⟩ a w :=
 ⟨h.df,h.sz,fun j=>(h.slots j).mono (fun _ h=>h) (fun _ _=>rfl) hn fun _ _=>rfl,h.heap.mono (fun _ h=>h) (fun _ h=>.inl h) (fun _ _=>rfl) hn (fun _ _=>rfl) (Nat.le_refl _),h.bound,h.up,h.down,h.own,h.keep,h.fr,
  fun id hid=>Nat.lt_of_lt_of_le (h.low id hid) hn⟩
theorem zv0 (hT:TOk P T) (hE:EOk P T) (hm:P.follows .mixedOrders=true):zna P T:=by
 intro X id ops s a w K Q ⟨I,g,h⟩ hk hQ
 obtain⟨nt,nx,env,hp⟩:=s
 simp only[zse]at hk
 obtain⟨E,hE0,hst,hk⟩:=z2l ops.toList hk
 obtain⟨hok,hk⟩:=zv hk
 simp only[zyr,Bool.and_eq_true,List.nil_append]at hok
 obtain⟨⟨⟨o1,o2⟩,o3⟩,o4⟩:=hok
 have R:Region' T P X ops nx E ⟨nt,nx+100,env,hp⟩:=⟨hE0,hst,o1,o2,Nat.le_of_ble_eq_true o3,o4,rfl,fun k=>⟨fun j hj=>by have:=(h.slots j).ids_lt _ hj;simp only at this;omega,
  by
   cases hq:zq hp (nx+k)with
   |none=>rfl
   |some o=>have:=(h.heap.obj _ _ (zt hq)).1;simp only at this;omega,
  fun i o hi hj=>by have:=(h.heap.obj _ _ (zt hi)).2.ids_lt _ hj;simp only at this;omega⟩,
  fun k hk=>by
   obtain⟨⟨i,o⟩,h1,h2⟩:=List.mem_map.1 hk
   have:=(h.heap.obj _ _ h1).1
   simp only at this h2
   omega,h.heap.nodup,h.low⟩
 refine wp_region_any hm (zw0 hT hE R (fun a w hs=>hQ _ a w hs hk) ops.size (Array.replicate ops.size false) a _ (by simp) ?_ ?_ ?_)
 ·intro k o hk ho
  simp[Mof,Array.getD_eq_getD_getElem?,Array.getElem?_replicate]at hk
  split at hk<;>cases hk
 ·rw[zv6 E fun j _=>by
   simp[Mof,Array.getD_eq_getD_getElem?,Array.getElem?_replicate]
   split<;>rfl]
  exact⟨I,g,(h.raise (nx+100) (by simp)).world rfl rfl rfl (Nat.le_refl _) fun _ _=>rfl⟩
 ·exact Nat.le_trans List.countP_le_length (by simp)
end
end Go.VL
namespace Go.VL
set_option linter.unusedVariables false
set_option linter.unusedSimpArgs false
theorem zxi {P:Program} {T:TT} (hT:TOk P T) (hE:EOk P T) (hm:P.follows .mixedOrders=true) {f n m:Nat} {fn:Func} {args:List V} {hin hout:List (Nat×O)} {res:V} (c:Code)
  (hf : P.funcs[f]? = some fn) (hname : (fn.name == "runtime.NumGoroutine") = false) (hb : fn.body = some c) (hnt : Nat.ble args.length fn.ntmps = true) (hst : za3 hin hout = true)
  (h:zwv T P fn c n args hin m res hout):zr P f n args hin m res hout:=zr6 hT hE (zv0 hT hE hm) hf hname hb hnt hst h
theorem zvb {P:Program} {T:TT} (hT:TOk P T) (hE:EOk P T) (hm:P.follows .mixedOrders=true) {f n:Nat} {fn:Func} {args:List V} {hin:List (Nat×O)} {R:Nat→V→List (Nat×O)→Prop} (c:Code)
  (hf : P.funcs[f]? = some fn) (hname : (fn.name == "runtime.NumGoroutine") = false) (hb : fn.body = some c) (hnt : Nat.ble args.length fn.ntmps = true)
  (h:zti T P fn c n args hin R):zce P f n args hin R:=zp9 hT hE (zv0 hT hE hm) hf hname hb hnt h
theorem za {c K:Prop} (h:c) (k:K):vneed c K:=by unfold vneed;exact⟨h,k⟩
theorem zk {p:Bool} {A B:Prop} (h:p=true→A) (k:p=false→B):vif p A B:=by unfold vif;exact⟨h,k⟩
theorem zn {p:Bool} {A B:Prop} (h:p=true) (k:A):vif p A B:=zk (fun _=>k) fun c=>by rw[h]at c;cases c
theorem zm {p:Bool} {A B:Prop} (h:p=false) (k:B):vif p A B:=zk (fun c=>by rw[h]at c;cases c) fun _=>k
theorem zzv {k:IntKind} {r:Int} {K:V→Prop} (h:k.wrap r=r) (hk:K (.c (.int k r))):vint k r K:=by unfold vint;exact .inl ⟨h,hk⟩
theorem ze9 {n0:Nat} {s:S} {K:S→Prop} (l:List Gh) (h:vgh n0 l s K):vpreI n0 s K:=by unfold vpreI;exact⟨l,h⟩
theorem ze {n0:Nat} {s:S} {K:S→Prop} (h:K s):vpreI n0 s K:=ze9 [] h
theorem zo {A B:Prop} (h:A):vch A B:=by unfold vch;exact .inl h
theorem zlj {A B:Prop} (h:B):vch A B:=by unfold vch;exact .inr h
theorem zi8 {n0:Nat} {body:(Exit→S→Prop)→S→Prop} {Q:Exit→S→Prop} {s:S} (ι:Type) (st:ι→S) (μ:ι→Nat) (i0:ι) (hn:∀i,n0≤(st i).nx) (h0:Ent n0 s (st i0))
  (h:∀i,body (fun e s'=>match e with
   |.normal=>∃i',Ent n0 s' (st i')∧μ i'<μ i
   |e=>Q e s') (st i)):vloop n0 body Q s:=by unfold vloop;exact⟨ι,st,μ,i0,hn,h0,h⟩
theorem ent_0 {n0:Nat} {s s':S} (h1:zmj (rnf []) s.env s'.env) (h2:s.nt=s'.nt) (h3:Nat.ble s'.nx 0=true) (h4:zhq s'.nx s'.env=true) (h5:s'.hp=[]):Ent n0 s s':=by
 unfold Ent;exact⟨[],[],[],h1,by rw[h5];trivial,h2,rfl,h3,h4,by rw[h5];rfl,by rw[h5];rfl,by rw[h5];rfl⟩
theorem zsg {n0:Nat} {s s':S} (l:List Gh) (fz bk:List Nat) (h:vgh n0 l s fun s=>vfz fz s [] fun s _ =>
  zmj (rnf bk) s.env s'.env∧zkc (rnf bk) (zg9 s.hp) s'.hp ∧
  (s.nt=s'.nt∧zav bk=true∧Nat.ble s'.nx bk.length=true∧zhq s'.nx s'.env=true∧zba s'.nx s'.hp=true∧zav (zbl s'.hp)=true∧ze8 n0 (rnf bk) s'.hp=true)):Ent n0 s s':=by
 unfold Ent;exact⟨l,fz,bk,h⟩
theorem zbd {n0:Nat} {s s':S} (fz bk:List Nat) (h:vfz fz s [] fun s _ =>
  zmj (rnf bk) s.env s'.env∧zkc (rnf bk) (zg9 s.hp) s'.hp ∧
  (s.nt=s'.nt∧zav bk=true∧Nat.ble s'.nx bk.length=true∧zhq s'.nx s'.env=true∧zba s'.nx s'.hp=true∧zav (zbl s'.hp)=true∧ze8 n0 (rnf bk) s'.hp=true)):Ent n0 s s':=zsg [] fz bk h
theorem zpf {n0 m:Nat} {res:V} {s:S} {v:V} (h:v.nrm=(res.ren (rnf [])).nrm) (hm:m=0) (hr:res.idsLt 0=true)   : vend n0 m res [] s v:=by
 subst hm;unfold vend;exact⟨[],[],h,trivial,rfl,rfl,hr,rfl,rfl,rfl⟩
theorem zbg {n0 m:Nat} {res:V} {hout:List (Nat×O)} {s:S} {v:V} (fz bk:List Nat) (h:vfz fz s [v] fun s vs =>
  (match vs with | [v]=>v.nrm=(res.ren (rnf bk)).nrm|_=>False)∧zkc (rnf bk) (zg9 s.hp) hout ∧
  (zav bk=true∧Nat.beq m bk.length=true∧res.idsLt m=true∧zba m hout=true∧zav (zbl hout)=true∧ze8 n0 (rnf bk) hout=true)):vend n0 m res hout s v:=by
 unfold vend;exact⟨fz,bk,h⟩
theorem zbo {P:Program} {f:Nat} {args args':List V} {s:S} {dst:Option Nat} {K:S→Prop} {res:V} (hs:zr P f 0 args' [] 0 res []) (ha:zbv (zq s.hp) args=args') (hr:res.scalar=true) (hi:zz 0 args'=true)
  (h:S.put s dst res K):vcall P f args s dst K:=by subst ha;unfold vcall;exact .inl ⟨res,hr,hi,hs,h⟩
theorem zal {P:Program} {f:Nat} {args:List V} {s:S} {dst:Option Nat} {K:S→Prop} (fz rn:List Nat) {n:Nat} {fargs:List V} {hin:List (Nat×O)} {m:Nat} {res:V} {hout:List (Nat×O)}
  (hs:zr P f n fargs hin m res hout) (h:vfz fz s args fun s args =>
   zag (rnf rn) fargs=args∧zz n fargs=true∧zba n hin=true∧zhj (rnf rn) s.hp hin ∧
   (zav rn=true∧Nat.ble n rn.length=true∧Nat.ble m rn.length=true∧zd5 (rnf rn) s.nx (zbl hin) m=true∧za3 hin hout=true∧zav (zbl hin)=true) ∧
   S.force {zax (rnf rn) hout hin s with
    nx:=Nat.max s.nx (zcq rn)
    hp:=zbm (rnf rn) hout++zdm (rnf rn) hin (zax (rnf rn) hout hin s).hp} fun s=>S.put s dst (res.ren (rnf rn)) K):vcall P f args s dst K:=by
 unfold vcall;exact .inr (.inr (.inl ⟨fz,rn,n,fargs,hin,m,res,hout,hs,h⟩))
theorem zbw {P:Program} {f:Nat} {args:List V} {s:S} {dst:Option Nat} {K:S→Prop} (fz rn:List Nat) {n:Nat} {fargs:List V} {hin:List (Nat×O)} {R:Nat→V→List (Nat×O)→Prop}
  (hs:zce P f n fargs hin R) (h:vfz fz s args fun s args =>
   zag (rnf rn) fargs=args∧zz n fargs=true∧zba n hin=true∧zhj (rnf rn) s.hp hin ∧
   (zav rn=true∧Nat.ble n rn.length=true∧zav (zbl hin)=true) ∧
   ∀m res hout,R m res hout →
    (Nat.ble m rn.length=true∧zd5 (rnf rn) s.nx (zbl hin) m=true∧za3 hin hout=true) ∧
    S.force {zax (rnf rn) hout hin s with
     nx:=Nat.max s.nx (zcq rn)
     hp:=zbm (rnf rn) hout++zdm (rnf rn) hin (zax (rnf rn) hout hin s).hp} fun s=>S.put s dst (res.ren (rnf rn)) K):vcall P f args s dst K:=by
 unfold vcall;exact .inr (.inr (.inr (.inr ⟨fz,rn,n,fargs,hin,R,hs,h⟩)))
theorem za1 {n0:Nat} {hin:List (Nat×O)} {R:Nat→V→List (Nat×O)→Prop} {s:S} {v:V} (m:Nat) (res:V) (hout:List (Nat×O)) (hR:R m res hout) (hb:za3 hin hout=true) (h:vend n0 m res hout s v):vendX n0 hin R s v:=by
 unfold vendX;exact⟨m,res,hout,hR,hb,h⟩
theorem zbe {P:Program} {f m:Nat} {args args':List V} {nt nx:Nat} {env:List (Nat×V)} {hp:List (Nat×O)} {dst:Option Nat} {K:S→Prop} {hout:List (Nat×O)} {st:V} (hs:zr P f 0 args' [] m st hout) (ha:zbv (zq hp) args=args')
  (ho:zfn (zq hp) args hout=true) (hf:st.flat1=true) (hi:zz 0 args'=true)
  (h:S.put ⟨nt,nx+m,env,zbm (fun i=>nx+i) hout++hp⟩ dst (st.ren fun i=>nx+i) K):vcall P f args ⟨nt,nx,env,hp⟩ dst K:=by
 subst ha;unfold vcall;exact .inr (.inl ⟨m,st,hout,ho,hf,hi,hs,by rw[S.force_eq];exact h⟩)
theorem z8 {P:Program} {f:Nat} {args:List V} {nt nx:Nat} {env:List (Nat×V)} {hp:List (Nat×O)} {dst:Option Nat} {K:S→Prop} {z:C} {st:V} (hs:zr P f 0 args [] 1 st [(0,.arr z)]) (hi:zz 0 args=true)
  (h:S.put ⟨nt,nx+1,env,(nx,.arr z)::hp⟩ dst (st.ren (rnf [nx])) K):vcall P f args ⟨nt,nx,env,hp⟩ dst K:=by
 have hb:Nat.ble nx nx=true:=by rw[Nat.ble_eq];exact Nat.le_refl _
 refine zal [] [nx] hs ⟨zeu hi,hi,rfl,trivial,⟨rfl,rfl,rfl,by show(match Nat.ble nx nx with|true=>true|false=>false)=true;rw[hb],rfl,rfl⟩,?_⟩
 rw[S.force_eq]
 have hm:Nat.max nx (zcq [nx])=nx+1:=Nat.max_eq_right (by show nx≤Nat.max (nx+1) 0;exact Nat.le_trans (Nat.le_succ _) (Nat.le_max_left _ _))
 show S.put ⟨nt,Nat.max nx (zcq [nx]),env,(nx,.arr z)::hp⟩ dst (st.ren (rnf [nx])) K
 rw[hm];exact h
theorem yhk {P:Program} {f:Nat} {args:List V} {nt nx:Nat} {env:List (Nat×V)} {hp:List (Nat×O)} {dst:Option Nat} {K:S→Prop} {res:V} (hs:zr P f 0 args [] 0 res []) (hi:zz 0 args=true) (hr:res.idsLt 0=true)
  (h:S.put ⟨nt,nx,env,hp⟩ dst res K):vcall P f args ⟨nt,nx,env,hp⟩ dst K:=by
 refine zal [] [] hs ⟨zeu hi,hi,rfl,trivial,⟨rfl,rfl,rfl,rfl,rfl,rfl⟩,?_⟩
 rw[S.force_eq,V.ren_flat hr]
 have:Nat.max nx (zcq [])=nx:=Nat.max_eq_left (Nat.zero_le _)
 show S.put ⟨nt,Nat.max nx (zcq []),env,hp⟩ dst res K
 rw[this];exact h
theorem zw {P:Program} {f:Nat} {args:List V} {lk:Nat→Option O} {K:Ef→Prop} {res:V} (hs:zr P f 0 args [] 0 res []) (hi:zz 0 args=true) (hr:zz 0 [res]=true) (h:fin res K):vcalld P f args lk K:=by
 unfold vcalld;exact .inl ⟨res,hi,hr,hs,h⟩
theorem zly {P:Program} {f:Nat} {args args':List V} {lk:Nat→Option O} {K:Ef→Prop} {res:V} (hs:zr P f 0 args' [] 0 res []) (ha:zbv lk args=args') (hr:res.scalar=true) (hi:zz 0 args'=true) (h:fin res K):vcalld P f args lk K:=by
 subst ha;unfold vcalld;exact .inr (.inl ⟨res,hr,hi,hs,h⟩)
theorem zeb {P:Program} {f:Nat} {args args':List V} {lk:Nat→Option O} {K:Ef→Prop} {z:C} {st:V} (hs:zr P f 0 args' [] 1 st [(0,.arr z)]) (ha:zbv lk args=args') (ho:zi2 z lk args=true) (hf:st.flat1=true) (ht:st.idsLt 1=true) (hi:zz 0 args'=true)
  (h:K (.new st ht (.arr z))):vcalld P f args lk K:=by subst ha;unfold vcalld;exact .inr (.inr (.inr (.inl ⟨z,st,ht,ho,hf,hi,hs,h⟩)))
theorem zar {P:Program} {f:Nat} {args:List V} {lk:Nat→Option O} {K:Ef→Prop} {z:C} {st:V} (hs:zr P f 0 args [] 1 st [(0,.arr z)]) (ht:st.idsLt 1=true) (hi:zz 0 args=true)
  (h:K (.new st ht (.arr z))):vcalld P f args lk K:=by unfold vcalld;exact .inr (.inr (.inl ⟨z,st,ht,hi,hs,h⟩))
theorem zbr {P:Program} {f:Nat} {args:List V} {lk:Nat→Option O} {K:Ef→Prop} (id:Nat) {fargs:List V} {pre post:List V} {bs:List Bool} {pre' post':List V} {bs':List Bool} {res:V}
  (hs:zr P f 1 fargs [(0,.box pre bs post)] 1 res [(0,.box pre' bs' post')]) (hl:lk id=some (.box pre bs post)) (h1:zz 0 pre=true) (h2:zz 0 post=true) (h3:zz 0 pre'=true) (h4:zz 0 post'=true) (h5:zz 0 [res]=true) (h6:zz 1 fargs=true)
  (h7:zag (fun _=>id) fargs=args) (h8:zc7 id (za9 args)=true) (h:K (.set res id (.box pre' bs' post'))):vcalld P f args lk K:=by
 unfold vcalld;exact .inr (.inr (.inr (.inr (.inl ⟨id,fargs,pre,post,bs,pre',post',bs',res,hs,hl,h1,h2,h3,h4,h5,h6,h7,h8,h⟩))))
theorem zlg {P:Program} {f m:Nat} {args args':List V} {lk:Nat→Option O} {K:Ef→Prop} {hout:List (Nat×O)} {st:V} (news:List O) (hs:zr P f 0 args' [] m st hout) (ha:zbv lk args=args') (hm:m=news.length) (hh:hout=zak 0 news)
  (ho:zfn lk args (zak 0 news)=true) (hf:st.flat1=true) (ht:st.idsLt news.length=true) (hi:zz 0 args'=true)
  (h:K (.fx [] news [] st ht)):vcalld P f args lk K:=by
 subst ha;subst hm;subst hh;unfold vcalld;exact .inr (.inr (.inr (.inr (.inr (.inl ⟨news,st,ht,ho,hf,hi,hs,h⟩)))))
theorem yfk {P:Program} {f n m:Nat} {args:List V} {lk:Nat→Option O} {K:Ef→Prop} {hin0 hout:List (Nat×O)} {st0:V} (rn:List Nat) {fargs:List V} (hs:zr P f n fargs hin0 m st0 hout) (hin hos news:List O) (st:V)
  (hn:n=rn.length) (hi:hin0=zak 0 hin) (hm:m=rn.length+news.length) (hst:st0=st.ren fun j=>rn.length+j) (ho:hout=zak 0 hos++zak rn.length news) (ht:st.idsLt news.length=true)
  (hc:hin.length=rn.length∧hos.length=rn.length∧zav rn=true∧zl4 hin=true∧zl4 hos=true∧zka news=true∧zz rn.length fargs=true∧zba rn.length (zak 0 hin)=true∧zba rn.length (zak 0 hos)=true)
  (hr:zag (rnf rn) fargs=args) (hl:zlo (rnf rn) lk (zak 0 hin)) (h:K (.fx (zbm (rnf rn) (zak 0 hos)) news rn st ht)):vcalld P f args lk K:=by
 subst hn;subst hi;subst hm;subst hst;subst ho;unfold vcalld;exact .inr (.inr (.inr (.inr (.inr (.inr (.inl ⟨rn,fargs,hin,hos,news,st,ht,hs,hc,hr,hl,.inl h⟩))))))
theorem yep {P:Program} {f n m:Nat} {args:List V} {lk:Nat→Option O} {K:Ef→Prop} {hin0 hout:List (Nat×O)} {st0:V} (rn:List Nat) {fargs:List V} (hs:zr P f n fargs hin0 m st0 hout) (ob:O) (h2 o2 news:List O) (st:V)
  (hn:n=rn.length) (hi:hin0=zak 0 (ob::h2)) (hm:m=rn.length+news.length) (hst:st0=st.ren fun j=>rn.length+j) (ho:hout=zak 0 (ob::o2)++zak rn.length news) (ht:st.idsLt news.length=true)
  (hc:(ob::h2).length=rn.length∧(ob::o2).length=rn.length∧zav rn=true∧zl4 (ob::h2)=true∧zl4 (ob::o2)=true∧zka news=true∧zz rn.length fargs=true∧zba rn.length (zak 0 (ob::h2))=true∧zba rn.length (zak 0 (ob::o2))=true)
  (hr:zag (rnf rn) fargs=args) (hl:zlo (rnf rn) lk (zak 0 (ob::h2))) (h:K (.fx (zbm (rnf rn) (zak 1 o2)) news rn st ht)):vcalld P f args lk K:=by
 subst hn;subst hi;subst hm;subst hst;subst ho;unfold vcalld;exact .inr (.inr (.inr (.inr (.inr (.inr (.inl ⟨rn,fargs,ob::h2,ob::o2,news,st,ht,hs,hc,hr,hl,.inr ⟨ob,h2,o2,rfl,rfl,h⟩⟩))))))
theorem ydq {P:Program} {f:Nat} {args:List V} {lk:Nat→Option O} {K:Ef→Prop} {res:V} (hs:z7c P f args res) (h:fin res K):vcalld P f args lk K:=by
 unfold vcalld;exact .inr (.inr (.inr (.inr (.inr (.inr (.inr (.inl ⟨res,hs,h⟩)))))))
theorem yg2 {P:Program} {f:Nat} {args:List V} {s:S} {dst:Option Nat} {K:S→Prop} {res:V} (hs:z7c P f args res) (h:S.put s dst res K):vcall P f args s dst K:=by
 unfold vcall;exact .inr (.inr (.inr (.inl ⟨res,hs,h⟩)))
theorem yc9 {P:Program} {f:Nat} {args args':List V} {lk:Nat→Option O} {K:Ef→Prop} {z:C} (hs:zr P f 0 args' [] 1 (.slc 0) [(0,.arr z)]) (ha:zbv lk args=args') (ho:zi2 z lk args=true) (hi:zz 0 args'=true) (h:K (.val (.c z))):vcalld P f args lk K:=by
 subst ha;unfold vcalld;exact .inr (.inr (.inr (.inr (.inr (.inr (.inr (.inr (.inl ⟨z,ho,hi,hs,h⟩))))))))
theorem z5u {P:Program} {f:Nat} {args fargs:List V} {lk:Nat→Option O} {K:Ef→Prop} {x1 x2:C} {res:V} (id1 id2:Nat) (hs:zr P f 2 fargs [(0,.arr x1),(1,.arr x2)] 0 res []) (h1:lk id1=some (.arr x1)) (h2:lk id2=some (.arr x2)) (hne:Nat.beq id1 id2=false) (hi:zz 2 fargs=true)
  (hr:zag (rnf [id1,id2]) fargs=args) (m1:zc7 id1 (za9 args)=true) (m2:zc7 id2 (za9 args)=true) (hf:zz 0 [res]=true) (hb:res.bool? = none) (h:K (.tk [id1,id2] res)):vcalld P f args lk K:=by
 unfold vcalld;exact .inr (.inr (.inr (.inr (.inr (.inr (.inr (.inr (.inr (.inl ⟨id1,id2,fargs,x1,x2,res,hs,h1,h2,hne,hi,hr,m1,m2,hf,hb,h⟩)))))))))
theorem z5w {P:Program} {f:Nat} {args fargs:List V} {lk:Nat→Option O} {K:Ef→Prop} {x z:C} (id:Nat) (hs:zr P f 1 fargs [(0,.arr x)] 1 (.slc 0) [(0,.arr z)]) (hl:lk id=some (.arr x)) (hi:zz 1 fargs=true) (hr:zag (fun _=>id) fargs=args) (hm:zc7 id (za9 args)=true)
  (h:K (.mf id z)):vcalld P f args lk K:=by
 unfold vcalld;exact .inr (.inr (.inr (.inr (.inr (.inr (.inr (.inr (.inr (.inr ⟨id,fargs,x,z,hs,hl,hi,hr,hm,.inl h⟩)))))))))
theorem z7v {P:Program} {f:Nat} {args fargs:List V} {lk:Nat→Option O} {K:Ef→Prop} {x z:C} (id:Nat) (hs:zr P f 1 fargs [(0,.arr x)] 1 (.slc 0) [(0,.arr z)]) (hl:lk id=some (.arr x)) (hi:zz 1 fargs=true) (hr:zag (fun _=>id) fargs=args) (hm:zc7 id (za9 args)=true)
  (h:K (.mv id z)):vcalld P f args lk K:=by
 unfold vcalld;exact .inr (.inr (.inr (.inr (.inr (.inr (.inr (.inr (.inr (.inr ⟨id,fargs,x,z,hs,hl,hi,hr,hm,.inr h⟩)))))))))
theorem zau {n0:Nat} {body:(Exit→S→Prop)→S→Prop} {Q:Exit→S→Prop} {s:S} {TA:Type} (Inv:TA→Prop) (st:TA→S) (μ:TA→Nat) (a0:TA) (h0:Inv a0) (hn:∀a,n0≤(st a).nx) (he:Ent n0 s (st a0))
  (h:∀a,Inv a→body (fun e s'=>match e with
   |.normal=>∃x:{x:TA // Inv x},Ent n0 s' (st x.1)∧μ x.1<μ a
   |e=>Q e s') (st a)):vloop n0 body Q s :=
 zi8 {x:TA // Inv x} (fun x=>st x.1) (fun x=>μ x.1) ⟨a0,h0⟩ (fun x=>hn _) he fun x=>h _ x.2
theorem zd0 {n0:Nat} {body:(Exit→S→Prop)→S→Prop} {Q:Exit→S→Prop} {s:S} {TA TB:Type} (Inv:TA→TB→Prop) (st:TA→TB→S) (μ:TA→TB→Nat) (a0:TA) (b0:TB) (h0:Inv a0 b0) (hn:∀a b,n0≤(st a b).nx) (he:Ent n0 s (st a0 b0))
  (h:∀a b,Inv a b→body (fun e s'=>match e with
   |.normal=>∃x:{x:TA×TB // Inv x.1 x.2},Ent n0 s' (st x.1.1 x.1.2)∧μ x.1.1 x.1.2<μ a b
   |e=>Q e s') (st a b)):vloop n0 body Q s :=
 zi8 {x:TA×TB // Inv x.1 x.2} (fun x=>st x.1.1 x.1.2) (fun x=>μ x.1.1 x.1.2) ⟨(a0,b0),h0⟩ (fun x=>hn _ _) he fun x=>h _ _ x.2
theorem zk5 {n0:Nat} {body:(Exit→S→Prop)→S→Prop} {Q:Exit→S→Prop} {s:S} {TA TB TC:Type} (Inv:TA→TB→TC→Prop) (st:TA→TB→TC→S) (μ:TA→TB→TC→Nat) (a0:TA) (b0:TB) (c0:TC) (h0:Inv a0 b0 c0) (hn:∀a b c,n0≤(st a b c).nx) (he:Ent n0 s (st a0 b0 c0))
  (h:∀a b c,Inv a b c→body (fun e s'=>match e with
   |.normal=>∃x:{x:TA×TB×TC // Inv x.1 x.2.1 x.2.2},Ent n0 s' (st x.1.1 x.1.2.1 x.1.2.2)∧μ x.1.1 x.1.2.1 x.1.2.2<μ a b c
   |e=>Q e s') (st a b c)):vloop n0 body Q s :=
 zi8 {x:TA×TB×TC // Inv x.1 x.2.1 x.2.2} (fun x=>st x.1.1 x.1.2.1 x.1.2.2) (fun x=>μ x.1.1 x.1.2.1 x.1.2.2) ⟨(a0,b0,c0),h0⟩ (fun x=>hn _ _ _) he fun x=>h _ _ _ x.2
theorem zy2 {n0:Nat} {body:(Exit→S→Prop)→S→Prop} {Q:Exit→S→Prop} {s:S} {TA TB TC TD:Type} (Inv:TA→TB→TC→TD→Prop) (st:TA→TB→TC→TD→S) (μ:TA→TB→TC→TD→Nat) (a0:TA) (b0:TB) (c0:TC) (d0:TD) (h0:Inv a0 b0 c0 d0) (hn:∀a b c d,n0≤(st a b c d).nx) (he:Ent n0 s (st a0 b0 c0 d0))
  (h:∀a b c d,Inv a b c d→body (fun e s'=>match e with
   |.normal=>∃x:{x:TA×TB×TC×TD // Inv x.1 x.2.1 x.2.2.1 x.2.2.2},Ent n0 s' (st x.1.1 x.1.2.1 x.1.2.2.1 x.1.2.2.2)∧μ x.1.1 x.1.2.1 x.1.2.2.1 x.1.2.2.2<μ a b c d
   |e=>Q e s') (st a b c d)):vloop n0 body Q s :=
 zi8 {x:TA×TB×TC×TD // Inv x.1 x.2.1 x.2.2.1 x.2.2.2} (fun x=>st x.1.1 x.1.2.1 x.1.2.2.1 x.1.2.2.2) (fun x=>μ x.1.1 x.1.2.1 x.1.2.2.1 x.1.2.2.2) ⟨(a0,b0,c0,d0),h0⟩ (fun x=>hn _ _ _ _) he fun x=>h _ _ _ _ x.2
theorem zlb (k:Nat):((k:Int)-1).toNat=k-1:=by omega
theorem zo9 (k:Nat):((k:Int)+1).toNat=k+1:=by omega
theorem wrap_i64 {r:Int} (h1:-9223372036854775808≤r) (h2:r<9223372036854775808):IntKind.i64.wrap r=r:=by rw[IntKind.wrap_i64];omega
theorem zg {r:Int} {K:V→Prop} (h1:-9223372036854775808≤r) (h2:r<9223372036854775808) (hk:K (.c (.int .i64 r))):vint .i64 r K:=zzv (wrap_i64 h1 h2) hk
theorem zye {n:Nat} {A B:Prop} (h:n=0→A) (k:B):vnil n A B:=by unfold vnil;exact⟨h,k⟩
theorem q1 (b:Bool):((!b)=true)=(b=false):=by cases b<;>simp
theorem q2 (b:Bool):((!b)=false)=(b=true):=by cases b<;>simp
theorem q3 (p:Prop) [Decidable p]:(decide p=true)=p:=decide_eq_true_eq
theorem q4 (p:Prop) [Decidable p]:(decide p=false)=¬p:=propext decide_eq_false_iff_not
theorem q5 {α:Type} [BEq α] [LawfulBEq α] (a b:α):((a==b)=true)=(a=b):=propext beq_iff_eq
theorem q6 {α:Type} [BEq α] [LawfulBEq α] (a b:α):((a != b)=true)=(a≠b):=propext bne_iff_ne
theorem q8 (b:Bool):(¬b=true)=(b=false):=by cases b<;>simp
theorem q9 (b:Bool):(¬b=false)=(b=true):=by cases b<;>simp
theorem q10 {α:Type} [BEq α] [LawfulBEq α] (a b:α):((a != b)=false)=(a=b):=propext bne_eq_false_iff_eq
theorem q11 {α:Type} [BEq α] [LawfulBEq α] (a b:α):((a==b)=false)=(a≠b):=propext beq_eq_false_iff_ne
theorem w1 (n:Nat):(n:Int).toNat=n:=Int.toNat_natCast n
theorem w2 (k:Nat):((k:Int)-1).toNat=k-1:=zlb k
theorem w3 (k:Nat):((k:Int)+1).toNat=k+1:=zo9 k
theorem w4 {α:Type} (a b:List α):(a++b).length=a.length+b.length:=List.length_append
theorem w5 {α:Type} (a:α) (b:List α):(a::b).length=b.length+1:=rfl
theorem w6 {α:Type}:([]:List α).length=0:=rfl
theorem w7 {α:Type} (n:Nat) (a:List α):(a.take n).length=min n a.length:=List.length_take
theorem w8 {α:Type} (n:Nat) (a:List α):(a.drop n).length=a.length-n:=List.length_drop
theorem w9 {α:Type} (n:Nat) (a:α):(List.replicate n a).length=n:=List.length_replicate
theorem w10 {α:Type} (i:Nat) (x:α) (a:List α):(a.set i x).length=a.length:=List.length_set
theorem w11 {α β:Type} (f:α→β) (a:List α):(a.map f).length=a.length:=List.length_map f
theorem zf {n0:Nat} {x y:C} {s:S} (h:x=y):vend n0 0 (.c y) [] s (zdq [.c x]):=zpf (by subst h;rfl) rfl rfl
theorem zh {n0:Nat} {x y:Bool} {s:S} (h:x=y):vend n0 0 (.c (.bool y)) [] s (zdq [.c (.bool x)]):=zf (by rw[h])
theorem zi {n0:Nat} {k:IntKind} {x y:Int} {s:S} (h:x=y):vend n0 0 (.c (.int k y)) [] s (zdq [.c (.int k x)]):=zf (by rw[h])
theorem zc {n0:Nat} {b:Bool} {s:S} (h:b=true):vend n0 0 (.c (.bool b)) [] s (zdq [.tt]):=zpf (by subst h;rfl) rfl rfl
theorem zd {n0:Nat} {b:Bool} {s:S} (h:b=false):vend n0 0 (.c (.bool b)) [] s (zdq [.ff]):=zpf (by subst h;rfl) rfl rfl
end Go.VL
namespace Go.VL
set_option linter.unusedVariables false
set_option linter.unusedSimpArgs false
theorem wA:(∀k xs,C.len (.nums k xs)=xs.length)∧(∀xs,C.len (.bools xs)=xs.length)∧(∀xs,C.len (.prs xs)=xs.length)∧(∀xs,C.len (.pgs xs)=xs.length)∧(∀xs,C.len (.lks xs)=xs.length)∧(∀xs,C.len (.ops xs)=xs.length)∧(∀xs,C.len (.numss xs)=xs.length)∧(∀xs,C.len (.prss xs)=xs.length) ∧
  (∀k xs,C.isSl (.nums k xs)=true)∧(∀xs,C.isSl (.bools xs)=true)∧(∀xs,C.isSl (.prs xs)=true)∧(∀xs,C.isSl (.pgs xs)=true)∧(∀xs,C.isSl (.lks xs)=true)∧(∀xs,C.isSl (.ops xs)=true)∧(∀xs,C.isSl (.numss xs)=true)∧(∀xs,C.isSl (.prss xs)=true) ∧
  (∀k xs,C.stride (.nums k xs)=1)∧(∀xs,C.stride (.bools xs)=1)∧(∀xs,C.stride (.prs xs)=2)∧(∀xs,C.stride (.pgs xs)=3)∧(∀xs,C.stride (.lks xs)=3)∧(∀xs,C.stride (.ops xs)=3)∧(∀xs,C.stride (.numss xs)=1)∧(∀xs,C.stride (.prss xs)=1) ∧
  (∀p:Prop,(True∧p)=p)∧(∀p:Prop,(p∧True)=p)∧(∀n:Nat,(n:Int).toNat=n):=by
 refine⟨?_,?_,?_,?_,?_,?_,?_,?_,?_,?_,?_,?_,?_,?_,?_,?_,?_,?_,?_,?_,?_,?_,?_,?_,true_and,and_true,Int.toNat_natCast⟩
 all_goals intros;rfl
theorem wN:(∀k:Nat,((k:Int)-1).toNat=k-1)∧(∀k:Nat,((k:Int)+1).toNat=k+1):=⟨zlb,zo9⟩
theorem wL:(∀{α:Type} (a b:List α),(a++b).length=a.length+b.length)∧(∀{α:Type} (a:α) (b:List α),(a::b).length=b.length+1)∧(∀{α:Type},([]:List α).length=0)∧(∀{α:Type} (n:Nat) (a:List α),(a.take n).length=min n a.length) ∧
  (∀{α:Type} (n:Nat) (a:List α),(a.drop n).length=a.length-n)∧(∀{α:Type} (n:Nat) (a:α),(List.replicate n a).length=n)∧(∀{α:Type} (i:Nat) (x:α) (a:List α),(a.set i x).length=a.length)∧(∀{α β:Type} (f:α→β) (a:List α),(a.map f).length=a.length):=⟨w4,w5,w6,w7,w8,w9,w10,w11⟩
theorem qA:(∀b:Bool,((!b)=true)=(b=false))∧(∀b:Bool,((!b)=false)=(b=true))∧(∀(p:Prop) [Decidable p],(decide p=true)=p)∧(∀(p:Prop) [Decidable p],(decide p=false)=¬p) ∧
  (∀{α:Type} [BEq α] [LawfulBEq α] (a b:α),((a==b)=true)=(a=b))∧(∀{α:Type} [BEq α] [LawfulBEq α] (a b:α),((a != b)=true)=¬a=b)∧(∀b:Bool,(¬b=true)=(b=false))∧(∀b:Bool,(¬b=false)=(b=true)) ∧
  (∀{α:Type} [BEq α] [LawfulBEq α] (a b:α),((a != b)=false)=(a=b))∧(∀{α:Type} [BEq α] [LawfulBEq α] (a b:α),((a==b)=false)=¬a=b)∧(∀{α:Type} (a b:α),(a≠b)=¬a=b):=⟨q1,q2,q3,q4,q5,q6,q8,q9,q10,q11,fun _ _=>rfl⟩
theorem ydn {n0:Nat} {s s':S} (fz bk:List Nat) (h:vfz fz s [] fun s _ =>
  zmj (rnf bk) s.env s'.env∧zkc (rnf bk) (zg9 s.hp) s'.hp ∧
  (s.nt=s'.nt∧zav bk=true∧Nat.ble s'.nx bk.length=true∧zhq s'.nx s'.env=true∧zba s'.nx s'.hp=true∧zav (zbl s'.hp)=true∧ze8 n0 (rnf bk) s'.hp=true):=by exact⟨by repeat first|exact trivial|refine⟨rfl,?_⟩,by repeat first|exact trivial|refine⟨rfl,?_⟩,rfl,rfl,rfl,rfl,rfl,rfl,rfl⟩):Ent n0 s s':=zbd fz bk h
theorem zbn {n0:Nat} {s s':S} (h1:zmj (rnf []) s.env s'.env:=by repeat first|exact trivial|refine⟨rfl,?_⟩) (h2:s.nt=s'.nt:=by rfl) (h3:Nat.ble s'.nx 0=true:=by rfl) (h4:zhq s'.nx s'.env=true:=by rfl) (h5:s'.hp=[]:=by rfl):Ent n0 s s':=ent_0 h1 h2 h3 h4 h5
theorem zu {n0 m:Nat} {res:V} {hout:List (Nat×O)} {s:S} {v:V} (fz bk:List Nat) (h:vfz fz s [v] fun s vs =>
  (match vs with | [v]=>v.nrm=(res.ren (rnf bk)).nrm|_=>False)∧zkc (rnf bk) (zg9 s.hp) hout ∧
  (zav bk=true∧Nat.beq m bk.length=true∧res.idsLt m=true∧zba m hout=true∧zav (zbl hout)=true∧ze8 n0 (rnf bk) hout=true):=by exact⟨rfl,by repeat first|exact trivial|refine⟨rfl,?_⟩,rfl,rfl,rfl,rfl,rfl,rfl⟩):vend n0 m res hout s v:=zbg fz bk h
end Go.VL
namespace Go.VL
set_option linter.unusedVariables false
set_option linter.unusedSimpArgs false
def bV:Bool→V
 |true=>.tt
 |false=>.ff
theorem z03 {I:Nat→Prop} {g:Gam} {n:Nat} {w:World} {id:Nat} {pre post:List V} {bs:List Bool} (h:RO I g n w id (.box (pre++(bs.map bV++post)) [] [])):RO I g n w id (.box pre bs post):=by
 cases h with
 |box _ _ _ b cl cells ty hg hb hl h1 h2 h3 =>
  refine .box pre bs post b cl cells ty hg hb (by simpa [Nat.add_assoc]using hl) (fun i x v hx hv=>h1 i x v ?_ hv) (fun i x hx=>?_) (fun i x v hx hv=>h1 (pre.length+bs.length+i) x v ?_ hv)
  ·rw[List.getElem?_append_left (List.getElem?_eq_some_iff.1 hx).1];exact hx
  ·have hi:=(List.getElem?_eq_some_iff.1 hx).1
   have hlt:pre.length+i<cells.length:=by
    simp only[List.length_append,List.length_map,List.length_nil]at hl;omega
   have e:(pre++(bs.map bV++post))[pre.length+i]? = some (bV x):=by
    rw[List.getElem?_append_right (by omega),Nat.add_sub_cancel_left,List.getElem?_append_left (by rw[List.length_map];exact hi),List.getElem?_map,hx];rfl
   have r:=h1 (pre.length+i) (bV x) cells[pre.length+i] e (List.getElem?_eq_getElem hlt)
   rw[List.getElem?_eq_getElem hlt]
   cases x<;>(cases hq:cells[pre.length+i];all_goals (rw[hq]at r;cases r))<;>rfl
  ·rw[List.getElem?_append_right (by omega),show pre.length+bs.length+i-pre.length=bs.length+i by omega,List.getElem?_append_right (by rw[List.length_map];omega),List.length_map,Nat.add_sub_cancel_left];exact hx
theorem zyv {I:Nat→Prop} {g:Gam} {n:Nat} {w:World} {pre post:List V} {bs:List Bool} (h:HOk I g n w [(0,.box (pre++(bs.map bV++post)) [] [])]):HOk I g n w [(0,.box pre bs post)]:=by
 have hobj:=h.obj 0 _ (List.mem_cons_self ..)
 have ow:∀b,Own g w 0 (.box pre bs post) b→Own g w 0 (.box (pre++(bs.map bV++post)) [] []) b:=fun b hb=>hb
 refine⟨fun id o hm=>?_,fun id o b hm hb=>?_,by simp,fun id o id' o' b hm hm' _ _=>?_⟩
 ·obtain⟨rfl,rfl⟩:id=0∧o=.box pre bs post:=by simpa using hm
  exact⟨hobj.1,z03 hobj.2⟩
 ·obtain⟨rfl,rfl⟩:id=0∧o=.box pre bs post:=by simpa using hm
  exact h.apart 0 _ b (List.mem_cons_self ..) (ow b hb)
 ·have a:id=0∧o=.box pre bs post:=by simpa using hm
  have b:id'=0∧o'=.box pre bs post:=by simpa using hm'
  rw[a.1,b.1]
theorem zwq {P:Program} {f n:Nat} {args pre post:List V} {bs:List Bool} {R:Nat→V→List (Nat×O)→Prop} (h:zce P f n args [(0,.box pre bs post)] R):zce P f n args [(0,.box (pre++(bs.map bV++post)) [] [])] R:=by
 refine⟨h.1,fun W I g argv hI hh hl ha=>?_⟩
 have hd:∀b,Dom g W [(0,.box pre bs post)] b↔Dom g W [(0,.box (pre++(bs.map bV++post)) [] [])] b:=fun b=>by
  constructor
  ·rintro⟨id,o,hm,hb⟩
   obtain⟨rfl,rfl⟩:id=0∧o=.box pre bs post:=by simpa using hm
   exact⟨0,_,List.mem_cons_self ..,hb⟩
  ·rintro⟨id,o,hm,hb⟩
   obtain⟨rfl,rfl⟩:id=0∧o=.box (pre++(bs.map bV++post)) [] []:=by simpa using hm
   exact⟨0,_,List.mem_cons_self ..,hb⟩
 refine(h.2 W I g argv hI (zyv hh) hl ha).mono fun e w'=>?_
 rintro⟨m,res,hout,hR,v,I',g',e1,e2,e3,e4,e5,e6,e7,e8,e9⟩
 refine⟨m,res,hout,hR,v,I',g',e1,e2,fun b hb=>?_,e4,e5,e6,fun id o o' hm hm' hb=>?_,fun b hb=>?_,?_⟩
 ·rcases e3 b hb with q|q|q
  ·exact .inl q
  ·exact .inr (.inl q)
  ·exact .inr (.inr ((hd b).1 q))
 ·obtain⟨rfl,rfl⟩:id=0∧o=.box (pre++(bs.map bV++post)) [] []:=by simpa using hm
  exact e7 0 _ o' (List.mem_cons_self ..) hm' hb
 ·exact(e8 b hb).imp_right (hd b).1
 ·exact⟨e9.os,e9.tape,e9.output,e9.size,fun b h1 h2=>e9.block b h1 fun h3=>h2 ((hd b).1 h3)⟩
end Go.VL
namespace Go.VL
set_option linter.unusedVariables false
set_option linter.unusedSimpArgs false
def zj0:List V→List V→Prop
 |[],[]=>True
 |a::s,b::t=>(a=b∨(a=.nil∧∃x,b=.c x∧x.isSl=true∧x.len=0))∧zj0 s t
 |_,_=>False
theorem zj0.len:∀{a b:List V},zj0 a b→a.length=b.length
 |[],[],_=>rfl
 |_::_,_::_,h=>congrArg (· + 1) (zj0.len h.2)
 |[],_::_,h=>h.elim
 |_::_,[],h=>h.elim
theorem zj0.get:∀{a b:List V},zj0 a b→∀(i:Nat) (y:V),b[i]? = some y→∃x,a[i]? = some x∧(x=y∨(x=.nil∧∃z,y=.c z∧z.isSl=true∧z.len=0))
 |[],[],_,i,y,hy=>by cases hy
 |x::_,z::_,h,0,y,hy=>by cases hy;exact⟨x,rfl,h.1⟩
 |_::_,_::_,h,i+1,y,hy=>zj0.get h.2 i y hy
 |[],_::_,h,_,_,_=>h.elim
 |_::_,[],h,_,_,_=>h.elim
theorem zkb {P:Program} {f n m:Nat} {args args':List V} {hin hout:List (Nat×O)} {res:V} (hn:zj0 args' args) (h:zr P f n args hin m res hout):zr P f n args' hin m res hout:=by
 refine⟨h.1,fun W I g argv hI hh hl ha=>h.2 W I g argv hI hh (hn.len▸hl) fun i y v hy hv=>?_⟩
 obtain⟨x,hx,hxy⟩:=hn.get i y hy
 have r:=ha i x v hx hv
 rcases hxy with rfl|⟨rfl,z,rfl,h1,h2⟩
 ·exact r
 ·rw[RV.nil_inv' r]
  exact .c _ _ (.empty z none 0 h1 h2)
end Go.VL
