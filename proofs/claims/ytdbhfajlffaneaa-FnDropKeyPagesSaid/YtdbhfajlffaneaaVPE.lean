/- V-logic: PT15 PT21 PT16 PT17 PT18 PT19 PT20 -/
import Derived.Test.YtdbhfajlffaneaaVPD
import Derived.Test.YtdbhfajlffaneaaVMA
namespace Go.VL
set_option linter.unusedVariables false
set_option linter.unusedSimpArgs false
def lfF (ps:List Pg) (key:Int):Nat→Int→Int
 |0,a=>a
 |1,a=>a
 |d+2,a=>lfF ps key (d+1) ((zb ps a).kids.getD (upF (zb ps a).keys key) 0)
theorem zlt {ps:List Pg} {key:Int}:∀{d:Nat} {a:Int},(ptF ps key (d+1) a).getD d 0=lfF ps key (d+1) a
 |0,_=>rfl
 |d+1,a=>by rw[zgs];exact zlt (d:=d)
theorem zi7 {ps:List Pg} {key:Int}:∀{d mn mx:Nat} {a lo hi:Int},Fit ps (d+1) mn mx a lo hi→lfF ps key (d+1) a∈lvF ps (d+1) a
 |0,_,_,a,_,_,h=>List.mem_singleton.2 rfl
 |d+1,_,_,a,lo,hi,h=>by
  obtain⟨h1,l,r,h2⟩:=h.kid (key:=key)
  exact List.mem_flatMap.2 ⟨_,zaq 0 h1,zi7 (d:=d) h2⟩
theorem ztj {n:Int}:∀{xs:List Int} {i:Nat},i<upF xs n→xs.getD i 0≤n
 |[],i,h=>by simp[upF]at h
 |a::t,i,h=>by
  unfold upF at h
  rw[List.takeWhile_cons]at h
  by_cases c:a≤n
  ·rw[decide_eq_true c,if_pos rfl]at h
   cases i with
   |zero=>simpa using c
   |succ i=>rw[List.getD_cons_succ];exact ztj (xs:=t) (by unfold upF;simpa using h)
  ·rw[decide_eq_false c]at h;simp at h
theorem zub {n:Int}:∀{xs:List Int} {i:Nat},Asc xs→upF xs n≤i→i<xs.length→n<xs.getD i 0
 |[],i,_,_,h=>by simp at h
 |a::t,i,ha,h,hi=>by
  unfold upF at h
  rw[List.takeWhile_cons]at h
  rw[zcf]at ha
  by_cases c:a≤n
  ·rw[decide_eq_true c,if_pos rfl]at h
   cases i with
   |zero=>simp at h
   |succ i=>rw[List.getD_cons_succ];exact zub (xs:=t) ha.2 (by unfold upF;simpa using h) (by simpa using hi)
  ·cases i with
   |zero=>simpa using c
   |succ i =>
    rw[List.getD_cons_succ]
    have:=ha.1 _ (zaq 0 (show i<t.length by simpa using hi))
    omega
theorem zyd {ps:List Pg} {d mn mx:Nat} {a lo hi x k:Int} (h:Fit ps (d+1) mn mx a lo hi) (hx:x∈lvF ps (d+1) a) (hk:k∈(zb ps x).keys):k∈(prF ps (d+1) (zb ps a)).map Pr.key:=by
 obtain⟨_,_,l,r,hl⟩:=zec h x hx
 rw[←zft h,List.map_flatMap]
 exact List.mem_flatMap.2 ⟨x,hx,by rw[zdi hl.len];exact hk⟩
theorem z26 {ps:List Pg} {d mn mx:Nat} {a lo hi x k:Int} (h:Fit ps (d+1) mn mx a lo hi) (hx:x∈lvF ps (d+1) a) (hk:k∈(zb ps x).keys):lo≤k∧k≤hi:=by
 obtain⟨y,hy,rfl⟩:=List.mem_map.1 (zyd h hx hk)
 exact(zaa.row h.2.2.2.2).rng y hy
theorem zj1 {ps:List Pg} {key:Int}:∀{d mn mx:Nat} {a lo hi:Int},Fit ps (d+1) mn mx a lo hi→∀x∈lvF ps (d+1) a,x≠lfF ps key (d+1) a→key∉(zb ps x).keys
 |0,_,_,a,_,_,h,x,hx,hne=>absurd (List.mem_singleton.1 hx) hne
 |d+1,_,_,a,lo,hi,h,x,hx,hne=>by
  intro hk
  obtain⟨c,hc,hx⟩:=List.mem_flatMap.1 (show x∈(zb ps a).kids.flatMap (lvF ps (d+1))from hx)
  obtain⟨j,hj,rfl⟩:=List.getElem_of_mem hc
  have hlen:=zaa.kidsLen h.2.2.2.2
  have hseg:Seg (Fit ps (d+1) 2 4) lo hi (zb ps a).keys (zb ps a).kids:=h.2.2.2.2.2
  have hF:=(zv5 hlen).1 hseg j hj
  have hasc:=(zaa.keys h.2.2.2.2).1
  have e:(zb ps a).kids.getD j 0=(zb ps a).kids[j]:=by rw[List.getD_eq_getElem?_getD,List.getElem?_eq_getElem hj];rfl
  rw[e]at hF
  have hr:=z26 hF hx hk
  have hu:=zpr (zb ps a).keys key
  by_cases c1:j<upF (zb ps a).keys key
  ·have:=ztj c1
   rw[if_pos (show j<(zb ps a).keys.length by omega)]at hr
   omega
  ·by_cases c2:j=upF (zb ps a).keys key
   ·subst c2
    rw[←e]at hF hx
    exact zj1 (d:=d) hF x hx hne hk
   ·have:=zub hasc (n:=key) (i:=j-1) (by omega) (by omega)
    rw[if_pos (show 0<j by omega)]at hr
    omega
theorem zvj {ps:List Pg} {key:Int} {d mn mx:Nat} {a lo hi:Int} (h:Fit ps (d+1) mn mx a lo hi):key∈(prF ps (d+1) (zb ps a)).map Pr.key↔key∈(zb ps (lfF ps key (d+1) a)).keys:=by
 constructor
 ·intro hk
  rw[←zft h,List.map_flatMap]at hk
  obtain⟨x,hx,hk⟩:=List.mem_flatMap.1 hk
  obtain⟨_,_,l,r,hl⟩:=zec h x hx
  rw[zdi hl.len]at hk
  by_cases c:x=lfF ps key (d+1) a
  ·rw[←c];exact hk
  ·exact absurd hk (zj1 h x hx c)
 ·exact fun hk=>zyd h (zi7 h) hk
theorem z1d {ps:List Pg} {d mn mx:Nat} {a lo hi:Int} (h:Fit ps (d+1) mn mx a lo hi) {y:Pr} (hy:y∈prF ps (d+1) (zb ps a)):y∈zab (zb ps (lfF ps y.key (d+1) a)):=by
 rw[←zft h]at hy
 obtain⟨x,hx,hy⟩:=List.mem_flatMap.1 hy
 obtain⟨_,_,l,r,hl⟩:=zec h x hx
 by_cases c:x=lfF ps y.key (d+1) a
 ·rw[←c];exact hy
 ·exact absurd (by rw[←zdi hl.len];exact List.mem_map.2 ⟨y,hy,rfl⟩) (zj1 h x hx c)
def zei (xs:List Pr) (key:Int):Int:=if key∈xs.map Pr.key then(xs.getD (belF (xs.map Pr.key) key) ⟨0,0⟩).value else 0
theorem zn5:∀{xs:List Pr},Asc (xs.map Pr.key)→∀{x y:Pr},x∈xs→y∈xs→x.key=y.key→x=y
 |[],_,_,_,h,_,_=>by cases h
 |a::t,ha,x,y,hx,hy,e=>by
  rw[List.map_cons,zcf]at ha
  rcases List.mem_cons.1 hx with h1|h1
  ·rcases List.mem_cons.1 hy with h2|h2
   ·rw[h1,h2]
   ·have:=ha.1 _ (List.mem_map.2 ⟨y,h2,rfl⟩);rw[h1]at e;omega
  ·rcases List.mem_cons.1 hy with h2|h2
   ·have:=ha.1 _ (List.mem_map.2 ⟨x,h1,rfl⟩);rw[h2]at e;omega
   ·exact zn5 ha.2 h1 h2 e
theorem zhx {xs:List Pr} (ha:Asc (xs.map Pr.key)) {y:Pr} (hy:y∈xs):zei xs y.key=y.value:=by
 have hk:y.key∈xs.map Pr.key:=List.mem_map.2 ⟨y,hy,rfl⟩
 obtain⟨_,h2,h3⟩:=zs7 hk ha
 unfold zei
 rw[if_pos hk]
 exact congrArg Pr.value (zn5 ha (zaq _ h2) hy h3)
def sfF (root:Int) (ps:List Pg) (kind:Int) (a:Int):Bool :=
 if kind=1 then decide ((zb ps a).keys.length<4)
 else if kind=2 then(if a=root then decide ((zb ps a).kids.length=0∨1<(zb ps a).keys.length)else decide (2<(zb ps a).keys.length))
 else true
theorem z3q {xs:List Int} {n:Int} {i:Nat} (ha:Asc xs) (hi:i≤xs.length) (h1:∀k,k<i→xs.getD k 0≤n) (h2:∀k,i≤k→k<xs.length→n<xs.getD k 0):upF xs n=i:=by
 have hl:=zpr xs n
 rcases Nat.lt_trichotomy (upF xs n) i with c|c|c
 ·have:=zub ha (Nat.le_refl (upF xs n)) (by omega)
  have:=h1 _ c
  omega
 ·exact c
 ·have:=ztj c
  have:=h2 i (Nat.le_refl _) (by omega)
  omega
theorem zvs {n:Int}:∀{xs:List Int} {i:Nat},i<belF xs n→xs.getD i 0<n
 |[],i,h=>by simp[belF]at h
 |a::t,i,h=>by
  rw[zij]at h
  split at h
  ·match i,h with
   |0,h=>assumption
   |i+1,h=>rw[List.getD_cons_succ];exact zvs (by omega)
  ·omega
theorem zwc {n:Int}:∀{xs:List Int} {i:Nat},Asc xs→belF xs n≤i→i<xs.length→n≤xs.getD i 0
 |[],i,_,h,h'=>by simp at h'
 |a::t,i,ha,h,h'=>by
  rw[zij]at h
  split at h
  ·match i,h,h' with
   |i+1,h,h'=>rw[List.getD_cons_succ];exact zwc (List.pairwise_cons.1 ha).2 (by omega) (by simpa using h')
  ·match i with
   |0=>rw[List.getD_cons_zero];omega
   |i+1 =>
    have:=zez ha (i:=0) (j:=i+1) (by omega) h'
    rw[List.getD_cons_zero]at this
    omega
theorem zv4 {xs:List Int} {n:Int} {i:Nat} (ha:Asc xs) (hi:i≤xs.length) (h1:∀k,k<i→xs.getD k 0<n) (h2:∀k,i≤k→k<xs.length→n≤xs.getD k 0):belF xs n=i:=by
 have hl:=zvm xs n
 rcases Nat.lt_trichotomy (belF xs n) i with c|c|c
 ·have:=zwc ha (Nat.le_refl (belF xs n)) (by omega)
  have:=h1 _ c
  omega
 ·exact c
 ·have:=zvs c
  have:=h2 i (Nat.le_refl _) (by omega)
  omega
structure Sea (small:Int→Bool) (xs:List Int) (i j:Nat):Prop where
 ij:i≤j
 jl:j≤xs.length
 lo:∀k,k<i→small (xs.getD k 0)=true
 hi:∀k,j≤k→k<xs.length→small (xs.getD k 0)=false
theorem Sea.first {small:Int→Bool} {xs:List Int}:Sea small xs 0 xs.length:=⟨Nat.zero_le _,Nat.le_refl _,fun k h=>absurd h (Nat.not_lt_zero _),fun k h h'=>absurd h' (by omega)⟩
theorem Sea.up {small:Int→Bool} {xs:List Int} {i j h:Nat} (s:Sea small xs i j) (ha:Asc xs) (hm:∀a b,a<b→small b=true→small a=true) (h1:i≤h) (h2:h<j) (hs:small (xs.getD h 0)=true):Sea small xs (h+1) j :=
 ⟨h2,s.jl,fun k hk=>by
  rcases Nat.lt_or_ge k h with c|c
  ·exact hm _ _ (zez ha (i:=k) (j:=h) c (by have:=s.jl;omega)) hs
  ·obtain rfl:k=h:=by omega
   exact hs,s.hi⟩
theorem Sea.down {small:Int→Bool} {xs:List Int} {i j h:Nat} (s:Sea small xs i j) (ha:Asc xs) (hm:∀a b,a<b→small b=true→small a=true) (h1:i≤h) (h2:h<j) (hs:small (xs.getD h 0)=false):Sea small xs i h :=
 ⟨h1,by have:=s.jl;omega,s.lo,fun k hk hk'=>by
  rcases Nat.lt_or_ge h k with c|c
  ·cases hc:small (xs.getD k 0)with
   |false=>rfl
   |true =>
    rw[hm _ _ (zez ha (i:=h) (j:=k) c hk') hc]at hs
    cases hs
  ·obtain rfl:k=h:=by omega
   exact hs⟩
theorem Sea.upF {xs:List Int} {n:Int} {i:Nat} (s:Sea (fun x=>decide (x≤n)) xs i i) (ha:Asc xs):upF xs n=i :=
 z3q ha s.jl (fun k h=>of_decide_eq_true (s.lo k h)) (fun k h h'=>by have:=of_decide_eq_false (s.hi k h h');omega)
theorem Sea.belF {xs:List Int} {n:Int} {i:Nat} (s:Sea (fun x=>decide (x<n)) xs i i) (ha:Asc xs):belF xs n=i :=
 zv4 ha s.jl (fun k h=>of_decide_eq_true (s.lo k h)) (fun k h h'=>by have:=of_decide_eq_false (s.hi k h h');omega)
def ziz (bs:List Bool) (l:List Int):Prop:=bs.length=16∧∀j:Nat,j<16→bs.getD j false=decide ((j:Int)∈l)
theorem ziz.none:ziz (List.replicate 16 false) []:=⟨rfl,fun j hj=>by
 rw[List.getD_eq_getElem?_getD,List.getElem?_replicate,if_pos hj];simp⟩
theorem ziz.snoc {bs:List Bool} {l:List Int} {x:Int} (h:ziz bs l) (h0:0≤x) (h1:x<16):ziz (bs.set x.toNat true) (l++[x]):=by
 refine⟨by rw[List.length_set];exact h.1,fun j hj=>?_⟩
 rw[z7 _ _ _ _ _ (by rw[h.1];omega)]
 split
 ·rename_i e
  have:(j:Int)=x:=by omega
  rw[this];simp
 ·rename_i e
  have:¬(j:Int)=x:=by omega
  rw[h.2 j hj]
  simp[this]
theorem ziz.at {bs:List Bool} {l:List Int} {x:Int} (h:ziz bs l) (h0:0≤x) (h1:x<16):bs.getD x.toNat false=decide (x∈l):=by
 rw[h.2 x.toNat (by omega)]
 rw[show((x.toNat:Nat):Int)=x by omega]
def tcF (ps:List Pg):List Int→Nat
 |[]=>0
 |a::t=>if tcF ps t=t.length∧(zb ps a).keys.length=4 then t.length+1 else tcF ps t
theorem zzf {ps:List Pg}:∀{l:List Int},tcF ps l≤l.length
 |[]=>Nat.le_refl _
 |a::t=>by
  have:=zzf (ps:=ps) (l:=t)
  unfold tcF
  split
  ·exact Nat.le_refl _
  ·exact Nat.le_succ_of_le this
theorem zgx {a:Int} {t:List Int} {k:Nat} (h:k<t.length):(a::t).getD (t.length-k) 0=t.getD (t.length-1-k) 0:=by
 rw[show t.length-k=(t.length-1-k)+1 by omega,List.getD_cons_succ]
theorem z1j {ps:List Pg}:∀{l:List Int},(∀k,k<tcF ps l→(zb ps (l.getD (l.length-1-k) 0)).keys.length=4)∧(tcF ps l<l.length→(zb ps (l.getD (l.length-1-tcF ps l) 0)).keys.length≠4)
 |[]=>⟨fun k hk=>by simp[tcF]at hk,fun h=>by simp[tcF]at h⟩
 |a::t=>by
  obtain⟨i1,i2⟩:=z1j (ps:=ps) (l:=t)
  have hle:=zzf (ps:=ps) (l:=t)
  unfold tcF
  rw[List.length_cons,Nat.add_sub_cancel]
  split
  ·rename_i c
   refine⟨fun k hk=>?_,fun h=>absurd h (Nat.lt_irrefl _)⟩
   by_cases ck:k=t.length
   ·rw[ck,Nat.sub_self,List.getD_cons_zero];exact c.2
   ·rw[zgx (by omega)];exact i1 k (by omega)
  ·rename_i c
   refine⟨fun k hk=>by rw[zgx (by omega)];exact i1 k hk,fun h=>?_⟩
   by_cases ck:tcF ps t=t.length
   ·rw[ck,Nat.sub_self,List.getD_cons_zero];exact fun hc=>c ⟨ck,hc⟩
   ·rw[zgx (by omega)];exact i2 (by omega)
theorem z25 {ps:List Pg} {x:Int}:∀{d:Nat} {a:Int},x∉(zb ps (lfF ps x (d+1) a)).keys→zea ps x (d+1) a=tcF ps (ptF ps x (d+1) a)
 |0,a,h=>by
  have h:x∉(zb ps a).keys:=h
  have e:tcF ps (ptF ps x (0+1) a)=if (zb ps a).keys.length=4 then 1 else 0:=by
   show tcF ps [a]=_
   simp[tcF]
  have e2:zea ps x (0+1) a=if x∉(zb ps a).keys∧(zb ps a).keys.length=4 then 1 else 0:=rfl
  rw[e,e2]
  by_cases c:(zb ps a).keys.length=4
  ·rw[if_pos ⟨h,c⟩,if_pos c]
  ·rw[if_neg (fun hc=>c hc.2),if_neg c]
 |d+1,a,h=>by
  have i:=z25 (d:=d) (a:=(zb ps a).kids.getD (upF (zb ps a).keys x) 0) h
  have hl:(ptF ps x (d+1) ((zb ps a).kids.getD (upF (zb ps a).keys x) 0)).length=d+1:=zg1
  show(if zea ps x (d+1) _=d+1∧(zb ps a).keys.length=4 then d+2 else zea ps x (d+1) _)=tcF ps (a::ptF ps x (d+1) _)
  rw[tcF,hl,i]
theorem z28 {ps:List Pg} {x:Int}:∀{d:Nat} {a:Int},x∈(zb ps (lfF ps x (d+1) a)).keys→zea ps x (d+1) a=0
 |0,a,h=>if_neg (fun hc=>hc.1 h)
 |d+1,a,h=>by
  have i:=z28 (d:=d) (a:=(zb ps a).kids.getD (upF (zb ps a).keys x) 0) h
  show(if zea ps x (d+1) _=d+1∧(zb ps a).keys.length=4 then d+2 else zea ps x (d+1) _)=0
  rw[i,if_neg (by omega)]
def zl3 (p:Pg):Bool:=decide (1≤p.keys.length∧p.keys.length≤5)&&za2 p.keys&&decide (p.kids.length=p.keys.length+1)&&(p.kids.all fun x=>decide (0≤x∧x≤15))&&decide p.kids.Nodup
def vl1 (xs:List Int):Bool:=xs.all fun x=>decide (-1000≤x∧x≤1000)
def zin (p:Pg):Bool :=
 if 4<p.keys.length then false else if za2 p.keys=false then false
 else if p.kids.length=0 then decide (p.vals.length=p.keys.length)&&vl1 p.vals
 else decide (p.vals.length=0)&&zl3 p
def unN (l:List Int):Nat:=(l.getD 0 0).toNat / 2
def unS (l:List Int):Nat:=2*unN l+2+(l.getD 0 0).toNat % 2
structure UnH (l:List Int):Prop where
 h0:0≤l.getD 0 0
 h9:l.getD 0 0≤9
 len:unS l≤l.length
theorem ztf {p:Pg} (h:zin p=true):p.keys.length≤4∧((p.kids.length=0∧p.vals.length=p.keys.length)∨(p.kids.length=p.keys.length+1∧p.vals.length=0)):=by
 unfold zin at h
 repeat' split at h
 all_goals first|(cases h;done)|skip
 ·rename_i c1 c2 c3
  rw[Bool.and_eq_true,decide_eq_true_eq]at h
  exact⟨by omega,.inl ⟨c3,h.1⟩⟩
 ·rename_i c1 c2 c3
  unfold zl3 at h
  simp only[Bool.and_eq_true,decide_eq_true_eq]at h
  exact⟨by omega,.inr ⟨h.2.1.1.2,h.1⟩⟩
theorem zs9 {f:Int→List Int}:∀{l:List Int},(l.flatMap f).Nodup→(∀x∈l,x∈f x)→l.Nodup
 |[],_,_=>List.nodup_nil
 |a::t,h,hf=>by
  rw[List.flatMap_cons,List.nodup_append]at h
  obtain⟨_,h2,h3⟩:=h
  rw[List.nodup_cons]
  exact⟨fun ha=>h3 a (hf a (by simp)) a (List.mem_flatMap.2 ⟨a,ha,hf a (by simp)⟩) rfl,zs9 h2 fun x hx=>hf x (List.mem_cons_of_mem _ hx)⟩
theorem zoz {f:Int→List Int}:∀{l:List Int},(l.flatMap f).Nodup→∀x∈l,(f x).Nodup
 |[],_,x,hx=>by cases hx
 |a::t,h,x,hx=>by
  rw[List.flatMap_cons,List.nodup_append]at h
  rcases List.mem_cons.1 hx with rfl|hx
  ·exact h.1
  ·exact zoz h.2.1 x hx
structure PgOk (ps:List Pg) (p:Pg):Prop where
 vk:za2 p.keys=true
 k4:p.keys.length≤4
 c:(p.kids=[]∧p.vals.length=p.keys.length∧∀v∈p.vals,-1000≤v∧v≤1000)∨(1≤p.keys.length∧p.vals=[]∧p.kids.length=p.keys.length+1∧(∀k∈p.kids,0≤k∧k<ps.length)∧p.kids.Nodup)
theorem zs5 {ps:List Pg} {root:Int}:∀{d:Nat} {a lo hi:Int},pgF ps root d a lo hi=true→(wkF ps d a).Nodup→∀x∈wkF ps d a,PgOk ps (zb ps x)
 |0,_,_,_,h,_,_,_=>by cases h
 |d+1,a,lo,hi,h,hn,x,hx=>by
  obtain⟨h1,h2,h3,h4,h5⟩:=zfc.1 h
  have hn:(a::(zb ps a).kids.flatMap (wkF ps d)).Nodup:=hn
  have hx:x∈a::(zb ps a).kids.flatMap (wkF ps d):=hx
  rw[List.nodup_cons]at hn
  by_cases c:d=0
  ·rw[if_pos c]at h5
   rcases List.mem_cons.1 hx with rfl|hx
   ·exact⟨h1,h2,.inl h5⟩
   ·rw[h5.1]at hx;cases hx
  ·rw[if_neg c]at h5
   obtain⟨e,rfl⟩:∃e,d=e+1:=⟨d-1,by omega⟩
   rcases List.mem_cons.1 hx with rfl|hx
   ·exact⟨h1,h2,.inr ⟨h5.1,h5.2.1,h5.2.2.1,h5.2.2.2.1,zs9 hn.2 fun c _=>zas⟩⟩
   ·obtain⟨c,hc,hx⟩:=List.mem_flatMap.1 hx
    obtain⟨l,r,hf⟩:=Seg.mem h5.2.2.2.2 c hc
    exact zs5 hf (zoz hn.2 c hc) x hx
theorem zl6 {root:Int} {ps:List Pg} (h:vTree root ps=true) {i:Int} (h0:0≤i) (h1:i<ps.length):PgOk ps (zb ps i):=by
 have v:=za0 h
 have hw:=v.v0.cover h0 h1
 unfold vTree at h
 repeat' split at h
 all_goals first|(cases h;done)|skip
 rename_i g1 g2 g3 g4 g5
 exact zs5 (by simpa using g4) (Decidable.of_not_not g5) i hw
theorem PgOk.fit {ps:List Pg} {p:Pg} (h:PgOk ps p) (hl:ps.length≤16):zin p=true:=by
 unfold zin
 rw[if_neg (by have:=h.k4;omega),if_neg (by rw[h.vk];decide)]
 rcases h.c with ⟨c1,c2,c3⟩|⟨c1,c2,c3,c4,c5⟩
 ·rw[if_pos (by rw[c1];rfl),decide_eq_true c2,Bool.true_and]
  exact List.all_eq_true.2 fun x hx=>decide_eq_true (c3 x hx)
 ·rw[if_neg (by omega),decide_eq_true (by rw[c2];rfl),Bool.true_and]
  unfold zl3
  rw[decide_eq_true (show 1≤p.keys.length∧p.keys.length≤5 by have:=h.k4;omega),h.vk,decide_eq_true c3,decide_eq_true c5]
  simp only[Bool.true_and,Bool.and_true]
  exact List.all_eq_true.2 fun x hx=>decide_eq_true (by have:=c4 x hx;omega)
theorem PgOk.inr {ps:List Pg} {p:Pg} (h:PgOk ps p) (hl:ps.length≤16) (hk:p.kids≠[]):zl3 p=true:=by
 have:=h.fit hl
 unfold zin at this
 rw[if_neg (by have:=h.k4;omega),if_neg (by rw[h.vk];decide),if_neg (fun hc=>hk (List.eq_nil_of_length_eq_zero hc)),Bool.and_eq_true]at this
 exact this.2
theorem zrs {root:Int} {ps:List Pg} (h:vTree root ps=true):∀p∈ps,zin p=true:=by
 intro p hp
 obtain⟨i,hi,rfl⟩:=List.getElem_of_mem hp
 have e:zb ps (i:Int)=ps[i]:=by show ps.getD ((i:Int).toNat) _=_;rw[Int.toNat_natCast,List.getD_eq_getElem?_getD,List.getElem?_eq_getElem hi];rfl
 rw[←e]
 exact(zl6 h (by omega) (by omega)).fit (za0 h).l16
abbrev VS:=List Bool×Int
def zim (V:Int→Int→Int→VS→Option VS) (lo hi:Int) (ks cs:List Int):Nat→VS→Option VS
 |0,s=>some s
 |i+1,s=>(zim V lo hi ks cs i s).bind (V (cs.getD i 0) (if 0<i then ks.getD (i-1) 0 else lo) (if i<ks.length then ks.getD i 0 else hi))
theorem zzy {V:Int→Int→Int→VS→Option VS} {lo hi:Int} {ks cs:List Int} {s:VS} {i:Nat} (h:zim V lo hi ks cs i s=none):∀j,i≤j→zim V lo hi ks cs j s=none:=by
 intro j hj
 induction j with
 |zero =>
  have:i=0:=by omega
  subst this;exact h
 |succ j ih =>
  by_cases c:i=j+1
  ·rw[←c];exact h
  ·rw[zim,ih (by omega)];rfl
theorem zrj {V:Int→Int→Int→VS→Option VS} {lo hi k c:Int} {ks cs:List Int}:∀(i:Nat) (s:VS),zim V lo hi (k::ks) (c::cs) (i+1) s=(V c lo k s).bind (zim V k hi ks cs i)
 |0,s=>by
  show(some s).bind _=(V c lo k s).bind some
  rw[Option.bind_some,Option.bind_fun_some];simp
 |i+1,s=>by
  rw[zim,zrj i s,Option.bind_assoc]
  congr 1
  funext t
  rw[zim]
  congr 1
  rw[List.getD_cons_succ,if_pos (Nat.succ_pos i),Nat.add_sub_cancel]
  have e1:(k::ks).getD i 0=if 0<i then ks.getD (i-1) 0 else k:=by
   cases i with
   |zero=>rfl
   |succ i=>rw[if_pos (Nat.succ_pos i),Nat.add_sub_cancel,List.getD_cons_succ]
  rw[e1,List.length_cons,List.getD_cons_succ]
  by_cases c:i<ks.length
  ·rw[if_pos c,if_pos (show i+1<ks.length+1 by omega)]
  ·rw[if_neg c,if_neg (show ¬i+1<ks.length+1 by omega)]
theorem ztm {V:Int→Int→Int→VS→Option VS} {hi:Int}:∀{ks cs:List Int} {lo:Int} {s:VS},cs.length=ks.length+1→zim V lo hi ks cs cs.length s=zkg V lo hi ks cs s
 |[],[c],lo,s,_=>by
  show(some s).bind _=V c lo hi s
  rw[Option.bind_some];simp
 |[],[],_,_,h=>by simp at h
 |[],_::_::_,_,_,h=>by simp at h
 |_::_,[],_,_,h=>by simp at h
 |k::ks,c::cs,lo,s,h=>by
  rw[List.length_cons,zrj,zkg]
  congr 1
  funext t
  exact ztm (by simpa using h)
abbrev tab (f:Nat→Bool):List Bool:=[f 0,f 1,f 2,f 3,f 4,f 5,f 6,f 7,f 8,f 9,f 10,f 11,f 12,f 13,f 14,f 15]
theorem z3k {bs:List Bool} (h:bs.length=16):bs=tab fun i=>bs.getD i false:=by
 match bs,h with
 |[a0,a1,a2,a3,a4,a5,a6,a7,a8,a9,a10,a11,a12,a13,a14,a15],_=>rfl
theorem z23 (f:Nat→Bool) (i:Nat) (b:Bool):(tab f).set i b=tab fun j=>((tab f).set i b).getD j false:=z3k (by rw[List.length_set];rfl)
theorem zsw {ps:List Pg} (h:pB ps) (k:Nat) (q:Pg) (a:q.keys.length≤4294967296) (b:q.kids.length≤4294967296) (c:q.vals.length≤4294967296):pB (ps.set k q):=by
 have key:∀i:Int,zb (ps.set k q) i=q∨zb (ps.set k q) i=zb ps i:=by
  intro i
  by_cases hk:k<ps.length
  ·unfold zb
   rw[z7 _ _ _ _ _ hk]
   split
   ·exact .inl rfl
   ·exact .inr rfl
  ·rw[List.set_eq_of_length_le (by omega)];exact .inr rfl
 refine⟨by rw[List.length_set];exact h.len,fun i=>?_,fun i=>?_,fun i=>?_⟩
 ·rcases key i with e|e<;>rw[e]
  ·exact a
  ·exact h.keys i
 ·rcases key i with e|e<;>rw[e]
  ·exact b
  ·exact h.kids i
 ·rcases key i with e|e<;>rw[e]
  ·exact c
  ·exact h.vals i
theorem z14 {ps:List Pg} (h:pB ps) (k:Nat):pB (ps.take k):=by
 have key:∀i:Int,zb (ps.take k) i=⟨[],[],[]⟩∨zb (ps.take k) i=zb ps i:=by
  intro i
  unfold zb
  rw[List.getD_eq_getElem?_getD,List.getD_eq_getElem?_getD,List.getElem?_take]
  split
  ·exact .inr rfl
  ·exact .inl rfl
 refine⟨by rw[List.length_take];have:=h.len;omega,fun i=>?_,fun i=>?_,fun i=>?_⟩
 ·rcases key i with e|e<;>rw[e]
  ·exact Nat.zero_le _
  ·exact h.keys i
 ·rcases key i with e|e<;>rw[e]
  ·exact Nat.zero_le _
  ·exact h.kids i
 ·rcases key i with e|e<;>rw[e]
  ·exact Nat.zero_le _
  ·exact h.vals i
theorem znz {root:Int} {ps:List Pg} (h:vTree root ps=true) (i:Int):(zb ps i).keys.length≤4∧(zb ps i).kids.length≤5∧(zb ps i).vals.length≤4:=by
 unfold zb
 by_cases c:i.toNat<ps.length
 ·have hm:=zaq (⟨[],[],[]⟩:Pg) c
  have:=ztf (zrs h _ hm)
  omega
 ·rw[List.getD_eq_getElem?_getD,List.getElem?_eq_none (by omega)]
  exact⟨Nat.zero_le _,Nat.zero_le _,Nat.zero_le _⟩
theorem zzc {root:Int} {ps:List Pg} (h:vTree root ps=true):1≤ps.length∧ps.length≤16:=by
 obtain⟨_,v⟩:=zdk.1 h
 exact⟨v.l1,v.l16⟩
end Go.VL
