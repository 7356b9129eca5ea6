/- V-logic: PT15 PT21 PT16 PT17 PT18 PT19 PT20 -/
import Derived.Test.YtfogmgldlemngaaVPD
import Derived.Test.YtfogmgldlemngaaVMA
namespace Go.VL
set_option linter.unusedVariables false
set_option linter.unusedSimpArgs false
def lfF (ps:List Pg) (key:Int):Nat→Int→Int
 |0,a=>a
 |1,a=>a
 |d+2,a=>lfF ps key (d+1) ((zb ps a).kids.getD (upF (zb ps a).keys key) 0)
theorem ztj {n:Int}:∀{xs:List Int} {i:Nat},i<upF xs n→xs.getD i 0≤n
 |[],i,h=>by simp[upF]at h
 |a::t,i,h=>by
  unfold upF at h
  rw[List.takeWhile_cons]at h
  by_cases c:a≤n
  ·rw[decide_eq_true c,if_pos rfl]at h
   cases i with
   |zero=>simpa using c
   |succ i=>rw[List.getD_cons_succ];exact ztj (xs:=t) (by unfold upF;simpa using h)
  ·rw[decide_eq_false c]at h;simp at h
theorem zub {n:Int}:∀{xs:List Int} {i:Nat},Asc xs→upF xs n≤i→i<xs.length→n<xs.getD i 0
 |[],i,_,_,h=>by simp at h
 |a::t,i,ha,h,hi=>by
  unfold upF at h
  rw[List.takeWhile_cons]at h
  rw[zcf]at ha
  by_cases c:a≤n
  ·rw[decide_eq_true c,if_pos rfl]at h
   cases i with
   |zero=>simp at h
   |succ i=>rw[List.getD_cons_succ];exact zub (xs:=t) ha.2 (by unfold upF;simpa using h) (by simpa using hi)
  ·cases i with
   |zero=>simpa using c
   |succ i =>
    rw[List.getD_cons_succ]
    have:=ha.1 _ (zaq 0 (show i<t.length by simpa using hi))
    omega
def zei (xs:List Pr) (key:Int):Int:=if key∈xs.map Pr.key then(xs.getD (belF (xs.map Pr.key) key) ⟨0,0⟩).value else 0
theorem z3q {xs:List Int} {n:Int} {i:Nat} (ha:Asc xs) (hi:i≤xs.length) (h1:∀k,k<i→xs.getD k 0≤n) (h2:∀k,i≤k→k<xs.length→n<xs.getD k 0):upF xs n=i:=by
 have hl:=zpr xs n
 rcases Nat.lt_trichotomy (upF xs n) i with c|c|c
 ·have:=zub ha (Nat.le_refl (upF xs n)) (by omega)
  have:=h1 _ c
  omega
 ·exact c
 ·have:=ztj c
  have:=h2 i (Nat.le_refl _) (by omega)
  omega
theorem zvs {n:Int}:∀{xs:List Int} {i:Nat},i<belF xs n→xs.getD i 0<n
 |[],i,h=>by simp[belF]at h
 |a::t,i,h=>by
  rw[zij]at h
  split at h
  ·match i,h with
   |0,h=>assumption
   |i+1,h=>rw[List.getD_cons_succ];exact zvs (by omega)
  ·omega
theorem zwc {n:Int}:∀{xs:List Int} {i:Nat},Asc xs→belF xs n≤i→i<xs.length→n≤xs.getD i 0
 |[],i,_,h,h'=>by simp at h'
 |a::t,i,ha,h,h'=>by
  rw[zij]at h
  split at h
  ·match i,h,h' with
   |i+1,h,h'=>rw[List.getD_cons_succ];exact zwc (List.pairwise_cons.1 ha).2 (by omega) (by simpa using h')
  ·match i with
   |0=>rw[List.getD_cons_zero];omega
   |i+1 =>
    have:=zez ha (i:=0) (j:=i+1) (by omega) h'
    rw[List.getD_cons_zero]at this
    omega
theorem zv4 {xs:List Int} {n:Int} {i:Nat} (ha:Asc xs) (hi:i≤xs.length) (h1:∀k,k<i→xs.getD k 0<n) (h2:∀k,i≤k→k<xs.length→n≤xs.getD k 0):belF xs n=i:=by
 have hl:=zvm xs n
 rcases Nat.lt_trichotomy (belF xs n) i with c|c|c
 ·have:=zwc ha (Nat.le_refl (belF xs n)) (by omega)
  have:=h1 _ c
  omega
 ·exact c
 ·have:=zvs c
  have:=h2 i (Nat.le_refl _) (by omega)
  omega
structure Sea (small:Int→Bool) (xs:List Int) (i j:Nat):Prop where
 ij:i≤j
 jl:j≤xs.length
 lo:∀k,k<i→small (xs.getD k 0)=true
 hi:∀k,j≤k→k<xs.length→small (xs.getD k 0)=false
theorem Sea.first {small:Int→Bool} {xs:List Int}:Sea small xs 0 xs.length:=⟨Nat.zero_le _,Nat.le_refl _,fun k h=>absurd h (Nat.not_lt_zero _),fun k h h'=>absurd h' (by omega)⟩
theorem Sea.up {small:Int→Bool} {xs:List Int} {i j h:Nat} (s:Sea small xs i j) (ha:Asc xs) (hm:∀a b,a<b→small b=true→small a=true) (h1:i≤h) (h2:h<j) (hs:small (xs.getD h 0)=true):Sea small xs (h+1) j :=
 ⟨h2,s.jl,fun k hk=>by
  rcases Nat.lt_or_ge k h with c|c
  ·exact hm _ _ (zez ha (i:=k) (j:=h) c (by have:=s.jl;omega)) hs
  ·obtain rfl:k=h:=by omega
   exact hs,s.hi⟩
theorem Sea.down {small:Int→Bool} {xs:List Int} {i j h:Nat} (s:Sea small xs i j) (ha:Asc xs) (hm:∀a b,a<b→small b=true→small a=true) (h1:i≤h) (h2:h<j) (hs:small (xs.getD h 0)=false):Sea small xs i h :=
 ⟨h1,by have:=s.jl;omega,s.lo,fun k hk hk'=>by
  rcases Nat.lt_or_ge h k with c|c
  ·cases hc:small (xs.getD k 0)with
   |false=>rfl
   |true =>
    rw[hm _ _ (zez ha (i:=h) (j:=k) c hk') hc]at hs
    cases hs
  ·obtain rfl:k=h:=by omega
   exact hs⟩
theorem Sea.upF {xs:List Int} {n:Int} {i:Nat} (s:Sea (fun x=>decide (x≤n)) xs i i) (ha:Asc xs):upF xs n=i :=
 z3q ha s.jl (fun k h=>of_decide_eq_true (s.lo k h)) (fun k h h'=>by have:=of_decide_eq_false (s.hi k h h');omega)
theorem Sea.belF {xs:List Int} {n:Int} {i:Nat} (s:Sea (fun x=>decide (x<n)) xs i i) (ha:Asc xs):belF xs n=i :=
 zv4 ha s.jl (fun k h=>of_decide_eq_true (s.lo k h)) (fun k h h'=>by have:=of_decide_eq_false (s.hi k h h');omega)
def ziz (bs:List Bool) (l:List Int):Prop:=bs.length=16∧∀j:Nat,j<16→bs.getD j false=decide ((j:Int)∈l)
theorem ziz.none:ziz (List.replicate 16 false) []:=⟨rfl,fun j hj=>by
 rw[List.getD_eq_getElem?_getD,List.getElem?_replicate,if_pos hj];simp⟩
theorem ziz.snoc {bs:List Bool} {l:List Int} {x:Int} (h:ziz bs l) (h0:0≤x) (h1:x<16):ziz (bs.set x.toNat true) (l++[x]):=by
 refine⟨by rw[List.length_set];exact h.1,fun j hj=>?_⟩
 rw[z7 _ _ _ _ _ (by rw[h.1];omega)]
 split
 ·rename_i e
  have:(j:Int)=x:=by omega
  rw[this];simp
 ·rename_i e
  have:¬(j:Int)=x:=by omega
  rw[h.2 j hj]
  simp[this]
theorem ziz.at {bs:List Bool} {l:List Int} {x:Int} (h:ziz bs l) (h0:0≤x) (h1:x<16):bs.getD x.toNat false=decide (x∈l):=by
 rw[h.2 x.toNat (by omega)]
 rw[show((x.toNat:Nat):Int)=x by omega]
def zl3 (p:Pg):Bool:=decide (1≤p.keys.length∧p.keys.length≤5)&&za2 p.keys&&decide (p.kids.length=p.keys.length+1)&&(p.kids.all fun x=>decide (0≤x∧x≤15))&&decide p.kids.Nodup
def vl1 (xs:List Int):Bool:=xs.all fun x=>decide (-1000≤x∧x≤1000)
def zin (p:Pg):Bool :=
 if 4<p.keys.length then false else if za2 p.keys=false then false
 else if p.kids.length=0 then decide (p.vals.length=p.keys.length)&&vl1 p.vals
 else decide (p.vals.length=0)&&zl3 p
def z47 (l:List Int):Int:=l.foldl (fun n x=>(n*41+x).tmod 2003) 23
def hdF (p:Pg):Int:=2*(p.keys.length:Int)+(if 0<p.kids.length then 1 else 0)
def pkB (p:Pg):List Int:=hdF p::(p.keys++(p.kids++p.vals.map (· + 1000)))
def pkF (p:Pg):List Int:=pkB p++[z47 (pkB p)]
def unN (l:List Int):Nat:=(l.getD 0 0).toNat / 2
def unS (l:List Int):Nat:=2*unN l+2+(l.getD 0 0).toNat % 2
def unP (l:List Int):Pg :=
 if (l.getD 0 0).toNat % 2=1 then⟨(l.take (unN l+1)).drop 1,(l.take (unS l-1)).drop (unN l+1),[]⟩
 else⟨(l.take (unN l+1)).drop 1,[],((l.take (unS l-1)).drop (unN l+1)).map (· - 1000)⟩
structure UnH (l:List Int):Prop where
 h0:0≤l.getD 0 0
 h9:l.getD 0 0≤9
 len:unS l≤l.length
def zow (l:List Int):Bool :=
 if l.length=0 then false else if ¬(0≤l.getD 0 0∧l.getD 0 0≤9)then false else if l.length<unS l then false
 else if zin (unP l)=false then false else decide (l.getD (unS l-1) 0=z47 (l.take (unS l-1)))
theorem zjv {l:List Int}:zow l=true↔UnH l∧zin (unP l)=true∧l.getD (unS l-1) 0=z47 (l.take (unS l-1)):=by
 unfold zow
 have hs:2≤unS l:=by unfold unS;omega
 constructor
 ·intro h
  repeat' split at h
  all_goals first|(cases h;done)|skip
  rename_i c1 c2 c3 c4
  have c2:=Decidable.of_not_not c2
  exact⟨⟨c2.1,c2.2,by omega⟩,by simpa using c4,of_decide_eq_true h⟩
 ·rintro⟨⟨h0,h9,hl⟩,h2,h3⟩
  rw[if_neg (by omega),if_neg (fun hc=>hc ⟨h0,h9⟩),if_neg (by omega),if_neg (by rw[h2];decide)]
  exact decide_eq_true h3
theorem take_cons' {l:List Int} {n:Nat} (h:0<l.length):l.take (n+1)=l.getD 0 0::(l.take (n+1)).drop 1:=by
 match l,h with
 |a::t,_=>rfl
theorem pk_un {l:List Int} (h:UnH l):pkB (unP l)=l.take (unS l-1):=by
 obtain⟨h0,h9,hl⟩:=h
 have hn:unN l=(l.getD 0 0).toNat / 2:=rfl
 have hS:unS l=2*unN l+2+(l.getD 0 0).toNat % 2:=rfl
 have hk:((l.take (unN l+1)).drop 1).length=unN l:=by rw[List.length_drop,List.length_take];omega
 have hr:((l.take (unS l-1)).drop (unN l+1)).length=unS l-1-(unN l+1):=by rw[List.length_drop,List.length_take];omega
 have e:l.take (unS l-1)=l.getD 0 0::((l.take (unN l+1)).drop 1++(l.take (unS l-1)).drop (unN l+1)):=by
  have e1:l.take (unN l+1)=l.getD 0 0::(l.take (unN l+1)).drop 1:=take_cons' (by omega)
  have e2:l.take (unS l-1)=(l.take (unS l-1)).take (unN l+1)++(l.take (unS l-1)).drop (unN l+1):=(List.take_append_drop _ _).symm
  rw[List.take_take,Nat.min_eq_left (by omega)]at e2
  rw[←List.cons_append,←e1,←e2]
 rw[e]
 unfold pkB unP
 by_cases c:(l.getD 0 0).toNat % 2=1
 ·rw[if_pos c]
  have hh:hdF ⟨(l.take (unN l+1)).drop 1,(l.take (unS l-1)).drop (unN l+1),[]⟩=l.getD 0 0:=by
   unfold hdF
   dsimp only
   rw[hk,hr,if_pos (by omega)]
   omega
  rw[hh]
  simp
 ·rw[if_neg c]
  have hh:hdF ⟨(l.take (unN l+1)).drop 1,[],((l.take (unS l-1)).drop (unN l+1)).map (· - 1000)⟩=l.getD 0 0:=by
   unfold hdF
   dsimp only
   rw[hk,if_neg (by simp)]
   omega
  rw[hh,List.map_map]
  have hm:((fun x:Int=>x+1000)∘fun x=>x-1000)=id:=by funext x;show x-1000+1000=x;omega
  rw[hm,List.map_id];rfl
theorem zqh (l:List Int):2≤unS l:=by unfold unS;omega
theorem zwb {l:List Int} (h:UnH l):pkF (unP l)=l.take (unS l)↔l.getD (unS l-1) 0=z47 (l.take (unS l-1)):=by
 have hs:=zqh l
 have hl:=h.len
 have e:l.take (unS l)=l.take (unS l-1)++[l.getD (unS l-1) 0]:=by
  have:=zat (0:Int) (xs:=l) (i:=unS l-1) (by omega)
  rwa [show unS l-1+1=unS l by omega]at this
 unfold pkF
 rw[pk_un h,e]
 constructor
 ·intro hc
  have:=List.append_cancel_left hc
  simpa using this.symm
 ·intro hc;rw[hc]
theorem z8t {a b:List Int} {i:Nat} (h:i<a.length):(a++b).getD i 0=a.getD i 0:=by
 rw[List.getD_eq_getElem?_getD,List.getElem?_append_left h,←List.getD_eq_getElem?_getD]
theorem z3c {l s:List Int} (h:UnH l):UnH (l++s)∧unS (l++s)=unS l∧unP (l++s)=unP l:=by
 have hs:=zqh l
 have hl:=h.len
 have g0:(l++s).getD 0 0=l.getD 0 0:=z8t (by omega)
 have hn:unN (l++s)=unN l:=by unfold unN;rw[g0]
 have hS:unS (l++s)=unS l:=by unfold unS;rw[g0,hn]
 have hSd:unS l=2*unN l+2+(l.getD 0 0).toNat % 2:=rfl
 refine⟨⟨by rw[g0];exact h.h0,by rw[g0];exact h.h9,by rw[hS,List.length_append];omega⟩,hS,?_⟩
 unfold unP
 rw[g0,hn,hS,List.take_append_of_le_length (by omega),List.take_append_of_le_length (by omega)]
theorem zt9 {l s:List Int} (h:zow l=true):zow (l++s)=true∧unS (l++s)=unS l∧unP (l++s)=unP l:=by
 obtain⟨h1,h2,h3⟩:=zjv.1 h
 have hs:=zqh l
 have hl:=h1.len
 obtain⟨a1,a2,a3⟩:=z3c (s:=s) h1
 refine⟨zjv.2 ⟨a1,by rw[a3];exact h2,?_⟩,a2,a3⟩
 rw[a2,List.take_append_of_le_length (by omega),z8t (by omega)]
 exact h3
theorem ztf {p:Pg} (h:zin p=true):p.keys.length≤4∧((p.kids.length=0∧p.vals.length=p.keys.length)∨(p.kids.length=p.keys.length+1∧p.vals.length=0)):=by
 unfold zin at h
 repeat' split at h
 all_goals first|(cases h;done)|skip
 ·rename_i c1 c2 c3
  rw[Bool.and_eq_true,decide_eq_true_eq]at h
  exact⟨by omega,.inl ⟨c3,h.1⟩⟩
 ·rename_i c1 c2 c3
  unfold zl3 at h
  simp only[Bool.and_eq_true,decide_eq_true_eq]at h
  exact⟨by omega,.inr ⟨h.2.1.1.2,h.1⟩⟩
theorem un_pk {p:Pg} (h:zin p=true) (s:List Int):zow (pkF p++s)=true∧unS (pkF p++s)=(pkF p).length∧unP (pkF p++s)=p:=by
 obtain⟨hk,hc⟩:=ztf h
 have g0:(pkF p).getD 0 0=hdF p:=rfl
 have hlB:(pkB p).length=1+p.keys.length+p.kids.length+p.vals.length:=by unfold pkB;simp;omega
 have hl:(pkF p).length=(pkB p).length+1:=by unfold pkF;simp
 have key:UnH (pkF p)∧unS (pkF p)=(pkF p).length∧unP (pkF p)=p:=by
  obtain⟨K,C,V⟩:=p
  dsimp only at hk hc hlB
  have eT:∀n,n≤(pkB ⟨K,C,V⟩).length→(pkF ⟨K,C,V⟩).take n=(pkB ⟨K,C,V⟩).take n:=fun n hn=>by
   unfold pkF;exact List.take_append_of_le_length hn
  rcases hc with ⟨c1,c2⟩|⟨c1,c2⟩
  ·have hh:hdF ⟨K,C,V⟩=2*(K.length:Int):=by unfold hdF;dsimp only;rw[if_neg (by omega)];omega
   have hN:unN (pkF ⟨K,C,V⟩)=K.length:=by unfold unN;rw[g0,hh];omega
   have hm:((pkF ⟨K,C,V⟩).getD 0 0).toNat % 2=0:=by rw[g0,hh];omega
   have hS:unS (pkF ⟨K,C,V⟩)=(pkF ⟨K,C,V⟩).length:=by unfold unS;rw[hN,hm,hl];omega
   have hC:C=[]:=List.eq_nil_of_length_eq_zero c1
   subst hC
   refine⟨⟨by rw[g0,hh];omega,by rw[g0,hh];omega,by rw[hS];exact Nat.le_refl _⟩,hS,?_⟩
   unfold unP
   rw[hm,if_neg (by decide),hN,hS,hl,Nat.add_sub_cancel,eT _ (Nat.le_refl _),eT _ (by omega),List.take_length]
   have e1:((pkB ⟨K,[],V⟩).take (K.length+1)).drop 1=K:=by
    unfold pkB;rw[List.take_succ_cons,List.drop_succ_cons,List.drop_zero,List.take_left' rfl]
   have e2:(pkB ⟨K,[],V⟩).drop (K.length+1)=V.map (· + 1000):=by
    unfold pkB;rw[List.drop_succ_cons,List.drop_left' rfl];rfl
   rw[e1,e2,List.map_map]
   have hf:((fun x:Int=>x-1000)∘fun x=>x+1000)=id:=by funext x;show x+1000-1000=x;omega
   rw[hf,List.map_id]
  ·have hh:hdF ⟨K,C,V⟩=2*(K.length:Int)+1:=by unfold hdF;dsimp only;rw[if_pos (by omega)]
   have hN:unN (pkF ⟨K,C,V⟩)=K.length:=by unfold unN;rw[g0,hh];omega
   have hm:((pkF ⟨K,C,V⟩).getD 0 0).toNat % 2=1:=by rw[g0,hh];omega
   have hS:unS (pkF ⟨K,C,V⟩)=(pkF ⟨K,C,V⟩).length:=by unfold unS;rw[hN,hm,hl];omega
   have hV:V=[]:=List.eq_nil_of_length_eq_zero c2
   subst hV
   refine⟨⟨by rw[g0,hh];omega,by rw[g0,hh];omega,by rw[hS];exact Nat.le_refl _⟩,hS,?_⟩
   unfold unP
   rw[hm,if_pos rfl,hN,hS,hl,Nat.add_sub_cancel,eT _ (Nat.le_refl _),eT _ (by omega),List.take_length]
   have e1:((pkB ⟨K,C,[]⟩).take (K.length+1)).drop 1=K:=by
    unfold pkB;rw[List.take_succ_cons,List.drop_succ_cons,List.drop_zero,List.take_left' rfl]
   have e2:(pkB ⟨K,C,[]⟩).drop (K.length+1)=C:=by
    unfold pkB;rw[List.drop_succ_cons,List.drop_left' rfl];simp
   rw[e1,e2]
 obtain⟨k1,k2,k3⟩:=key
 have hok:zow (pkF p)=true:=by
  refine zjv.2 ⟨k1,by rw[k3];exact h,(zwb k1).1 ?_⟩
  rw[k3,k2,List.take_length]
 obtain⟨a1,a2,a3⟩:=zt9 (s:=s) hok
 exact⟨a1,a2.trans k2,a3.trans k3⟩
def zob (root:Int) (ps:List Pg):List Int:=(ps.length:Int)::root::ps.flatMap pkF
def zkk:Nat→List Int→Option (List Pg×List Int)
 |0,r=>some ([],r)
 |k+1,r=>if zow r=true then(zkk k (r.drop (unS r))).map fun q=>(unP r::q.1,q.2)else none
def unT (l:List Int):Option (Int×List Pg) :=
 if l.length<2∨¬(1≤l.getD 0 0∧l.getD 0 0≤16)then none
 else match zkk (l.getD 0 0).toNat (l.drop 2)with
  |some (ps,[])=>if vTree (l.getD 1 0) ps=true then some (l.getD 1 0,ps)else none
  |_=>none
theorem zvz:∀{ps:List Pg} {s:List Int},(∀p∈ps,zin p=true)→zkk ps.length (ps.flatMap pkF++s)=some (ps,s)
 |[],s,_=>rfl
 |p::t,s,h=>by
  obtain⟨a1,a2,a3⟩:=un_pk (h p (by simp)) (t.flatMap pkF++s)
  have i:=zvz (ps:=t) (s:=s) fun q hq=>h q (List.mem_cons_of_mem _ hq)
  rw[List.length_cons,List.flatMap_cons,List.append_assoc,zkk,if_pos a1,a2,List.drop_left' rfl,i,a3]
  rfl
theorem zs9 {f:Int→List Int}:∀{l:List Int},(l.flatMap f).Nodup→(∀x∈l,x∈f x)→l.Nodup
 |[],_,_=>List.nodup_nil
 |a::t,h,hf=>by
  rw[List.flatMap_cons,List.nodup_append]at h
  obtain⟨_,h2,h3⟩:=h
  rw[List.nodup_cons]
  exact⟨fun ha=>h3 a (hf a (by simp)) a (List.mem_flatMap.2 ⟨a,ha,hf a (by simp)⟩) rfl,zs9 h2 fun x hx=>hf x (List.mem_cons_of_mem _ hx)⟩
theorem zoz {f:Int→List Int}:∀{l:List Int},(l.flatMap f).Nodup→∀x∈l,(f x).Nodup
 |[],_,x,hx=>by cases hx
 |a::t,h,x,hx=>by
  rw[List.flatMap_cons,List.nodup_append]at h
  rcases List.mem_cons.1 hx with rfl|hx
  ·exact h.1
  ·exact zoz h.2.1 x hx
structure PgOk (ps:List Pg) (p:Pg):Prop where
 vk:za2 p.keys=true
 k4:p.keys.length≤4
 c:(p.kids=[]∧p.vals.length=p.keys.length∧∀v∈p.vals,-1000≤v∧v≤1000)∨(1≤p.keys.length∧p.vals=[]∧p.kids.length=p.keys.length+1∧(∀k∈p.kids,0≤k∧k<ps.length)∧p.kids.Nodup)
theorem zs5 {ps:List Pg} {root:Int}:∀{d:Nat} {a lo hi:Int},pgF ps root d a lo hi=true→(wkF ps d a).Nodup→∀x∈wkF ps d a,PgOk ps (zb ps x)
 |0,_,_,_,h,_,_,_=>by cases h
 |d+1,a,lo,hi,h,hn,x,hx=>by
  obtain⟨h1,h2,h3,h4,h5⟩:=zfc.1 h
  have hn:(a::(zb ps a).kids.flatMap (wkF ps d)).Nodup:=hn
  have hx:x∈a::(zb ps a).kids.flatMap (wkF ps d):=hx
  rw[List.nodup_cons]at hn
  by_cases c:d=0
  ·rw[if_pos c]at h5
   rcases List.mem_cons.1 hx with rfl|hx
   ·exact⟨h1,h2,.inl h5⟩
   ·rw[h5.1]at hx;cases hx
  ·rw[if_neg c]at h5
   obtain⟨e,rfl⟩:∃e,d=e+1:=⟨d-1,by omega⟩
   rcases List.mem_cons.1 hx with rfl|hx
   ·exact⟨h1,h2,.inr ⟨h5.1,h5.2.1,h5.2.2.1,h5.2.2.2.1,zs9 hn.2 fun c _=>zas⟩⟩
   ·obtain⟨c,hc,hx⟩:=List.mem_flatMap.1 hx
    obtain⟨l,r,hf⟩:=Seg.mem h5.2.2.2.2 c hc
    exact zs5 hf (zoz hn.2 c hc) x hx
theorem zl6 {root:Int} {ps:List Pg} (h:vTree root ps=true) {i:Int} (h0:0≤i) (h1:i<ps.length):PgOk ps (zb ps i):=by
 have v:=za0 h
 have hw:=v.v0.cover h0 h1
 unfold vTree at h
 repeat' split at h
 all_goals first|(cases h;done)|skip
 rename_i g1 g2 g3 g4 g5
 exact zs5 (by simpa using g4) (Decidable.of_not_not g5) i hw
theorem PgOk.fit {ps:List Pg} {p:Pg} (h:PgOk ps p) (hl:ps.length≤16):zin p=true:=by
 unfold zin
 rw[if_neg (by have:=h.k4;omega),if_neg (by rw[h.vk];decide)]
 rcases h.c with ⟨c1,c2,c3⟩|⟨c1,c2,c3,c4,c5⟩
 ·rw[if_pos (by rw[c1];rfl),decide_eq_true c2,Bool.true_and]
  exact List.all_eq_true.2 fun x hx=>decide_eq_true (c3 x hx)
 ·rw[if_neg (by omega),decide_eq_true (by rw[c2];rfl),Bool.true_and]
  unfold zl3
  rw[decide_eq_true (show 1≤p.keys.length∧p.keys.length≤5 by have:=h.k4;omega),h.vk,decide_eq_true c3,decide_eq_true c5]
  simp only[Bool.true_and,Bool.and_true]
  exact List.all_eq_true.2 fun x hx=>decide_eq_true (by have:=c4 x hx;omega)
theorem PgOk.inr {ps:List Pg} {p:Pg} (h:PgOk ps p) (hl:ps.length≤16) (hk:p.kids≠[]):zl3 p=true:=by
 have:=h.fit hl
 unfold zin at this
 rw[if_neg (by have:=h.k4;omega),if_neg (by rw[h.vk];decide),if_neg (fun hc=>hk (List.eq_nil_of_length_eq_zero hc)),Bool.and_eq_true]at this
 exact this.2
theorem zrs {root:Int} {ps:List Pg} (h:vTree root ps=true):∀p∈ps,zin p=true:=by
 intro p hp
 obtain⟨i,hi,rfl⟩:=List.getElem_of_mem hp
 have e:zb ps (i:Int)=ps[i]:=by show ps.getD ((i:Int).toNat) _=_;rw[Int.toNat_natCast,List.getD_eq_getElem?_getD,List.getElem?_eq_getElem hi];rfl
 rw[←e]
 exact(zl6 h (by omega) (by omega)).fit (za0 h).l16
theorem yh3 {root:Int} {ps:List Pg} (h:vTree root ps=true):unT (zob root ps)=some (root,ps):=by
 have v:=za0 h
 have h1:=v.l1
 have h16:=v.l16
 have hu:=zvz (ps:=ps) (s:=[]) (zrs h)
 rw[List.append_nil]at hu
 have g0:(zob root ps).getD 0 0=ps.length:=rfl
 have g1:(zob root ps).getD 1 0=root:=rfl
 have gd:(zob root ps).drop 2=ps.flatMap pkF:=rfl
 unfold unT
 rw[g0,g1,gd,if_neg (by unfold zob;simp only[List.length_cons];omega),Int.toNat_natCast,hu]
 show(if vTree root ps=true then some (root,ps)else none)=_
 rw[if_pos h]
theorem zuc:∀{k:Nat} {r s t:List Int} {ps:List Pg},zkk k r=some (ps,s)→zkk k (r++t)=some (ps,s++t)
 |0,r,s,t,ps,h=>by cases h;rfl
 |k+1,r,s,t,ps,h=>by
  unfold zkk at h
  split at h
  ·rename_i c
   obtain⟨q,hq,e⟩:=Option.map_eq_some_iff.1 h
   obtain⟨qs,u⟩:=q
   cases e
   obtain⟨a1,a2,a3⟩:=zt9 (s:=t) c
   have hl:=(zjv.1 c).1.len
   rw[zkk,if_pos a1,a2,a3,List.drop_append_of_le_length hl,zuc hq];rfl
  ·cases h
theorem z0r {l:List Int} {r:Int×List Pg} (h:unT l=some r) (x:Int):unT (l++[x])=none:=by
 obtain⟨r1,ps⟩:=r
 unfold unT at h
 split at h
 ·cases h
 ·rename_i c
  split at h
  ·rename_i qs hq
   have hl:2≤l.length:=by omega
   unfold unT
   rw[z8t (by omega),if_neg (by rw[List.length_append];omega),List.drop_append_of_le_length hl,zuc hq]
   rfl
  ·cases h
theorem z4c {l:List Int} {r:Int×List Pg} (h:unT l=some r):unT (l.take (l.length-1))=none:=by
 cases hn:unT (l.take (l.length-1))with
 |none=>rfl
 |some q =>
  have hl:2≤l.length:=by
   unfold unT at h
   split at h
   ·cases h
   ·omega
  have:=z0r hn (l.getD (l.length-1) 0)
  have e:l.take (l.length-1)++[l.getD (l.length-1) 0]=l:=by
   rw[←zat (0:Int) (by omega),show l.length-1+1=l.length by omega,List.take_length]
  rw[e,h]at this
  cases this
abbrev VS:=List Bool×Int
def zim (V:Int→Int→Int→VS→Option VS) (lo hi:Int) (ks cs:List Int):Nat→VS→Option VS
 |0,s=>some s
 |i+1,s=>(zim V lo hi ks cs i s).bind (V (cs.getD i 0) (if 0<i then ks.getD (i-1) 0 else lo) (if i<ks.length then ks.getD i 0 else hi))
theorem zzy {V:Int→Int→Int→VS→Option VS} {lo hi:Int} {ks cs:List Int} {s:VS} {i:Nat} (h:zim V lo hi ks cs i s=none):∀j,i≤j→zim V lo hi ks cs j s=none:=by
 intro j hj
 induction j with
 |zero =>
  have:i=0:=by omega
  subst this;exact h
 |succ j ih =>
  by_cases c:i=j+1
  ·rw[←c];exact h
  ·rw[zim,ih (by omega)];rfl
theorem zrj {V:Int→Int→Int→VS→Option VS} {lo hi k c:Int} {ks cs:List Int}:∀(i:Nat) (s:VS),zim V lo hi (k::ks) (c::cs) (i+1) s=(V c lo k s).bind (zim V k hi ks cs i)
 |0,s=>by
  show(some s).bind _=(V c lo k s).bind some
  rw[Option.bind_some,Option.bind_fun_some];simp
 |i+1,s=>by
  rw[zim,zrj i s,Option.bind_assoc]
  congr 1
  funext t
  rw[zim]
  congr 1
  rw[List.getD_cons_succ,if_pos (Nat.succ_pos i),Nat.add_sub_cancel]
  have e1:(k::ks).getD i 0=if 0<i then ks.getD (i-1) 0 else k:=by
   cases i with
   |zero=>rfl
   |succ i=>rw[if_pos (Nat.succ_pos i),Nat.add_sub_cancel,List.getD_cons_succ]
  rw[e1,List.length_cons,List.getD_cons_succ]
  by_cases c:i<ks.length
  ·rw[if_pos c,if_pos (show i+1<ks.length+1 by omega)]
  ·rw[if_neg c,if_neg (show ¬i+1<ks.length+1 by omega)]
theorem ztm {V:Int→Int→Int→VS→Option VS} {hi:Int}:∀{ks cs:List Int} {lo:Int} {s:VS},cs.length=ks.length+1→zim V lo hi ks cs cs.length s=zkg V lo hi ks cs s
 |[],[c],lo,s,_=>by
  show(some s).bind _=V c lo hi s
  rw[Option.bind_some];simp
 |[],[],_,_,h=>by simp at h
 |[],_::_::_,_,_,h=>by simp at h
 |_::_,[],_,_,h=>by simp at h
 |k::ks,c::cs,lo,s,h=>by
  rw[List.length_cons,zrj,zkg]
  congr 1
  funext t
  exact ztm (by simpa using h)
abbrev tab (f:Nat→Bool):List Bool:=[f 0,f 1,f 2,f 3,f 4,f 5,f 6,f 7,f 8,f 9,f 10,f 11,f 12,f 13,f 14,f 15]
theorem z3k {bs:List Bool} (h:bs.length=16):bs=tab fun i=>bs.getD i false:=by
 match bs,h with
 |[a0,a1,a2,a3,a4,a5,a6,a7,a8,a9,a10,a11,a12,a13,a14,a15],_=>rfl
theorem z23 (f:Nat→Bool) (i:Nat) (b:Bool):(tab f).set i b=tab fun j=>((tab f).set i b).getD j false:=z3k (by rw[List.length_set];rfl)
theorem zsw {ps:List Pg} (h:pB ps) (k:Nat) (q:Pg) (a:q.keys.length≤4294967296) (b:q.kids.length≤4294967296) (c:q.vals.length≤4294967296):pB (ps.set k q):=by
 have key:∀i:Int,zb (ps.set k q) i=q∨zb (ps.set k q) i=zb ps i:=by
  intro i
  by_cases hk:k<ps.length
  ·unfold zb
   rw[z7 _ _ _ _ _ hk]
   split
   ·exact .inl rfl
   ·exact .inr rfl
  ·rw[List.set_eq_of_length_le (by omega)];exact .inr rfl
 refine⟨by rw[List.length_set];exact h.len,fun i=>?_,fun i=>?_,fun i=>?_⟩
 ·rcases key i with e|e<;>rw[e]
  ·exact a
  ·exact h.keys i
 ·rcases key i with e|e<;>rw[e]
  ·exact b
  ·exact h.kids i
 ·rcases key i with e|e<;>rw[e]
  ·exact c
  ·exact h.vals i
theorem z14 {ps:List Pg} (h:pB ps) (k:Nat):pB (ps.take k):=by
 have key:∀i:Int,zb (ps.take k) i=⟨[],[],[]⟩∨zb (ps.take k) i=zb ps i:=by
  intro i
  unfold zb
  rw[List.getD_eq_getElem?_getD,List.getD_eq_getElem?_getD,List.getElem?_take]
  split
  ·exact .inr rfl
  ·exact .inl rfl
 refine⟨by rw[List.length_take];have:=h.len;omega,fun i=>?_,fun i=>?_,fun i=>?_⟩
 ·rcases key i with e|e<;>rw[e]
  ·exact Nat.zero_le _
  ·exact h.keys i
 ·rcases key i with e|e<;>rw[e]
  ·exact Nat.zero_le _
  ·exact h.kids i
 ·rcases key i with e|e<;>rw[e]
  ·exact Nat.zero_le _
  ·exact h.vals i
theorem znz {root:Int} {ps:List Pg} (h:vTree root ps=true) (i:Int):(zb ps i).keys.length≤4∧(zb ps i).kids.length≤5∧(zb ps i).vals.length≤4:=by
 unfold zb
 by_cases c:i.toNat<ps.length
 ·have hm:=zaq (⟨[],[],[]⟩:Pg) c
  have:=ztf (zrs h _ hm)
  omega
 ·rw[List.getD_eq_getElem?_getD,List.getElem?_eq_none (by omega)]
  exact⟨Nat.zero_le _,Nat.zero_le _,Nat.zero_le _⟩
theorem zzc {root:Int} {ps:List Pg} (h:vTree root ps=true):1≤ps.length∧ps.length≤16:=by
 obtain⟨_,v⟩:=zdk.1 h
 exact⟨v.l1,v.l16⟩
end Go.VL
