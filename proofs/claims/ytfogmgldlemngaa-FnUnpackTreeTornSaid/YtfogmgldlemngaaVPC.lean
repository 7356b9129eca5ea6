/- V-logic: PT9 PT10 -/
import Derived.Test.YtfogmgldlemngaaVPB
import Derived.Test.YtfogmgldlemngaaVPA
namespace Go.VL
set_option linter.unusedVariables false
set_option linter.unusedSimpArgs false
def ldN (m:Nat):Nat:=if (m+3) / 4<1 then 1 else(m+3) / 4
def ldP (list:List Pr) (n i:Nat):List Pr:=(list.take (list.length*(i+1) / n)).drop (list.length*i / n)
def ldL (list:List Pr) (n i j:Nat):List Pg:=(List.range' i (j-i)).map fun k=>zae (ldP list n k)
def ldK (list:List Pr) (n k:Nat):Int:=((ldP list n k).getD 0 ⟨0,0⟩).key
def ldI (list:List Pr) (n i j a:Nat):Pg:=⟨(List.range' (i+1) (j-i-1)).map (ldK list n),(List.range' a (j-i)).map Int.ofNat,[]⟩
def zf8 (list:List Pr):List Pg :=
 if ldN list.length=1 then [zae list]
 else if ldN list.length≤5 then ldI list (ldN list.length) 0 (ldN list.length) 1::ldL list (ldN list.length) 0 (ldN list.length)
 else⟨[ldK list (ldN list.length) (ldN list.length / 2)],[1,((2+ldN list.length / 2:Nat):Int)],[]⟩::ldI list (ldN list.length) 0 (ldN list.length / 2) 2::(ldL list (ldN list.length) 0 (ldN list.length / 2) ++
  ldI list (ldN list.length) (ldN list.length / 2) (ldN list.length) (3+ldN list.length / 2)::ldL list (ldN list.length) (ldN list.length / 2) (ldN list.length))
def ldS (list:List Pr) (n i j:Nat):List Pr:=(list.take (list.length*j / n)).drop (list.length*i / n)
theorem zzb:∀m,m<25→∀i,i<ldN m→(2≤ldN m→m*i / ldN m+2≤m*(i+1) / ldN m)∧m*(i+1) / ldN m≤m*i / ldN m+4:=by decide +kernel
theorem zsc {m:Nat} (h:m≤24):1≤ldN m∧ldN m≤6:=by unfold ldN;split<;>omega
theorem z2k (list:List Pr) {n:Nat} (h:1≤n):ldS list n 0 n=list:=by
 unfold ldS
 rw[Nat.mul_div_cancel _ h,Nat.mul_zero,Nat.zero_div,List.take_length,List.drop_zero]
theorem zd9 {list:List Pr} {n i j:Nat} (h1:list.length*i / n≤list.length*(i+1) / n) (h2:list.length*(i+1) / n≤list.length*j / n):ldS list n i j=ldP list n i++ldS list n (i+1) j:=by
 unfold ldS ldP
 generalize list.length*i / n=a at *
 generalize list.length*(i+1) / n=b at *
 generalize list.length*j / n=c at *
 have e:list.take c=list.take b++(list.take c).drop b:=by
  have:=(List.take_append_drop b (list.take c)).symm
  rwa [List.take_take,Nat.min_eq_left h2]at this
 by_cases hb:b≤list.length
 ·conv=>lhs;rw[e]
  rw[List.drop_append_of_le_length (by rw[List.length_take];omega)]
 ·have e1:(list.take c).drop b=[]:=List.drop_eq_nil_of_le (by rw[List.length_take];omega)
  rw[e1,List.append_nil,List.take_of_length_le (by omega:list.length≤c),List.take_of_length_le (by omega:list.length≤b)]
theorem zne {list:List Pr} {n i j:Nat} (h:list.length*j / n≤list.length):(ldS list n i j).length=list.length*j / n-list.length*i / n:=by
 unfold ldS
 rw[List.length_drop,List.length_take,Nat.min_eq_left h]
theorem zlr {m n j:Nat} (h:j≤n) (hn:1≤n):m*j / n≤m:=by
 have:m*j≤m*n:=Nat.mul_le_mul_left _ h
 have:=Nat.div_le_div_right (c:=n) this
 rwa [Nat.mul_div_cancel _ hn]at this
theorem zpc {F:Int→Int→Int→Prop} {list:List Pr} {n j:Nat} (hn:1≤n) (hj:j≤n) (hs:∀i,i<n→list.length*i / n+1≤list.length*(i+1) / n):∀(m:Nat) {i a:Nat} {lo hi:Int},i+m+1=j→RowOk (ldS list n i j) lo hi →
  (∀t,i≤t→t<j→∀l r,RowOk (ldP list n t) l r→F ((a+(t-i):Nat):Int) l r)→Seg F lo hi ((List.range' (i+1) m).map (ldK list n)) ((List.range' a (m+1)).map Int.ofNat)
 |0,i,a,lo,hi,hm,hr,hF=>by
  have e:ldS list n i j=ldP list n i:=by rw[show j=i+1 by omega];rfl
  rw[e]at hr
  have:=hF i (Nat.le_refl _) (by omega) _ _ hr
  rw[Nat.sub_self]at this
  exact this
 |m+1,i,a,lo,hi,hm,hr,hF=>by
  have h1:=hs i (by omega)
  have h2:=hs (i+1) (by omega)
  have hmono:list.length*(i+1+1) / n≤list.length*j / n:=Nat.div_le_div_right (Nat.mul_le_mul_left _ (by omega))
  have e:=zd9 (list:=list) (n:=n) (i:=i) (j:=j) (by omega) (by omega)
  have e2:=zd9 (list:=list) (n:=n) (i:=i+1) (j:=j) (by omega) hmono
  have lP:(ldP list n i).length=list.length*(i+1) / n-list.length*i / n:=zne (zlr (by omega) hn)
  have lP2:(ldP list n (i+1)).length=list.length*(i+1+1) / n-list.length*(i+1) / n:=zne (zlr (by omega) hn)
  have hk:((ldS list n i j).getD (ldP list n i).length ⟨0,0⟩).key=ldK list n (i+1):=by
   rw[e,zdp,if_neg (by omega),Nat.sub_self,e2,zdp,if_pos (by omega)];rfl
  have hc:=hr.cut (n:=(ldP list n i).length) (by rw[e,List.length_append,e2,List.length_append];omega)
  rw[hk]at hc
  have et:(ldS list n i j).take (ldP list n i).length=ldP list n i:=by rw[e];exact List.take_left' rfl
  have ed:(ldS list n i j).drop (ldP list n i).length=ldS list n (i+1) j:=by rw[e];exact List.drop_left' rfl
  rw[et,ed]at hc
  have K:=zpc hn hj hs m (i:=i+1) (a:=a+1) (by omega) hc.2 fun t t1 t2 l r hr=>by
   have:=hF t (by omega) t2 l r hr
   rwa [show a+(t-i)=a+1+(t-(i+1)) by omega]at this
  have h0:=hF i (Nat.le_refl _) (by omega) _ _ hc.1
  rw[Nat.sub_self]at h0
  rw[List.range'_succ,List.range'_succ,List.map_cons,List.map_cons]
  exact⟨h0,K⟩
theorem zl7 {list:List Pr} {n j:Nat} (hn:1≤n) (hs:∀i,i<n→list.length*i / n+1≤list.length*(i+1) / n) (hj:j≤n):∀(m:Nat) {i:Nat},i+m=j→(List.range' i m).flatMap (ldP list n)=ldS list n i j
 |0,i,hm=>by
  rw[List.range'_zero,List.flatMap_nil]
  have:i=j:=by omega
  subst this
  unfold ldS
  exact(List.drop_eq_nil_of_le (by rw[List.length_take];omega)).symm
 |m+1,i,hm=>by
  have h1:=hs i (by omega)
  have hmono:list.length*(i+1) / n≤list.length*j / n:=Nat.div_le_div_right (Nat.mul_le_mul_left _ (by omega))
  rw[List.range'_succ,List.flatMap_cons,zl7 hn hs hj m (i:=i+1) (by omega),←zd9 (by omega) hmono]
theorem z0o {pre post:List Pg} {list:List Pr} {n i j t:Nat} (h:t<j-i):zb (pre++(ldL list n i j++post)) ((pre.length+t:Nat):Int)=zae (ldP list n (i+t)):=by
 unfold zb
 rw[Int.toNat_natCast,zdp,if_neg (by omega),Nat.add_sub_cancel_left,zdp,if_pos (by unfold ldL;rw[List.length_map,List.length_range'];exact h)]
 unfold ldL
 rw[List.getD_eq_getElem?_getD,List.getElem?_map,List.getElem?_range' h,Nat.one_mul];rfl
structure LdAt (list:List Pr) (n:Nat) (ps:List Pg) (i j a:Nat):Prop where
 pg:∀t,i≤t→t<j→zb ps ((a+(t-i):Nat):Int)=zae (ldP list n t)
 lt:a+(j-i)≤ps.length
theorem LdAt.fit {list:List Pr} {n:Nat} {ps:List Pg} {i j a t:Nat} (h:LdAt list n ps i j a) (h1:i≤t) (h2:t<j) (h3:2≤(ldP list n t).length) (h4:(ldP list n t).length≤4) {l r:Int} (hr:RowOk (ldP list n t) l r):Fit ps 1 2 4 ((a+(t-i):Nat):Int) l r:=by
 have hp:=h.pg t h1 h2
 have hl:=h.lt
 have hk:(zae (ldP list n t)).keys.length=(ldP list n t).length:=by simp[zae]
 exact⟨by omega,by omega,by rw[hp,hk];exact h3,by rw[hp,hk];exact h4,by rw[hp];exact zfr.2 hr⟩
theorem LdAt.wk {list:List Pr} {n:Nat} {ps:List Pg} {j:Nat}:∀(m:Nat) {i a:Nat},i+m=j→LdAt list n ps i j a→((List.range' a m).map Int.ofNat).flatMap (wkF ps 1)=(List.range' a m).map Int.ofNat∧(((List.range' a m).map Int.ofNat).flatMap fun c=>prF ps 1 (zb ps c))=(List.range' i m).flatMap (ldP list n)
 |0,i,a,hm,h=>⟨rfl,rfl⟩
 |m+1,i,a,hm,h=>by
  have h':LdAt list n ps (i+1) j (a+1):=⟨fun t t1 t2=>by
   have:=h.pg t (by omega) t2
   rwa [show a+(t-i)=a+1+(t-(i+1)) by omega]at this,by have:=h.lt;omega⟩
  obtain⟨k1,k2⟩:=LdAt.wk (j:=j) m (i:=i+1) (a:=a+1) (by omega) h'
  have hp:=h.pg i (Nat.le_refl _) (by omega)
  rw[Nat.sub_self]at hp
  have hp:zb ps (Int.ofNat a)=zae (ldP list n i):=hp
  rw[List.range'_succ,List.range'_succ,List.map_cons,List.flatMap_cons,List.flatMap_cons,List.flatMap_cons,k1,k2,hp,zaf,hp]
  exact⟨rfl,by rw[show prF ps 1 (zae (ldP list n i))=zab (zae (ldP list n i))from rfl,ze3]⟩
def ldH (m:Nat):Nat:=if ldN m=1 then 1 else if ldN m≤5 then 2 else 3
theorem z2p {list:List Pr} (h:RowOk list 0 99) (hl:list.length≤24):VT0 0 (zf8 list) (ldH list.length)∧prF (zf8 list) (ldH list.length) (zb (zf8 list) 0)=list:=by
 have hb:=zsc hl
 have tab:=zzb list.length (by omega)
 have e4:ldN list.length=1→list.length≤4:=fun e=>by unfold ldN at e;split at e<;>omega
 have e24:=hl
 unfold zf8 ldH
 generalize ldN list.length=n at *
 by_cases c1:n=1
 ·rw[if_pos c1,if_pos c1]
  have ok:=zfr.2 h
  have hk:(zae list).keys.length=list.length:=by simp[zae]
  refine⟨⟨Nat.le_refl _,⟨Int.le_refl _,by simp,Nat.zero_le _,?_,ok⟩,?_,?_⟩,ze3 _⟩
  ·show(zae list).keys.length≤4
   rw[hk];exact e4 c1
  ·show(0::(zae list).kids.flatMap _).Nodup;simp[zae]
  ·show(0::(zae list).kids.flatMap _).length=_;simp[zae]
 rw[if_neg c1,if_neg c1]
 have hs:∀i,i<n→list.length*i / n+1≤list.length*(i+1) / n:=fun i hi=>by have:=(tab i hi).1 (by omega);omega
 have lP:∀t,t<n→2≤(ldP list n t).length∧(ldP list n t).length≤4:=fun t ht=>by
  have:(ldP list n t).length=list.length*(t+1) / n-list.length*t / n:=zne (zlr (by omega) hb.1)
  have:=tab t ht
  omega
 have hall:=z2k list (n:=n) hb.1
 by_cases c2:n≤5
 ·rw[if_pos c2,if_pos c2]
  generalize hps:ldI list n 0 n 1::ldL list n 0 n=ps
  have hlen:ps.length=n+1:=by rw[←hps];simp[ldL]
  have at0:LdAt list n ps 0 n 1:=⟨fun t t1 t2=>by
   have:=z0o (pre:=[ldI list n 0 n 1]) (post:=[]) (list:=list) (n:=n) (i:=0) (j:=n) (t:=t) (by omega)
   rw[List.append_nil,Nat.zero_add]at this
   rw[←hps,Nat.sub_zero];exact this,by omega⟩
  have g0:zb ps 0=ldI list n 0 n 1:=by rw[←hps];rfl
  obtain⟨w1,w2⟩:=at0.wk (a:=1) (j:=n) n (by omega)
  have hf:=zl7 hb.1 hs (Nat.le_refl n) n (i:=0) (by omega)
  rw[hall]at hf
  have hk:(ldI list n 0 n 1).keys.length=n-1:=by simp[ldI]
  have hw:wkF ps 2 0=nw 0 (n+1):=by
   rw[zaf,g0]
   show 0::((List.range' 1 (n-0)).map Int.ofNat).flatMap (wkF ps 1)=_
   rw[Nat.sub_zero,w1]
   unfold nw
   rw[Nat.sub_zero,List.range'_succ];rfl
  refine⟨⟨by omega,⟨Int.le_refl _,by omega,?_,?_,?_⟩,?_,?_⟩,?_⟩
  ·rw[g0,hk,if_neg (by omega)];omega
  ·rw[g0,hk];omega
  ·rw[g0]
   refine⟨rfl,?_⟩
   show Seg (Fit ps 1 2 4) 0 99 ((List.range' (0+1) (n-0-1)).map (ldK list n)) ((List.range' 1 (n-0)).map Int.ofNat)
   rw[show n-0=(n-1)+1 by omega,Nat.add_sub_cancel]
   refine zpc hb.1 (Nat.le_refl n) hs (n-1) (by omega) (by rw[hall];exact h) fun t t1 t2 l r hr=>at0.fit t1 t2 (lP t t2).1 (lP t t2).2 hr
  ·rw[hw];exact nw_nodup _ _
  ·rw[hw,hlen];unfold nw;simp
  ·rw[g0]
   show((List.range' 1 (n-0)).map Int.ofNat).flatMap _=_
   rw[Nat.sub_zero,w2,hf]
 ·rw[if_neg c2,if_neg c2]
  have hn:n=6:=by omega
  subst hn
  generalize hps:(⟨[ldK list 6 (6 / 2)],[1,((2+6 / 2:Nat):Int)],[]⟩:Pg)::ldI list 6 0 (6 / 2) 2::(ldL list 6 0 (6 / 2)++ldI list 6 (6 / 2) 6 (3+6 / 2)::ldL list 6 (6 / 2) 6)=ps
  have hlen:ps.length=9:=by rw[←hps];rfl
  have at0:LdAt list 6 ps 0 3 2:=⟨fun t t1 t2=>by
   rw[←hps]
   match t,t2 with
   |0,_=>rfl
   |1,_=>rfl
   |2,_=>rfl,by omega⟩
  have at1:LdAt list 6 ps 3 6 6:=⟨fun t t1 t2=>by
   rw[←hps]
   match t,t1,t2 with
   |3,_,_=>rfl
   |4,_,_=>rfl
   |5,_,_=>rfl,by omega⟩
  have g0:zb ps 0=⟨[ldK list 6 3],[1,5],[]⟩:=by rw[←hps];rfl
  have g1:zb ps 1=ldI list 6 0 3 2:=by rw[←hps];rfl
  have g5:zb ps 5=ldI list 6 3 6 6:=by rw[←hps];rfl
  obtain⟨w1,w2⟩:=at0.wk (a:=2) (j:=3) 3 (by omega)
  obtain⟨w3,w4⟩:=at1.wk (a:=6) (j:=6) 3 (by omega)
  have hf1:=zl7 hb.1 hs (j:=3) (by omega) 3 (i:=0) (by omega)
  have hf2:=zl7 hb.1 hs (j:=6) (Nat.le_refl _) 3 (i:=3) (by omega)
  have hmono:∀i j,i≤j→list.length*i / 6≤list.length*j / 6:=fun i j hij=>Nat.div_le_div_right (Nat.mul_le_mul_left _ hij)
  have hcut:ldS list 6 0 6=ldS list 6 0 3++ldS list 6 3 6:=by
   rw[zd9 (i:=0) (j:=6) (hmono _ _ (by omega)) (hmono _ _ (by omega)),zd9 (i:=1) (j:=6) (hmono _ _ (by omega)) (hmono _ _ (by omega)),zd9 (i:=2) (j:=6) (hmono _ _ (by omega)) (hmono _ _ (by omega)),
    zd9 (i:=0) (j:=3) (hmono _ _ (by omega)) (hmono _ _ (by omega)),zd9 (i:=1) (j:=3) (hmono _ _ (by omega)) (hmono _ _ (by omega)),zd9 (i:=2) (j:=3) (hmono _ _ (by omega)) (hmono _ _ (by omega))]
   have e:ldS list 6 3 3=[]:=by unfold ldS;exact List.drop_eq_nil_of_le (by rw[List.length_take];omega)
   rw[e];simp
  have l3:(ldS list 6 0 3).length=list.length*3 / 6:=by rw[zne (zlr (by omega) hb.1)];omega
  have hk3:((ldS list 6 0 6).getD (ldS list 6 0 3).length ⟨0,0⟩).key=ldK list 6 3:=by
   have h2:=(lP 3 (by omega)).1
   rw[hcut,zdp,if_neg (by omega),Nat.sub_self,zd9 (i:=3) (j:=6) (hmono _ _ (by omega)) (hmono _ _ (by omega)),zdp,if_pos (by omega)];rfl
  have hl3:=hs 3 (by omega)
  have hl6:list.length*(3+1) / 6≤list.length:=zlr (by omega) (by omega)
  have hc:=(show RowOk (ldS list 6 0 6) 0 99 by rw[hall];exact h).cut (n:=(ldS list 6 0 3).length) (by rw[hall,l3];omega)
  rw[hk3,hcut,List.take_left' rfl,List.drop_left' rfl]at hc
  have s1:Seg (Fit ps 1 2 4) 0 (ldK list 6 3-1) ((List.range' 1 2).map (ldK list 6)) ((List.range' 2 3).map Int.ofNat) :=
   zpc hb.1 (j:=3) (by omega) hs 2 (i:=0) (a:=2) (by omega) hc.1 fun t t1 t2 l r hr=>at0.fit t1 t2 (lP t (by omega)).1 (lP t (by omega)).2 hr
  have s2:Seg (Fit ps 1 2 4) (ldK list 6 3) 99 ((List.range' 4 2).map (ldK list 6)) ((List.range' 6 3).map Int.ofNat) :=
   zpc hb.1 (j:=6) (by omega) hs 2 (i:=3) (a:=6) (by omega) hc.2 fun t t1 t2 l r hr=>at1.fit t1 t2 (lP t (by omega)).1 (lP t (by omega)).2 hr
  have f1:Fit ps 2 2 4 1 0 (ldK list 6 3-1):=⟨by omega,by omega,by rw[g1];show 2≤2;omega,by rw[g1];show 2≤4;omega,by rw[g1];exact⟨rfl,s1⟩⟩
  have f5:Fit ps 2 2 4 5 (ldK list 6 3) 99:=⟨by omega,by omega,by rw[g5];show 2≤2;omega,by rw[g5];show 2≤4;omega,by rw[g5];exact⟨rfl,s2⟩⟩
  have hw:wkF ps 3 0=[0,1,2,3,4,5,6,7,8]:=by
   rw[zaf,g0]
   show 0::[1,5].flatMap (wkF ps 2)=_
   rw[List.flatMap_cons,List.flatMap_cons,List.flatMap_nil,zaf,zaf,g1,g5]
   show 0::((1::((List.range' 2 3).map Int.ofNat).flatMap (wkF ps 1))++((5::((List.range' 6 3).map Int.ofNat).flatMap (wkF ps 1))++[]))=_
   rw[w1,w3];rfl
  refine⟨⟨by omega,⟨Int.le_refl _,by omega,?_,?_,?_⟩,?_,?_⟩,?_⟩
  ·rw[g0,if_neg (by omega)];exact Nat.le_refl _
  ·rw[g0];show 1≤4;omega
  ·rw[g0];exact⟨rfl,f1,f5⟩
  ·rw[hw];decide
  ·rw[hw,hlen];rfl
  ·rw[g0]
   show [1,5].flatMap _=_
   rw[List.flatMap_cons,List.flatMap_cons,List.flatMap_nil,g1,g5]
   show((List.range' 2 3).map Int.ofNat).flatMap _++(((List.range' 6 3).map Int.ofNat).flatMap _++[])=_
   rw[w2,w4,hf1,hf2,List.append_nil,←hcut,hall]
def zkg (V:Int→Int→Int→List Bool×Int→Option (List Bool×Int)):Int→Int→List Int→List Int→List Bool×Int→Option (List Bool×Int)
 |lo,hi,[],[c],s=>V c lo hi s
 |lo,hi,k::ks,c::cs,s=>(V c lo k s).bind (zkg V k hi ks cs)
 |_,_,_,_,_=>none
def zir (p:Pg) (top:Bool):Bool :=
 if 4<p.keys.length then false else if za2 p.keys=false then false
 else if top=false∧p.keys.length<2 then false
 else if 0<p.kids.length then decide (p.vals.length=0∧1≤p.keys.length∧p.kids.length=p.keys.length+1)
 else if p.vals.length≠p.keys.length then false
 else p.vals.all fun x=>decide (-1000≤x∧x≤1000)
def zen (ps:List Pg) (root:Int):Nat→Int→Int→Int→List Bool×Int→Option (List Bool×Int)
 |0,_,_,_,_=>none
 |f+1,a,lo,hi,s =>
  if a<0∨(ps.length:Int)≤a∨s.1.getD a.toNat false=true then none
  else if zir (zb ps a) (decide (a=root))=false then none
  else if ((zb ps a).keys.all fun x=>decide (lo≤x∧x<hi))=false then none
  else if (zb ps a).kids.length=0 then
   (if s.2<0 then some (s.1.set a.toNat true,2-(f:Int))else if s.2=2-(f:Int)then some (s.1.set a.toNat true,s.2)else none)
  else zkg (zen ps root f) lo hi (zb ps a).keys (zb ps a).kids (s.1.set a.toNat true,s.2)
def zdu (b:List Bool) (l:List Int):List Bool:=l.foldl (fun b x=>b.set x.toNat true) b
theorem zrk (l:List Int):∀(b:List Bool),(zdu b l).length=b.length:=by
 induction l with
 |nil=>intro b;rfl
 |cons a t ih=>intro b;show(zdu (b.set a.toNat true) t).length=_;rw[ih];simp
theorem zru (b:List Bool) (l l':List Int):zdu b (l++l')=zdu (zdu b l) l':=List.foldl_append
theorem zmv (l:List Int):∀(b:List Bool) (i:Nat),(∀x∈l,0≤x∧x<b.length)→(zdu b l).getD i false=(b.getD i false||decide ((i:Int)∈l)):=by
 induction l with
 |nil=>intro b i _;simp[zdu]
 |cons a t ih =>
  intro b i h
  have ha:=h a (by simp)
  show(zdu (b.set a.toNat true) t).getD i false=_
  rw[ih _ _ (fun x hx=>by rw[List.length_set];exact h x (List.mem_cons_of_mem _ hx)),z7 _ _ _ _ _ (by omega)]
  by_cases e:i=a.toNat
  ·rw[if_pos e]
   have:(i:Int)∈a::t:=by rw[List.mem_cons];exact .inl (by omega)
   rw[decide_eq_true this];simp
  ·rw[if_neg e]
   congr 1
   have:((i:Int)∈a::t)↔(i:Int)∈t:=by
    rw[List.mem_cons]
    exact⟨fun h=>h.resolve_left (by omega),.inr⟩
   simp only[this]
def zge (b:List Bool) (l:List Int):Prop:=∀x∈l,b.getD x.toNat false=false
theorem zpn {b:List Bool} {l l':List Int}:zge b (l++l')↔zge b l∧zge b l' :=
 ⟨fun h=>⟨fun x hx=>h x (List.mem_append_left _ hx),fun x hx=>h x (List.mem_append_right _ hx)⟩,fun h x hx=>(List.mem_append.1 hx).elim (h.1 x) (h.2 x)⟩
theorem zkd {b:List Bool} {l l':List Int} (h:∀x∈l,0≤x∧x<b.length) (h':∀x∈l',0≤x):zge (zdu b l) l'↔zge b l'∧∀x∈l,x∉l':=by
 constructor
 ·intro hf
  have:∀x∈l',b.getD x.toNat false=false∧x∉l:=fun x hx=>by
   have:=hf x hx
   rw[zmv l b _ h,Bool.or_eq_false_iff,decide_eq_false_iff_not]at this
   have h0:=h' x hx
   rw[Int.toNat_of_nonneg h0]at this
   exact this
  exact⟨fun x hx=>(this x hx).1,fun x hx hx'=>(this x hx').2 hx⟩
 ·rintro⟨h1,h2⟩ x hx
  have h0:=h' x hx
  rw[zmv l b _ h,h1 x hx,Int.toNat_of_nonneg h0,decide_eq_false (fun hc=>h2 x hc hx)];rfl
def zsf (Q:Nat→Int→Int→Int→Prop) (W:Nat→Int→List Int) (e:Int) (s s':List Bool×Int) (lo hi c:Int):Prop :=
 ∃d:Nat,Q d c lo (hi-1)∧(W d c).Nodup∧zge s.1 (W d c)∧(s.2<0∨s.2=e+d)∧s'=(zdu s.1 (W d c),e+d)
theorem z1c {V:Int→Int→Int→List Bool×Int→Option (List Bool×Int)} {Q:Nat→Int→Int→Int→Prop} {W:Nat→Int→List Int} {e hi:Int} {n:Nat} (he:0≤e)
  (hW:∀d c l r,Q d c l r→∀x∈W d c,0≤x∧x<n)
  (hV:∀c lo hi s s',s.1.length=n→(V c lo hi s=some s'↔zsf Q W e s s' lo hi c)):∀{ks cs:List Int} {lo:Int} {s s':List Bool×Int},s.1.length=n →
  (zkg V lo hi ks cs s=some s'↔∃d:Nat,Seg (Q d) lo (hi-1) ks cs∧(cs.flatMap (W d)).Nodup∧zge s.1 (cs.flatMap (W d))∧(s.2<0∨s.2=e+d)∧s'=(zdu s.1 (cs.flatMap (W d)),e+d)):=by
 intro ks
 induction ks with
 |nil =>
  intro cs lo s s' hs
  match cs with
  |[]=>exact⟨fun h=>(by cases h),fun⟨d,h,_⟩=>h.elim⟩
  |[c] =>
   rw[show zkg V lo hi [] [c] s=V c lo hi s from rfl,hV c lo hi s s' hs]
   unfold zsf
   simp only[List.flatMap_cons,List.flatMap_nil,List.append_nil]
   exact Iff.rfl
  |_::_::_=>exact⟨fun h=>(by cases h),fun⟨d,h,_⟩=>h.elim⟩
 |cons k ks ih =>
  intro cs lo s s' hs
  match cs with
  |[]=>exact⟨fun h=>(by cases h),fun⟨d,h,_⟩=>h.elim⟩
  |c::cs =>
   rw[show zkg V lo hi (k::ks) (c::cs) s=(V c lo k s).bind (zkg V k hi ks cs)from rfl,Option.bind_eq_some_iff]
   constructor
   ·rintro⟨s1,h1,h2⟩
    obtain⟨d,q1,q2,q3,q4,rfl⟩:=(hV c lo k s s1 hs).1 h1
    have b1:=hW d c _ _ q1
    obtain⟨d',g1,g2,g3,g4,rfl⟩:=(ih (by rw[zrk];exact hs)).1 h2
    have g4:e+(d:Int)<0∨e+(d:Int)=e+d':=g4
    have hd:d'=d:=by omega
    subst hd
    have b2:∀x∈cs.flatMap (W d'),0≤x∧x<n:=fun x hx=>by
     obtain⟨z,hz,hx⟩:=List.mem_flatMap.1 hx
     obtain⟨l,r,hq⟩:=Seg.mem g1 z hz
     exact hW _ _ _ _ hq x hx
    obtain⟨f1,f2⟩:=(zkd (by rw[hs];exact b1) fun x hx=>(b2 x hx).1).1 g3
    refine⟨d',⟨q1,g1⟩,?_,?_,q4,?_⟩
    ·rw[List.flatMap_cons]
     exact List.nodup_append.2 ⟨q2,g2,fun x hx y hy e=>f2 x hx (e▸hy)⟩
    ·rw[List.flatMap_cons];exact zpn.2 ⟨q3,f1⟩
    ·rw[List.flatMap_cons,zru]
   ·rintro⟨d,⟨q1,g1⟩,h2,h3,h4,rfl⟩
    rw[List.flatMap_cons]at h2 h3
    obtain⟨n1,n2,n3⟩:=List.nodup_append.1 h2
    obtain⟨f1,f2⟩:=zpn.1 h3
    have b1:=hW d c _ _ q1
    have b2:∀x∈cs.flatMap (W d),0≤x∧x<n:=fun x hx=>by
     obtain⟨z,hz,hx⟩:=List.mem_flatMap.1 hx
     obtain⟨l,r,hq⟩:=Seg.mem g1 z hz
     exact hW _ _ _ _ hq x hx
    refine⟨(zdu s.1 (W d c),e+d),(hV c lo k s _ hs).2 ⟨d,q1,n1,f1,h4,rfl⟩,(ih (by rw[zrk];exact hs)).2 ⟨d,g1,n2,?_,.inr rfl,?_⟩⟩
    ·exact(zkd (by rw[hs];exact b1) fun x hx=>(b2 x hx).1).2 ⟨f2,fun x hx hx'=>n3 x hx x hx' rfl⟩
    ·rw[List.flatMap_cons,zru]
theorem zsi {ps:List Pg} {a root lo hi:Int}:(zir (zb ps a) (decide (a=root))=true∧((zb ps a).keys.all fun x=>decide (lo≤x∧x<hi))=true) ↔
  za2 (zb ps a).keys=true∧(zb ps a).keys.length≤4∧(∀k∈(zb ps a).keys,lo≤k∧k≤hi-1)∧(a=root∨2≤(zb ps a).keys.length) ∧
  (if (zb ps a).kids.length=0 then(zb ps a).vals.length=(zb ps a).keys.length∧∀v∈(zb ps a).vals,-1000≤v∧v≤1000
   else 1≤(zb ps a).keys.length∧(zb ps a).vals=[]∧(zb ps a).kids.length=(zb ps a).keys.length+1):=by
 have hr:((zb ps a).keys.all fun x=>decide (lo≤x∧x<hi))=true↔∀k∈(zb ps a).keys,lo≤k∧k≤hi-1:=by
  rw[List.all_eq_true]
  exact⟨fun h k hk=>by have:=of_decide_eq_true (h k hk);omega,fun h k hk=>decide_eq_true (by have:=h k hk;omega)⟩
 rw[hr]
 unfold zir
 by_cases c1:4<(zb ps a).keys.length
 ·rw[if_pos c1];simp only[Bool.false_eq_true,false_and,false_iff];intro h;omega
 rw[if_neg c1]
 by_cases c2:za2 (zb ps a).keys=false
 ·rw[if_pos c2,c2];simp
 rw[if_neg c2]
 rw[Bool.not_eq_false]at c2
 by_cases c3:decide (a=root)=false∧(zb ps a).keys.length<2
 ·rw[if_pos c3];simp only[Bool.false_eq_true,false_and,false_iff];intro h
  rcases h.2.2.2.1 with h|h
  ·exact(of_decide_eq_false c3.1) h
  ·omega
 rw[if_neg c3]
 have c3':a=root∨2≤(zb ps a).keys.length:=by
  by_cases e:a=root
  ·exact .inl e
  ·exact .inr ((Nat.lt_or_ge _ 2).resolve_left fun h=>c3 ⟨decide_eq_false e,h⟩)
 by_cases c4:(zb ps a).kids.length=0
 ·rw[if_neg (by omega),if_pos c4]
  by_cases c5:(zb ps a).vals.length≠(zb ps a).keys.length
  ·rw[if_pos c5];simp only[Bool.false_eq_true,false_and,false_iff];intro h;exact c5 h.2.2.2.2.1
  rw[if_neg c5,zhz]
  exact⟨fun h=>⟨c2,by omega,h.2,c3',Decidable.of_not_not c5,h.1⟩,fun h=>⟨h.2.2.2.2.2,h.2.2.1⟩⟩
 ·rw[if_pos (by omega),if_neg c4,decide_eq_true_eq]
  exact⟨fun h=>⟨c2,by omega,h.2,c3',h.1.2.1,List.eq_nil_of_length_eq_zero h.1.1,h.1.2.2⟩,fun h=>⟨⟨by rw[h.2.2.2.2.2.1];rfl,h.2.2.2.2.1,h.2.2.2.2.2.2⟩,h.2.2.1⟩⟩
theorem zsr {ps:List Pg} {root:Int} {d:Nat} {a lo hi:Int} (h:pgF ps root d a lo hi=true) (h0:0≤a) (h1:a<ps.length):∀x∈wkF ps d a,0≤x∧x<ps.length:=by
 have:=zk9 (root:=root) d h0 h1 h
 have key:∀(d:Nat) {a:Int},wkOk ps d a→∀x∈wkF ps d a,0≤x∧x<ps.length:=by
  intro d
  induction d with
  |zero=>intro a h;exact h.elim
  |succ d ih =>
   intro a h x hx
   rcases List.mem_cons.1 hx with rfl|hx
   ·exact⟨h.1,h.2.1⟩
   ·obtain⟨c,hc,hx⟩:=List.mem_flatMap.1 hx
    exact ih (h.2.2.2 c hc) x hx
 exact key d this
def PQ (ps:List Pg) (root:Int) (f d:Nat) (a lo hi:Int):Prop:=1≤d∧d≤f∧0≤a∧a<ps.length∧pgF ps root d a lo hi=true
theorem z0l {ps:List Pg} {root:Int} (hl:ps.length≤16):∀(f:Nat),f≤3→∀(a lo hi:Int) (s s':List Bool×Int),s.1.length=16 →
  (zen ps root f a lo hi s=some s'↔zsf (PQ ps root f) (wkF ps) (2-(f:Int)) s s' lo hi a):=by
 intro f
 induction f with
 |zero=>intro _ a lo hi s s' _;exact⟨fun h=>(by cases h),fun⟨d,h,_⟩=>by have:=h.1;have:=h.2.1;omega⟩
 |succ f ih =>
  intro hf a lo hi s s' hs
  obtain⟨bs,ld⟩:=s
  have hs:bs.length=16:=hs
  rw[zen]
  by_cases c1:a<0∨(ps.length:Int)≤a∨bs.getD a.toNat false=true
  ·rw[if_pos c1]
   refine⟨fun h=>(by cases h),fun⟨d,q1,q2,q3,q4,q5⟩=>?_⟩
   obtain⟨d1,d2,a0,a1,q⟩:=q1
   obtain⟨d,rfl⟩:∃e,d=e+1:=⟨d-1,by omega⟩
   rcases c1 with c1|c1|c1
   ·omega
   ·omega
   ·have:=q3 a zas
    have this:bs.getD a.toNat false=false:=this
    rw[this]at c1;cases c1
  rw[if_neg c1]
  have a0:0≤a:=by have:=fun h=>c1 (.inl h);omega
  have a1:a<ps.length:=by have:=fun h=>c1 (.inr (.inl h));omega
  have a2:bs.getD a.toNat false=false:=by
   cases hq:bs.getD a.toNat false with
   |false=>rfl
   |true=>exact(c1 (.inr (.inr hq))).elim
  have none_of:¬(zir (zb ps a) (decide (a=root))=true∧((zb ps a).keys.all fun x=>decide (lo≤x∧x<hi))=true)→¬zsf (PQ ps root (f+1)) (wkF ps) (2-((f+1:Nat):Int)) (bs,ld) s' lo hi a:=by
   rintro hn ⟨d,⟨d1,d2,_,_,q⟩,-⟩
   obtain⟨d,rfl⟩:∃e,d=e+1:=⟨d-1,by omega⟩
   obtain⟨p1,p2,p3,p4,p5⟩:=zfc.1 q
   refine hn (zsi.2 ⟨p1,p2,p3,p4,?_⟩)
   split at p5
   ·rw[if_pos (by rw[p5.1];rfl)];exact p5.2
   ·rw[if_neg (by have:=p5.2.2.1;omega)];exact⟨p5.1,p5.2.1,p5.2.2.1⟩
  by_cases c2:zir (zb ps a) (decide (a=root))=false
  ·rw[if_pos c2]
   exact⟨fun h=>(by cases h),fun h=>(none_of (fun hc=>by rw[hc.1]at c2;cases c2) h).elim⟩
  rw[if_neg c2]
  by_cases c3:((zb ps a).keys.all fun x=>decide (lo≤x∧x<hi))=false
  ·rw[if_pos c3]
   exact⟨fun h=>(by cases h),fun h=>(none_of (fun hc=>by rw[hc.2]at c3;cases c3) h).elim⟩
  rw[if_neg c3]
  rw[Bool.not_eq_false]at c2 c3
  obtain⟨p1,p2,p3,p4,p5⟩:=zsi.1 ⟨c2,c3⟩
  by_cases c4:(zb ps a).kids.length=0
  ·rw[if_pos c4]
   rw[if_pos c4]at p5
   have hk:=List.eq_nil_of_length_eq_zero c4
   have hw:wkF ps 1 a=[a]:=by show a::(zb ps a).kids.flatMap _=_;rw[hk];rfl
   have hp:pgF ps root 1 a lo (hi-1)=true:=zfc.2 ⟨p1,p2,p3,p4,by rw[if_pos rfl];exact⟨hk,p5⟩⟩
   have hQ:PQ ps root (f+1) 1 a lo (hi-1):=⟨by omega,by omega,a0,a1,hp⟩
   have one:∀d,PQ ps root (f+1) d a lo (hi-1)→d=1:=fun d ⟨d1,d2,_,_,q⟩=>by
    obtain⟨d,rfl⟩:∃e,d=e+1:=⟨d-1,by omega⟩
    obtain⟨_,_,_,_,q5⟩:=zfc.1 q
    by_cases e:d=0
    ·omega
    ·rw[if_neg e,hk]at q5
     have:=q5.2.2.1
     simp at this
   have hm:zdu bs [a]=bs.set a.toNat true:=rfl
   by_cases c5:ld<0
   ·rw[if_pos c5]
    constructor
    ·intro h
     cases h
     refine⟨1,hQ,by rw[hw];simp,by rw[hw];intro x hx;rw[List.mem_singleton]at hx;subst hx;exact a2,.inl c5,?_⟩
     rw[hw]
     show(_,_)=(_,_)
     rw[hm,show(2:Int)-(f:Int)=2-((f+1:Nat):Int)+(1:Nat) by omega]
    ·rintro⟨d,q1,q2,q3,q4,rfl⟩
     have:=one d q1
     subst this
     rw[hw]
     show _=some (_,_)
     rw[hm,show(2:Int)-(f:Int)=2-((f+1:Nat):Int)+(1:Nat) by omega]
   ·rw[if_neg c5]
    by_cases c6:ld=2-(f:Int)
    ·rw[if_pos c6]
     constructor
     ·intro h
      cases h
      refine⟨1,hQ,by rw[hw];simp,by rw[hw];intro x hx;rw[List.mem_singleton]at hx;subst hx;exact a2,.inr (by show ld=_;omega),?_⟩
      rw[hw]
      show(_,ld)=(_,_)
      rw[hm,c6,show(2:Int)-(f:Int)=2-((f+1:Nat):Int)+(1:Nat) by omega]
     ·rintro⟨d,q1,q2,q3,q4,rfl⟩
      have:=one d q1
      subst this
      rw[hw]
      show some (_,ld)=some (_,_)
      rw[hm,c6,show(2:Int)-(f:Int)=2-((f+1:Nat):Int)+(1:Nat) by omega]
    ·rw[if_neg c6]
     refine⟨fun h=>(by cases h),?_⟩
     rintro⟨d,q1,q2,q3,q4,rfl⟩
     have:=one d q1
     subst this
     have q4:ld<0∨ld=2-((f+1:Nat):Int)+(1:Nat):=q4
     omega
  ·rw[if_neg c4]
   rw[if_neg c4]at p5
   have hrange:∀d c l r,PQ ps root f d c l r→∀x∈wkF ps d c,0≤x∧x<((16:Nat):Int):=fun d c l r ⟨_,_,e0,e1,q⟩ x hx=>by
    have:=zsr q e0 e1 x hx;omega
   have K:=z1c (V:=zen ps root f) (Q:=PQ ps root f) (W:=wkF ps) (e:=2-(f:Int)) (n:=16) (hi:=hi) (by omega) hrange (fun c l r s s' h=>ih (by omega) c l r s s' h) (ks:=(zb ps a).keys) (cs:=(zb ps a).kids) (lo:=lo) (s:=(bs.set a.toNat true,ld)) (s':=s') (by show(bs.set _ _).length=16;rw[List.length_set];exact hs)
   rw[K]
   have hmark:zdu bs [a]=bs.set a.toNat true:=rfl
   have hfm:∀l,(∀x∈l,0≤x)→(zge (bs.set a.toNat true) l↔zge bs l∧a∉l):=fun l hl=>by
    rw[←hmark,zkd (by intro x hx;rw[List.mem_singleton]at hx;subst hx;omega) hl]
    exact⟨fun h=>⟨h.1,h.2 a (by simp)⟩,fun h=>⟨h.1,fun x hx=>by rw[List.mem_singleton]at hx;subst hx;exact h.2⟩⟩
   constructor
   ·rintro⟨d,g1,g2,g3,g4,rfl⟩
    have hb:∀x∈(zb ps a).kids.flatMap (wkF ps d),0≤x:=fun x hx=>by
     obtain⟨z,hz,hx⟩:=List.mem_flatMap.1 hx
     obtain⟨l,r,hq⟩:=Seg.mem g1 z hz
     exact(hrange _ _ _ _ hq x hx).1
    obtain⟨f1,f2⟩:=(hfm _ hb).1 g3
    have hd:1≤d∧d≤f:=by
     obtain⟨c,hc⟩:∃c,c∈(zb ps a).kids:=by
      cases hq:(zb ps a).kids with
      |nil=>rw[hq]at c4;exact(c4 rfl).elim
      |cons c t=>exact⟨c,by simp⟩
     obtain⟨l,r,hq⟩:=Seg.mem g1 c hc
     exact⟨hq.1,hq.2.1⟩
    have hp:pgF ps root (d+1) a lo (hi-1)=true:=zfc.2 ⟨p1,p2,p3,p4,by
     rw[if_neg (by omega)]
     exact⟨p5.1,p5.2.1,p5.2.2,fun k hk=>by obtain⟨l,r,hq⟩:=Seg.mem g1 k hk;exact⟨hq.2.2.1,hq.2.2.2.1⟩,Seg.imp (fun c _ l r hq=>hq.2.2.2.2) g1⟩⟩
    refine⟨d+1,⟨by omega,by omega,a0,a1,hp⟩,?_,?_,?_,?_⟩
    ·show(a::(zb ps a).kids.flatMap (wkF ps d)).Nodup
     exact List.nodup_cons.2 ⟨f2,g2⟩
    ·intro x hx
     rcases List.mem_cons.1 hx with rfl|hx
     ·exact a2
     ·exact f1 x hx
    ·have g4:ld<0∨ld=2-(f:Int)+d:=g4
     show ld<0∨ld=2-((f+1:Nat):Int)+((d+1:Nat):Int)
     omega
    ·show(_,_)=(_,_)
     rw[show(2:Int)-(f:Int)+d=2-((f+1:Nat):Int)+((d+1:Nat):Int) by omega]
     rfl
   ·rintro⟨d,⟨d1,d2,_,_,q⟩,q2,q3,q4,rfl⟩
    obtain⟨d,rfl⟩:∃e,d=e+1:=⟨d-1,by omega⟩
    obtain⟨_,_,_,_,q5⟩:=zfc.1 q
    have hd:d≠0:=fun e=>by
     rw[if_pos e]at q5
     rw[q5.1]at c4;exact c4 rfl
    rw[if_neg hd]at q5
    obtain⟨_,_,_,q6,q7⟩:=q5
    have q2:(a::(zb ps a).kids.flatMap (wkF ps d)).Nodup:=q2
    rw[List.nodup_cons]at q2
    have hb:∀x∈(zb ps a).kids.flatMap (wkF ps d),0≤x:=fun x hx=>(zsr q a0 a1 x (List.mem_cons_of_mem _ hx)).1
    refine⟨d,Seg.imp (fun c hc l r hq=>⟨by omega,by omega,(q6 c hc).1,(q6 c hc).2,hq⟩) q7,q2.2,(hfm _ hb).2 ⟨fun x hx=>q3 x (List.mem_cons_of_mem _ hx),q2.1⟩,?_,?_⟩
    ·have q4:ld<0∨ld=2-((f+1:Nat):Int)+((d+1:Nat):Int):=q4
     show ld<0∨ld=2-(f:Int)+d
     omega
    ·show(_,_)=(_,_)
     rw[show(2:Int)-(f:Int)+d=2-((f+1:Nat):Int)+((d+1:Nat):Int) by omega]
     rfl
theorem zt7 (n:Nat):∃l:List Int,l.Nodup∧l.length=n∧∀x,x∈l↔0≤x∧x<(n:Int) :=
 ⟨nw 0 n,nw_nodup 0 n,by unfold nw;simp,fun x=>by rw[zpj];exact Iff.rfl⟩
theorem zj4 {l l':List Int} (h:l.Nodup) (hs:∀x∈l,x∈l'):l.length≤l'.length:=by
 induction l generalizing l' with
 |nil=>simp
 |cons a t ih =>
  rw[List.nodup_cons]at h
  have ha:=hs a (by simp)
  have:=ih h.2 (l':=l'.erase a) fun x hx=>(List.mem_erase_of_ne (fun e=>by subst e;exact h.1 hx)).2 (hs x (List.mem_cons_of_mem _ hx))
  have e:=List.length_erase_of_mem ha
  have:0<l'.length:=List.length_pos_of_mem ha
  simp only[List.length_cons];omega
theorem zyk {ps:List Pg} {root:Int} (h1:1≤ps.length) (h16:ps.length≤16) :
  vTree root ps=match zen ps root 3 root 0 100 (List.replicate 16 false,-1)with
   |some s=>(List.range ps.length).all fun i=>s.1.getD i false
   |none=>false:=by
 have K:=fun s'=>z0l (ps:=ps) (root:=root) h16 3 (Nat.le_refl _) root 0 100 (List.replicate 16 false,-1) s' (by simp)
 have fr:∀l,zge (List.replicate 16 false) l:=fun l x _=>by
  rw[List.getD_eq_getElem?_getD,List.getElem?_replicate];split<;>rfl
 cases hv:zen ps root 3 root 0 100 (List.replicate 16 false,-1)with
 |none =>
  show vTree root ps=false
  cases ht:vTree root ps with
  |false=>rfl
  |true =>
   obtain⟨h,v⟩:=zdk.1 ht
   have hp:=znm v.fit (root:=root) (by omega) (by omega) (.inl rfl) (fun hd=>by rw[if_neg (by omega)];omega)
   have:=(K (zdu (List.replicate 16 false) (wkF ps h root),2-((3:Nat):Int)+h)).2 ⟨h,⟨v.h1,v.h3,v.fit.1,v.fit.2.1,hp⟩,v.nd,fr _,.inl (by show(-1:Int)<0;omega),rfl⟩
   rw[hv]at this;cases this
 |some s' =>
  obtain⟨d,⟨d1,d3,r0,r1,q⟩,q2,_,_,rfl⟩:=(K s').1 hv
  have hb:=zsr q r0 r1
  show vTree root ps=(List.range ps.length).all fun i=>(zdu (List.replicate 16 false) (wkF ps d root)).getD i false
  have hall:((List.range ps.length).all fun i=>(zdu (List.replicate 16 false) (wkF ps d root)).getD i false)=true↔∀i:Nat,i<ps.length→(i:Int)∈wkF ps d root:=by
   rw[List.all_eq_true]
   have e:∀i:Nat,(zdu (List.replicate 16 false) (wkF ps d root)).getD i false=decide ((i:Int)∈wkF ps d root):=fun i=>by
    rw[zmv _ _ _ (by intro x hx;have:=hb x hx;simp only[List.length_replicate];omega)]
    have:(List.replicate 16 false).getD i false=false:=by rw[List.getD_eq_getElem?_getD,List.getElem?_replicate];split<;>rfl
    rw[this,Bool.false_or]
   exact⟨fun h i hi=>by have:=h i (List.mem_range.2 hi);rw[e]at this;exact of_decide_eq_true this,fun h i hi=>by rw[e];exact decide_eq_true (h i (List.mem_range.1 hi))⟩
  obtain⟨l,l1,l2,l3⟩:=zt7 ps.length
  rw[Bool.eq_iff_iff,hall]
  constructor
  ·intro ht i hi
   obtain⟨h,v⟩:=zdk.1 ht
   have hf:=zno q r0 r1 fun x hx e=>by
    obtain⟨d,rfl⟩:∃e,d=e+1:=⟨d-1,by omega⟩
    rw[zaf,List.nodup_cons]at q2
    exact q2.1 (e▸hx)
   have hd:=v.hg
   rw[hf.height (by omega)]at hd
   have:d=h:=by omega
   subst this
   apply Classical.byContradiction
   intro hc
   have:=zj4 (l:=(i:Int)::wkF ps d root) (l':=l) (List.nodup_cons.2 ⟨hc,q2⟩) fun x hx=>(l3 x).2 (by
    rcases List.mem_cons.1 hx with rfl|hx
    ·omega
    ·exact hb x hx)
   rw[l2,List.length_cons,v.all]at this
   omega
  ·intro h
   have hlen:(wkF ps d root).length=ps.length:=by
    have a1:=zj4 q2 fun x hx=>(l3 x).2 (hb x hx)
    have a2:=zj4 l1 fun x hx=>by
     have:=(l3 x).1 hx
     have:=h x.toNat (by omega)
     rwa [Int.toNat_of_nonneg (by omega)]at this
    omega
   have hf:=zno q r0 r1 fun x hx e=>by
    obtain⟨d,rfl⟩:∃e,d=e+1:=⟨d-1,by omega⟩
    rw[zaf,List.nodup_cons]at q2
    exact q2.1 (e▸hx)
   rw[if_pos rfl]at hf
   exact zdk.2 ⟨d,h1,h16,d1,d3,hf,q2,hlen⟩
end Go.VL
