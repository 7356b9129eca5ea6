/- V-logic: PT31 PT32 PT33 TrQa TrQb TrQc TrQd TrQe TrQf -/
import Derived.Test.YtdbhfajlffaneaaVW5
import Derived.Test.YtdbhfajlffaneaaVW3
namespace Go.VL
set_option linter.unusedVariables false
set_option linter.unusedSimpArgs false
theorem z44 (a:Int) (t:List Int) (n:Int):upF (a::t) n=if a≤n then upF t n+1 else 0:=by
 unfold upF
 rw[List.takeWhile_cons]
 by_cases c:a≤n
 ·rw[decide_eq_true c,if_pos rfl,if_pos c,List.length_cons]
 ·rw[decide_eq_false c,if_neg (by decide),if_neg c];rfl
theorem z46 {k:Int} {B:List Int}:∀{A:List Int},(∀x∈A,x≤k)→upF (A++B) k=A.length+upF B k
 |[],_=>by simp
 |a::t,h=>by
  rw[List.cons_append,z44,if_pos (h a List.mem_cons_self),z46 fun x hx=>h x (List.mem_cons_of_mem _ hx),List.length_cons];omega
theorem z5l {k:Int} {B:List Int}:∀{A:List Int},(¬∀x∈A,x≤k)→upF (A++B) k=upF A k∧upF A k<A.length
 |[],h=>absurd (fun x hx=>by cases hx) h
 |a::t,h=>by
  rw[List.cons_append,z44,z44,List.length_cons]
  by_cases c:a≤k
  ·obtain⟨i1,i2⟩:=z5l (k:=k) (B:=B) (A:=t) fun q=>h fun x hx=>by
    rcases List.mem_cons.1 hx with rfl|hx
    ·exact c
    ·exact q x hx
   rw[if_pos c,if_pos c,i1]
   exact⟨rfl,by omega⟩
  ·rw[if_neg c,if_neg c]
   exact⟨rfl,by omega⟩
theorem yaw {k:Int} {A:List Int} (h:∀x∈A,k<x):upF A k=0:=by
 cases A with
 |nil=>rfl
 |cons a t=>rw[z44,if_neg (by have:=h a List.mem_cons_self;omega)]
theorem z9v {KA KB A B:List Int} {key c n k:Int} (hA:A.length=KA.length) (hasc:Asc (KA++key::KB)) :
  (upF (KA++KB) k=A.length∧(A++c::B).getD (upF (KA++KB) k) 0=c∧(A++c::n::B).getD (upF (KA++key::KB) k) 0=if k<key then c else n) ∨
  (upF (KA++KB) k≠A.length∧(A++c::n::B).getD (upF (KA++key::KB) k) 0=(A++c::B).getD (upF (KA++KB) k) 0):=by
 by_cases h:∀x∈KA,x≤k
 ·rw[z46 h,z46 h,z44,←hA]
  have g:∀(l:List Int) (i:Nat),(A++l).getD (A.length+i) 0=l.getD i 0:=fun l i=>by
   rw[zdp,if_neg (by omega)];congr 1;omega
  have gs:∀i,(A++c::n::B).getD (A.length+i) 0=(c::n::B).getD i 0:=fun i=>g _ i
  have gt:∀i,(A++c::B).getD (A.length+i) 0=(c::B).getD i 0:=fun i=>g _ i
  rw[gs,gt]
  by_cases hk:key≤k
  ·rw[if_pos hk]
   by_cases h0:upF KB k=0
   ·refine .inl ⟨by omega,by rw[h0];rfl,?_⟩
    rw[h0,if_neg (by omega)];rfl
   ·refine .inr ⟨by omega,?_⟩
    obtain⟨u,hu⟩:∃u,upF KB k=u+1:=⟨upF KB k-1,by omega⟩
    rw[hu];rfl
  ·rw[if_neg hk]
   have h0:upF KB k=0:=yaw fun x hx=>by
    rw[z2x]at hasc
    have:=(zcf.1 hasc.2.1).1 x hx
    omega
   refine .inl ⟨by omega,by rw[h0];rfl,?_⟩
   rw[if_pos (by omega)];rfl
 ·obtain⟨e1,e2⟩:=z5l (B:=KB) h
  obtain⟨e3,_⟩:=z5l (B:=key::KB) h
  refine .inr ⟨by omega,?_⟩
  rw[e1,e3,zdp,zdp,if_pos (by omega),if_pos (by omega)]
theorem z8y {K1 K2 C1 C2:List Int} {mid k:Int} (h1:C1.length=K1.length+1) (hasc:Asc (K1++mid::K2)) :
  (C1++C2).getD (upF (K1++mid::K2) k) 0=if k<mid then C1.getD (upF K1 k) 0 else C2.getD (upF K2 k) 0:=by
 rw[z2x]at hasc
 by_cases h:∀x∈K1,x≤k
 ·have e1:upF K1 k=K1.length:=by
   have:=z46 (B:=[]) h
   rw[List.append_nil]at this
   rw[this];rfl
  rw[z46 h,z44,e1]
  by_cases c:mid≤k
  ·rw[if_pos c,if_neg (by omega),zdp,if_neg (by omega)]
   congr 1;omega
  ·rw[if_neg c,if_pos (by omega),zdp,if_pos (by omega)];rfl
 ·obtain⟨e1,e2⟩:=z5l (B:=mid::K2) h
  have c:k<mid:=by
   apply Classical.byContradiction
   intro hc
   exact h fun x hx=>by have:=hasc.2.2 x hx mid (by simp);omega
  rw[e1,if_pos c,zdp,if_pos (by omega)]
theorem z64 {ps:List Pg} {k:Int}:∀{d mn mx:Nat} {a lo hi:Int} {i:Nat},Fit ps (d+1) mn mx a lo hi→i≤d→(ptF ps k (d+1) a).getD i 0∈wkF ps (d+1) a
 |0,_,_,a,_,_,i,h,hi=>by
  have:i=0:=by omega
  subst this;exact zas
 |d+1,_,_,a,lo,hi',i,h,hi=>by
  cases i with
  |zero=>rw[zfy];exact zas
  |succ i =>
   rw[zgs]
   obtain⟨g1,l,r,g2⟩:=h.kid (key:=k)
   refine List.mem_cons_of_mem _ (List.mem_flatMap.2 ⟨_,zaq 0 g1,?_⟩)
   exact z64 (d:=d) g2 (by omega)
theorem z5q {ps qs:List Pg} {k:Int}:∀{d mn mx:Nat} {a lo hi:Int},Fit ps (d+1) mn mx a lo hi→(∀y∈wkF ps (d+1) a,zb qs y=zb ps y)→ptF qs k (d+1) a=ptF ps k (d+1) a
 |0,_,_,a,_,_,_,_=>rfl
 |d+1,_,_,a,lo,hi,h,hs=>by
  obtain⟨g1,l,r,g2⟩:=h.kid (key:=k)
  show a::ptF qs k (d+1) _=a::ptF ps k (d+1) _
  rw[hs a zas,z5q (d:=d) g2 fun y hy=>hs y (List.mem_cons_of_mem _ (List.mem_flatMap.2 ⟨_,zaq 0 g1,hy⟩))]
theorem z5v {ps:List Pg} {x:Int}:∀{d:Nat} {a:Int},zea ps x (d+1) a≤d+1∧(zea ps x (d+1) a=d+1→(zb ps a).keys.length=4)
 |0,a=>by
  have e:zea ps x (0+1) a=if x∉(zb ps a).keys∧(zb ps a).keys.length=4 then 1 else 0:=rfl
  rw[e]
  split
  ·rename_i h;exact⟨by omega,fun _=>h.2⟩
  ·exact⟨by omega,fun h=>by omega⟩
 |d+1,a=>by
  have e:zea ps x (d+1+1) a=if zea ps x (d+1) ((zb ps a).kids.getD (upF (zb ps a).keys x) 0)=d+1∧(zb ps a).keys.length=4 then d+2 else zea ps x (d+1) ((zb ps a).kids.getD (upF (zb ps a).keys x) 0):=rfl
  have i:=z5v (ps:=ps) (x:=x) (d:=d) (a:=(zb ps a).kids.getD (upF (zb ps a).keys x) 0)
  rw[e]
  split
  ·rename_i h;exact⟨by omega,fun _=>h.2⟩
  ·exact⟨by omega,fun h=>by omega⟩
theorem z5y {p:Pg} (h:p.keys.length≤5):(zam p).1.keys.length≤3:=by
 have:=zng p
 unfold zam
 split
 ·simp only[zae,List.length_map,List.length_take];omega
 ·simp only[List.length_take];omega
theorem z78 {ps qs:List Pg} {d:Nat} {mn:Nat} {c n lo hi k:Int} {j:Nat} (hf:Fit ps (d+2) mn 5 c lo hi) (h5:5≤(zb ps c).keys.length) (hj:j≤d)
  (hc:zb qs c=(zam (zb ps c)).1) (hn:zb qs n=(zam (zb ps c)).2.2) (hs:∀y∈bw ps (d+2) (zb ps c),zb qs y=zb ps y) :
  (ptF qs k (d+2) (if k<(zam (zb ps c)).2.1 then c else n)).getD (j+1) 0=(ptF ps k (d+2) c).getD (j+1) 0:=by
 have hkl:=zaa.kidsLen hf.2.2.2.2
 have ha:=(zaa.keys hf.2.2.2.2).1
 obtain⟨g1,l,r,g2⟩:=hf.kid (key:=k)
 rw[zgs,zgs]
 have hs':∀y∈wkF ps (d+1) ((zb ps c).kids.getD (upF (zb ps c).keys k) 0),zb qs y=zb ps y:=fun y hy=>hs y (List.mem_flatMap.2 ⟨_,zaq 0 g1,hy⟩)
 have hfr:=z5q (k:=k) g2 hs'
 have h4:=hf.2.2.2.1
 have key:(zb qs (if k<(zam (zb ps c)).2.1 then c else n)).kids.getD (upF (zb qs (if k<(zam (zb ps c)).2.1 then c else n)).keys k) 0=(zb ps c).kids.getD (upF (zb ps c).keys k) 0:=by
  generalize zb ps c=p at *
  have hne:¬p.kids.length=0:=by omega
  have x1:(zam p).1=⟨p.keys.take (p.keys.length / 2),p.kids.take (p.keys.length / 2+1),[]⟩:=by unfold zam;rw[if_neg hne]
  have x2:(zam p).2.1=p.keys.getD (p.keys.length / 2) 0:=by unfold zam;rw[if_neg hne]
  have x3:(zam p).2.2=⟨p.keys.drop (p.keys.length / 2+1),p.kids.drop (p.keys.length / 2+1),[]⟩:=by unfold zam;rw[if_neg hne]
  rw[x1]at hc
  rw[x3]at hn
  rw[x2]
  have e:p.keys=p.keys.take (p.keys.length / 2)++p.keys.getD (p.keys.length / 2) 0::p.keys.drop (p.keys.length / 2+1):=by
   rw[←zg0 0 (by omega),List.take_append_drop]
  have e2:p.kids=p.kids.take (p.keys.length / 2+1)++p.kids.drop (p.keys.length / 2+1):=(List.take_append_drop _ _).symm
  have hr:=z8y (k:=k) (K1:=p.keys.take (p.keys.length / 2)) (mid:=p.keys.getD (p.keys.length / 2) 0) (K2:=p.keys.drop (p.keys.length / 2+1)) (C1:=p.kids.take (p.keys.length / 2+1)) (C2:=p.kids.drop (p.keys.length / 2+1)) (by simp only[List.length_take];omega) (by rw[←e];exact ha)
  rw[←e,←e2]at hr
  rw[hr]
  split
  ·rw[hc]
  ·rw[hn]
 rw[key,hfr]
theorem z7m {ps:List Pg} {x:Pr} (hv:-1000≤x.value∧x.value≤1000):∀{d:Nat} {a:Int},At ps x.key (d+1) a→∀(k:Int) (j:Nat),j≤d →
  zb (zbb ps x (d+1) a) ((ptF ps k (d+1) a).getD j 0)=zb ps ((ptF ps k (d+1) a).getD j 0)→(ptF (zbb ps x (d+1) a) k (d+1) a).getD j 0=(ptF ps k (d+1) a).getD j 0
 |0,a,h,k,j,hj,hu=>by
  have:j=0:=by omega
  subst this;rfl
 |d+1,a,h,k,0,hj,hu=>by rw[zfy,zfy]
 |d+1,a,h,k,j+1,hj,hu=>by
  have hdn:=h.down
  have hk2:Asc (zb (zbb ps x (d+2) a) a).keys:=by
   obtain⟨_,_,_,_,_,P2⟩:=At.put hv h
   exact(zaa.keys P2.fit.2.2.2.2).1
  obtain⟨mn,lo,hi,hf,hn,hl,hh,h0,h9,hm⟩:=h
  have hseg:Seg (Fit ps (d+1) 2 4) lo hi (zb ps a).keys (zb ps a).kids:=hf.2.2.2.2.2
  have hasc:=(zaa.keys hf.2.2.2.2).1
  have hpw:=z64 (k:=k) (i:=j+1) hf hj
  obtain⟨KA,KB,A,B,c,l,r,e1,e2,e3,e4,e5,e6,s1,s2,s3,g1,g2⟩:=Seg.route hh hl hseg
  have m:Mid ps d a lo hi KA KB A B c l r:=zp5 hn hseg e1 e2 e4 e5 s1 s3
  obtain⟨ck1,lk,rk,ck2⟩:=hf.kid (key:=k)
  rw[e6]at hdn
  obtain⟨mn',lo',hi',_,_,P⟩:=At.put hv hdn.1
  have ih:=z7m hv hdn.1
  have hpr:zbb ps x (d+2) a=zmw (zbb ps x (d+1) c) a c:=by rw[zz5,e6]
  obtain⟨sf1,sf2⟩:=z5v (ps:=ps) (x:=x.key) (d:=d) (a:=c)
  have hsN:=P.over
  have hout:=P.out
  have hPf:=P.fit
  have hPl:=P.len
  have hpm:=P.perm
  rw[show d+1+1=d+2 from rfl,hpr]at hu⊢
  rw[show d+1+1=d+2 from rfl]at hpw
  have hpj:=(hf.wkLt _ hpw)
  rw[zgs]at hu hpw hpj⊢
  rw[zgs]
  generalize zbb ps x (d+1) c=ps1 at *
  have hac:a≠c:=fun e=>m.na (e▸List.mem_append_right _ (List.mem_append_left _ zas))
  have haW:a∉wkF ps (d+1) c:=hdn.2
  have pa1:zb ps1 a=zb ps a:=hout a hf.1 hf.2.1 haW
  have l1:(ps.length:Int)≤ps1.length:=by split at hPl<;>omega
  have oth:∀z,z∈A∨z∈B→∀y∈wkF ps (d+1) z,0≤y∧y<ps.length∧y≠a∧y∉wkF ps (d+1) c:=fun z hz y hy=>by
   rcases hz with hz|hz
   ·exact m.lt (.inl (List.mem_flatMap.2 ⟨z,hz,hy⟩))
   ·exact m.lt (.inr (List.mem_flatMap.2 ⟨z,hz,hy⟩))
  have kidAB:upF (zb ps a).keys k≠A.length→((zb ps a).kids.getD (upF (zb ps a).keys k) 0∈A∨(zb ps a).kids.getD (upF (zb ps a).keys k) 0∈B):=fun hq=>by
   generalize upF (zb ps a).keys k=q at *
   rw[e2]at ck1⊢
   rw[zdp]
   by_cases c1:q<A.length
   ·rw[if_pos c1];exact .inl (zaq 0 c1)
   ·rw[if_neg c1]
    obtain⟨t,ht⟩:∃t,q-A.length=t+1:=⟨q-A.length-1,by omega⟩
    rw[ht,List.getD_cons_succ]
    rw[List.length_append,List.length_cons]at ck1
    exact .inr (zaq 0 (by omega))
  unfold zmw at hu⊢
  by_cases h4:4<(zb ps1 c).keys.length
  ·rw[if_pos h4]at hu⊢
   have hs:zea ps x.key (d+1) c=d+1:=hsN.1 (by have:=hPf.2.2.2.1;omega)
   have hc4:=sf2 hs
   have h5:=hPf.2.2.2.1
   obtain⟨q1,q2,q3,q4,q5,q6⟩:=zla hPf.2.2.2.2 (by omega) (by omega)
   have ek:zfu (zb ps1 a) (plN (zb ps1 a).kids c) (zam (zb ps1 c)).2.1 ps1.length=⟨KA++(zam (zb ps1 c)).2.1::KB,A++c::(ps1.length:Int)::B,[]⟩:=by
    have hcA:c∉A:=fun q=>m.dA c (List.mem_flatMap.2 ⟨c,q,zas⟩) (List.mem_append_left _ zas)
    rw[pa1,e2,zqf hcA]
    exact z1m e1 e2 e4
   rw[ek]at hu⊢
   obtain⟨ps2,hps2⟩:∃ps2,(ps1.set c.toNat (zam (zb ps1 c)).1++[(zam (zb ps1 c)).2.2]).set a.toNat ⟨KA++(zam (zb ps1 c)).2.1::KB,A++c::(ps1.length:Int)::B,[]⟩=ps2:=⟨_,rfl⟩
   rw[hps2]at hu⊢
   have get:∀y:Int,0≤y→zb ps2 y=if y=a then⟨KA++(zam (zb ps1 c)).2.1::KB,A++c::(ps1.length:Int)::B,[]⟩else if y<ps1.length then(if y=c then(zam (zb ps1 c)).1 else zb ps1 y)else zb [(zam (zb ps1 c)).2.2] (y-ps1.length):=fun y hy=>by
    rw[←hps2,zc9 hf.1 (by rw[List.length_append,List.length_set];have:=hf.2.1;simp;omega) hy]
    split
    ·rfl
    ·rw[zlv hy,List.length_set]
     split
     ·rw[zc9 hPf.1 hPf.2.1 hy]
     ·rfl
   have ga:zb ps2 a=⟨KA++(zam (zb ps1 c)).2.1::KB,A++c::(ps1.length:Int)::B,[]⟩:=by rw[get a hf.1,if_pos rfl]
   have gc:zb ps2 c=(zam (zb ps1 c)).1:=by rw[get c hPf.1,if_neg (fun e=>hac e.symm),if_pos hPf.2.1,if_pos rfl]
   have gn:zb ps2 ps1.length=(zam (zb ps1 c)).2.2:=by
    rw[get _ (by omega),if_neg (by have:=hf.2.1;omega),if_neg (by omega),Int.sub_self];rfl
   have go:∀y:Int,0≤y→y<ps1.length→y≠a→y≠c→zb ps2 y=zb ps1 y:=fun y y0 y1 y2 y3=>by rw[get y y0,if_neg y2,if_pos y1,if_neg y3]
   have hasc2:Asc (KA++(zam (zb ps1 c)).2.1::KB):=by
    rw[hpr]at hk2
    unfold zmw at hk2
    rw[if_pos h4,ek,hps2,ga]at hk2
    exact hk2
   have hnc:(wkF ps1 (d+1) c).Nodup:=hpm.nodup_iff.2 (List.nodup_append.2 ⟨m.nc,nw_nodup _ _,fun y hy z hz e=>by
    have:=(s2.wkLt y hy).2
    rw[zpj]at hz
    omega⟩)
   have hac1:a∉wkF ps1 (d+1) c:=fun q=>by
    rcases List.mem_append.1 (hpm.mem_iff.1 q)with q|q
    ·exact haW q
    ·rw[zpj]at q
     have:=hf.2.1
     omega
   have nec:zb ps2 c≠zb ps c:=fun e=>by
    have h3:=z5y h5
    rw[←gc,e]at h3
    omega
   have nea:zb ps2 a≠zb ps a:=fun e=>by
    have:=congrArg (fun p=>p.keys.length) e
    rw[ga]at this
    dsimp only at this
    rw[e1]at this
    simp only[List.length_append,List.length_cons]at this
    omega
   rw[ga]
   dsimp only
   rcases z9v (c:=c) (n:=(ps1.length:Int)) (k:=k) (B:=B) e4 hasc2 with ⟨r1,r2,r3⟩|⟨r1,r2⟩
   ·rw[e1,e2]at hu hpw hpj⊢
    rw[r2]at hu hpw hpj⊢
    rw[r3]
    match d,j,hj,hu,hpj,hPf,hnc,hac1,ih with
    |_,0,_,hu,_,_,_,_,_ =>
     rw[zfy]at hu
     exact absurd hu nec
    |e+1,i+1,hj,hu,hpj,hPf,hnc,hac1,ih =>
     rw[zaf,List.nodup_cons]at hnc
     rw[zaf]at hac1
     have sp:=z78 (qs:=ps2) (n:=(ps1.length:Int)) (k:=k) (j:=i) hPf (by omega) (by omega) gc gn fun y hy=>by
      obtain⟨y0,y1⟩:=zaa.bwLt hPf.2.2.2.2 y hy
      exact go y y0 y1 (fun q=>hac1 (q▸List.mem_cons_of_mem _ hy)) (fun q=>hnc.1 (q▸hy))
     rw[sp]
     refine ih k (i+1) (by omega) ?_
     have pa:(ptF ps k (e+1+1) c).getD (i+1) 0≠a:=fun q=>by rw[q]at hu;exact nea hu
     have pc:(ptF ps k (e+1+1) c).getD (i+1) 0≠c:=fun q=>by rw[q]at hu;exact nec hu
     rw[←go _ hpj.1 (by omega) pa pc]
     exact hu
   ·have hz:=oth _ (kidAB (by rw[e1];exact r1))
    rw[r2,←e1,←e2]
    rw[z5q ck2 fun y hy=>by
     obtain⟨y0,y1,y2,y3⟩:=hz y hy
     rw[go y y0 (by omega) y2 (fun q=>y3 (q▸zas))]
     exact hout y y0 y1 y3]
  ·rw[if_neg h4]at hu⊢
   rw[pa1]
   by_cases hq:upF (zb ps a).keys k=A.length
   ·have ec:(zb ps a).kids.getD (upF (zb ps a).keys k) 0=c:=by rw[hq,e2];exact zlw 0 A c B
    rw[ec]at hu⊢
    exact ih k j (by omega) hu
   ·have hz:=oth _ (kidAB hq)
    rw[z5q ck2 fun y hy=>by obtain⟨y0,y1,y2,y3⟩:=hz y hy;exact hout y y0 y1 y3]
theorem z90 {root:Int} {ps:List Pg} {x:Pr} {r:Int×List Pg} (h:zqc root ps x=some r) (k:Int) {j:Nat} (hj:j<htF root ps)
  (hu:zb r.2 ((ptF ps k (htF root ps) root).getD j 0)=zb ps ((ptF ps k (htF root ps) root).getD j 0)) :
  (ptF r.2 k (htF r.1 r.2) r.1).getD (j+(htF r.1 r.2-htF root ps)) 0=(ptF ps k (htF root ps) root).getD j 0:=by
 have F:=z4k h
 have hht:=F.ht
 obtain⟨_,_,hR,_⟩:=zrm h
 have v:=za0 F.v0
 obtain⟨d,hd⟩:∃d,htF root ps=d+1:=⟨htF root ps-1,by have:=v.h1;omega⟩
 rw[hd]at v hj hu hht hR⊢
 have ha:=v.v0.at F.rng.1.1 F.rng.1.2
 have hp:=z7m F.rng.2 ha k j (by omega)
 obtain⟨mn,lo,hi,_,_,P⟩:=At.put F.rng.2 ha
 obtain⟨sf1,sf2⟩:=z5v (ps:=ps) (x:=x.key) (d:=d) (a:=root)
 have hov:=P.over
 have hPf:=P.fit
 have hPl:=P.len
 have hpm:=P.perm
 have hpw:=z64 (k:=k) (i:=j) v.fit (by omega)
 have hpj:=v.fit.wkLt _ hpw
 have hnd:=v.nd
 have hwl:=v.fit.wkLt
 unfold zer at hR
 generalize zbb ps x (d+1) root=ps1 at *
 have l1:(ps.length:Int)≤ps1.length:=by split at hPl<;>omega
 by_cases h4:4<(zb ps1 root).keys.length
 ·rw[if_pos h4]at hR
  have h5:=hPf.2.2.2.1
  have hs:zea ps x.key (d+1) root=d+1:=hov.1 (by omega)
  have hc4:=sf2 hs
  rw[if_pos hs]at hht
  obtain⟨ps2,hps2⟩:∃ps2,ps1.set root.toNat (zam (zb ps1 root)).1++[(zam (zb ps1 root)).2.2,⟨[(zam (zb ps1 root)).2.1],[root,(ps1.length:Int)],[]⟩]=ps2:=⟨_,rfl⟩
  rw[hps2]at hR
  subst hR
  dsimp only at hu hht⊢
  rw[hht,show j+(d+1+1-(d+1))=j+1 by omega,show d+1+1=d+2 from rfl,zgs]
  have get:∀y:Int,0≤y→zb ps2 y=if y<ps1.length then(if y=root then(zam (zb ps1 root)).1 else zb ps1 y)else zb [(zam (zb ps1 root)).2.2,⟨[(zam (zb ps1 root)).2.1],[root,(ps1.length:Int)],[]⟩] (y-ps1.length):=fun y hy=>by
   rw[←hps2,zlv hy,List.length_set]
   split
   ·rw[zc9 hPf.1 hPf.2.1 hy]
   ·rfl
  have gc:zb ps2 root=(zam (zb ps1 root)).1:=by rw[get root hPf.1,if_pos hPf.2.1,if_pos rfl]
  have gn:zb ps2 ps1.length=(zam (zb ps1 root)).2.2:=by rw[get _ (by omega),if_neg (by omega),Int.sub_self];rfl
  have gt:zb ps2 ((ps1.length:Int)+1)=⟨[(zam (zb ps1 root)).2.1],[root,(ps1.length:Int)],[]⟩:=by rw[get _ (by omega),if_neg (by omega),show(ps1.length:Int)+1-ps1.length=1 by omega];rfl
  have go:∀y:Int,0≤y→y<ps1.length→y≠root→zb ps2 y=zb ps1 y:=fun y y0 y1 y2=>by rw[get y y0,if_pos y1,if_neg y2]
  have nec:zb ps2 root≠zb ps root:=fun e=>by
   have h3:=z5y h5
   rw[←gc,e]at h3
   omega
  rw[gt]
  dsimp only
  have er:([root,(ps1.length:Int)]:List Int).getD (upF [(zam (zb ps1 root)).2.1] k) 0=if k<(zam (zb ps1 root)).2.1 then root else(ps1.length:Int):=by
   rw[z44]
   by_cases c:(zam (zb ps1 root)).2.1≤k
   ·rw[if_pos c,if_neg (by omega)];rfl
   ·rw[if_neg c,if_pos (by omega)];rfl
  rw[er]
  match d,j,hj,hu,hpj,hPf,hpm,hnd,hwl,hp with
  |_,0,_,hu,_,_,_,_,_,_ =>
   rw[zfy]at hu
   exact absurd hu nec
  |e+1,i+1,hj,hu,hpj,hPf,hpm,hnd,hwl,hp =>
   have hnc:(wkF ps1 (e+1+1) root).Nodup:=hpm.nodup_iff.2 (List.nodup_append.2 ⟨hnd,nw_nodup _ _,fun y hy z hz e=>by
    have:=(hwl y hy).2
    rw[zpj]at hz
    omega⟩)
   rw[zaf,List.nodup_cons]at hnc
   have sp:=z78 (qs:=ps2) (n:=(ps1.length:Int)) (k:=k) (j:=i) hPf (by omega) (by omega) gc gn fun y hy=>by
    obtain⟨y0,y1⟩:=zaa.bwLt hPf.2.2.2.2 y hy
    exact go y y0 y1 (fun q=>hnc.1 (q▸hy))
   rw[sp]
   refine hp ?_
   have pc:(ptF ps k (e+1+1) root).getD (i+1) 0≠root:=fun q=>by rw[q]at hu;exact nec hu
   rw[←go _ hpj.1 (by omega) pc]
   exact hu
 ·rw[if_neg h4]at hR
  have hs:¬zea ps x.key (d+1) root=d+1:=fun q=>by have:=hov.2 q;omega
  rw[if_neg hs]at hht
  subst hR
  dsimp only at hu hht⊢
  rw[hht,show j+(d+1+0-(d+1))=j by omega]
  exact hp hu
theorem ya2 {root:Int} {ps:List Pg} {x:Pr} {r:Int×List Pg} (h:zqc root ps x=some r) (hu:zb r.2 root=zb ps root):htF r.1 r.2=htF root ps:=by
 have F:=z4k h
 have hht:=F.ht
 obtain⟨_,_,hR,_⟩:=zrm h
 have v:=za0 F.v0
 obtain⟨d,hd⟩:∃d,htF root ps=d+1:=⟨htF root ps-1,by have:=v.h1;omega⟩
 rw[hd]at v hht hR⊢
 have ha:=v.v0.at F.rng.1.1 F.rng.1.2
 obtain⟨mn,lo,hi,_,_,P⟩:=At.put F.rng.2 ha
 obtain⟨sf1,sf2⟩:=z5v (ps:=ps) (x:=x.key) (d:=d) (a:=root)
 have hov:=P.over
 have hPf:=P.fit
 by_cases hs:zea ps x.key (d+1) root=d+1
 ·exfalso
  have hc4:=sf2 hs
  have h5:=hov.2 hs
  unfold zer at hR
  generalize zbb ps x (d+1) root=ps1 at *
  rw[if_pos (by omega)]at hR
  subst hR
  have e:zb (ps1.set root.toNat (zam (zb ps1 root)).1++[(zam (zb ps1 root)).2.2,⟨[(zam (zb ps1 root)).2.1],[root,(ps1.length:Int)],[]⟩]) root=(zam (zb ps1 root)).1:=by
   rw[zlv hPf.1,List.length_set,if_pos hPf.2.1,zc9 hPf.1 hPf.2.1 hPf.1,if_pos rfl]
  have hu:zb (ps1.set root.toNat (zam (zb ps1 root)).1++[(zam (zb ps1 root)).2.2,⟨[(zam (zb ps1 root)).2.1],[root,(ps1.length:Int)],[]⟩]) root=zb ps root:=hu
  rw[e]at hu
  have h3:=z5y (p:=zb ps1 root) (by omega)
  rw[hu]at h3
  omega
 ·rw[if_neg hs]at hht
  omega
theorem z5f {ps:List Pg} {key:Int}:∀{d mn mx:Nat} {a lo hi:Int} {i:Nat},Fit ps (d+1) mn mx a lo hi→i≤d→((zb ps ((ptF ps key (d+1) a).getD i 0)).kids.length=0↔i=d)
 |0,_,_,a,_,_,i,h,hi=>by
  have:i=0:=by omega
  subst this
  rw[zfy,LeafOk.kids h.2.2.2.2]
  exact⟨fun _=>rfl,fun _=>rfl⟩
 |d+1,_,_,a,lo,hi',i,h,hi=>by
  cases i with
  |zero =>
   rw[zfy]
   have:=zaa.kidsLen h.2.2.2.2
   exact⟨fun q=>by omega,fun q=>by omega⟩
  |succ i =>
   rw[zgs]
   obtain⟨g1,l,r,g2⟩:=h.kid (key:=key)
   rw[z5f (d:=d) g2 (by omega)]
   omega
abbrev wyF (s:RS) (key:Int):List Int:=ptF s.ps key (htF s.root s.ps) s.root
structure OpP (s:RS) (o:Opn) (hs:List Int) (j:Nat):Prop where
 le:j+hs.length<htF s.root s.ps
 z:hs.length=0→j=0
 on:∀t,t<hs.length→hs.getD t 0=(wyF s o.key).getD (j+t) 0
 sf:o.kind=1→j=0∨(zb s.ps ((wyF s o.key).getD j 0)).keys.length<4
structure RunP (ops:List Opn) (h0:Nat) (cnt:Nat→Nat) (s:RS):Prop where
 ex:∀i j,i<ops.length→j<ops.length→i≠j→(z4e ops i).kind=1→∀a∈s.held.getD i [],a∉s.held.getD j []
 op:∀w,w<ops.length→(w:Int)∉s.done→∃j,OpP s (z4e ops w) (s.held.getD w []) j∧h0+j+(s.held.getD w []).length≤cnt w+htF s.root s.ps
 dn:∀w,w<ops.length→(w:Int)∈s.done→h0≤cnt w
theorem OpP.next {s:RS} {o:Opn} {hs:List Int} {j:Nat} (h:OpP s o hs j):nxF s.root s.ps hs o.key=(wyF s o.key).getD (j+hs.length) 0:=by
 unfold nxF
 have hle:=h.le
 by_cases c:hs.length=0
 ·rw[if_pos c,h.z c,c]
  obtain⟨d,hd⟩:∃d,htF s.root s.ps=d+1:=⟨htF s.root s.ps-1,by omega⟩
  unfold wyF
  rw[hd]
  exact zfy.symm
 ·rw[if_neg c]
  have e:laF hs=(wyF s o.key).getD (j+(hs.length-1)) 0:=h.on _ (by omega)
  rw[e,show j+hs.length=j+(hs.length-1)+1 by omega]
  exact(zhv (by omega)).symm
theorem z83 {ops:List Opn} {held:List (List Int)} {w:Nat} {page:Int} (h:z4j ops held w page=false) {i:Nat} (hi:i<ops.length) (hw:i≠w) (hk:(z4e ops i).kind=1∨(z4e ops w).kind=1):page∉held.getD i []:=fun hc=>by
 have:z4j ops held w page=true:=by
  unfold z4j
  rw[List.any_eq_true]
  refine⟨i,List.mem_range.2 hi,?_⟩
  rw[decide_eq_true hw,decide_eq_true hk,List.contains_iff_mem.2 hc];rfl
 rw[this]at h;cases h
theorem RunP.zero {root:Int} {ps:List Pg} {ops:List Opn} (h:vTree root ps=true):RunP ops (htF root ps) (fun _=>0) (r0F root ps ops.length):=by
 have e:∀w,(r0F root ps ops.length).held.getD w []=[]:=fun w=>by
  unfold r0F
  rw[List.getD_eq_getElem?_getD,List.getElem?_replicate]
  split<;>rfl
 refine⟨fun i j _ _ _ _ a ha=>(by rw[e]at ha;cases ha),fun w hw _=>⟨0,⟨?_,fun _=>rfl,fun t ht=>?_,fun _=>.inl rfl⟩,?_⟩,fun w _ hd=>(by cases hd)⟩
 ·rw[e]
  have:=(za0 h).h1
  show 0+0<htF root ps
  omega
 ·rw[e]at ht
  exact absurd ht (Nat.not_lt_zero _)
 ·rw[e]
  show htF root ps+0+0≤0+htF root ps
  omega
theorem yad {ops:List Opn} {s:RS} {w:Nat} {j:Nat} {r:Int×List Pg} (hvt:vTree s.root s.ps=true) (hk:(z4e ops w).kind=1) (hP:OpP s (z4e ops w) (s.held.getD w []) j)
  (h5:zqc s.root s.ps ⟨(z4e ops w).key,(z4e ops w).value⟩=some r) (hl:j+(s.held.getD w []).length+1=htF s.root s.ps)
  {a:Int} (a0:0≤a) (a1:a<s.ps.length) (ai:(zb s.ps a).kids.length≠0) (hx:a∉s.held.getD w []):zb r.2 a=zb s.ps a:=by
 apply Classical.byContradiction
 intro hc
 have v:=za0 hvt
 obtain⟨d,hd⟩:∃d,htF s.root s.ps=d+1:=⟨htF s.root s.ps-1,by have:=v.h1;omega⟩
 obtain⟨k,k1,k2,k3⟩:=z6r h5 hd (z6o.2 ⟨a0,a1,hc⟩)
 have hon:=hP.on
 have hsf:=hP.sf hk
 unfold wyF at hon hsf
 rw[hd]at v hl hon hsf
 have k2:a=(ptF s.ps (z4e ops w).key (d+1) s.root).getD k 0:=k2
 have k3:d≤k+zea s.ps (z4e ops w).key (d+1) s.root:=k3
 by_cases e:k=d
 ·rw[k2]at ai
  exact ai ((z5f v.fit k1).2 e)
 ·have hj:j≤k:=by
   rcases hsf with q|q
   ·omega
   ·by_cases c:(z4e ops w).key∈(zb s.ps (lfF s.ps (z4e ops w).key (d+1) s.root)).keys
    ·rw[z28 c]at k3;omega
    ·have ht:=z25 c
     have hln:(ptF s.ps (z4e ops w).key (d+1) s.root).length=d+1:=zg1
     obtain⟨f1,f2⟩:=z1j (ps:=s.ps) (l:=ptF s.ps (z4e ops w).key (d+1) s.root)
     rw[hln,←ht]at f1
     apply Classical.byContradiction
     intro hjk
     have:=f1 (d-j) (by omega)
     rw[show d+1-1-(d-j)=j by omega]at this
     omega
  refine hx ?_
  have:=hon (k-j) (by omega)
  rw[show j+(k-j)=k by omega]at this
  rw[k2,←this]
  exact zaq 0 (by omega)
theorem RunP.step {ops:List Opn} {k h0:Nat} {cnt:Nat→Nat} {s:RS} (hI:RunI ops k s) (h:RunP ops h0 cnt s) (ho:z4m ops=true) {w:Nat} (hw:w<ops.length) :
  RunP ops h0 (fun i=>cnt i+(if i=w then 1 else 0)) (piF ops s w):=by
 have hvo:=z5c ho hw
 have hset:∀(x:List Int) (j:Nat),(s.held.set w x).getD j []=if j=w then x else s.held.getD j []:=fun x j=>by
  rw[z4s]
  by_cases e:j=w
  ·rw[if_pos e,if_pos ⟨e,by rw[hI.hl];exact hw⟩]
  ·rw[if_neg e,if_neg fun q=>e q.1]
 have fin:∀(R:Int) (P:List Pg) (x:Int),(∀i j,i<ops.length→i≠w→(i:Int)∉s.done→OpP s (z4e ops i) (s.held.getD i []) j→∃j',OpP ⟨R,P,s.held,s.done,s.got⟩ (z4e ops i) (s.held.getD i []) j'∧j'+htF s.root s.ps≤j+htF R P) →
   (w:Int)∉s.done→(zb s.ps (nxF s.root s.ps (s.held.getD w []) (z4e ops w).key)).kids.length=0 →
   RunP ops h0 (fun i=>cnt i+(if i=w then 1 else 0)) ⟨R,P,s.held.set w [],s.done++[(w:Int)],s.got.set w x⟩:=fun R P x hp h1 h3=>by
  refine⟨fun i j hi hj hij hk a ha=>?_,fun i hi hd=>?_,fun i hi hd=>?_⟩
  ·have ha:a∈(s.held.set w []).getD i []:=ha
   show a∉(s.held.set w []).getD j []
   rw[hset]at ha⊢
   split at ha
   ·cases ha
   ·split
    ·exact fun q=>by cases q
    ·exact h.ex i j hi hj hij hk a ha
  ·change (i:Int)∉s.done++[(w:Int)]at hd
   rw[List.mem_append,not_or]at hd
   have hiw:i≠w:=fun e=>hd.2 (by rw[e];exact List.mem_singleton.2 rfl)
   obtain⟨j,q1,q2⟩:=h.op i hi hd.1
   obtain⟨j',p1,p2⟩:=hp i j hi hiw hd.1 q1
   refine⟨j',?_,?_⟩
   ·show OpP ⟨R,P,s.held.set w [],s.done++[(w:Int)],s.got.set w x⟩ _ ((s.held.set w []).getD i []) j'
    rw[hset,if_neg hiw]
    exact⟨p1.le,p1.z,p1.on,p1.sf⟩
   ·show h0+j'+((s.held.set w []).getD i []).length≤cnt i+(if i=w then 1 else 0)+htF R P
    rw[hset,if_neg hiw,if_neg hiw]
    omega
  ·show h0≤cnt i+(if i=w then 1 else 0)
   change (i:Int)∈s.done++[(w:Int)]at hd
   rcases List.mem_append.1 hd with hd|hd
   ·have:=h.dn i hi hd
    omega
   ·rw[List.mem_singleton]at hd
    have e:i=w:=by omega
    subst e
    obtain⟨j,q1,q2⟩:=h.op i hi h1
    rw[q1.next]at h3
    have v:=za0 hI.vt
    obtain⟨d,hd'⟩:∃d,htF s.root s.ps=d+1:=⟨htF s.root s.ps-1,by have:=v.h1;omega⟩
    have hle:=q1.le
    unfold wyF at h3
    rw[hd']at v h3 hle q2
    have:=(z5f v.fit (by omega)).1 h3
    rw[if_pos rfl]
    omega
 have hid:∀i j,i<ops.length→i≠w→(i:Int)∉s.done→OpP s (z4e ops i) (s.held.getD i []) j→∃j',OpP ⟨s.root,s.ps,s.held,s.done,s.got⟩ (z4e ops i) (s.held.getD i []) j'∧j'+htF s.root s.ps≤j+htF s.root s.ps:=fun i j _ _ _ q=>⟨j,q,Nat.le_refl _⟩
 have hc:=z74 ops s w
 generalize piF ops s w=t at hc
 cases hc with
 |same q =>
  refine⟨h.ex,fun i hi hd=>?_,fun i hi hd=>?_⟩
  ·obtain⟨j,q1,q2⟩:=h.op i hi hd
   exact⟨j,q1,by omega⟩
  ·have:=h.dn i hi hd
   omega
 |down h1 h2 h3 =>
  obtain⟨j0,p1,p2⟩:=h.op w hw h1
  have hnx:=p1.next
  refine⟨fun i j hi hj hij hk a ha=>?_,fun i hi hd=>?_,fun i hi hd=>?_⟩
  ·have ha:a∈(s.held.set w (h2F s.root s.ps (s.held.getD w []) (z4e ops w).kind (nxF s.root s.ps (s.held.getD w []) (z4e ops w).key))).getD i []:=ha
   show a∉(s.held.set w (h2F s.root s.ps (s.held.getD w []) (z4e ops w).kind (nxF s.root s.ps (s.held.getD w []) (z4e ops w).key))).getD j []
   have hsub:∀a,a∈h2F s.root s.ps (s.held.getD w []) (z4e ops w).kind (nxF s.root s.ps (s.held.getD w []) (z4e ops w).key)→a=nxF s.root s.ps (s.held.getD w []) (z4e ops w).key∨a∈s.held.getD w []:=fun a ha=>by
    unfold h2F at ha
    split at ha
    ·exact .inl (List.mem_singleton.1 ha)
    ·rcases List.mem_append.1 ha with ha|ha
     ·exact .inr ha
     ·exact .inl (List.mem_singleton.1 ha)
   rw[hset]at ha
   rw[hset]
   by_cases ei:i=w
   ·rw[if_pos ei]at ha
    rw[if_neg (fun e=>hij (ei.trans e.symm))]
    rw[ei]at hij hk
    rcases hsub a ha with q|q
    ·rw[q];exact z83 h2 hj (fun e=>hij e.symm) (.inr hk)
    ·exact h.ex w j hw hj hij hk a q
   ·rw[if_neg ei]at ha
    by_cases ej:j=w
    ·rw[if_pos ej]
     intro hc
     rcases hsub a hc with q|q
     ·rw[q]at ha;exact z83 h2 hi ei (.inl hk) ha
     ·exact h.ex i w hi hw ei hk a ha q
    ·rw[if_neg ej]
     exact h.ex i j hi hj hij hk a ha
  ·by_cases ei:i=w
   ·subst ei
    have v:=za0 hI.vt
    obtain⟨d,hd'⟩:∃d,htF s.root s.ps=d+1:=⟨htF s.root s.ps-1,by have:=v.h1;omega⟩
    have hlt:j0+(s.held.getD i []).length+1<htF s.root s.ps:=by
     have hle:=p1.le
     rw[hnx]at h3
     unfold wyF at h3
     rw[hd']at v h3 hle⊢
     apply Classical.byContradiction
     intro hn
     exact h3 ((z5f v.fit (by omega)).2 (by omega))
    have hG:(s.held.set i (h2F s.root s.ps (s.held.getD i []) (z4e ops i).kind (nxF s.root s.ps (s.held.getD i []) (z4e ops i).key))).getD i []=h2F s.root s.ps (s.held.getD i []) (z4e ops i).kind (nxF s.root s.ps (s.held.getD i []) (z4e ops i).key):=by rw[hset,if_pos rfl]
    show ∃j,OpP _ _ ((s.held.set i _).getD i []) j∧h0+j+((s.held.set i _).getD i []).length≤cnt i+(if i=i then 1 else 0)+htF s.root s.ps
    rw[hG,if_pos rfl,hnx]
    unfold h2F
    by_cases c:sfF s.root s.ps (z4e ops i).kind ((wyF s (z4e ops i).key).getD (j0+(s.held.getD i []).length) 0)=true
    ·rw[if_pos c]
     refine⟨j0+(s.held.getD i []).length,⟨hlt,fun q=>(by cases q),fun t ht=>?_,fun q=>.inr ?_⟩,by rw[List.length_singleton];omega⟩
     ·have:t=0:=by simp at ht;omega
      subst this;rfl
     ·rw[q]at c
      exact of_decide_eq_true c
    ·rw[if_neg c]
     refine⟨j0,⟨by rw[List.length_append];show j0+((s.held.getD i []).length+1)<htF s.root s.ps;omega,fun q=>(by simp at q),fun t ht=>?_,p1.sf⟩,by rw[List.length_append,List.length_singleton];omega⟩
     rw[List.length_append,List.length_singleton]at ht
     rw[zdp]
     by_cases ct:t<(s.held.getD i []).length
     ·rw[if_pos ct];exact p1.on t ct
     ·rw[if_neg ct,show t=(s.held.getD i []).length by omega,Nat.sub_self];rfl
   ·obtain⟨j,q1,q2⟩:=h.op i hi hd
    have hG:(s.held.set w (h2F s.root s.ps (s.held.getD w []) (z4e ops w).kind (nxF s.root s.ps (s.held.getD w []) (z4e ops w).key))).getD i []=s.held.getD i []:=by rw[hset,if_neg ei]
    show ∃j,OpP _ _ ((s.held.set w _).getD i []) j∧h0+j+((s.held.set w _).getD i []).length≤cnt i+(if i=w then 1 else 0)+htF s.root s.ps
    rw[hG,if_neg ei]
    exact⟨j,⟨q1.le,q1.z,q1.on,q1.sf⟩,q2⟩
  ·have:=h.dn i hi hd
   omega
 |get h1 h2 h3 h4=>exact fin _ _ _ hid h1 h3
 |put h1 h2 h3 h4 r h5 =>
  refine fin _ _ _ (fun i j hi hiw hd q=>?_) h1 h3
  obtain⟨j0,p1,p2⟩:=h.op w hw h1
  have hk1:(z4e ops w).kind=1:=by omega
  have v:=za0 hI.vt
  have hF:=(z4k h5).ht
  have hle:=p1.le
  have hl:j0+(s.held.getD w []).length+1=htF s.root s.ps:=by
   obtain⟨d,hd'⟩:∃d,htF s.root s.ps=d+1:=⟨htF s.root s.ps-1,by have:=v.h1;omega⟩
   have h3':=h3
   rw[p1.next]at h3'
   unfold wyF at h3'
   rw[hd']at v h3' hle⊢
   have:=(z5f v.fit (by omega)).1 h3'
   omega
  have un:∀a∈s.held.getD i [],zb r.2 a=zb s.ps a:=fun a ha=>by
   obtain⟨a0,a1,a2⟩:=hI.hin i a ha
   exact yad hI.vt hk1 p1 h5 hl a0 a1 a2 (fun hc=>h.ex w i hw hi (fun e=>hiw e.symm) hk1 a hc ha)
  by_cases c:(s.held.getD i []).length=0
  ·have hz:=q.z c
   refine⟨0,⟨?_,fun _=>rfl,fun t ht=>?_,fun _=>.inl rfl⟩,?_⟩
   ·rw[c]
    have:=(za0 (z4k h5).vt).h1
    show 0+0<htF r.1 r.2
    omega
   ·rw[c]at ht
    exact absurd ht (Nat.not_lt_zero _)
   ·rw[hF];omega
  ·have hq:=q.le
   have path:∀t,t<(s.held.getD i []).length→(ptF r.2 (z4e ops i).key (htF r.1 r.2) r.1).getD (j+t+(htF r.1 r.2-htF s.root s.ps)) 0=(wyF s (z4e ops i).key).getD (j+t) 0:=fun t ht=>by
    have ho:=q.on t ht
    refine z90 h5 _ (by omega) ?_
    have hm:=un _ (zaq 0 ht)
    rw[ho]at hm
    exact hm
   refine⟨j+(htF r.1 r.2-htF s.root s.ps),⟨?_,fun q'=>absurd q' c,fun t ht=>?_,fun hk=>?_⟩,?_⟩
   ·show j+(htF r.1 r.2-htF s.root s.ps)+(s.held.getD i []).length<htF r.1 r.2
    rw[hF]at *
    omega
   ·show(s.held.getD i []).getD t 0=(ptF r.2 (z4e ops i).key (htF r.1 r.2) r.1).getD (j+(htF r.1 r.2-htF s.root s.ps)+t) 0
    rw[show j+(htF r.1 r.2-htF s.root s.ps)+t=j+t+(htF r.1 r.2-htF s.root s.ps) by omega,path t ht]
    exact q.on t ht
   ·have h00:=path 0 (by omega)
    have hm:=un _ (zaq 0 (show 0<(s.held.getD i []).length by omega))
    rw[q.on 0 (by omega)]at hm
    rcases q.sf hk with z|z
    ·refine .inl ?_
     subst z
     rw[Nat.zero_add]at hm
     have hr:(wyF s (z4e ops i).key).getD 0 0=s.root:=by
      obtain⟨d,hd'⟩:∃d,htF s.root s.ps=d+1:=⟨htF s.root s.ps-1,by omega⟩
      unfold wyF
      rw[hd']
      exact zfy
     rw[hr]at hm
     have:=ya2 h5 hm
     omega
    ·refine .inr ?_
     show(zb r.2 ((ptF r.2 (z4e ops i).key (htF r.1 r.2) r.1).getD (j+(htF r.1 r.2-htF s.root s.ps)) 0)).keys.length<4
     rw[Nat.add_zero]at h00 hm
     rw[h00,hm]
     exact z
   ·rw[hF];omega
 |putNo h1 h2 h3 h4 h5=>exact fin _ _ _ hid h1 h3
def reT (ops:List Opn) (now:Int×List Pg) (i:Int):Int×List Pg :=
 if (z4e ops i.toNat).kind=0 then now
 else match zqc now.1 now.2 ⟨(z4e ops i.toNat).key,(z4e ops i.toNat).value⟩with
  |some r=>r
  |none=>now
def wtF (ops:List Opn) (now:Int×List Pg) (i:Int):Int :=
 if (z4e ops i.toNat).kind=0 then(if (z4e ops i.toNat).key∈(psF now.1 now.2).map Pr.key then zei (psF now.1 now.2) (z4e ops i.toNat).key else 9999)
 else match zqc now.1 now.2 ⟨(z4e ops i.toNat).key,(z4e ops i.toNat).value⟩with
  |some _=>(z4e ops i.toNat).value
  |none=>9999
structure RunR (ops:List Opn) (t:Int×List Pg) (s:RS):Prop where
 tr:s.done.foldl (reT ops) t=(s.root,s.ps)
 gt:∀i,i<s.done.length→s.got.getD (s.done.getD i 0).toNat 0=wtF ops ((s.done.take i).foldl (reT ops) t) (s.done.getD i 0)
 op:∀i,i<ops.length→(i:Int)∉s.done→s.got.getD i 0=0
theorem RunR.zero (root:Int) (ps:List Pg) (ops:List Opn):RunR ops (root,ps) (r0F root ps ops.length):=by
 refine⟨rfl,fun i hi=>absurd hi (Nat.not_lt_zero _),fun i _ _=>?_⟩
 unfold r0F
 rw[List.getD_eq_getElem?_getD,List.getElem?_replicate]
 split<;>rfl
theorem RunR.fin {ops:List Opn} {t:Int×List Pg} {k:Nat} {s:RS} (hI:RunI ops k s) (h:RunR ops t s) {w:Nat} (hw:w<ops.length) (h1:(w:Int)∉s.done) {R:Int×List Pg} {x:Int} (hR:reT ops (s.root,s.ps) w=R) (hx:wtF ops (s.root,s.ps) w=x) :
  RunR ops t ⟨R.1,R.2,s.held.set w [],s.done++[(w:Int)],s.got.set w x⟩:=by
 refine⟨?_,fun i hi=>?_,fun i hi hd=>?_⟩
 ·show(s.done++[(w:Int)]).foldl (reT ops) t=(R.1,R.2)
  rw[List.foldl_append,h.tr]
  show reT ops (s.root,s.ps) w=_
  rw[hR]
 ·show(s.got.set w x).getD ((s.done++[(w:Int)]).getD i 0).toNat 0=wtF ops (((s.done++[(w:Int)]).take i).foldl (reT ops) t) ((s.done++[(w:Int)]).getD i 0)
  have hi:i<(s.done++[(w:Int)]).length:=hi
  rw[List.length_append,List.length_singleton]at hi
  rw[zdp,List.take_append_of_le_length (by omega)]
  by_cases c:i<s.done.length
  ·rw[if_pos c,z4s,if_neg]
   ·exact h.gt i c
   ·rintro⟨e,_⟩
    have hm:=zaq 0 c
    have:=(hI.dn _ hm).1
    exact h1 (by rw[show(w:Int)=s.done.getD i 0 by omega];exact hm)
  ·have e:i=s.done.length:=by omega
   subst e
   rw[if_neg c,Nat.sub_self]
   show(s.got.set w x).getD (w:Int).toNat 0=wtF ops ((s.done.take s.done.length).foldl (reT ops) t) w
   rw[List.take_length,h.tr,hx,Int.toNat_natCast,z4s,if_pos ⟨rfl,by rw[hI.gl];exact hw⟩]
 ·show(s.got.set w x).getD i 0=0
  change (i:Int)∉s.done++[(w:Int)]at hd
  rw[List.mem_append,not_or]at hd
  rw[z4s,if_neg]
  ·exact h.op i hi hd.1
  ·rintro⟨e,_⟩
   exact hd.2 (by rw[e];exact List.mem_singleton.2 rfl)
theorem RunR.step {ops:List Opn} {t:Int×List Pg} {k:Nat} {s:RS} (hI:RunI ops k s) (h:RunR ops t s) {w:Nat} (hw:w<ops.length):RunR ops t (piF ops s w):=by
 have hc:=z74 ops s w
 generalize piF ops s w=u at hc
 cases hc with
 |same q=>exact h
 |down h1 h2 h3=>exact⟨h.tr,h.gt,h.op⟩
 |get h1 h2 h3 h4 =>
  refine h.fin hI hw h1 (R:=(s.root,s.ps)) ?_ ?_
  ·unfold reT;rw[Int.toNat_natCast,if_pos h4]
  ·unfold wtF;rw[Int.toNat_natCast,if_pos h4]
 |put h1 h2 h3 h4 r h5 =>
  refine h.fin hI hw h1 (R:=r) ?_ ?_
  ·unfold reT;rw[Int.toNat_natCast,if_neg h4,h5]
  ·unfold wtF;rw[Int.toNat_natCast,if_neg h4,h5]
 |putNo h1 h2 h3 h4 h5 =>
  refine h.fin hI hw h1 (R:=(s.root,s.ps)) ?_ ?_
  ·unfold reT;rw[Int.toNat_natCast,if_neg h4,h5]
  ·unfold wtF;rw[Int.toNat_natCast,if_neg h4,h5]
def z6b (n:Nat) (picks:List Int):Prop:=∀x∈picks,0≤x∧x<n
structure RunA (root:Int) (ps:List Pg) (ops:List Opn) (picks:List Int):Prop where
 i:RunI ops picks.length (ruF root ps ops picks)
 p:RunP ops (htF root ps) (fun j=>picks.count (j:Int)) (ruF root ps ops picks)
 r:RunR ops (root,ps) (ruF root ps ops picks)
theorem z43 (root:Int) (ps:List Pg) (ops:List Opn) (picks:List Int) (x:Int):ruF root ps ops (picks++[x])=piF ops (ruF root ps ops picks) x.toNat:=by
 unfold ruF
 rw[List.foldl_append];rfl
theorem runA {root:Int} {ps:List Pg} {ops:List Opn} (hv:vTree root ps=true) (ho:z4m ops=true):∀(n:Nat) (picks:List Int),picks.length=n→z6b ops.length picks→RunA root ps ops picks
 |0,picks,hl,hp=>by
  have:picks=[]:=List.eq_nil_of_length_eq_zero hl
  subst this
  exact⟨RunI.zero hv,RunP.zero hv,RunR.zero root ps ops⟩
 |n+1,picks,hl,hp=>by
  obtain⟨l,x,rfl,hl'⟩:=zv8 hl
  obtain⟨x0,x1⟩:=hp x (by simp)
  have A:=runA hv ho n l hl' fun y hy=>hp y (List.mem_append_left _ hy)
  have hw:x.toNat<ops.length:=by omega
  refine⟨?_,?_,?_⟩
  ·rw[z43,List.length_append]
   exact A.i.step ho hw
  ·rw[z43]
   have:=A.p.step A.i ho hw
   have e:(fun j:Nat=>(l++[x]).count (j:Int))=fun j:Nat=>l.count (j:Int)+(if j=x.toNat then 1 else 0):=funext fun j=>by
    rw[List.count_append,List.count_singleton]
    congr 1
    by_cases c:j=x.toNat
    ·rw[if_pos c,if_pos (by rw[beq_iff_eq];omega)]
    ·rw[if_neg c,if_neg (by rw[beq_iff_eq];omega)]
   rw[e];exact this
  ·rw[z43]
   exact A.r.step A.i hw
structure RunL (root:Int) (ps:List Pg) (ops:List Opn) (w c:Nat) (s:RS):Prop where
 t:s.root=root∧s.ps=ps
 d:s.done=[]
 hl:s.held.length=ops.length
 o:∀i,i≠w→s.held.getD i []=[]
 p:∃j,OpP s (z4e ops w) (s.held.getD w []) j∧j+(s.held.getD w []).length=c
structure RunG (root:Int) (ps:List Pg) (ops:List Opn) (cnt:Nat→Nat) (s:RS):Prop where
 t:s.root=root∧s.ps=ps
 hl:s.held.length=ops.length
 p:∀w,w<ops.length→((w:Int)∈s.done∧htF root ps≤cnt w)∨((w:Int)∉s.done∧cnt w<htF root ps∧∃j,OpP s (z4e ops w) (s.held.getD w []) j∧j+(s.held.getD w []).length=cnt w)
open Go.Proofs
set_option maxRecDepth 10000
end Go.VL
namespace Go.VL
open Go.Proofs
set_option maxRecDepth 10000
set_option linter.unusedSimpArgs false
set_option linter.unusedVariables false
end Go.VL
namespace Go.VL
open Go.Proofs
set_option maxRecDepth 10000
set_option linter.unusedSimpArgs false
set_option linter.unusedVariables false
end Go.VL
namespace Go.VL
open Go.Proofs
set_option maxRecDepth 10000
set_option linter.unusedSimpArgs false
set_option linter.unusedVariables false
end Go.VL
namespace Go.VL
open Go.Proofs
set_option maxRecDepth 10000
set_option linter.unusedSimpArgs false
set_option linter.unusedVariables false
structure RunV (root:Int) (ps:List Pg) (ops:List Opn) (picks:List Int):Prop where
 vt:vTree root ps=true
 vo:z4m ops=true
 pl:picks.length≤16
 pk:z6b ops.length picks
theorem z7o {n i:Nat} {picks:List Int} (h:z6b n picks):z6b n (picks.take i):=fun x hx=>h x (List.mem_of_mem_take hx)
theorem RunV.at {root:Int} {ps:List Pg} {ops:List Opn} {picks:List Int} (h:RunV root ps ops picks) (i:Nat):RunA root ps ops (picks.take i):=runA h.vt h.vo _ _ rfl (z7o h.pk)
theorem RunV.all {root:Int} {ps:List Pg} {ops:List Opn} {picks:List Int} (h:RunV root ps ops picks):RunA root ps ops picks:=runA h.vt h.vo _ _ rfl h.pk
end Go.VL
namespace Go.VL
open Go.Proofs
set_option maxRecDepth 10000
set_option linter.unusedSimpArgs false
set_option linter.unusedVariables false
theorem z45 {n0 m:Nat} {res:V} {hout:List (Nat×O)} {s:S} {v:V} (h:vend n0 m res hout s v):vend n0 m res hout s v:=h
end Go.VL
