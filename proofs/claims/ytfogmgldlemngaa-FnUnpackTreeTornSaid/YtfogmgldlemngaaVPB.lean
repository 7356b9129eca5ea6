/- V-logic: PT6 PT7 PT8 -/
import Derived.Test.YtfogmgldlemngaaVPA
namespace Go.VL
set_option linter.unusedVariables false
set_option linter.unusedSimpArgs false
def zbq:List Pr→Int→List Pr
 |[],_=>[]
 |p::t,k=>if p.key<k then p::zbq t k else if p.key=k then t else p::t
theorem zli {k:Int} {y:Pr}:∀{l:List Pr},y∈zbq l k→y∈l
 |[],h=>h
 |p::t,h=>by
  unfold zbq at h
  split at h
  ·rcases List.mem_cons.1 h with rfl|h
   ·simp
   ·exact List.mem_cons_of_mem _ (zli h)
  ·split at h
   ·exact List.mem_cons_of_mem _ h
   ·exact h
theorem zsl {k:Int}:∀{l:List Pr},Asc (l.map Pr.key)→Asc ((zbq l k).map Pr.key)
 |[],h=>h
 |p::t,ha=>by
  have ha':=ha
  rw[List.map_cons,zcf]at ha
  unfold zbq
  split
  ·rw[List.map_cons,zcf]
   refine⟨fun x hx=>?_,zsl ha.2⟩
   obtain⟨y,hy,rfl⟩:=List.mem_map.1 hx
   exact ha.1 _ (List.mem_map.2 ⟨y,zli hy,rfl⟩)
  ·split
   ·exact ha.2
   ·exact ha'
theorem z29 {k:Int} {l:List Pr} {lo hi:Int} (h:RowOk l lo hi):RowOk (zbq l k) lo hi :=
 ⟨zsl h.asc,fun y hy=>h.rng y (zli hy),fun y hy=>h.vrng y (zli hy)⟩
theorem ztt {k:Int}:∀{l:List Pr},Asc (l.map Pr.key)→(zbq l k).length+(if k∈l.map Pr.key then 1 else 0)=l.length
 |[],_=>by simp[zbq]
 |p::t,ha=>by
  rw[List.map_cons,zcf]at ha
  unfold zbq
  split
  ·rename_i h1
   have:=ztt (k:=k) ha.2
   rw[List.length_cons,List.length_cons]
   by_cases hm:k∈t.map Pr.key
   ·rw[if_pos hm]at this;rw[if_pos (by rw[List.map_cons];exact List.mem_cons_of_mem _ hm)];omega
   ·rw[if_neg hm]at this
    rw[if_neg (by
     rw[List.map_cons,List.mem_cons]
     rintro(e|e)
     ·omega
     ·exact hm e)]
    omega
  ·rename_i h1
   split
   ·rename_i h2
    rw[if_pos (by rw[List.map_cons,h2];exact List.mem_cons_self)];simp
   ·rename_i h2
    rw[if_neg (by
     rw[List.map_cons,List.mem_cons]
     rintro(e|e)
     ·omega
     ·have:=ha.1 _ e;omega)]
    simp
theorem zrv {k:Int} {B:List Pr}:∀{A:List Pr},(∀y∈A,y.key<k)→zbq (A++B) k=A++zbq B k
 |[],_=>rfl
 |p::t,h=>by
  rw[List.cons_append,zbq,if_pos (h p (by simp)),zrv fun y hy=>h y (List.mem_cons_of_mem _ hy),List.cons_append]
theorem zp2 {k:Int} {B:List Pr} (hB:∀y∈B,k<y.key):∀{A:List Pr},zbq (A++B) k=zbq A k++B
 |[]=>by
  cases B with
  |nil=>rfl
  |cons b t =>
   have:=hB b (by simp)
   show zbq (b::t) k=b::t
   rw[zbq,if_neg (by omega),if_neg (by omega)]
 |p::t=>by
  rw[List.cons_append,zbq,zbq,zp2 hB]
  split
  ·rfl
  ·split<;>rfl
def zcr (x:Pg) (k:Int) (y:Pg):Pg :=
 if x.kids.length=0 then zae (zab x++zab y)else⟨x.keys++k::y.keys,x.kids++y.kids,[]⟩
theorem zyo {ps:List Pg} {d:Nat} {x y:Pg} {l k r:Int} (hx:zaa ps d x l (k-1)) (hy:zaa ps d y k r) (h1:l≤k) (h2:k-1≤r) :
  zaa ps d (zcr x k y) l r∧bw ps d (zcr x k y)=bw ps d x++bw ps d y∧prF ps d (zcr x k y)=prF ps d x++prF ps d y ∧
  (zcr x k y).keys.length=x.keys.length+y.keys.length+(if d=1 then 0 else 1):=by
 match d,hx,hy with
 |1,hx,hy =>
  unfold zcr
  rw[if_pos (by rw[LeafOk.kids hx];rfl)]
  refine⟨zfr.2 (RowOk.append (LeafOk.row hx) (LeafOk.row hy) h1 h2),?_,?_,?_⟩
  ·simp only[bw,zae,List.flatMap_nil,LeafOk.kids hx,LeafOk.kids hy,List.append_nil]
  ·exact ze3 _
  ·simp only[zae,List.length_map,List.length_append,zby x (LeafOk.len hx),zby y (LeafOk.len hy)];simp
 |d+2,hx,hy =>
  have hk:=zaa.kidsLen hx
  unfold zcr
  rw[if_neg (by omega)]
  refine⟨⟨rfl,(zpm hk).2 ⟨hx.2,hy.2⟩⟩,?_,?_,?_⟩
  ·show(x.kids++y.kids).flatMap _=_;rw[List.flatMap_append];rfl
  ·show(x.kids++y.kids).flatMap _=_;rw[List.flatMap_append];rfl
  ·simp only[List.length_append,List.length_cons];rw[if_neg (by omega)];omega
def zf9 (p:Pg) (place:Nat):Pg:=⟨p.keys.take (place-1)++p.keys.drop place,p.kids.take place++p.kids.drop (place+1),[]⟩
theorem z0i {p:Pg} {KA KB A B:List Int} {k u w:Int} (h1:p.keys=KA++k::KB) (h2:p.kids=A++u::w::B) (h3:A.length=KA.length):zf9 p (A.length+1)=⟨KA++KB,A++u::B,[]⟩:=by
 unfold zf9
 have e:A++u::w::B=(A++[u])++w::B:=by simp
 have e2:KA++k::KB=(KA++[k])++KB:=by simp
 have d1:List.drop (A.length+1) ((KA++[k])++KB)=KB:=List.drop_left' (by simp;omega)
 have t1:List.take (A.length+1) ((A++[u])++w::B)=A++[u]:=List.take_left' (by simp)
 have d2:List.drop (A.length+1+1) ((A++[u])++w::B)=B:=by
  rw[show(A++[u])++w::B=(A++[u,w])++B by simp];exact List.drop_left' (by simp)
 rw[h1,h2,Nat.add_sub_cancel,List.take_left' h3.symm,e2,d1,e,t1,d2]
 simp
def zcd (ps:List Pg) (up:Int) (first:Nat):List Pg×List Int :=
 if (zcr (zb ps ((zb ps up).kids.getD first 0)) ((zb ps up).keys.getD first 0) (zb ps ((zb ps up).kids.getD (first+1) 0))).keys.length≤4 then
  ((ps.set ((zb ps up).kids.getD first 0).toNat (zcr (zb ps ((zb ps up).kids.getD first 0)) ((zb ps up).keys.getD first 0) (zb ps ((zb ps up).kids.getD (first+1) 0)))).set up.toNat (zf9 (zb ps up) (first+1)),[(zb ps up).kids.getD (first+1) 0])
 else(((ps.set ((zb ps up).kids.getD first 0).toNat (zam (zcr (zb ps ((zb ps up).kids.getD first 0)) ((zb ps up).keys.getD first 0) (zb ps ((zb ps up).kids.getD (first+1) 0)))).1).set ((zb ps up).kids.getD (first+1) 0).toNat (zam (zcr (zb ps ((zb ps up).kids.getD first 0)) ((zb ps up).keys.getD first 0) (zb ps ((zb ps up).kids.getD (first+1) 0)))).2.2).set up.toNat ⟨(zb ps up).keys.set first (zam (zcr (zb ps ((zb ps up).kids.getD first 0)) ((zb ps up).keys.getD first 0) (zb ps ((zb ps up).kids.getD (first+1) 0)))).2.1,(zb ps up).kids,(zb ps up).vals⟩,[])
structure MendOk (ps:List Pg) (d:Nat) (a lo hi:Int) (u w:Int) (R:List Pg×List Int):Prop where
 len:R.1.length=ps.length
 fit:zaa R.1 (d+2) (zb R.1 a) lo hi
 kl:(zb R.1 a).keys.length+R.2.length=(zb ps a).keys.length
 gl:R.2.length≤1
 out:∀i:Int,0≤i→i≠a→i≠u→i≠w→zb R.1 i=zb ps i
 perm:(wkF ps (d+2) a).Perm (wkF R.1 (d+2) a++R.2)
 prs:prF R.1 (d+2) (zb R.1 a)=prF ps (d+2) (zb ps a)
theorem zlw {α:Type} (d:α) (A:List α) (u:α) (B:List α):(A++u::B).getD A.length d=u:=by
 rw[zdp,if_neg (by omega),Nat.sub_self];rfl
theorem zvu {ps:List Pg} {d:Nat} {a lo hi:Int} {KA KB A B:List Int} {k u w l r:Int} (h0:0≤a) (h1:a<ps.length) (hn:(wkF ps (d+2) a).Nodup) (hv:(zb ps a).vals=[])
  (ks:(zb ps a).keys=KA++k::KB) (cs:(zb ps a).kids=A++u::w::B) (lA:A.length=KA.length) (lB:B.length=KB.length)
  (sL:zca (Fit ps (d+1) 2 4) lo KA A l) (fu:Fit ps (d+1) 1 4 u l (k-1)) (fw:Fit ps (d+1) 1 4 w k r) (sR:zc3 (Fit ps (d+1) 2 4) r hi KB B)
  (fA:∀z∈A,∃l r,Fit ps (d+1) 2 4 z l r) (fB:∀z∈B,∃l r,Fit ps (d+1) 2 4 z l r)
  (t3:3≤(zb ps u).keys.length+(zb ps w).keys.length) (t5:(zb ps u).keys.length+(zb ps w).keys.length≤5):MendOk ps d a lo hi u w (zcd ps a A.length):=by
 have gu:(zb ps a).kids.getD A.length 0=u:=by rw[cs];exact zlw 0 A u _
 have gw:(zb ps a).kids.getD (A.length+1) 0=w:=by
  rw[cs,show A++u::w::B=(A++[u])++w::B by simp,show A.length+1=(A++[u]).length by simp];exact zlw 0 _ w _
 have gk:(zb ps a).keys.getD A.length 0=k:=by rw[ks,lA];exact zlw 0 KA k _
 unfold zcd
 rw[gu,gw,gk]
 have hlu:=fu.le (by decide)
 have hlw:=fw.le (by decide)
 obtain⟨j1,j2,j3,j4⟩:=zyo fu.2.2.2.2 fw.2.2.2.2 (by omega) (by omega)
 have hjl:3≤(zcr (zb ps u) k (zb ps w)).keys.length∧(zcr (zb ps u) k (zb ps w)).keys.length≤6:=by rw[j4];split<;>omega
 generalize zcr (zb ps u) k (zb ps w)=j at j1 j2 j3 hjl⊢
 have hw:wkF ps (d+2) a=a::(A.flatMap (wkF ps (d+1))++(wkF ps (d+1) u++(wkF ps (d+1) w++B.flatMap (wkF ps (d+1))))):=by
  rw[zaf]
  show a::(zb ps a).kids.flatMap _=_
  rw[cs,List.flatMap_append,List.flatMap_cons,List.flatMap_cons]
 rw[hw,List.nodup_cons,List.nodup_append,List.nodup_append,List.nodup_append]at hn
 obtain⟨na,nA,⟨nu,⟨nw',nB,dw⟩,du⟩,dA⟩:=hn
 simp only[List.mem_append,not_or]at na du dA
 have hu0:=fu.1
 have hu1:=fu.2.1
 have hw0:=fw.1
 have hw1:=fw.2.1
 have au:a≠u:=fun e=>na.2.1 (e▸zas)
 have aw:a≠w:=fun e=>na.2.2.1 (e▸zas)
 have uw:u≠w:=fun e=>du u zas u (.inl (e▸zas)) rfl
 have hbj:∀y∈bw ps (d+1) j,0≤y∧y<ps.length∧y≠a∧y≠u∧y≠w:=fun y hy=>by
  have hb:=zaa.bwLt j1 y hy
  rw[j2,List.mem_append]at hy
  rw[zaf,List.nodup_cons]at nu nw'
  refine⟨hb.1,hb.2,fun e=>?_,fun e=>?_,fun e=>?_⟩
  ·subst e
   rcases hy with hy|hy
   ·exact na.2.1 (List.mem_cons_of_mem _ hy)
   ·exact na.2.2.1 (List.mem_cons_of_mem _ hy)
  ·subst e
   rcases hy with hy|hy
   ·exact nu.1 hy
   ·exact du y zas y (.inl (List.mem_cons_of_mem _ hy)) rfl
  ·subst e
   rcases hy with hy|hy
   ·exact du y (List.mem_cons_of_mem _ hy) y (.inl zas) rfl
   ·exact nw'.1 hy
 have hoth:∀y,(y∈A.flatMap (wkF ps (d+1))∨y∈B.flatMap (wkF ps (d+1)))→0≤y∧y<ps.length∧y≠a∧y≠u∧y≠w:=fun y hy=>by
  have hb:0≤y∧y<ps.length:=by
   rcases hy with hy|hy
   ·obtain⟨z,hz,hy⟩:=List.mem_flatMap.1 hy
    obtain⟨l,r,hf⟩:=fA z hz
    exact hf.wkLt y hy
   ·obtain⟨z,hz,hy⟩:=List.mem_flatMap.1 hy
    obtain⟨l,r,hf⟩:=fB z hz
    exact hf.wkLt y hy
  refine⟨hb.1,hb.2,fun e=>?_,fun e=>?_,fun e=>?_⟩
  ·subst e;rcases hy with hy|hy
   ·exact na.1 hy
   ·exact na.2.2.2 hy
  ·subst e;rcases hy with hy|hy
   ·exact dA y hy y (.inl zas) rfl
   ·exact du y zas y (.inr hy) rfl
  ·subst e;rcases hy with hy|hy
   ·exact dA y hy y (.inr (.inl zas)) rfl
   ·exact dw y zas y hy rfl
 have hpr:prF ps (d+2) (zb ps a)=(A.flatMap fun c=>prF ps (d+1) (zb ps c))++(prF ps (d+1) j++B.flatMap fun c=>prF ps (d+1) (zb ps c)):=by
  show(zb ps a).kids.flatMap _=_
  rw[cs,List.flatMap_append,List.flatMap_cons,List.flatMap_cons,j3,List.append_assoc]
 by_cases hc:j.keys.length≤4
 ·rw[if_pos hc,z0i ks cs lA]
  generalize hps:(ps.set u.toNat j).set a.toNat ⟨KA++KB,A++u::B,[]⟩=ps2
  have hlen2:ps2.length=ps.length:=by rw[←hps];simp
  have get:∀b:Int,0≤b→zb ps2 b=if b=a then⟨KA++KB,A++u::B,[]⟩else if b=u then j else zb ps b:=fun b hb=>by
   rw[←hps,zc9 h0 (by simpa using h1) hb]
   split
   ·rfl
   ·rw[zc9 hu0 hu1 hb]
  have ga:zb ps2 a=⟨KA++KB,A++u::B,[]⟩:=by rw[get a h0,if_pos rfl]
  have gu2:zb ps2 u=j:=by rw[get u hu0,if_neg (fun e=>au e.symm),if_pos rfl]
  have go:∀y:Int,0≤y→y≠a→y≠u→zb ps2 y=zb ps y:=fun y y0 y1 y2=>by rw[get y y0,if_neg y1,if_neg y2]
  have fr:=zaa.frame (ps':=ps2) (by omega) j1 fun y hy=>by
   obtain⟨b1,b2,b3,b4,b5⟩:=hbj y hy;exact go y b1 b3 b4
  have kA:=zcz (ps':=ps2) (by omega) fA fun y hy=>by
   obtain⟨b1,b2,b3,b4,b5⟩:=hoth y (.inl hy);exact go y b1 b3 b4
  have kB:=zcz (ps':=ps2) (by omega) fB fun y hy=>by
   obtain⟨b1,b2,b3,b4,b5⟩:=hoth y (.inr hy);exact go y b1 b3 b4
  have fu2:Fit ps2 (d+1) 2 4 u l r:=⟨hu0,by omega,by rw[gu2];omega,by rw[gu2];exact hc,by rw[gu2];exact fr.1⟩
  refine⟨hlen2,?_,?_,Nat.le_refl _,fun i i0 i1 i2 i3=>go i i0 i1 i2,?_,?_⟩
  ·show zaa ps2 _ (zb ps2 a) _ _
   rw[ga]
   exact⟨rfl,(zk0 lA lB).2 ⟨l,r,zca.imp kA.1 sL,fu2,zc3.imp kB.1 sR⟩⟩
  ·show(zb ps2 a).keys.length+1=_
   rw[ga,ks];simp;omega
  ·show(wkF ps (d+2) a).Perm (wkF ps2 (d+2) a++[w])
   have w2:wkF ps2 (d+2) a=a::(A.flatMap (wkF ps (d+1))++(u::(bw ps (d+1) (zb ps u)++bw ps (d+1) (zb ps w))++B.flatMap (wkF ps (d+1)))):=by
    rw[zaf,ga]
    show a::(A++u::B).flatMap _=_
    rw[List.flatMap_append,List.flatMap_cons,kA.2.1,kB.2.1,zaf,gu2,fr.2.1,j2]
   rw[hw,w2,zaf,zaf]
   refine zgz fun y=>?_
   simp only[List.count_cons,List.count_append,List.count_nil]
   omega
  ·show prF ps2 (d+2) (zb ps2 a)=_
   rw[ga,hpr]
   show(A++u::B).flatMap _=_
   rw[List.flatMap_append,List.flatMap_cons,kA.2.2,kB.2.2,gu2,fr.2.2]
 ·rw[if_neg hc]
  obtain⟨q1,q2,q3,q4,q5,q6⟩:=zla j1 (by omega) hjl.2
  generalize zam j=sp at q1 q2 q3 q4 q5 q6⊢
  have hks:(zb ps a).keys.set A.length sp.2.1=KA++sp.2.1::KB:=by
   rw[ks,lA,List.set_append_right _ _ (Nat.le_refl _),Nat.sub_self];rfl
  rw[hks,cs,hv]
  generalize hps:((ps.set u.toNat sp.1).set w.toNat sp.2.2).set a.toNat ⟨KA++sp.2.1::KB,A++u::w::B,[]⟩=ps2
  have hlen2:ps2.length=ps.length:=by rw[←hps];simp
  have get:∀b:Int,0≤b→zb ps2 b=if b=a then⟨KA++sp.2.1::KB,A++u::w::B,[]⟩else if b=w then sp.2.2 else if b=u then sp.1 else zb ps b:=fun b hb=>by
   rw[←hps,zc9 h0 (by simpa using h1) hb]
   split
   ·rfl
   ·rw[zc9 hw0 (by simpa using hw1) hb]
    split
    ·rfl
    ·rw[zc9 hu0 hu1 hb]
  have ga:zb ps2 a=⟨KA++sp.2.1::KB,A++u::w::B,[]⟩:=by rw[get a h0,if_pos rfl]
  have gw2:zb ps2 w=sp.2.2:=by rw[get w hw0,if_neg (fun e=>aw e.symm),if_pos rfl]
  have gu2:zb ps2 u=sp.1:=by rw[get u hu0,if_neg (fun e=>au e.symm),if_neg uw,if_pos rfl]
  have go:∀y:Int,0≤y→y≠a→y≠u→y≠w→zb ps2 y=zb ps y:=fun y y0 y1 y2 y3=>by rw[get y y0,if_neg y1,if_neg y3,if_neg y2]
  have hb:∀y∈bw ps (d+1) j,zb ps2 y=zb ps y:=fun y hy=>by
   obtain⟨b1,b2,b3,b4,b5⟩:=hbj y hy;exact go y b1 b3 b4 b5
  have fr1:=zaa.frame (ps':=ps2) (by omega) q1 fun y hy=>hb y (by rw[←q5];exact List.mem_append_left _ hy)
  have fr2:=zaa.frame (ps':=ps2) (by omega) q2 fun y hy=>hb y (by rw[←q5];exact List.mem_append_right _ hy)
  have kA:=zcz (ps':=ps2) (by omega) fA fun y hy=>by
   obtain⟨b1,b2,b3,b4,b5⟩:=hoth y (.inl hy);exact go y b1 b3 b4 b5
  have kB:=zcz (ps':=ps2) (by omega) fB fun y hy=>by
   obtain⟨b1,b2,b3,b4,b5⟩:=hoth y (.inr hy);exact go y b1 b3 b4 b5
  have fu2:Fit ps2 (d+1) 2 4 u l (sp.2.1-1):=⟨hu0,by omega,by rw[gu2];exact q3.1,by rw[gu2];exact q3.2,by rw[gu2];exact fr1.1⟩
  have fw2:Fit ps2 (d+1) 2 4 w sp.2.1 r:=⟨hw0,by omega,by rw[gw2];exact q4.1,by rw[gw2];exact q4.2,by rw[gw2];exact fr2.1⟩
  refine⟨hlen2,?_,?_,Nat.zero_le _,fun i i0 i1 i2 i3=>go i i0 i1 i2 i3,?_,?_⟩
  ·show zaa ps2 _ (zb ps2 a) _ _
   rw[ga]
   exact⟨rfl,(zt6 lA lB).2 ⟨l,r,zca.imp kA.1 sL,fu2,fw2,zc3.imp kB.1 sR⟩⟩
  ·show(zb ps2 a).keys.length+0=_
   rw[ga,ks];simp
  ·show(wkF ps (d+2) a).Perm (wkF ps2 (d+2) a++[])
   have w2:wkF ps2 (d+2) a=a::(A.flatMap (wkF ps (d+1))++(u::bw ps (d+1) sp.1++(w::bw ps (d+1) sp.2.2++B.flatMap (wkF ps (d+1))))):=by
    rw[zaf,ga]
    show a::(A++u::w::B).flatMap _=_
    rw[List.flatMap_append,List.flatMap_cons,List.flatMap_cons,kA.2.1,kB.2.1,zaf,zaf,gu2,gw2,fr1.2.1,fr2.2.1]
   rw[hw,w2,zaf,zaf]
   refine zgz fun y=>?_
   have e1:=congrArg (List.count y) (q5.trans j2)
   simp only[List.count_cons,List.count_append,List.count_nil]at e1⊢
   omega
  ·show prF ps2 (d+2) (zb ps2 a)=_
   rw[ga,hpr]
   show(A++u::w::B).flatMap _=_
   rw[List.flatMap_append,List.flatMap_cons,List.flatMap_cons,kA.2.2,kB.2.2,gu2,gw2,fr1.2.2,fr2.2.2,←q6,List.append_assoc]
def zao (ps:List Pg) (key:Int):Nat→Int→List Pg×List Int
 |0,_=>(ps,[])
 |1,a=>(ps.set a.toNat (zae (zbq (zab (zb ps a)) key)),[])
 |d+2,a =>
  if (zb (zao ps key (d+1) ((zb ps a).kids.getD (upF (zb ps a).keys key) 0)).1 ((zb ps a).kids.getD (upF (zb ps a).keys key) 0)).keys.length<2 then
   ((zcd (zao ps key (d+1) ((zb ps a).kids.getD (upF (zb ps a).keys key) 0)).1 a (plN (zb (zao ps key (d+1) ((zb ps a).kids.getD (upF (zb ps a).keys key) 0)).1 a).kids ((zb ps a).kids.getD (upF (zb ps a).keys key) 0)-1)).1,
    (zao ps key (d+1) ((zb ps a).kids.getD (upF (zb ps a).keys key) 0)).2++(zcd (zao ps key (d+1) ((zb ps a).kids.getD (upF (zb ps a).keys key) 0)).1 a (plN (zb (zao ps key (d+1) ((zb ps a).kids.getD (upF (zb ps a).keys key) 0)).1 a).kids ((zb ps a).kids.getD (upF (zb ps a).keys key) 0)-1)).2)
  else zao ps key (d+1) ((zb ps a).kids.getD (upF (zb ps a).keys key) 0)
structure DropOk (ps:List Pg) (key:Int) (d mn:Nat) (a lo hi:Int) (R:List Pg×List Int):Prop where
 len:R.1.length=ps.length
 fit:Fit R.1 d (mn-1) 4 a lo hi
 kl:(zb R.1 a).keys.length+(if R.2.length+1=d then 1 else 0)=(zb ps a).keys.length
 gl:R.2.length+1≤d
 bot:∀j,j<R.2.length→(zb ps ((ptF ps key d a).getD (d-1-j) 0)).keys.length=2
 out:∀i:Int,0≤i→i∉wkF ps d a→zb R.1 i=zb ps i
 perm:(wkF ps d a).Perm (wkF R.1 d a++R.2)
 prs:prF R.1 d (zb R.1 a)=zbq (prF ps d (zb ps a)) key
theorem Mid.del {ps:List Pg} {d:Nat} {a lo hi:Int} {KA KB A B:List Int} {c l r:Int} (m:Mid ps d a lo hi KA KB A B c l r) {x:Int} (h1:l≤x) (h2:x≤r) (C:List Pr) :
  zbq ((A.flatMap fun c=>prF ps (d+1) (zb ps c))++(C++B.flatMap fun c=>prF ps (d+1) (zb ps c))) x =
  (A.flatMap fun c=>prF ps (d+1) (zb ps c))++(zbq C x++B.flatMap fun c=>prF ps (d+1) (zb ps c)):=by
 have rA:=zca.row (g:=fun c=>prF ps (d+1) (zb ps c)) Fit.le' (fun c _ l r hc=>zaa.row hc.2.2.2.2) m.sL
 have rB:=zc3.row (g:=fun c=>prF ps (d+1) (zb ps c)) Fit.le' (fun c _ l r hc=>zaa.row hc.2.2.2.2) m.sR
 rw[zrv fun y hy=>by have:=rA.1.rng y hy;omega,zp2 fun y hy=>by have:=rB.1.rng y hy;omega]
theorem Mid.has {ps:List Pg} {d:Nat} {a lo hi:Int} {KA KB A B:List Int} {c l r:Int} (m:Mid ps d a lo hi KA KB A B c l r) {x:Int} (h1:l≤x) (h2:x≤r) :
  x∈(prF ps (d+2) (zb ps a)).map Pr.key↔x∈(prF ps (d+1) (zb ps c)).map Pr.key:=by
 have rA:=zca.row (g:=fun c=>prF ps (d+1) (zb ps c)) Fit.le' (fun c _ l r hc=>zaa.row hc.2.2.2.2) m.sL
 have rB:=zc3.row (g:=fun c=>prF ps (d+1) (zb ps c)) Fit.le' (fun c _ l r hc=>zaa.row hc.2.2.2.2) m.sR
 rw[m.pr,List.map_append,List.map_append,List.mem_append,List.mem_append]
 constructor
 ·rintro(h|h|h)
  ·obtain⟨y,hy,rfl⟩:=List.mem_map.1 h
   have:=rA.1.rng y hy;omega
  ·exact h
  ·obtain⟨y,hy,rfl⟩:=List.mem_map.1 h
   have:=rB.1.rng y hy;omega
 ·exact fun h=>.inr (.inl h)
theorem zwo {ps:List Pg} {key:Int} {mn:Nat} {a lo hi:Int} (h:Fit ps 1 mn 4 a lo hi) (hk:key∈(prF ps 1 (zb ps a)).map Pr.key):DropOk ps key 1 mn a lo hi (zao ps key 1 a):=by
 obtain⟨h0,h1,h2,h3,h4⟩:=h
 have h4:LeafOk (zb ps a) lo hi:=h4
 have hrow:=zdi h4.len
 have hk:key∈(zab (zb ps a)).map Pr.key:=hk
 have hlen:=ztt (k:=key) (l:=zab (zb ps a)) (by rw[hrow];exact h4.asc)
 rw[if_pos hk,zby _ h4.len]at hlen
 have hs:∀b:Int,0≤b→zb (zao ps key 1 a).1 b=if b=a then zae (zbq (zab (zb ps a)) key)else zb ps b:=fun b hb=>zc9 h0 h1 hb
 have hsa:=hs a h0
 rw[if_pos rfl]at hsa
 have hl':(zao ps key 1 a).1.length=ps.length:=List.length_set
 have hkk:(zae (zbq (zab (zb ps a)) key)).keys.length=(zbq (zab (zb ps a)) key).length:=by simp[zae]
 have ok:=zfr.2 (z29 (k:=key) h4.row)
 have hw:wkF (zao ps key 1 a).1 1 a=[a]:=by rw[zaf,hsa];rfl
 have hw0:wkF ps 1 a=[a]:=by rw[zaf];show a::(zb ps a).kids.flatMap _=_;rw[h4.kids];rfl
 refine⟨hl',⟨h0,by rw[hl'];exact h1,?_,?_,?_⟩,?_,Nat.le_refl _,?_,?_,?_,?_⟩
 ·rw[hsa,hkk];omega
 ·rw[hsa,hkk];omega
 ·rw[hsa];exact ok
 ·rw[hsa,hkk];exact hlen
 ·intro j hj;exact absurd hj (Nat.not_lt_zero _)
 ·intro i hi0 hi2
  rw[hs i hi0,if_neg]
  rintro rfl;rw[hw0]at hi2;simp at hi2
 ·rw[hw,hw0];exact List.Perm.refl _
 ·rw[hsa];exact ze3 _
theorem zq7 {F:Int→Int→Int→Prop} {k z l:Int}:∀{KA A:List Int} {lo:Int},A.length=KA.length→zca F lo (KA++[k]) (A++[z]) l→l=k∧∃l',zca F lo KA A l'∧F z l' (k-1)
 |[],[],lo,_,h=>⟨h.2,lo,rfl,h.1⟩
 |[],_::_,_,h,_=>by simp at h
 |_::_,[],_,h,_=>by simp at h
 |k'::KA,z'::A,lo,hl,h=>by
  obtain⟨h1,l',h2,h3⟩:=zq7 (KA:=KA) (A:=A) (by simpa using hl) h.2
  exact⟨h1,l',⟨h.1,h2⟩,h3⟩
theorem zv8 {α:Type} {l:List α} {n:Nat} (h:l.length=n+1):∃l' x,l=l'++[x]∧l'.length=n:=by
 have hne:l≠[]:=by intro e;rw[e]at h;simp at h
 exact⟨l.dropLast,l.getLast hne,(List.dropLast_concat_getLast hne).symm,by rw[List.length_dropLast];omega⟩
theorem zoj {ps:List Pg} {key:Int}:∀{d mn:Nat} {a lo hi:Int},Fit ps (d+1) mn 4 a lo hi→(1≤d→1≤mn)→(wkF ps (d+1) a).Nodup→lo≤key→key≤hi→key∈(prF ps (d+1) (zb ps a)).map Pr.key →
  DropOk ps key (d+1) mn a lo hi (zao ps key (d+1) a):=by
 intro d
 induction d with
 |zero=>intro mn a lo hi h _ hn hl hh hk;exact zwo h hk
 |succ d ih =>
  intro mn a lo hi h hmn hn hl hh hk
  have hmn:=hmn (by omega)
  obtain⟨h0,h1,h2,h3,hv0,hseg⟩:=h
  have hseg:Seg (Fit ps (d+1) 2 4) lo hi (zb ps a).keys (zb ps a).kids:=hseg
  obtain⟨KA,KB,A,B,c,l,r,e1,e2,e3,e4,e5,e6,s1,s2,s3,g1,g2⟩:=Seg.route hh hl hseg
  have m:Mid ps d a lo hi KA KB A B c l r:=zp5 hn hseg e1 e2 e4 e5 s1 s3
  have P:=ih s2 (fun _=>by decide) m.nc g1 g2 ((m.has g1 g2).1 hk)
  have eP:ptF ps key (d+1+1) a=a::ptF ps key (d+1) c:=by
   show a::ptF ps key (d+1) ((zb ps a).kids.getD (upF (zb ps a).keys key) 0)=_
   rw[e6]
  have eR:zao ps key (d+1+1) a=if (zb (zao ps key (d+1) c).1 c).keys.length<2 then
    ((zcd (zao ps key (d+1) c).1 a (plN (zb (zao ps key (d+1) c).1 a).kids c-1)).1,(zao ps key (d+1) c).2++(zcd (zao ps key (d+1) c).1 a (plN (zb (zao ps key (d+1) c).1 a).kids c-1)).2)
    else zao ps key (d+1) c:=by
   show(if (zb (zao ps key (d+1) ((zb ps a).kids.getD (upF (zb ps a).keys key) 0)).1 ((zb ps a).kids.getD (upF (zb ps a).keys key) 0)).keys.length<2 then
    ((zcd (zao ps key (d+1) ((zb ps a).kids.getD (upF (zb ps a).keys key) 0)).1 a (plN (zb (zao ps key (d+1) ((zb ps a).kids.getD (upF (zb ps a).keys key) 0)).1 a).kids ((zb ps a).kids.getD (upF (zb ps a).keys key) 0)-1)).1,
     (zao ps key (d+1) ((zb ps a).kids.getD (upF (zb ps a).keys key) 0)).2++(zcd (zao ps key (d+1) ((zb ps a).kids.getD (upF (zb ps a).keys key) 0)).1 a (plN (zb (zao ps key (d+1) ((zb ps a).kids.getD (upF (zb ps a).keys key) 0)).1 a).kids ((zb ps a).kids.getD (upF (zb ps a).keys key) 0)-1)).2)
    else zao ps key (d+1) ((zb ps a).kids.getD (upF (zb ps a).keys key) 0))=_
   rw[e6]
  rw[eR]
  generalize zao ps key (d+1) c=R at P⊢
  obtain⟨ps1,g⟩:=R
  have hlen:ps1.length=ps.length:=P.len
  have hfit:Fit ps1 (d+1) 1 4 c l r:=P.fit
  have hkl:(zb ps1 c).keys.length+(if g.length+1=d+1 then 1 else 0)=(zb ps c).keys.length:=P.kl
  have hgl:g.length+1≤d+1:=P.gl
  have hbot:∀j,j<g.length→(zb ps ((ptF ps key (d+1) c).getD (d+1-1-j) 0)).keys.length=2:=P.bot
  have hout:∀i:Int,0≤i→i∉wkF ps (d+1) c→zb ps1 i=zb ps i:=P.out
  have hperm:(wkF ps (d+1) c).Perm (wkF ps1 (d+1) c++g):=P.perm
  have hprs:prF ps1 (d+1) (zb ps1 c)=zbq (prF ps (d+1) (zb ps c)) key:=P.prs
  have haW:a∉wkF ps (d+1) c:=fun e=>m.na (List.mem_append_right _ (List.mem_append_left _ e))
  have pa1:zb ps1 a=zb ps a:=hout a h0 haW
  have mf:=m.frame (ps':=ps1) (by omega) fun y y0 y1 y2 y3=>hout y y0 y3
  have hc2:=s2.2.2.1
  have hc4:=s2.2.2.2.1
  have wk2:wkF ps1 (d+2) a=a::(A.flatMap (wkF ps (d+1))++(wkF ps1 (d+1) c++B.flatMap (wkF ps (d+1)))):=by
   rw[zaf,pa1]
   show a::(zb ps a).kids.flatMap _=_
   rw[m.cs,zph,mf.wA,mf.wB]
  have perm1:(wkF ps (d+2) a).Perm (wkF ps1 (d+2) a++g):=by
   rw[wk2,m.wk]
   refine zgz fun y=>?_
   have:=hperm.count_eq y
   simp only[List.count_cons,List.count_append,List.count_nil]at this⊢
   omega
  have prs1:prF ps1 (d+2) (zb ps1 a)=zbq (prF ps (d+2) (zb ps a)) key:=by
   rw[pa1,m.pr,m.del g1 g2,←hprs]
   show(zb ps a).kids.flatMap _=_
   rw[m.cs,List.flatMap_append,List.flatMap_cons,mf.pA,mf.pB]
  show DropOk ps key (d+2) mn a lo hi (if (zb ps1 c).keys.length<2 then((zcd ps1 a (plN (zb ps1 a).kids c-1)).1,g++(zcd ps1 a (plN (zb ps1 a).kids c-1)).2)else(ps1,g))
  by_cases hu:(zb ps1 c).keys.length<2
  ·rw[if_pos hu]
   have hplace:plN (zb ps1 a).kids c=A.length:=by
    rw[pa1,m.cs]
    exact zqf fun hc=>m.dA c (List.mem_flatMap.2 ⟨c,hc,zas⟩) (List.mem_append_left _ zas)
   rw[hplace]
   have hg:g.length=d:=by
    by_cases e:g.length+1=d+1
    ·omega
    ·rw[if_neg e]at hkl;omega
   rw[if_pos (by omega)]at hkl
   have hc1:=hfit.2.2.1
   have hn1:(wkF ps1 (d+2) a).Nodup:=(List.nodup_append.1 (perm1.nodup_iff.1 hn)).1
   have hv1:(zb ps1 a).vals=[]:=by rw[pa1];exact hv0
   have fA1:∀z∈A,∃l r,Fit ps1 (d+1) 2 4 z l r:=fun z hz=>by
    obtain⟨l',r',hf⟩:=m.fA z hz
    exact⟨l',r',(zcz (ps':=ps1) (by omega) m.fA fun y hy=>by obtain⟨q1,q2,q3,q4⟩:=m.lt (.inl hy);exact hout y q1 q4).1 z hz _ _ hf⟩
   have fB1:∀z∈B,∃l r,Fit ps1 (d+1) 2 4 z l r:=fun z hz=>by
    obtain⟨l',r',hf⟩:=m.fB z hz
    exact⟨l',r',(zcz (ps':=ps1) (by omega) m.fB fun y hy=>by obtain⟨q1,q2,q3,q4⟩:=m.lt (.inr hy);exact hout y q1 q4).1 z hz _ _ hf⟩
   have M:∃u w,(u∈wkF ps (d+2) a∧w∈wkF ps (d+2) a)∧MendOk ps1 d a lo hi u w (zcd ps1 a (A.length-1)):=by
    cases hA:A.length with
    |zero =>
     have hA0:=List.eq_nil_of_length_eq_zero hA
     have hKA0:KA=[]:=List.eq_nil_of_length_eq_zero (by omega)
     subst hA0;subst hKA0
     have ks:=m.ks
     have cs:=m.cs
     have lB:=m.lB
     match KB,B,ks,cs,lB,mf.sL,mf.sR,fB1 with
     |[],[],ks,cs,lB,sL,sR,fB1=>rw[ks]at h2;simp at h2;omega
     |k::KB,b::B,ks,cs,lB,sL,sR,fB1 =>
      obtain⟨hr,r',fb,sR'⟩:=(zm8 (by simpa using lB)).1 sR
      subst hr
      have M:=zvu (A:=[]) (KA:=[]) h0 (by omega) hn1 hv1 (by rw[pa1];exact ks) (by rw[pa1];exact cs) rfl (by simpa using lB) sL hfit (fb.mono (by decide) (Nat.le_refl _)) sR' (by simp) (fun z hz=>fB1 z (by simp[hz]))
       (by have:=fb.2.2.1;omega) (by have:=fb.2.2.2.1;omega)
      refine⟨c,b,⟨?_,?_⟩,M⟩
      ·rw[zaf];exact List.mem_cons_of_mem _ (zgj (by rw[cs];simp) zas)
      ·rw[zaf];exact List.mem_cons_of_mem _ (zgj (by rw[cs];simp) zas)
    |succ n =>
     obtain⟨A',z,hA',hAl⟩:=zv8 hA
     obtain⟨KA',k,hKA',hKl⟩:=zv8 (l:=KA) (n:=n) (by have:=m.lA;omega)
     have sL:=mf.sL
     rw[hA',hKA']at sL
     obtain⟨hlk,l',sL',fz⟩:=zq7 (by omega) sL
     subst hlk
     have ks:=m.ks
     have cs:=m.cs
     rw[hKA',List.append_assoc]at ks
     rw[hA',List.append_assoc]at cs
     have M:=zvu (A:=A') (KA:=KA') h0 (by omega) hn1 hv1 (by rw[pa1];exact ks) (by rw[pa1];exact cs) (by omega) m.lB sL' (fz.mono (by decide) (Nat.le_refl _)) hfit mf.sR (fun z hz=>fA1 z (by rw[hA'];simp[hz])) fB1
      (by have:=fz.2.2.1;omega) (by have:=fz.2.2.2.1;omega)
     rw[hAl]at M
     refine⟨z,c,⟨?_,?_⟩,M⟩
     ·rw[zaf];exact List.mem_cons_of_mem _ (zgj (by rw[cs];simp) zas)
     ·rw[zaf];exact List.mem_cons_of_mem _ (zgj (by rw[cs];simp) zas)
   obtain⟨u,w,⟨hu1,hw1⟩,M⟩:=M
   generalize zcd ps1 a (A.length-1)=R2 at M⊢
   have ml:=M.len
   have mk:=M.kl
   have mg:=M.gl
   rw[pa1]at mk
   refine⟨by show R2.1.length=_;omega,⟨h0,by show a<R2.1.length;omega,?_,?_,M.fit⟩,?_,?_,?_,?_,?_,?_⟩
   ·show mn-1≤(zb R2.1 a).keys.length;omega
   ·show(zb R2.1 a).keys.length≤4;omega
   ·show(zb R2.1 a).keys.length+(if (g++R2.2).length+1=d+2 then 1 else 0)=_
    rw[List.length_append]
    split<;>omega
   ·show(g++R2.2).length+1≤d+2
    rw[List.length_append];omega
   ·intro j hj
    have hj:j<(g++R2.2).length:=hj
    rw[List.length_append]at hj
    show(zb ps ((ptF ps key (d+1+1) a).getD (d+2-1-j) 0)).keys.length=2
    rw[eP,show d+2-1-j=(d-j)+1 by omega,List.getD_cons_succ]
    by_cases hjd:j<d
    ·have:=hbot j (by omega)
     rwa [show d+1-1-j=d-j by omega]at this
    ·rw[show d-j=0 by omega]
     have e0:(ptF ps key (d+1) c).getD 0 0=c:=by cases d<;>rfl
     rw[e0];omega
   ·intro i i0 i1
    have i1:i∉wkF ps (d+2) a:=i1
    show zb R2.1 i=_
    rw[M.out i i0 (fun e=>i1 (e▸zas)) (fun e=>i1 (e▸hu1)) (fun e=>i1 (e▸hw1))]
    refine hout i i0 fun hc=>i1 ?_
    rw[m.wk]
    exact List.mem_cons_of_mem _ (List.mem_append_right _ (List.mem_append_left _ hc))
   ·show(wkF ps (d+2) a).Perm (wkF R2.1 (d+2) a++(g++R2.2))
    refine zgz fun y=>?_
    have p1:=perm1.count_eq y
    have p2:=M.perm.count_eq y
    simp only[List.count_append]at p1 p2⊢
    omega
   ·exact M.prs.trans prs1
  ·rw[if_neg hu]
   refine⟨hlen,⟨h0,by show a<ps1.length;omega,?_,?_,?_⟩,?_,?_,?_,?_,perm1,prs1⟩
   ·show mn-1≤(zb ps1 a).keys.length;rw[pa1];omega
   ·show(zb ps1 a).keys.length≤4;rw[pa1];exact h3
   ·show zaa ps1 (d+2) (zb ps1 a) lo hi
    rw[pa1]
    refine⟨hv0,?_⟩
    show Seg (Fit ps1 (d+1) 2 4) lo hi _ _
    rw[m.ks,m.cs,zk0 m.lA m.lB]
    exact⟨l,r,mf.sL,⟨hfit.1,hfit.2.1,by omega,hfit.2.2.2.1,hfit.2.2.2.2⟩,mf.sR⟩
   ·show(zb ps1 a).keys.length+(if g.length+1=d+2 then 1 else 0)=_
    rw[pa1,if_neg (by omega)];rfl
   ·show g.length+1≤d+2;omega
   ·intro j hj
    have hj:j<g.length:=hj
    show(zb ps ((ptF ps key (d+1+1) a).getD (d+2-1-j) 0)).keys.length=2
    rw[eP,show d+2-1-j=(d-j)+1 by omega,List.getD_cons_succ]
    have:=hbot j hj
    rwa [show d+1-1-j=d-j by omega]at this
   ·intro i i0 i1
    have i1:i∉wkF ps (d+2) a:=i1
    show zb ps1 i=_
    refine hout i i0 fun hc=>i1 ?_
    rw[m.wk]
    exact List.mem_cons_of_mem _ (List.mem_append_right _ (List.mem_append_left _ hc))
def adj (g i:Int):Int:=if i>g then i-1 else i
def ziu (g:Int) (p:Pg):Pg:=⟨p.keys,p.kids.map (adj g),p.vals⟩
def zct (ps:List Pg) (g:Int):List Pg:=(ps.eraseIdx g.toNat).map (ziu g)
theorem zvv {g i j:Int} (h1:i≠g) (h2:j≠g) (h:adj g i=adj g j):i=j:=by
 unfold adj at h
 split at h<;>split at h<;>omega
theorem zns {g i:Int} {n:Nat} (hg0:0≤g) (h0:0≤i) (h1:i<(n:Int)+1) (hg:g<(n:Int)+1) (hne:i≠g):0≤adj g i∧adj g i<n:=by
 unfold adj;split<;>omega
theorem zl2 {ps:List Pg} {g:Int} (h0:0≤g) (h1:g<ps.length):(zct ps g).length+1=ps.length:=by
 unfold zct
 rw[List.length_map,List.length_eraseIdx,if_pos (by omega)];omega
theorem zs8 {ps:List Pg} {g a:Int} (h0:0≤g) (h1:g<ps.length) (a0:0≤a) (a1:a<ps.length) (hne:a≠g):zb (zct ps g) (adj g a)=ziu g (zb ps a):=by
 unfold zb zct adj
 simp only[List.getD_eq_getElem?_getD,List.getElem?_map,List.getElem?_eraseIdx]
 by_cases c:a>g
 ·rw[if_pos c,if_neg (by omega),show(a-1).toNat+1=a.toNat by omega,List.getElem?_eq_getElem (by omega)];rfl
 ·rw[if_neg c,if_pos (by omega),List.getElem?_eq_getElem (by omega)];rfl
theorem Seg.map {F G:Int→Int→Int→Prop} {f:Int→Int} {hi:Int}:∀{ks cs:List Int} {lo:Int},(∀c∈cs,∀l r,F c l r→G (f c) l r)→Seg F lo hi ks cs→Seg G lo hi ks (cs.map f)
 |[],[],_,_,h=>h.elim
 |[],[c],_,hf,h=>hf c (by simp) _ _ h
 |[],_::_::_,_,_,h=>h.elim
 |_::_,[],_,_,h=>h.elim
 |_::ks,c::cs,_,hf,h=>⟨hf c (by simp) _ _ h.1,Seg.map (fun x hx=>hf x (List.mem_cons_of_mem _ hx)) h.2⟩
theorem flatMap_map' {α β γ:Type} (l:List α) (f:α→β) (g:β→List γ):(l.map f).flatMap g=l.flatMap fun x=>g (f x):=by
 induction l with
 |nil=>rfl
 |cons a t ih=>rw[List.map_cons,List.flatMap_cons,List.flatMap_cons,ih]
theorem map_flatMap' {α β γ:Type} (l:List α) (f:α→List β) (g:β→γ):(l.flatMap f).map g=l.flatMap fun x=>(f x).map g:=by
 induction l with
 |nil=>rfl
 |cons a t ih=>rw[List.flatMap_cons,List.flatMap_cons,List.map_append,ih]
theorem zaa.cut {ps:List Pg} {g:Int} (h0:0≤g) (h1:g<ps.length):∀{d:Nat} {p:Pg} {lo hi:Int},zaa ps d p lo hi→g∉bw ps d p →
  zaa (zct ps g) d (ziu g p) lo hi∧bw (zct ps g) d (ziu g p)=(bw ps d p).map (adj g)∧prF (zct ps g) d (ziu g p)=prF ps d p
 |0,_,_,_,h,_=>h.elim
 |1,p,lo,hi,h,_=>by
  have h':LeafOk p lo hi:=h
  have hk:=h'.kids
  refine⟨⟨h'.asc,h'.rng,?_,h'.len,h'.vrng⟩,?_,rfl⟩
  ·simp only[ziu,hk,List.map_nil]
  ·simp only[bw,ziu,hk,List.map_nil,List.flatMap_nil]
 |d+2,p,lo,hi,h,hg=>by
  have hcl:=zl2 h0 h1
  have key:∀c∈p.kids,∀l r,Fit ps (d+1) 2 4 c l r→c≠g∧Fit (zct ps g) (d+1) 2 4 (adj g c) l r∧wkF (zct ps g) (d+1) (adj g c)=(wkF ps (d+1) c).map (adj g)∧prF (zct ps g) (d+1) (zb (zct ps g) (adj g c))=prF ps (d+1) (zb ps c):=fun c hc l r hf=>by
   have hne:c≠g:=fun e=>hg (e▸zgj hc zas)
   have hp:=zs8 h0 h1 hf.1 hf.2.1 hne
   obtain⟨k1,k2,k3⟩:=zaa.cut h0 h1 hf.2.2.2.2 fun hx=>hg (zgj hc (List.mem_cons_of_mem _ hx))
   have hb:=zns (n:=(zct ps g).length) h0 hf.1 (by have:=hf.2.1;omega) (by omega) hne
   refine⟨hne,⟨hb.1,hb.2,?_,?_,?_⟩,?_,?_⟩
   ·rw[hp];exact hf.2.2.1
   ·rw[hp];exact hf.2.2.2.1
   ·rw[hp];exact k1
   ·rw[zaf,zaf,hp,k2,List.map_cons]
   ·rw[hp,k3]
  refine⟨⟨h.1,Seg.map (F:=Fit ps (d+1) 2 4) (G:=Fit (zct ps g) (d+1) 2 4) (fun c hc l r hf=>(key c hc l r hf).2.1) h.2⟩,?_,?_⟩
  ·show(p.kids.map (adj g)).flatMap _=(p.kids.flatMap _).map _
   rw[flatMap_map',map_flatMap']
   refine flatMap_congr' fun c hc=>?_
   obtain⟨l,r,hf⟩:=Seg.mem h.2 c hc
   exact(key c hc l r hf).2.2.1
  ·show(p.kids.map (adj g)).flatMap _=p.kids.flatMap _
   rw[flatMap_map']
   refine flatMap_congr' fun c hc=>?_
   obtain⟨l,r,hf⟩:=Seg.mem h.2 c hc
   exact(key c hc l r hf).2.2.2
theorem Fit.cut {ps:List Pg} {g:Int} (h0:0≤g) (h1:g<ps.length) {d mn mx:Nat} {a lo hi:Int} (hf:Fit ps (d+1) mn mx a lo hi) (hg:g∉wkF ps (d+1) a) :
  Fit (zct ps g) (d+1) mn mx (adj g a) lo hi∧wkF (zct ps g) (d+1) (adj g a)=(wkF ps (d+1) a).map (adj g)∧prF (zct ps g) (d+1) (zb (zct ps g) (adj g a))=prF ps (d+1) (zb ps a):=by
 have hcl:=zl2 h0 h1
 have hne:a≠g:=fun e=>hg (e▸zas)
 have hp:=zs8 h0 h1 hf.1 hf.2.1 hne
 obtain⟨k1,k2,k3⟩:=zaa.cut h0 h1 hf.2.2.2.2 fun hx=>hg (List.mem_cons_of_mem _ hx)
 have hb:=zns (n:=(zct ps g).length) h0 hf.1 (by have:=hf.2.1;omega) (by omega) hne
 refine⟨⟨hb.1,hb.2,?_,?_,?_⟩,?_,?_⟩
 ·rw[hp];exact hf.2.2.1
 ·rw[hp];exact hf.2.2.2.1
 ·rw[hp];exact k1
 ·rw[zaf,zaf,hp,k2,List.map_cons]
 ·rw[hp,k3]
def zmq:(Int→Int)→List Int→Int×List Pg→Int×List Pg
 |_,[],t=>t
 |f,g::gs,t=>zmq (fun x=>adj (f g) (f x)) gs (adj (f g) t.1,zct t.2 (f g))
structure CutOk (ps:List Pg) (d mn mx:Nat) (root lo hi:Int) (n:Nat) (R:Int×List Pg):Prop where
 len:R.2.length+n=ps.length
 fit:Fit R.2 d mn mx R.1 lo hi
 nd:(wkF R.2 d R.1).Nodup
 wl:(wkF R.2 d R.1).length=(wkF ps d root).length
 prs:prF R.2 d (zb R.2 R.1)=prF ps d (zb ps root)
theorem zji {f:Int→Int}:∀{l:List Int},(∀x∈l,∀y∈l,f x=f y→x=y)→l.Nodup→(l.map f).Nodup
 |[],_,_=>by simp
 |a::t,hf,h=>by
  rw[List.nodup_cons]at h
  rw[List.map_cons,List.nodup_cons]
  refine⟨fun hc=>?_,zji (fun x hx y hy=>hf x (List.mem_cons_of_mem _ hx) y (List.mem_cons_of_mem _ hy)) h.2⟩
  obtain⟨y,hy,e⟩:=List.mem_map.1 hc
  exact h.1 (hf y (List.mem_cons_of_mem _ hy) a (by simp) e▸hy)
theorem zqe {d mn mx:Nat} {lo hi:Int}:∀(gs:List Int) {f:Int→Int} {root:Int} {ps:List Pg},Fit ps (d+1) mn mx root lo hi→(wkF ps (d+1) root++gs.map f).Nodup→(∀g∈gs,0≤f g∧f g<ps.length) →
  CutOk ps (d+1) mn mx root lo hi gs.length (zmq f gs (root,ps))
 |[],f,root,ps,h,hn,_=>⟨rfl,h,by show(wkF ps (d+1) root).Nodup;simpa using hn,rfl,rfl⟩
 |g::gs,f,root,ps,h,hn,hg=>by
  obtain⟨g0,g1⟩:=hg g (by simp)
  rw[List.map_cons]at hn
  have hn2:=hn
  rw[List.nodup_append,List.nodup_cons]at hn
  obtain⟨n1,⟨n2,n3⟩,n4⟩:=hn
  have hgw:f g∉wkF ps (d+1) root:=fun hc=>n4 _ hc _ (by simp) rfl
  obtain⟨c1,c2,c3⟩:=Fit.cut g0 g1 h hgw
  have hcl:=zl2 g0 g1
  have hne:∀x∈wkF ps (d+1) root++gs.map f,x≠f g:=fun x hx e=>by
   subst e
   rcases List.mem_append.1 hx with hx|hx
   ·exact hgw hx
   ·exact n2 hx
  have K:=zqe gs (f:=fun x=>adj (f g) (f x)) c1 (by
   have e:gs.map (fun x=>adj (f g) (f x))=(gs.map f).map (adj (f g)):=by rw[List.map_map];rfl
   rw[c2,e,←List.map_append]
   refine zji (fun x hx y hy=>zvv (hne x hx) (hne y hy)) (List.nodup_append.2 ⟨n1,n3,fun x hx y hy=>n4 x hx y (List.mem_cons_of_mem _ hy)⟩))
   (fun x hx=>by
    obtain⟨x0,x1⟩:=hg x (List.mem_cons_of_mem _ hx)
    exact zns g0 x0 (by omega) (by omega) (hne _ (List.mem_append_right _ (List.mem_map.2 ⟨x,hx,rfl⟩))))
  show CutOk ps (d+1) mn mx root lo hi (gs.length+1) (zmq (fun x=>adj (f g) (f x)) gs (adj (f g) root,zct ps (f g)))
  exact⟨by have:=K.len;omega,K.fit,K.nd,by rw[K.wl,c2,List.length_map],by rw[K.prs,c3]⟩
def zf4 (root:Int) (ps:List Pg) (h:Nat) (key:Int):Int×List Pg :=
 if (zb (zao ps key h root).1 root).kids.length=1 then zmq id ((zao ps key h root).2++[root]) ((zb (zao ps key h root).1 root).kids.getD 0 0,(zao ps key h root).1)
 else zmq id (zao ps key h root).2 (root,(zao ps key h root).1)
def z1x (root:Int) (ps:List Pg) (h:Nat) (key:Int):Nat:=if (zb (zao ps key h root).1 root).kids.length=1 then 1 else 0
structure DropT (root:Int) (ps:List Pg) (h:Nat) (key:Int) (R:Int×List Pg) (j c:Nat):Prop where
 vt:VT0 R.1 R.2 (h-c)
 prs:prF R.2 (h-c) (zb R.2 R.1)=zbq (prF ps h (zb ps root)) key
 len:R.2.length+j+c=ps.length
 jl:j+1≤h
 cl:c≤1
 ch:c+1≤h
theorem z0t {root:Int} {ps:List Pg} {h:Nat} {key:Int} (v:VT0 root ps h) (hk:key∈(prF ps h (zb ps root)).map Pr.key) :
  DropT root ps h key (zf4 root ps h key) (zao ps key h root).2.length (z1x root ps h key):=by
 obtain⟨d,rfl⟩:∃d,h=d+1:=⟨h-1,by have:=v.h1;omega⟩
 have hb:0≤key∧key≤99:=by
  obtain⟨y,hy,rfl⟩:=List.mem_map.1 hk
  exact(zaa.row v.fit.2.2.2.2).rng y hy
 have P:=zoj v.fit (fun hd=>by rw[if_neg (by omega)];exact Nat.le_refl _) v.nd hb.1 hb.2 hk
 unfold zf4 z1x
 generalize zao ps key (d+1) root=R at P⊢
 obtain⟨ps1,g⟩:=R
 have hlen:ps1.length=ps.length:=P.len
 have hfit:Fit ps1 (d+1) ((if d+1=1 then 0 else 1)-1) 4 root 0 99:=P.fit
 have hgl:g.length+1≤d+1:=P.gl
 have hperm:(wkF ps (d+1) root).Perm (wkF ps1 (d+1) root++g):=P.perm
 have hprs:prF ps1 (d+1) (zb ps1 root)=zbq (prF ps (d+1) (zb ps root)) key:=P.prs
 have hnd:(wkF ps1 (d+1) root++g).Nodup:=hperm.nodup_iff.1 v.nd
 have hgb:∀x∈g,0≤x∧x<ps1.length:=fun x hx=>by
  rw[hlen];exact v.fit.wkLt x (hperm.mem_iff.2 (List.mem_append_right _ hx))
 have hall:(wkF ps1 (d+1) root).length+g.length=ps.length:=by rw[←v.all,hperm.length_eq,List.length_append]
 show DropT root ps (d+1) key (if (zb ps1 root).kids.length=1 then zmq id (g++[root]) ((zb ps1 root).kids.getD 0 0,ps1)else zmq id g (root,ps1)) g.length (if (zb ps1 root).kids.length=1 then 1 else 0)
 by_cases hc:(zb ps1 root).kids.length=1
 ·rw[if_pos hc,if_pos hc]
  match d,hfit with
  |0,hfit =>
   have:=LeafOk.kids hfit.2.2.2.2
   rw[this]at hc;simp at hc
  |d+1,hfit =>
   have hseg:Seg (Fit ps1 (d+1) 2 4) 0 99 (zb ps1 root).keys (zb ps1 root).kids:=hfit.2.2.2.2.2
   have hk2:=Seg.len hseg
   have hks:(zb ps1 root).keys=[]:=List.eq_nil_of_length_eq_zero (by omega)
   obtain⟨c,hcs⟩:∃c,(zb ps1 root).kids=[c]:=by
    match hq:(zb ps1 root).kids,hc with
    |[c],_=>exact⟨c,rfl⟩
   rw[hks,hcs]at hseg
   have hfc:Fit ps1 (d+1) 2 4 c 0 99:=hseg
   have hw:wkF ps1 (d+1+1) root=root::wkF ps1 (d+1) c:=by
    rw[zaf]
    show root::(zb ps1 root).kids.flatMap _=_
    rw[hcs];simp
   rw[hw]at hnd hall
   have hp:prF ps1 (d+1+1) (zb ps1 root)=prF ps1 (d+1) (zb ps1 c):=by
    show(zb ps1 root).kids.flatMap _=_
    rw[hcs];simp
   have hg0:(zb ps1 root).kids.getD 0 0=c:=by rw[hcs];rfl
   rw[hg0]
   have K:=zqe (g++[root]) (f:=id) hfc (by
    rw[List.map_id]
    have:(wkF ps1 (d+1) c++(g++[root])).Perm (root::wkF ps1 (d+1) c++g):=zgz fun y=>by
     simp only[List.count_cons,List.count_append,List.count_nil];omega
    exact this.nodup_iff.2 hnd) (fun x hx=>by
    rcases List.mem_append.1 hx with hx|hx
    ·exact hgb x hx
    ·rw[List.mem_singleton]at hx;subst hx;exact⟨hfit.1,hfit.2.1⟩)
   have kl:=K.len
   rw[List.length_append,List.length_singleton]at kl
   refine⟨⟨by omega,?_,K.nd,?_⟩,?_,by omega,hgl,Nat.le_refl _,by omega⟩
   ·refine K.fit.mono ?_ (Nat.le_refl _)
    split<;>omega
   ·show(wkF _ (d+1) _).length=_
    rw[K.wl]
    simp only[List.length_cons]at hall
    omega
   ·show prF _ (d+1) _=_
    rw[K.prs,←hp,hprs]
 ·rw[if_neg hc,if_neg hc]
  have hfit':Fit ps1 (d+1) (if d+1=1 then 0 else 1) 4 root 0 99:=by
   refine⟨hfit.1,hfit.2.1,?_,hfit.2.2.2.1,hfit.2.2.2.2⟩
   match d,hfit with
   |0,_=>exact Nat.zero_le _
   |d+1,hfit =>
    have:=zaa.kidsLen hfit.2.2.2.2
    rw[if_neg (by omega)];omega
  have K:=zqe g (f:=id) hfit' (by rw[List.map_id];exact hnd) hgb
  have kl:=K.len
  refine⟨⟨by omega,K.fit,K.nd,?_⟩,?_,by omega,hgl,Nat.zero_le _,by omega⟩
  ·show(wkF _ (d+1) _).length=_
   rw[K.wl];omega
  ·show prF _ (d+1) _=_
   rw[K.prs,hprs]
end Go.VL
