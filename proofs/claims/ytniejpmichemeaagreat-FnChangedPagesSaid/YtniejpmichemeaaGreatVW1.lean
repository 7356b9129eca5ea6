/- V-logic: PT22 PT23 PT24 PT25 -/
import Derived.Test.YtniejpmichemeaaGreatVPE
namespace Go.VL
set_option linter.unusedVariables false
set_option linter.unusedSimpArgs false
theorem zou {xs:List Int} {k:Int} (ha:Asc xs):k∈xs↔belF xs k<xs.length∧xs.getD (belF xs k) 0=k:=by
 constructor
 ·intro h
  obtain⟨i,hi,e⟩:=List.getElem_of_mem h
  have e':xs.getD i 0=k:=by rw[List.getD_eq_getElem?_getD,List.getElem?_eq_getElem hi];exact e
  have hb:belF xs k=i:=zv4 ha (by omega) (fun j hj=>by have:=zez ha hj hi;omega) (fun j h1 h2=>by
   rcases Nat.lt_or_ge i j with c|c
   ·have:=zez ha c h2;omega
   ·obtain rfl:i=j:=by omega
    omega)
  rw[hb];exact⟨hi,e'⟩
 ·rintro⟨h1,h2⟩
  rw[←h2];exact zaq 0 h1
theorem zv9 {xs:List Pr} {k:Int} (h:k∈xs.map Pr.key):zei xs k=(xs.getD (belF (xs.map Pr.key) k) ⟨0,0⟩).value:=by unfold zei;rw[if_pos h]
theorem zkw {xs:List Pr} {k:Int} (h:k∉xs.map Pr.key):zei xs k=0:=by unfold zei;rw[if_neg h]
theorem zmk (xs:List Pr) (i:Nat):(xs.map Pr.key).getD i 0=(xs.getD i ⟨0,0⟩).key:=by
 rw[List.getD_eq_getElem?_getD,List.getD_eq_getElem?_getD,List.getElem?_map]
 cases xs[i]?<;>rfl
theorem zzk {ps:List Pg} {d mn mx:Nat} {a lo hi key:Int} (h:Fit ps (d+1) mn mx a lo hi) :
  zei (zab (zb ps (lfF ps key (d+1) a))) key=zei (prF ps (d+1) (zb ps a)) key∧((zab (zb ps (lfF ps key (d+1) a))).map Pr.key).contains key=((prF ps (d+1) (zb ps a)).map Pr.key).contains key:=by
 obtain⟨_,_,l,r,hl⟩:=zec h _ (zi7 h (key:=key))
 have hi:=zvj h (key:=key)
 rw[←zdi hl.len]at hi
 constructor
 ·by_cases c:key∈(prF ps (d+1) (zb ps a)).map Pr.key
  ·obtain⟨y,hy,rfl⟩:=List.mem_map.1 c
   rw[zhx (zaa.row h.2.2.2.2).asc hy,zhx hl.row.asc (z1d h hy)]
  ·rw[zkw c,zkw fun q=>c (hi.2 q)]
 ·rw[Bool.eq_iff_iff,List.contains_iff_mem,List.contains_iff_mem];exact hi.symm
theorem PgOk.row {ps:List Pg} {p:Pg} (h:PgOk ps p) (hk:p.kids=[]):zdb (zab p)=true∧p.vals.length=p.keys.length:=by
 have k4:=h.k4
 rcases h.c with ⟨_,h2,h3⟩|⟨_,_,h2,_⟩
 ·refine⟨?_,h2⟩
  unfold zdb
  rw[zdi h2,h.vk,zby p h2,decide_eq_true (by omega),Bool.true_and,Bool.and_true]
  refine List.all_eq_true.2 fun x hx=>decide_eq_true (h3 _ ?_)
  rw[←zq8 h2];exact List.mem_map.2 ⟨x,hx,rfl⟩
 ·rw[hk]at h2;simp at h2
structure LvB (root:Int) (ps:List Pg):Prop where
 pos:1≤(lvF ps (htF root ps) root).length
 le:(lvF ps (htF root ps) root).length≤97656
 four:(psF root ps).length≤4*(lvF ps (htF root ps) root).length
 len:(psF root ps).length≤100
theorem z4x:∀{l l':List Pr},Asc (l.map Pr.key)→Asc (l'.map Pr.key)→(∀y,y∈l↔y∈l')→l=l'
 |[],[],_,_,_=>rfl
 |[],b::t,_,_,h=>absurd ((h b).2 List.mem_cons_self) (by simp)
 |a::t,[],_,_,h=>absurd ((h a).1 List.mem_cons_self) (by simp)
 |a::t,b::u,h1,h2,h=>by
  rw[List.map_cons,zcf]at h1 h2
  have lt1:∀y∈t,a.key<y.key:=fun y hy=>h1.1 _ (List.mem_map.2 ⟨y,hy,rfl⟩)
  have lt2:∀y∈u,b.key<y.key:=fun y hy=>h2.1 _ (List.mem_map.2 ⟨y,hy,rfl⟩)
  have e:a=b:=by
   rcases List.mem_cons.1 ((h a).1 List.mem_cons_self)with e|e
   ·exact e
   ·rcases List.mem_cons.1 ((h b).2 List.mem_cons_self)with e'|e'
    ·exact e'.symm
    ·have:=lt2 a e;have:=lt1 b e';omega
  subst e
  congr 1
  refine z4x h1.2 h2.2 fun y=>⟨fun hy=>?_,fun hy=>?_⟩
  ·rcases List.mem_cons.1 ((h y).1 (List.mem_cons_of_mem _ hy))with e|e
   ·have:=lt1 y hy;rw[e]at this;omega
   ·exact e
  ·rcases List.mem_cons.1 ((h y).2 (List.mem_cons_of_mem _ hy))with e|e
   ·have:=lt2 y hy;rw[e]at this;omega
   ·exact e
theorem z4o {l:List Pr} (ha:Asc (l.map Pr.key)) {x y:Pr}:y∈zbc l x↔y=x∨(y∈l∧y.key≠x.key):=by
 constructor
 ·intro h
  by_cases c:y.key=x.key
  ·exact .inl (zn5 (zso ha) h zyh c)
  ·rcases zlc h with e|e
   ·exact .inl e
   ·exact .inr ⟨e,c⟩
 ·rintro(rfl|⟨h1,h2⟩)
  ·exact zyh
  ·exact zwg ha h1 h2
theorem z5d {l:List Pr} (ha:Asc (l.map Pr.key)) {x:Pr} (h:x∈l):zbc l x=l:=by
 refine z4x (zso ha) ha fun z=>?_
 rw[z4o ha]
 constructor
 ·rintro(rfl|⟨h1,_⟩)
  ·exact h
  ·exact h1
 ·intro hz
  by_cases c:z.key=x.key
  ·exact .inl (zn5 ha hz h c)
  ·exact .inr ⟨hz,c⟩
theorem ybx {l:List Pr} (ha:Asc (l.map Pr.key)) {x:Pr}:x∈l↔x.key∈l.map Pr.key∧zei l x.key=x.value:=by
 constructor
 ·intro h
  exact⟨List.mem_map.2 ⟨x,h,rfl⟩,zhx ha h⟩
 ·rintro⟨h1,h2⟩
  obtain⟨y,hy,e⟩:=List.mem_map.1 h1
  have:=zhx ha hy
  rw[e,h2]at this
  have:y=x:=by cases x;cases y;simp_all
  exact this▸hy
theorem z5p {α:Type} (d:α):∀{l:List α} {i:Nat} {p:α},p=l.getD i d→l.set i p=l
 |[],_,_,_=>rfl
 |a::t,0,p,h=>by rw[h];rfl
 |a::t,i+1,p,h=>by rw[List.set_cons_succ,z5p d (l:=t) (i:=i) h]
theorem z5r {ps:List Pg} {key:Int} {d:Nat} {a:Int} (h:At ps key (d+1) a):lfF ps key (d+1) a∈wkF ps (d+1) a:=by
 obtain⟨mn,lo,hi,hf,_⟩:=h
 have:=zi7 hf (key:=key)
 rw[←zgq hf]at this
 exact(List.mem_filter.1 this).1
def LfQ (ps:List Pg) (x:Pr) (lf:Int):Pg:=zae (zbc (zab (zb ps lf)) x)
theorem z68 {ps:List Pg} {x:Pr} (hv:-1000≤x.value∧x.value≤1000):∀{d:Nat} {a:Int},At ps x.key (d+1) a →
  zb (zbb ps x (d+1) a) (lfF ps x.key (d+1) a)=LfQ ps x (lfF ps x.key (d+1) a) ∨
  (1≤d∧4<(LfQ ps x (lfF ps x.key (d+1) a)).keys.length∧zb (zbb ps x (d+1) a) (lfF ps x.key (d+1) a)=(zam (LfQ ps x (lfF ps x.key (d+1) a))).1)
 |0,a,h=>by
  obtain⟨_,_,_,hf,_⟩:=h
  refine .inl ?_
  show zb (ps.set a.toNat _) a=_
  rw[zc9 hf.1 hf.2.1 hf.1,if_pos rfl];rfl
 |d+1,a,h=>by
  obtain⟨hd,hna⟩:=h.down
  have hlw:=z5r hd
  have hlk:∀e,d=e+1→lfF ps x.key (d+1) ((zb ps a).kids.getD (upF (zb ps a).keys x.key) 0)≠(zb ps a).kids.getD (upF (zb ps a).keys x.key) 0:=fun e he hq=>by
   subst he
   obtain⟨h1,h2⟩:=hd.down
   refine h2 ?_
   have:=z5r h1
   rw[show lfF ps x.key (e+1) _=lfF ps x.key (e+1+1) ((zb ps a).kids.getD (upF (zb ps a).keys x.key) 0)from rfl,hq]at this
   exact this
  obtain⟨_,_,_,hf,_⟩:=h
  obtain⟨mn,lo,hi,_,_,P⟩:=At.put hv hd
  have ih:=z68 hv hd
  obtain⟨_,_,_,hfc,_⟩:=hd
  have hl0:=(hfc.wkLt _ hlw).1
  have hl1:=(hfc.wkLt _ hlw).2
  rw[show d+1+1=d+2 from rfl,zz5]
  rw[show lfF ps x.key (d+2) a=lfF ps x.key (d+1) ((zb ps a).kids.getD (upF (zb ps a).keys x.key) 0)from rfl]
  have hz:d=0→lfF ps x.key (d+1) ((zb ps a).kids.getD (upF (zb ps a).keys x.key) 0)=(zb ps a).kids.getD (upF (zb ps a).keys x.key) 0:=fun e=>by subst e;rfl
  have hPl:=P.len
  have hac:a≠(zb ps a).kids.getD (upF (zb ps a).keys x.key) 0:=fun e=>hna (e▸zas)
  have hal:a≠lfF ps x.key (d+1) ((zb ps a).kids.getD (upF (zb ps a).keys x.key) 0):=fun e=>hna (by have q:=hlw;rw[←e]at q;exact q)
  generalize lfF ps x.key (d+1) ((zb ps a).kids.getD (upF (zb ps a).keys x.key) 0)=lf at *
  generalize (zb ps a).kids.getD (upF (zb ps a).keys x.key) 0=c at *
  generalize zbb ps x (d+1) c=ps1 at *
  have l1:(ps1.length:Int)≥ps.length:=by split at hPl<;>omega
  unfold zmw
  split
  ·rename_i h4
   have e:zb ((ps1.set c.toNat (zam (zb ps1 c)).1++[(zam (zb ps1 c)).2.2]).set a.toNat (zfu (zb ps1 a) (plN (zb ps1 a).kids c) (zam (zb ps1 c)).2.1 ps1.length)) lf=if lf=c then(zam (zb ps1 c)).1 else zb ps1 lf:=by
    rw[zc9 hf.1 (by rw[List.length_append,List.length_set];have:=hf.2.1;simp;omega) hl0,if_neg (fun q=>hal q.symm),zlv hl0,List.length_set,if_pos (by omega),zc9 hfc.1 (by have:=hfc.2.1;omega) hl0]
   rw[e]
   by_cases c0:d=0
   ·have:=hz c0
    subst this
    rw[if_pos rfl]
    rcases ih with q|q
    ·rw[q]at h4⊢
     exact .inr ⟨by omega,h4,rfl⟩
    ·omega
   ·rw[if_neg (hlk (d-1) (by omega))]
    rcases ih with q|⟨q1,q2,q3⟩
    ·exact .inl q
    ·exact .inr ⟨by omega,q2,q3⟩
  ·rcases ih with q|⟨q1,q2,q3⟩
   ·exact .inl q
   ·exact .inr ⟨by omega,q2,q3⟩
theorem z9d {root:Int} {ps:List Pg} {x:Pr} {d:Nat} (v:VT0 root ps (d+1)) (hv:-1000≤x.value∧x.value≤1000) (h0:0≤x.key) (h9:x.key≤99) (hx:x∉zab (zb ps (lfF ps x.key (d+1) root))) :
  zb (zer root ps (d+1) x).2 (lfF ps x.key (d+1) root)≠zb ps (lfF ps x.key (d+1) root):=by
 have ha:=v.at h0 h9
 have hw:=z5r ha
 obtain⟨w0,w1⟩:=v.fit.wkLt _ hw
 obtain⟨l0,l1,lo,hi,hl⟩:=zec v.fit _ (zi7 v.fit (key:=x.key))
 have hl4:=znl v.fit (Nat.le_refl 4) _ (zi7 v.fit (key:=x.key))
 have hr:=z68 hv ha
 obtain⟨mn,lo',hi',_,_,P⟩:=At.put hv ha
 have hPf:=P.fit
 have hPl:=P.len
 have hz:d=0→lfF ps x.key (d+1) root=root:=fun e=>by subst e;rfl
 have hnz:∀e,d=e+1→lfF ps x.key (d+1) root≠root:=fun e he hq=>by
  subst he
  obtain⟨h1,h2⟩:=ha.down
  refine h2 ?_
  have:=z5r h1
  rw[show lfF ps x.key (e+1) _=lfF ps x.key (e+1+1) root from rfl,hq]at this
  exact this
 have hrow:(zab (zb ps (lfF ps x.key (d+1) root))).map Pr.key=(zb ps (lfF ps x.key (d+1) root)).keys:=zdi hl.len
 have hil:=zok (x:=x) (l:=zab (zb ps (lfF ps x.key (d+1) root))) (by rw[hrow];exact hl.asc)
 rw[zby _ hl.len]at hil
 generalize lfF ps x.key (d+1) root=lf at *
 have hQ:(LfQ ps x lf).keys.length=(zbc (zab (zb ps lf)) x).length:=by unfold LfQ zae;simp
 have hq1:LfQ ps x lf≠zb ps lf:=fun e=>hx (by
  have:=congrArg zab e
  unfold LfQ at this
  rw[ze3]at this
  exact this▸zyh)
 have hq2:4<(LfQ ps x lf).keys.length→(zam (LfQ ps x lf)).1≠zb ps lf:=fun q e=>by
  have:=congrArg (fun p=>p.keys.length) e
  unfold zam LfQ at this
  rw[if_pos (by rfl),ze3]at this
  simp only[zae,List.length_map,List.length_take]at this
  rw[hQ]at q
  split at hil<;>omega
 have key:∀q:List Pg,(zb q lf=LfQ ps x lf∨(4<(LfQ ps x lf).keys.length∧zb q lf=(zam (LfQ ps x lf)).1))→zb q lf≠zb ps lf:=fun q h=>by
  rcases h with e|⟨e1,e2⟩
  ·rw[e];exact hq1
  ·rw[e2];exact hq2 e1
 apply key
 unfold zer
 generalize zbb ps x (d+1) root=ps1 at *
 have l2:(ps1.length:Int)≥ps.length:=by split at hPl<;>omega
 split
 ·rename_i h4
  show zb (ps1.set root.toNat (zam (zb ps1 root)).1++_) lf=_∨_
  rw[zlv w0,List.length_set,if_pos (by omega),zc9 hPf.1 hPf.2.1 w0]
  by_cases c0:d=0
  ·have:=hz c0
   subst this
   rw[if_pos rfl]
   rcases hr with q|q
   ·rw[q]at h4⊢
    exact .inr ⟨h4,rfl⟩
   ·omega
  ·rw[if_neg (hnz (d-1) (by omega))]
   exact hr.imp id fun q=>q.2
 ·exact hr.imp id fun q=>q.2
theorem z54 {root:Int} {ps:List Pg} {x:Pr} {d:Nat} (v:VT0 root ps (d+1)) (hv:-1000≤x.value∧x.value≤1000) (h0:0≤x.key) (h9:x.key≤99) (hx:x.key∈(zb ps (lfF ps x.key (d+1) root)).keys) :
  zer root ps (d+1) x=(root,ps.set (lfF ps x.key (d+1) root).toNat (LfQ ps x (lfF ps x.key (d+1) root))):=by
 have ha:=v.at h0 h9
 obtain⟨l0,l1,lo,hi,hl⟩:=zec v.fit _ (zi7 v.fit (key:=x.key))
 have hl4:=znl v.fit (Nat.le_refl 4) _ (zi7 v.fit (key:=x.key))
 have hrow:(zab (zb ps (lfF ps x.key (d+1) root))).map Pr.key=(zb ps (lfF ps x.key (d+1) root)).keys:=zdi hl.len
 have hil:=zok (x:=x) (l:=zab (zb ps (lfF ps x.key (d+1) root))) (by rw[hrow];exact hl.asc)
 rw[zby _ hl.len,hrow,if_pos hx]at hil
 have e:=zz1 hv ha (i:=d) (by omega)
 rw[zlt,show d+1-d=1 by omega]at e
 refine e ?_
 show ¬4<(zb (ps.set _ _) _).keys.length
 rw[zc9 l0 l1 l0,if_pos rfl]
 simp only[zae,List.length_map]
 omega
theorem z9g {root:Int} {ps:List Pg} {x:Pr} {d:Nat} (v:VT0 root ps (d+1)) (hv:-1000≤x.value∧x.value≤1000) (h0:0≤x.key) (h9:x.key≤99) (hx:x∈zab (zb ps (lfF ps x.key (d+1) root))) :
  zer root ps (d+1) x=(root,ps):=by
 obtain⟨l0,l1,lo,hi,hl⟩:=zec v.fit _ (zi7 v.fit (key:=x.key))
 have hrow:(zab (zb ps (lfF ps x.key (d+1) root))).map Pr.key=(zb ps (lfF ps x.key (d+1) root)).keys:=zdi hl.len
 rw[z54 v hv h0 h9 (by rw[←hrow];exact List.mem_map.2 ⟨x,hx,rfl⟩)]
 congr 1
 refine z5p ⟨[],[],[]⟩ ?_
 unfold LfQ
 rw[z5d (by rw[hrow];exact hl.asc) hx,zwi hl.len hl.kids]
theorem VT0.psF {root:Int} {ps:List Pg} {h:Nat} (v:VT0 root ps h) (w:Go.VL.vTree root ps=true):htF root ps=h∧Go.VL.psF root ps=prF ps h (zb ps root):=by
 have q:=za0 w
 have e:htF root ps=h:=by
  rw[v.vTree,decide_eq_true_iff]at w
  exact(v.vt w.1 w.2).ht
 refine⟨e,?_⟩
 unfold Go.VL.psF
 rw[e]
structure PutF (root:Int) (ps:List Pg) (x:Pr) (r:Int×List Pg):Prop where
 v0:vTree root ps=true
 rng:(0≤x.key∧x.key≤99)∧-1000≤x.value∧x.value≤1000
 vt:vTree r.1 r.2=true
 prs:psF r.1 r.2=zbc (psF root ps) x
 le:zea ps x.key (htF root ps) root≤htF root ps
 ht:htF r.1 r.2=htF root ps+(if zea ps x.key (htF root ps) root=htF root ps then 1 else 0)
 len:r.2.length=ps.length+zea ps x.key (htF root ps) root+(if zea ps x.key (htF root ps) root=htF root ps then 1 else 0)
 root:r.1≠root↔zea ps x.key (htF root ps) root=htF root ps
theorem z4h {root:Int} {ps:List Pg} {x:Pr} {r:Int×List Pg} (h:zqc root ps x=some r):PutF root ps x r:=by
 obtain⟨h1,h2,rfl,h4⟩:=zrm h
 have v:=za0 h1
 have hb:=zsq.1 h2
 have P:=zvr v.v0 hb.2 hb.1.1 hb.1.2
 obtain⟨e1,e2⟩:=P.vt.psF h4
 refine⟨h1,hb,h4,?_,P.le,?_,P.len,P.root⟩
 ·rw[e2,P.prs];rfl
 ·rw[e1];split<;>omega
theorem ycg {root:Int} {ps:List Pg} {x:Pr} {r:Int×List Pg} (h:zqc root ps x=some r) (hx:x∈psF root ps):r=(root,ps):=by
 have F:=z4h h
 obtain⟨h1,h2,rfl,h4⟩:=zrm h
 have v:=za0 F.v0
 obtain⟨d,hd⟩:∃d,htF root ps=d+1:=⟨htF root ps-1,by have:=v.h1;omega⟩
 unfold psF at hx
 rw[hd]at v hx⊢
 exact z9g v.v0 F.rng.2 F.rng.1.1 F.rng.1.2 (z1d v.fit hx)
def pgEq (p q:Pg):Bool:=decide (p.keys=q.keys)&&decide (p.kids=q.kids)&&decide (p.vals=q.vals)
theorem z6i {p q:Pg}:pgEq p q=true↔p=q:=by
 unfold pgEq
 rw[Bool.and_eq_true,Bool.and_eq_true,decide_eq_true_iff,decide_eq_true_iff,decide_eq_true_iff]
 constructor
 ·rintro⟨⟨h1,h2⟩,h3⟩;cases p;cases q;simp_all
 ·rintro rfl;exact⟨⟨rfl,rfl⟩,rfl⟩
theorem z8m {p q:Pg}:pgEq p q=false↔p≠q:=by rw[←Bool.not_eq_true,z6i]
def chF (ps qs:List Pg) (n:Nat):List Int:=((List.range n).filter fun i=>!pgEq (ps.getD i ⟨[],[],[]⟩) (qs.getD i ⟨[],[],[]⟩)).map Int.ofNat
theorem ybl (ps qs:List Pg) (n:Nat):chF ps qs (n+1)=chF ps qs n++(if pgEq (ps.getD n ⟨[],[],[]⟩) (qs.getD n ⟨[],[],[]⟩)=true then []else [(n:Int)]):=by
 unfold chF
 rw[List.range_succ,List.filter_append,List.map_append]
 congr 1
 cases h:pgEq (ps.getD n ⟨[],[],[]⟩) (qs.getD n ⟨[],[],[]⟩)with
 |false=>rw[List.filter_cons_of_pos (by rw[h];rfl),if_neg (by decide)];rfl
 |true=>rw[List.filter_cons_of_neg (by rw[h];decide),if_pos rfl];rfl
theorem z5i {ps qs:List Pg} {n:Nat} {i:Int}:i∈chF ps qs n↔0≤i∧i<n∧zb qs i≠zb ps i:=by
 unfold chF
 rw[List.mem_map]
 constructor
 ·rintro⟨k,hk,rfl⟩
  rw[List.mem_filter,List.mem_range]at hk
  refine⟨Int.natCast_nonneg _,by show(k:Int)<n;omega,fun e=>?_⟩
  have h:=hk.2
  rw[show ps.getD k ⟨[],[],[]⟩=qs.getD k ⟨[],[],[]⟩from e.symm,z6i.2 rfl]at h
  cases h
 ·rintro⟨h0,h1,h2⟩
  refine⟨i.toNat,?_,by show((i.toNat:Nat):Int)=i;omega⟩
  rw[List.mem_filter,List.mem_range]
  refine⟨by omega,?_⟩
  rw[z8m.2 fun e=>h2 e.symm];rfl
theorem yaz (ps qs:List Pg) (n:Nat):(chF ps qs n).length≤n:=by
 unfold chF
 rw[List.length_map]
 have:=List.length_filter_le (fun i=>!pgEq (ps.getD i ⟨[],[],[]⟩) (qs.getD i ⟨[],[],[]⟩)) (List.range n)
 rwa [List.length_range]at this
theorem ycc (ps:List Pg) (n:Nat):chF ps ps n=[]:=by
 refine List.eq_nil_iff_forall_not_mem.2 fun i hi=>?_
 exact(z5i.1 hi).2.2 rfl
theorem yah {root:Int} {ps:List Pg} {x:Pr} {r:Int×List Pg} (h:zqc root ps x=some r) (hx:x∉psF root ps) {d:Nat} (hd:htF root ps=d+1):(ptF ps x.key (d+1) root).getD d 0∈chF ps r.2 ps.length:=by
 have F:=z4h h
 obtain⟨_,_,rfl,_⟩:=zrm h
 have v:=za0 F.v0
 rw[hd]at v⊢
 obtain⟨l0,l1,lo,hi,hl⟩:=zec v.fit _ (zi7 v.fit (key:=x.key))
 rw[zlt,z5i]
 refine⟨l0,l1,z9d v.v0 F.rng.2 F.rng.1.1 F.rng.1.2 fun hq=>hx ?_⟩
 unfold psF
 rw[hd,←zft v.fit]
 exact List.mem_flatMap.2 ⟨_,zi7 v.fit,hq⟩
end Go.VL
