/- V-logic: PT11 PT12 PT13 PT14 -/
import Derived.Test.YtfogmgldlemngaaVPC
import Derived.Test.YtfogmgldlemngaaVMA
namespace Go.VL
set_option linter.unusedVariables false
set_option linter.unusedSimpArgs false
theorem zy1 (n:Int):∀(xs:List Int) (k:Nat),(xs.take k).all (fun x=>decide (x≤n))=true→k≤xs.length→(k<xs.length→¬xs.getD k 0≤n)→k=upF xs n:=by
 intro xs
 induction xs with
 |nil=>intro k _ hk _;simp at hk;subst hk;rfl
 |cons a t ih =>
  intro k h1 h2 h3
  cases k with
  |zero =>
   have:=h3 (by simp)
   rw[List.getD_cons_zero]at this
   unfold upF
   rw[List.takeWhile_cons,if_neg (by rw[decide_eq_true_eq];exact this)];rfl
  |succ k =>
   rw[List.take_succ_cons,List.all_cons,Bool.and_eq_true]at h1
   have:=ih k h1.2 (by simpa using h2) (fun h=>by
    have:=h3 (by simpa using h)
    rwa [List.getD_cons_succ]at this)
   unfold upF
   rw[List.takeWhile_cons,if_pos h1.1,List.length_cons]
   unfold upF at this
   omega
theorem zpr (xs:List Int) (n:Int):upF xs n≤xs.length:=(List.takeWhile_sublist _).length_le
theorem zaq {α:Type} (d:α) {xs:List α} {k:Nat} (h:k<xs.length):xs.getD k d∈xs:=by
 have e:xs.getD k d=xs[k]:=by rw[List.getD_eq_getElem?_getD,List.getElem?_eq_getElem h];rfl
 rw[e];exact List.getElem_mem h
theorem z3l {xs:List Int} {n:Int} {k:Nat} (h1:n∉xs.take k) (h2:k<xs.length) (h3:xs.getD k 0=n):k=plN xs n:=by
 have e:xs=xs.take k++n::xs.drop (k+1):=by
  have:=(List.take_append_drop k xs).symm
  rwa [zg0 0 h2,h3]at this
 have:=zqf (B:=xs.drop (k+1)) h1
 rw[←e,List.length_take,Nat.min_eq_left (by omega)]at this
 exact this.symm
theorem zuq {xs:List Int} {n:Int} {k:Nat} (h1:n∉xs.take k) (h2:k<xs.length) (h3:xs.getD k 0≠n):n∉xs.take (k+1):=by
 rw[zat 0 h2,List.mem_append,not_or]
 exact⟨h1,fun h=>h3 (List.mem_singleton.1 h).symm⟩
def zdb (xs:List Pr):Bool:=(xs.all fun x=>decide (-1000≤x.value∧x.value≤1000))&&(decide (xs.length≤24)&&za2 (xs.map Pr.key))
theorem zln {xs:List Pr}:zdb xs=true↔RowOk xs 0 99∧xs.length≤24:=by
 unfold zdb
 rw[Bool.and_eq_true,Bool.and_eq_true,List.all_eq_true,decide_eq_true_eq,zde]
 constructor
 ·rintro⟨h1,h2,h3,h4⟩
  exact⟨⟨h3,fun x hx=>h4 _ (List.mem_map.2 ⟨x,hx,rfl⟩),fun x hx=>of_decide_eq_true (h1 x hx)⟩,h2⟩
 ·rintro⟨h1,h2⟩
  refine⟨fun x hx=>decide_eq_true (h1.vrng x hx),h2,h1.asc,fun k hk=>?_⟩
  obtain⟨x,hx,rfl⟩:=List.mem_map.1 hk
  exact h1.rng x hx
theorem zro (p:Pg) {i:Nat} (h1:i<p.keys.length) (h2:i<p.vals.length):(zab p).take (i+1)=(zab p).take i++([]++[⟨p.keys.getD i 0,p.vals.getD i 0⟩]):=by
 have hz:i<(zab p).length:=by unfold zab;rw[List.length_zipWith];omega
 rw[zat ⟨0,0⟩ hz]
 congr 2
 unfold zab
 rw[List.getD_eq_getElem?_getD,List.getD_eq_getElem?_getD,List.getD_eq_getElem?_getD,List.getElem?_zipWith,List.getElem?_eq_getElem h1,List.getElem?_eq_getElem h2];rfl
theorem zij (a:Int) (t:List Int) (n:Int):belF (a::t) n=if a<n then belF t n+1 else 0:=by
 unfold belF
 rw[List.takeWhile_cons]
 split
 ·rename_i h;rw[if_pos (of_decide_eq_true h)];rfl
 ·rename_i h;rw[if_neg (fun c=>h (decide_eq_true c))];rfl
theorem zvy {x:Pr}:∀{xs:List Pr},belF (xs.map Pr.key) x.key<xs.length→(xs.getD (belF (xs.map Pr.key) x.key) ⟨0,0⟩).key=x.key →
  xs.take (belF (xs.map Pr.key) x.key)++([]++[x])++xs.drop (belF (xs.map Pr.key) x.key+1)=zbc xs x
 |[],h,_=>by simp at h
 |p::t,h,hk=>by
  rw[List.map_cons,zij]at h hk⊢
  unfold zbc
  split
  ·rename_i h1
   rw[if_pos h1]at h hk
   rw[List.getD_cons_succ]at hk
   have:=zvy (x:=x) (xs:=t) (by simpa using h) hk
   rw[List.take_succ_cons,List.drop_succ_cons,List.cons_append,List.cons_append,this]
  ·rename_i h1
   rw[if_neg h1]at hk
   rw[if_pos (by exact hk)];rfl
theorem zqo {x:Pr}:∀{xs:List Pr},¬(belF (xs.map Pr.key) x.key<xs.length∧(xs.getD (belF (xs.map Pr.key) x.key) ⟨0,0⟩).key=x.key) →
  xs.take (belF (xs.map Pr.key) x.key)++([]++[x])++xs.drop (belF (xs.map Pr.key) x.key)=zbc xs x
 |[],_=>rfl
 |p::t,h=>by
  rw[List.map_cons,zij]at h⊢
  unfold zbc
  split
  ·rename_i h1
   rw[if_pos h1]at h
   rw[List.getD_cons_succ]at h
   have:=zqo (x:=x) (xs:=t) fun c=>h ⟨by simpa using c.1,c.2⟩
   rw[List.take_succ_cons,List.drop_succ_cons,List.cons_append,List.cons_append,this]
  ·rename_i h1
   rw[if_neg h1]at h
   rw[if_neg (c:=p.key=x.key) (fun c=>h ⟨by simp,c⟩)];rfl
theorem zs7 {k:Int}:∀{xs:List Pr},k∈xs.map Pr.key→Asc (xs.map Pr.key)→xs.take (belF (xs.map Pr.key) k)++xs.drop (belF (xs.map Pr.key) k+1)=zbq xs k∧belF (xs.map Pr.key) k<xs.length∧(xs.getD (belF (xs.map Pr.key) k) ⟨0,0⟩).key=k
 |[],h,_=>by simp at h
 |p::t,h,ha=>by
  rw[List.map_cons,zij]
  rw[List.map_cons,zcf]at ha
  unfold zbq
  split
  ·rename_i h1
   have hm:k∈t.map Pr.key:=by
    rw[List.map_cons,List.mem_cons]at h
    exact h.resolve_left (by omega)
   obtain⟨e1,e2,e3⟩:=zs7 hm ha.2
   refine⟨?_,by simpa using e2,?_⟩
   ·rw[List.take_succ_cons,List.drop_succ_cons,List.cons_append,e1]
   ·rw[List.getD_cons_succ];exact e3
  ·rename_i h1
   have hk:p.key=k:=by
    rw[List.map_cons,List.mem_cons]at h
    rcases h with h|h
    ·exact h.symm
    ·have:=ha.1 k h;omega
   rw[if_pos hk]
   exact⟨rfl,by simp,hk⟩
theorem zgq {ps:List Pg}:∀{d mn mx:Nat} {a lo hi:Int},Fit ps (d+1) mn mx a lo hi→(wkF ps (d+1) a).filter (fun x=>decide ((zb ps x).kids.length=0))=lvF ps (d+1) a
 |0,_,_,a,_,_,h=>by
  have hk:=LeafOk.kids h.2.2.2.2
  rw[zaf]
  show(a::(zb ps a).kids.flatMap _).filter _=[a]
  rw[hk,List.flatMap_nil,List.filter_cons,if_pos (by rw[hk];rfl),List.filter_nil]
 |d+1,_,_,a,lo,hi,h=>by
  have hl:=zaa.kidsLen h.2.2.2.2
  rw[zaf]
  show(a::(zb ps a).kids.flatMap (wkF ps (d+1))).filter _=(zb ps a).kids.flatMap (lvF ps (d+1))
  rw[List.filter_cons,if_neg (by rw[decide_eq_true_eq];omega),List.filter_flatMap]
  refine flatMap_congr' fun c hc=>?_
  obtain⟨l,r,hf⟩:=Seg.mem h.2.2.2.2.2 c hc
  exact zgq (d:=d) hf
theorem zft {ps:List Pg}:∀{d mn mx:Nat} {a lo hi:Int},Fit ps (d+1) mn mx a lo hi→(lvF ps (d+1) a).flatMap (fun x=>zab (zb ps x))=prF ps (d+1) (zb ps a)
 |0,_,_,a,_,_,h=>by show [a].flatMap _=_;rw[List.flatMap_cons,List.flatMap_nil,List.append_nil];rfl
 |d+1,_,_,a,lo,hi,h=>by
  show((zb ps a).kids.flatMap (lvF ps (d+1))).flatMap _=(zb ps a).kids.flatMap _
  rw[List.flatMap_assoc]
  refine flatMap_congr' fun c hc=>?_
  obtain⟨l,r,hf⟩:=Seg.mem h.2.2.2.2.2 c hc
  exact zft (d:=d) hf
theorem zec {ps:List Pg}:∀{d mn mx:Nat} {a lo hi:Int},Fit ps (d+1) mn mx a lo hi→∀x∈lvF ps (d+1) a,0≤x∧x<ps.length∧∃lo hi,LeafOk (zb ps x) lo hi
 |0,_,_,a,_,_,h,x,hx=>by
  have hx:x∈[a]:=hx
  rw[List.mem_singleton]at hx;subst hx
  exact⟨h.1,h.2.1,_,_,h.2.2.2.2⟩
 |d+1,_,_,a,lo,hi,h,x,hx=>by
  obtain⟨c,hc,hx⟩:=List.mem_flatMap.1 (show x∈(zb ps a).kids.flatMap (lvF ps (d+1))from hx)
  obtain⟨l,r,hf⟩:=Seg.mem h.2.2.2.2.2 c hc
  exact zec (d:=d) hf x hx
theorem Fit.wkOk {ps:List Pg}:∀{d mn mx:Nat} {a lo hi:Int},Fit ps d mn mx a lo hi→mx≤4→Go.VL.wkOk ps d a
 |0,_,_,_,_,_,h,_=>h.2.2.2.2.elim
 |1,_,_,a,_,_,h,_=>⟨h.1,h.2.1,by rw[LeafOk.kids h.2.2.2.2];simp,fun k hk=>by rw[LeafOk.kids h.2.2.2.2]at hk;cases hk⟩
 |d+2,_,_,a,_,_,h,hm=>by
  have hl:=zaa.kidsLen h.2.2.2.2
  have:=h.2.2.2.1
  refine⟨h.1,h.2.1,by omega,fun k hk=>?_⟩
  obtain⟨l,r,hf⟩:=Seg.mem h.2.2.2.2.2 k hk
  exact Fit.wkOk (d:=d+1) hf (Nat.le_refl _)
theorem Fit.kid {ps:List Pg} {d mn mx:Nat} {a lo hi key:Int} (h:Fit ps (d+2) mn mx a lo hi):upF (zb ps a).keys key<(zb ps a).kids.length∧∃l r,Fit ps (d+1) 2 4 ((zb ps a).kids.getD (upF (zb ps a).keys key) 0) l r:=by
 have hl:=zaa.kidsLen h.2.2.2.2
 have hu:=zpr (zb ps a).keys key
 have hlt:upF (zb ps a).keys key<(zb ps a).kids.length:=by omega
 exact⟨hlt,Seg.mem h.2.2.2.2.2 _ (zaq 0 hlt)⟩
theorem zg1 {ps:List Pg} {key:Int}:∀{d:Nat} {a:Int},(ptF ps key d a).length=d
 |0,_=>rfl
 |1,_=>rfl
 |d+2,a=>by show(a::ptF ps key (d+1) _).length=_;rw[List.length_cons,zg1]
theorem znl {ps:List Pg}:∀{d mn mx:Nat} {a lo hi:Int},Fit ps (d+1) mn mx a lo hi→mx≤4→∀x∈lvF ps (d+1) a,(zb ps x).keys.length≤4
 |0,_,_,a,_,_,h,hm,x,hx=>by
  have hx:x∈[a]:=hx
  rw[List.mem_singleton]at hx;subst hx
  have:=h.2.2.2.1;omega
 |d+1,_,_,a,lo,hi,h,hm,x,hx=>by
  obtain⟨c,hc,hx⟩:=List.mem_flatMap.1 (show x∈(zb ps a).kids.flatMap (lvF ps (d+1))from hx)
  obtain⟨l,r,hf⟩:=Seg.mem h.2.2.2.2.2 c hc
  exact znl (d:=d) hf (Nat.le_refl _) x hx
theorem zki {α β:Type} {f:α→List β} {n:Nat}:∀{l:List α},(∀x∈l,(f x).length≤n)→(l.flatMap f).length≤l.length*n
 |[],_=>by simp
 |a::t,h=>by
  have:=zki (l:=t) fun x hx=>h x (List.mem_cons_of_mem _ hx)
  have:=h a (by simp)
  rw[List.flatMap_cons,List.length_append,List.length_cons,Nat.add_mul];omega
theorem zhn {α β:Type} (d:α) (f:α→List β) (l:List α) (i:Nat) (h:i<l.length):(l.take (i+1)).flatMap f=(l.take i).flatMap f++f (l.getD i d):=by
 rw[zat d h,List.flatMap_append,List.flatMap_cons,List.flatMap_nil,List.append_nil]
def At (ps:List Pg) (key:Int) (e:Nat) (a:Int):Prop :=
 ∃(mn:Nat) (lo hi:Int),Fit ps e mn 4 a lo hi∧(wkF ps e a).Nodup∧lo≤key∧key≤hi∧0≤lo∧hi≤99∧(2≤e→1≤mn)
theorem VT0.at {root:Int} {ps:List Pg} {h:Nat} (v:VT0 root ps h) {key:Int} (h0:0≤key) (h9:key≤99):At ps key h root :=
 ⟨_,_,_,v.fit,v.nd,h0,h9,Int.le_refl _,Int.le_refl _,fun hd=>by rw[if_neg (by omega)];exact Nat.le_refl _⟩
theorem zca.le {F:Int→Int→Int→Prop} {l:Int} (hF:∀c l r,F c l r→l≤r):∀{ks cs:List Int} {lo:Int},zca F lo ks cs l→lo≤l
 |[],[],_,h=>by cases h;exact Int.le_refl _
 |[],_::_,_,h=>h.elim
 |_::_,[],_,h=>h.elim
 |k::ks,c::cs,lo,h=>by have:=zca.le hF h.2;have:=hF _ _ _ h.1;omega
theorem zc3.le {F:Int→Int→Int→Prop} {r hi:Int} (hF:∀c l r,F c l r→l≤r):∀{ks cs:List Int},zc3 F r hi ks cs→r≤hi
 |[],[],h=>by cases h;exact Int.le_refl _
 |[],_::_,h=>h.elim
 |_::_,[],h=>h.elim
 |k::ks,c::cs,h=>by have:=(Seg.bounds hF h.2).1;have:=h.1;omega
theorem At.down {ps:List Pg} {key:Int} {d:Nat} {a:Int} (h:At ps key (d+2) a):At ps key (d+1) ((zb ps a).kids.getD (upF (zb ps a).keys key) 0) ∧
  a∉wkF ps (d+1) ((zb ps a).kids.getD (upF (zb ps a).keys key) 0):=by
 obtain⟨mn,lo,hi,hf,hn,hl,hh,h0,h9,hm⟩:=h
 have hseg:Seg (Fit ps (d+1) 2 4) lo hi (zb ps a).keys (zb ps a).kids:=hf.2.2.2.2.2
 obtain⟨KA,KB,A,B,c,l,r,e1,e2,e3,e4,e5,e6,s1,s2,s3,g1,g2⟩:=Seg.route hh hl hseg
 have m:Mid ps d a lo hi KA KB A B c l r:=zp5 hn hseg e1 e2 e4 e5 s1 s3
 have a1:=zca.le Fit.le' s1
 have a2:=zc3.le Fit.le' s3
 rw[e6]
 exact⟨⟨2,l,r,s2,m.nc,g1,g2,by omega,by omega,fun _=>by decide⟩,fun hc=>m.na (List.mem_append_right _ (List.mem_append_left _ hc))⟩
theorem zgs {ps:List Pg} {key:Int} {d i:Nat} {a:Int}:(ptF ps key (d+2) a).getD (i+1) 0=(ptF ps key (d+1) ((zb ps a).kids.getD (upF (zb ps a).keys key) 0)).getD i 0:=List.getD_cons_succ
theorem zfy {ps:List Pg} {key:Int}:∀{d:Nat} {a:Int},(ptF ps key (d+1) a).getD 0 0=a
 |0,_=>rfl
 |_+1,_=>rfl
theorem zjg {ps:List Pg} {key:Int}:∀{h i:Nat} {a:Int},At ps key h a→i<h→At ps key (h-i) ((ptF ps key h a).getD i 0)
 |0,_,_,_,hi=>by omega
 |1,i,a,h,hi=>by
  have:i=0:=by omega
  subst this;exact h
 |d+2,i,a,h,hi=>by
  cases i with
  |zero=>exact h
  |succ i =>
   rw[zgs,show d+2-(i+1)=d+1-i by omega]
   exact zjg (h:=d+1) h.down.1 (by omega)
theorem zhv {ps:List Pg} {key:Int}:∀{h i:Nat} {a:Int},i+1<h→(ptF ps key h a).getD (i+1) 0=(zb ps ((ptF ps key h a).getD i 0)).kids.getD (upF (zb ps ((ptF ps key h a).getD i 0)).keys key) 0
 |0,_,_,hi=>by omega
 |1,i,_,hi=>by omega
 |d+2,i,a,hi=>by
  cases i with
  |zero=>rw[zgs,zfy];rfl
  |succ i=>rw[zgs,zgs];exact zhv (h:=d+1) (by omega)
theorem At.put {ps:List Pg} {x:Pr} {e:Nat} {a:Int} (hv:-1000≤x.value∧x.value≤1000) (h:At ps x.key (e+1) a):∃mn lo hi,0≤lo∧hi≤99∧PutOk ps (zbb ps x (e+1) a) (e+1) mn a lo hi x (zea ps x.key (e+1) a):=by
 obtain⟨mn,lo,hi,hf,hn,hl,hh,h0,h9,hm⟩:=h
 exact⟨mn,lo,hi,h0,h9,zqu hv hf hn hl hh⟩
theorem zz5 {ps:List Pg} {x:Pr} {e:Nat} {a:Int}:zbb ps x (e+2) a=zmw (zbb ps x (e+1) ((zb ps a).kids.getD (upF (zb ps a).keys x.key) 0)) a ((zb ps a).kids.getD (upF (zb ps a).keys x.key) 0):=rfl
theorem zwd {ps:List Pg} {x:Pr} {h i:Nat} {root:Int} (hi:i+1<h) :
  zbb ps x (h-i) ((ptF ps x.key h root).getD i 0)=zmw (zbb ps x (h-(i+1)) ((ptF ps x.key h root).getD (i+1) 0)) ((ptF ps x.key h root).getD i 0) ((ptF ps x.key h root).getD (i+1) 0):=by
 rw[zhv hi]
 obtain⟨e,he⟩:∃e,h-(i+1)=e+1:=⟨h-(i+1)-1,by omega⟩
 rw[he,show h-i=e+2 by omega,zz5]
theorem zpt {ps:List Pg} {x:Pr} {h i:Nat} {root:Int} (hv:-1000≤x.value∧x.value≤1000) (ha:At ps x.key h root) (hi:i+1<h) :
  zb (zbb ps x (h-(i+1)) ((ptF ps x.key h root).getD (i+1) 0)) ((ptF ps x.key h root).getD i 0)=zb ps ((ptF ps x.key h root).getD i 0) ∧
  0≤(ptF ps x.key h root).getD i 0∧(ptF ps x.key h root).getD i 0<ps.length∧(ptF ps x.key h root).getD i 0≠(ptF ps x.key h root).getD (i+1) 0:=by
 have h1:=zjg ha (show i<h by omega)
 have h2:=zjg ha hi
 rw[zhv hi]at h2⊢
 obtain⟨e,he⟩:∃e,h-(i+1)=e+1:=⟨h-(i+1)-1,by omega⟩
 rw[show h-i=e+2 by omega]at h1
 rw[he]at h2⊢
 obtain⟨hd,hna⟩:=h1.down
 obtain⟨_,_,_,hf,_⟩:=h1
 obtain⟨_,_,_,_,_,P⟩:=At.put hv h2
 exact⟨P.out _ hf.1 hf.2.1 hna,hf.1,hf.2.1,fun e=>hna (e▸zas)⟩
theorem zz1 {ps:List Pg} {x:Pr} {h:Nat} {root:Int} (hv:-1000≤x.value∧x.value≤1000) (ha:At ps x.key h root):∀{i:Nat},i<h →
  ¬4<(zb (zbb ps x (h-i) ((ptF ps x.key h root).getD i 0)) ((ptF ps x.key h root).getD i 0)).keys.length→zer root ps h x=(root,zbb ps x (h-i) ((ptF ps x.key h root).getD i 0)):=by
 intro i
 induction i with
 |zero =>
  intro hi hn
  obtain⟨d,rfl⟩:∃d,h=d+1:=⟨h-1,by omega⟩
  rw[zfy,Nat.sub_zero]at hn⊢
  unfold zer
  rw[if_neg hn]
 |succ i ih =>
  intro hi hn
  have e1:=zwd (ps:=ps) (x:=x) (root:=root) hi
  unfold zmw at e1
  rw[if_neg hn]at e1
  obtain⟨p1,p2,p3,p4⟩:=zpt hv ha hi
  rw[←e1]
  refine ih (by omega) ?_
  rw[e1,p1]
  obtain⟨_,_,_,hf,_⟩:=zjg ha (show i<h by omega)
  have:=hf.2.2.2.1
  omega
theorem z21 {ps:List Pg} {x:Pr} {h i:Nat} {root:Int} (hv:-1000≤x.value∧x.value≤1000) (ha:At ps x.key h root) (hi:i<h) :
  ∃lo hi',0≤lo∧hi'≤99∧zaa (zbb ps x (h-i) ((ptF ps x.key h root).getD i 0)) (h-i) (zb (zbb ps x (h-i) ((ptF ps x.key h root).getD i 0)) ((ptF ps x.key h root).getD i 0)) lo hi' ∧
   (zb (zbb ps x (h-i) ((ptF ps x.key h root).getD i 0)) ((ptF ps x.key h root).getD i 0)).keys.length≤5 ∧
   0≤(ptF ps x.key h root).getD i 0∧(ptF ps x.key h root).getD i 0<(zbb ps x (h-i) ((ptF ps x.key h root).getD i 0)).length∧ps.length≤(zbb ps x (h-i) ((ptF ps x.key h root).getD i 0)).length∧(zbb ps x (h-i) ((ptF ps x.key h root).getD i 0)).length≤ps.length+h:=by
 have h1:=zjg ha hi
 obtain⟨e,he⟩:∃e,h-i=e+1:=⟨h-i-1,by omega⟩
 rw[he]at h1⊢
 obtain⟨mn,lo,hi',h0,h9,P⟩:=At.put hv h1
 have hl:=P.len
 have hle:=P.le
 refine⟨lo,hi',h0,h9,P.fit.2.2.2.2,P.fit.2.2.2.1,P.fit.1,P.fit.2.1,by omega,?_⟩
 split at hl<;>omega
theorem zw5 {α:Type} (xs:List α) (n:Nat) (d:α):(xs.drop n).getD 0 d=xs.getD n d:=by
 simp[List.getD]
theorem ztx {xs:List Int} {n:Int} (h:n∈xs):plN xs n<xs.length:=by
 unfold plN
 induction xs with
 |nil=>cases h
 |cons a t ih =>
  rw[List.takeWhile_cons]
  split
  ·rename_i hc
   rw[decide_eq_true_eq]at hc
   rcases List.mem_cons.1 h with h|h
   ·exact(hc h.symm).elim
   ·have:=ih h
    simp only[List.length_cons];omega
  ·simp
theorem z0y {ps:List Pg} {key:Int} {h i:Nat} {root:Int} (ha:At ps key h root) (hi:i+1<h) :
  (ptF ps key h root).getD (i+1) 0∈(zb ps ((ptF ps key h root).getD i 0)).kids ∧
  (zb ps ((ptF ps key h root).getD i 0)).kids.length=(zb ps ((ptF ps key h root).getD i 0)).keys.length+1∧(zb ps ((ptF ps key h root).getD i 0)).keys.length≤4∧1≤(zb ps ((ptF ps key h root).getD i 0)).keys.length:=by
 have h1:=zjg ha (show i<h by omega)
 rw[zhv hi]
 rw[show h-i=(h-i-2)+2 by omega]at h1
 obtain⟨mn,_,_,hf,_,_,_,_,_,hm⟩:=h1
 have:=hm (by omega)
 have:=hf.2.2.1
 exact⟨zaq 0 hf.kid.1,zaa.kidsLen hf.2.2.2.2,hf.2.2.2.1,by omega⟩
theorem ztr {ps:List Pg}:∀{d mn mx:Nat} {a lo hi x:Int},Fit ps d mn mx a lo hi→x∈wkF ps d a→∃d' mn' lo' hi',Fit ps d' mn' (max mx 4) x lo' hi'
 |0,_,_,_,_,_,_,h,_=>h.2.2.2.2.elim
 |1,mn,mx,a,lo,hi,x,h,hx=>by
  have hx:x∈a::(zb ps a).kids.flatMap (wkF ps 0):=hx
  rw[LeafOk.kids h.2.2.2.2,List.flatMap_nil,List.mem_singleton]at hx
  subst hx
  exact⟨_,_,_,_,h.mono (Nat.le_refl _) (Nat.le_max_left _ _)⟩
 |d+2,mn,mx,a,lo,hi,x,h,hx=>by
  rcases List.mem_cons.1 hx with rfl|hx
  ·exact⟨_,_,_,_,h.mono (Nat.le_refl _) (Nat.le_max_left _ _)⟩
  ·obtain⟨c,hc,hx⟩:=List.mem_flatMap.1 hx
   obtain⟨l,r,hf⟩:=Seg.mem h.2.2.2.2.2 c hc
   obtain⟨d',mn',lo',hi',q⟩:=ztr (d:=d+1) hf hx
   exact⟨d',mn',lo',hi',q.mono (Nat.le_refl _) (by rw[Nat.max_self];exact Nat.le_max_right _ _)⟩
theorem VT0.cover {root:Int} {ps:List Pg} {h:Nat} (v:VT0 root ps h) {i:Int} (h0:0≤i) (h1:i<ps.length):i∈wkF ps h root:=by
 apply Classical.byContradiction
 intro hc
 obtain⟨l,l1,l2,l3⟩:=zt7 ps.length
 obtain⟨d,rfl⟩:∃d,h=d+1:=⟨h-1,by have:=v.h1;omega⟩
 have:=zj4 (l:=i::wkF ps (d+1) root) (l':=l) (List.nodup_cons.2 ⟨hc,v.nd⟩) fun x hx=>(l3 x).2 (by
  rcases List.mem_cons.1 hx with rfl|hx
  ·exact⟨h0,h1⟩
  ·exact v.fit.wkLt x hx)
 rw[l2,List.length_cons,v.all]at this
 omega
theorem Fit.sizes {ps:List Pg} {d mn mx:Nat} {a lo hi:Int} (h:Fit ps d mn mx a lo hi):(zb ps a).keys.length≤mx∧(zb ps a).kids.length≤mx+1∧(zb ps a).vals.length≤mx:=by
 have h4:=h.2.2.2.1
 match d,h with
 |1,h =>
  have:=LeafOk.len h.2.2.2.2
  exact⟨h4,by rw[LeafOk.kids h.2.2.2.2,List.length_nil];omega,by omega⟩
 |d+2,h =>
  have:=zaa.kidsLen h.2.2.2.2
  have hv:(zb ps a).vals=[]:=h.2.2.2.2.1
  exact⟨h4,by omega,by rw[hv,List.length_nil];omega⟩
theorem VT0.sizes {root:Int} {ps:List Pg} {h:Nat} (v:VT0 root ps h) (i:Int):(zb ps i).keys.length≤4∧(zb ps i).kids.length≤5∧(zb ps i).vals.length≤4:=by
 by_cases c:i.toNat<ps.length
 ·obtain⟨d',mn',lo',hi',q⟩:=ztr v.fit (v.cover (i:=(i.toNat:Int)) (by omega) (by omega))
  have:=q.sizes
  exact this
 ·unfold zb
  rw[List.getD_eq_getElem?_getD,List.getElem?_eq_none (by omega)];simp
theorem VT0.pB {root:Int} {ps:List Pg} {h:Nat} (v:VT0 root ps h) (hl:ps.length≤4294967296):Go.VL.pB ps :=
 ⟨hl,fun i=>by have:=v.sizes i;omega,fun i=>by have:=v.sizes i;omega,fun i=>by have:=v.sizes i;omega⟩
theorem VT0.pos {root:Int} {ps:List Pg} {h:Nat} (v:VT0 root ps h):0≤root∧root<ps.length:=⟨v.fit.1,v.fit.2.1⟩
def htF (root:Int) (ps:List Pg):Nat:=(hgF ps 3 root 1).toNat
theorem VT.ht {root:Int} {ps:List Pg} {h:Nat} (v:VT root ps h):htF root ps=h:=by
 unfold htF;rw[v.hg];rfl
theorem za0 {root:Int} {ps:List Pg} (h:vTree root ps=true):VT root ps (htF root ps):=by
 obtain⟨h',v⟩:=zdk.1 h
 rw[v.ht];exact v
theorem zsq {x:Pr}:zdb [x]=true↔(0≤x.key∧x.key≤99)∧-1000≤x.value∧x.value≤1000:=by
 rw[zln]
 constructor
 ·rintro⟨h,_⟩
  exact⟨h.rng x (by simp),h.vrng x (by simp)⟩
 ·rintro⟨h1,h2⟩
  exact⟨⟨by simp[Asc],fun y hy=>by rw[List.mem_singleton]at hy;subst hy;exact h1,fun y hy=>by rw[List.mem_singleton]at hy;subst hy;exact h2⟩,by simp⟩
def psF (root:Int) (ps:List Pg):List Pr:=prF ps (htF root ps) (zb ps root)
def zqc (root:Int) (ps:List Pg) (x:Pr):Option (Int×List Pg) :=
 if vTree root ps=true∧zdb [x]=true∧vTree (zer root ps (htF root ps) x).1 (zer root ps (htF root ps) x).2=true then some (zer root ps (htF root ps) x)else none
theorem zrm {root:Int} {ps:List Pg} {x:Pr} {r:Int×List Pg} (h:zqc root ps x=some r):vTree root ps=true∧zdb [x]=true∧r=zer root ps (htF root ps) x∧vTree r.1 r.2=true:=by
 unfold zqc at h
 split at h
 ·rename_i c;cases h;exact⟨c.1,c.2.1,rfl,c.2.2⟩
 ·cases h
def DAt (ps:List Pg) (key:Int) (e:Nat) (a:Int):Prop :=
 ∃(mn:Nat) (lo hi:Int),Fit ps e mn 4 a lo hi∧(wkF ps e a).Nodup∧lo≤key∧key≤hi∧(2≤e→1≤mn)∧key∈(prF ps e (zb ps a)).map Pr.key∧0≤lo∧hi≤99
theorem zma {α:Type} {g:α→List α} (hg:∀z,z∈g z):∀{l:List α},(l.flatMap g).Nodup→l.Nodup
 |[],_=>by simp
 |a::t,h=>by
  rw[List.flatMap_cons,List.nodup_append]at h
  rw[List.nodup_cons]
  refine⟨fun hc=>?_,zma hg h.2.1⟩
  exact h.2.2 a (hg a) a (List.mem_flatMap.2 ⟨a,hc,hg a⟩) rfl
structure Lev (ps R:List Pg) (d:Nat) (a c:Int):Prop where
 len:R.length=ps.length
 pg:zb R a=zb ps a
 a0:0≤a
 a1:a<ps.length
 vals:(zb ps a).vals=[]
 kl:(zb ps a).kids.length=(zb ps a).keys.length+1
 k1:1≤(zb ps a).keys.length
 k4:(zb ps a).keys.length≤4
 cm:c∈(zb ps a).kids
 nd:(zb ps a).kids.Nodup
 na:a∉(zb ps a).kids
 fit:∀z∈(zb ps a).kids,∃l r,Fit R (d+1) 1 4 z l r
theorem DAt.lev {ps:List Pg} {key:Int} {d:Nat} {a c:Int} (h:DAt ps key (d+2) a) (hc:(zb ps a).kids.getD (upF (zb ps a).keys key) 0=c) :
  DAt ps key (d+1) c∧2≤(zb ps c).keys.length∧Lev ps (zao ps key (d+1) c).1 d a c:=by
 obtain⟨mn,lo,hi,hf,hn,hl,hh,hm,hk,hlo0,hhi9⟩:=h
 have hkl:=zaa.kidsLen hf.2.2.2.2
 obtain⟨h0,h1,h2,h3,hv0,hseg⟩:=hf
 have hseg:Seg (Fit ps (d+1) 2 4) lo hi (zb ps a).keys (zb ps a).kids:=hseg
 obtain⟨KA,KB,A,B,c',l,r,e1,e2,e3,e4,e5,e6,s1,s2,s3,g1,g2⟩:=Seg.route hh hl hseg
 rw[e6]at hc
 subst hc
 have m:Mid ps d a lo hi KA KB A B c' l r:=zp5 hn hseg e1 e2 e4 e5 s1 s3
 have hk':=(m.has g1 g2).1 hk
 have P:=zoj s2 (fun _=>by decide) m.nc g1 g2 hk'
 have sa:=zca.le Fit.le' s1
 have sb:=zc3.le Fit.le' s3
 refine⟨⟨2,l,r,s2,m.nc,g1,g2,fun _=>by decide,hk',by omega,by omega⟩,s2.2.2.1,?_⟩
 generalize zao ps key (d+1) c'=R at P
 have hlen:=P.len
 have hout:=P.out
 have haW:a∉wkF ps (d+1) c':=fun e=>m.na (List.mem_append_right _ (List.mem_append_left _ e))
 have hna:a∉(zb ps a).kids.flatMap (wkF ps (d+1)):=by
  have hn':(a::(zb ps a).kids.flatMap (wkF ps (d+1))).Nodup:=hn
  exact(List.nodup_cons.1 hn').1
 refine⟨hlen,hout a h0 haW,h0,h1,hv0,hkl,by have:=hm (by omega);omega,h3,by rw[m.cs];simp,?_,fun hc=>hna (List.mem_flatMap.2 ⟨a,hc,zas⟩),fun z hz=>?_⟩
 ·have hn':(a::(zb ps a).kids.flatMap (wkF ps (d+1))).Nodup:=hn
  exact zma (fun z=>zas) (List.nodup_cons.1 hn').2
 ·rw[m.cs]at hz
  rcases List.mem_append.1 hz with hz|hz
  ·obtain⟨l',r',hf⟩:=m.fA z hz
   exact⟨l',r',((zcz (ps':=R.1) (by omega) m.fA fun y hy=>by obtain⟨q1,q2,q3,q4⟩:=m.lt (.inl hy);exact hout y q1 q4).1 z hz _ _ hf).mono (by decide) (Nat.le_refl _)⟩
  ·rcases List.mem_cons.1 hz with rfl|hz
   ·exact⟨l,r,P.fit⟩
   ·obtain⟨l',r',hf⟩:=m.fB z hz
    exact⟨l',r',((zcz (ps':=R.1) (by omega) m.fB fun y hy=>by obtain⟨q1,q2,q3,q4⟩:=m.lt (.inr hy);exact hout y q1 q4).1 z hz _ _ hf).mono (by decide) (Nat.le_refl _)⟩
theorem zqw {ps:List Pg} {key:Int}:∀{h i:Nat} {a:Int},DAt ps key h a→i<h→DAt ps key (h-i) ((ptF ps key h a).getD i 0)
 |0,_,_,_,hi=>by omega
 |1,i,a,h,hi=>by
  have:i=0:=by omega
  subst this;exact h
 |d+2,i,a,h,hi=>by
  cases i with
  |zero=>exact h
  |succ i =>
   rw[zgs,show d+2-(i+1)=d+1-i by omega]
   exact zqw (h:=d+1) (h.lev rfl).1 (by omega)
theorem zm2 {ps:List Pg} {key:Int} {h i:Nat} {root:Int} (ha:DAt ps key h root) (hi:i+1<h) :
  2≤(zb ps ((ptF ps key h root).getD (i+1) 0)).keys.length∧Lev ps (zao ps key (h-(i+1)) ((ptF ps key h root).getD (i+1) 0)).1 (h-(i+1)-1) ((ptF ps key h root).getD i 0) ((ptF ps key h root).getD (i+1) 0):=by
 have h1:=zqw ha (show i<h by omega)
 obtain⟨e,he⟩:∃e,h-(i+1)=e+1:=⟨h-(i+1)-1,by omega⟩
 rw[show h-i=e+2 by omega]at h1
 rw[he]
 exact(h1.lev (zhv hi).symm).2
theorem ztc {ps:List Pg} {key:Int} {h i:Nat} {root:Int} (hi:i+1<h) {R:List Pg×List Int} (hR:zao ps key (h-(i+1)) ((ptF ps key h root).getD (i+1) 0)=R) :
  zao ps key (h-i) ((ptF ps key h root).getD i 0)=if (zb R.1 ((ptF ps key h root).getD (i+1) 0)).keys.length<2 then
   ((zcd R.1 ((ptF ps key h root).getD i 0) (plN (zb R.1 ((ptF ps key h root).getD i 0)).kids ((ptF ps key h root).getD (i+1) 0)-1)).1,R.2++(zcd R.1 ((ptF ps key h root).getD i 0) (plN (zb R.1 ((ptF ps key h root).getD i 0)).kids ((ptF ps key h root).getD (i+1) 0)-1)).2)
   else R:=by
 rw[zhv hi]at hR⊢
 obtain⟨e,he⟩:∃e,h-(i+1)=e+1:=⟨h-(i+1)-1,by omega⟩
 rw[he]at hR
 rw[show h-i=e+2 by omega]
 subst hR
 rfl
theorem zxl {ps:List Pg} {key:Int} {h:Nat} {root:Int} (ha:DAt ps key h root):∀{i:Nat},i<h →
  (0<i→¬(zb (zao ps key (h-i) ((ptF ps key h root).getD i 0)).1 ((ptF ps key h root).getD i 0)).keys.length<2)→zao ps key h root=zao ps key (h-i) ((ptF ps key h root).getD i 0):=by
 intro i
 induction i with
 |zero =>
  intro hi _
  obtain⟨d,rfl⟩:∃d,h=d+1:=⟨h-1,by omega⟩
  rw[zfy];rfl
 |succ i ih =>
  intro hi hn
  have e1:=ztc (ps:=ps) (key:=key) (root:=root) hi rfl
  rw[if_neg (hn (by omega))]at e1
  have L:=(zm2 ha hi).2
  rw[←e1]
  refine ih (by omega) fun h0=>?_
  rw[e1,L.pg]
  obtain⟨j,rfl⟩:∃j,i=j+1:=⟨i-1,by omega⟩
  have:=(zm2 ha (show j+1<h by omega)).1
  omega
def PB (n:Nat) (p:Pg):Prop:=p.keys.length≤n∧p.kids.length≤n∧p.vals.length≤n∧∀c∈p.kids,-1≤c∧c≤1000000
def Bd (n:Nat) (ps:List Pg):Prop:=∀i,PB n (zb ps i)
theorem PB.mono {n m:Nat} {p:Pg} (h:PB n p) (hm:n≤m):PB m p:=⟨Nat.le_trans h.1 hm,Nat.le_trans h.2.1 hm,Nat.le_trans h.2.2.1 hm,h.2.2.2⟩
theorem Bd.mono {n m:Nat} {ps:List Pg} (h:Bd n ps) (hm:n≤m):Bd m ps:=fun i=>(h i).mono hm
theorem PB.nil {n:Nat}:PB n ⟨[],[],[]⟩:=⟨by simp,by simp,by simp,by simp⟩
theorem Bd.set {n:Nat} {ps:List Pg} {k:Nat} {p:Pg} (h:Bd n ps) (hp:PB n p):Bd n (ps.set k p):=fun i=>by
 unfold zb
 by_cases hk:k<ps.length
 ·rw[z7 _ _ _ _ _ hk]
  split
  ·exact hp
  ·exact h i
 ·rw[List.set_eq_of_length_le (by omega)];exact h i
theorem Bd.pB {n:Nat} {ps:List Pg} (h:Bd n ps) (hn:n≤4294967296) (hl:ps.length≤4294967296):Go.VL.pB ps :=
 ⟨hl,fun i=>Nat.le_trans (h i).1 hn,fun i=>Nat.le_trans (h i).2.1 hn,fun i=>Nat.le_trans (h i).2.2.1 hn⟩
theorem zng (p:Pg):(zab p).length≤p.keys.length:=by
 unfold zab;simp;omega
theorem zqi (k:Int):∀l:List Pr,(zbq l k).length≤l.length
 |[]=>Nat.le_refl _
 |x::t=>by
  have:=zqi k t
  unfold zbq
  split
  ·simp only[List.length_cons];omega
  ·split
   ·simp
   ·exact Nat.le_refl _
theorem PB.leaf {n:Nat} {r:List Pr} (h:r.length≤n):PB n (zae r):=⟨by simpa [zae]using h,by simp[zae],by simpa [zae]using h,by simp[zae]⟩
theorem PB.join {n:Nat} {x y:Pg} {k:Int} (hx:PB n x) (hy:PB n y):PB (2*n+1) (zcr x k y):=by
 unfold zcr
 split
 ·refine PB.leaf ?_
  have:=zng x
  have:=zng y
  have:=hx.1
  have:=hy.1
  rw[List.length_append];omega
 ·have:=hx.1
  have:=hy.1
  have:=hx.2.1
  have:=hy.2.1
  refine⟨by simp only[List.length_append,List.length_cons];omega,by simp only[List.length_append];omega,by simp,fun c hc=>?_⟩
  rcases List.mem_append.1 hc with hc|hc
  ·exact hx.2.2.2 c hc
  ·exact hy.2.2.2 c hc
theorem PB.split {n:Nat} {x:Pg} (hx:PB n x):PB n (zam x).1∧PB n (zam x).2.2:=by
 have:=zng x
 have:=hx.1
 have:=hx.2.1
 unfold zam
 split
 ·exact⟨PB.leaf (by rw[List.length_take];omega),PB.leaf (by rw[List.length_drop];omega)⟩
 ·refine⟨⟨by simp only[List.length_take];omega,by simp only[List.length_take];omega,by simp,fun c hc=>hx.2.2.2 c (List.mem_of_mem_take hc)⟩,by simp only[List.length_drop];omega,by simp only[List.length_drop];omega,by simp,fun c hc=>hx.2.2.2 c (List.mem_of_mem_drop hc)⟩
theorem PB.cut {n:Nat} {x:Pg} {k:Nat} (hx:PB n x):PB n (zf9 x (k+1)):=by
 have:=hx.1
 have:=hx.2.1
 unfold zf9
 refine⟨by simp only[List.length_append,List.length_take,List.length_drop];omega,by simp only[List.length_append,List.length_take,List.length_drop];omega,by simp,fun c hc=>?_⟩
 rcases List.mem_append.1 hc with hc|hc
 ·exact hx.2.2.2 c (List.mem_of_mem_take hc)
 ·exact hx.2.2.2 c (List.mem_of_mem_drop hc)
theorem Bd.mend {n:Nat} {ps:List Pg} {up:Int} {k:Nat} (h:Bd n ps):Bd (2*n+1) (zcd ps up k).1:=by
 have hm:=h.mono (show n≤2*n+1 by omega)
 have hj:=PB.join (k:=(zb ps up).keys.getD k 0) (h ((zb ps up).kids.getD k 0)) (h ((zb ps up).kids.getD (k+1) 0))
 have hu:=hm up
 unfold zcd
 split
 ·exact(hm.set hj).set hu.cut
 ·refine((hm.set hj.split.1).set hj.split.2).set ⟨by simp only[List.length_set];exact hu.1,hu.2⟩
def bdN (n:Nat):Nat→Nat
 |0=>n
 |e+1=>2*bdN n e+1
theorem Bd.drop {n:Nat} {ps:List Pg} {key:Int} (h:Bd n ps):∀(e:Nat) (a:Int),Bd (bdN n e) (zao ps key e a).1
 |0,a=>h
 |1,a=>by
  refine(h.mono (show n≤2*n+1 by omega)).set (PB.leaf ?_)
  have:=zqi key (zab (zb ps a))
  have:=zng (zb ps a)
  have:=(h a).1
  omega
 |d+2,a=>by
  have ih:=Bd.drop (key:=key) h (d+1) ((zb ps a).kids.getD (upF (zb ps a).keys key) 0)
  unfold zao
  split
  ·exact ih.mend
  ·exact ih.mono (show bdN n (d+1)≤2*bdN n (d+1)+1 by omega)
theorem Bd.cut {n:Nat} {ps:List Pg} {g:Int} (h:Bd n ps) (h0:0≤g):Bd n (zct ps g):=fun i=>by
 unfold zb zct
 rw[List.getD_eq_getElem?_getD,List.getElem?_map]
 have key:∀p,PB n p→PB n (ziu g p):=fun p hp=>by
  refine⟨hp.1,by simp only[ziu,List.length_map];exact hp.2.1,hp.2.2.1,fun c hc=>?_⟩
  obtain⟨x,hx,rfl⟩:=List.mem_map.1 hc
  have:=hp.2.2.2 x hx
  unfold adj;split<;>omega
 cases hq:(ps.eraseIdx g.toNat)[i.toNat]? with
 |none=>exact PB.nil
 |some p =>
  rw[List.getElem?_eraseIdx]at hq
  refine key p ?_
  split at hq
  ·have:=h i
   unfold zb at this
   rw[List.getD_eq_getElem?_getD,hq]at this;exact this
  ·have:=h ((i.toNat+1:Nat):Int)
   unfold zb at this
   rw[List.getD_eq_getElem?_getD,Int.toNat_natCast,hq]at this;exact this
theorem VT0.bd {root:Int} {ps:List Pg} {h:Nat} (v:VT0 root ps h) (hl:ps.length≤1000000):Bd 5 ps:=fun i=>by
 obtain⟨s1,s2,s3⟩:=v.sizes i
 refine⟨by omega,s2,by omega,fun c hc=>?_⟩
 by_cases hi:i.toNat<ps.length
 ·obtain⟨d',mn',lo',hi',q⟩:=ztr v.fit (v.cover (i:=(i.toNat:Int)) (by omega) (by omega))
  have hc:c∈(zb ps (i.toNat:Int)).kids:=hc
  match d',q with
  |0,q=>exact q.2.2.2.2.elim
  |1,q=>rw[LeafOk.kids q.2.2.2.2]at hc;cases hc
  |d+2,q =>
   obtain⟨l,r,hf⟩:=Seg.mem q.2.2.2.2.2 c hc
   have:=hf.1
   have:=hf.2.1
   omega
 ·unfold zb at hc
  rw[List.getD_eq_getElem?_getD,List.getElem?_eq_none (by omega)]at hc
  cases hc
structure Cuts (n:Nat) (root:Int) (gs:List Int):Prop where
 nd:(root::gs).Nodup
 rng:∀x∈root::gs,0≤x∧x<n
theorem Cuts.step {n:Nat} {root g:Int} {gs:List Int} (h:Cuts (n+1) root (g::gs)):Cuts n (adj g root) (gs.map (adj g)):=by
 have hg:=h.rng g (by simp)
 have hnd:=h.nd
 have hne:∀x∈root::gs,x≠g:=by
  intro x hx e
  subst e
  rw[List.nodup_cons,List.nodup_cons]at hnd
  rcases List.mem_cons.1 hx with rfl|hx
  ·exact hnd.1 (by simp)
  ·exact hnd.2.1 hx
 have hnd2:(root::gs).Nodup:=by
  rw[List.nodup_cons,List.nodup_cons]at hnd
  exact List.nodup_cons.2 ⟨fun hc=>hnd.1 (List.mem_cons_of_mem _ hc),hnd.2.2⟩
 refine⟨?_,fun x hx=>?_⟩
 ·rw[←List.map_cons]
  exact zji (fun x hx y hy=>zvv (hne x hx) (hne y hy)) hnd2
 ·rw[←List.map_cons]at hx
  obtain⟨y,hy,rfl⟩:=List.mem_map.1 hx
  have:=h.rng y (by rcases List.mem_cons.1 hy with rfl|hy<;>simp_all)
  exact zns hg.1 this.1 (by omega) (by omega) (hne y hy)
theorem DropOk.cuts {ps:List Pg} {key:Int} {d mn:Nat} {root:Int} {R:List Pg×List Int} (h:DropOk ps key (d+1) mn root 0 99 R) (hn:(wkF ps (d+1) root).Nodup) (hw:∀x∈wkF ps (d+1) root,0≤x∧x<ps.length) :
  Cuts R.1.length root R.2∧((zb R.1 root).kids.length=1→Cuts R.1.length ((zb R.1 root).kids.getD 0 0) (R.2++[root])):=by
 have hp:=h.perm
 have hl:=h.len
 have hn2:=hp.nodup_iff.1 hn
 have hr:∀x∈wkF R.1 (d+1) root++R.2,0≤x∧x<R.1.length:=fun x hx=>by have:=hw x (hp.mem_iff.2 hx);omega
 have hs:root∈wkF R.1 (d+1) root:=zas
 rw[List.nodup_append]at hn2
 obtain⟨n1,n2,n3⟩:=hn2
 refine⟨⟨List.nodup_cons.2 ⟨fun hc=>n3 _ hs _ hc rfl,n2⟩,fun x hx=>hr x ?_⟩,fun h1=>?_⟩
 ·rcases List.mem_cons.1 hx with rfl|hx
  ·exact List.mem_append_left _ hs
  ·exact List.mem_append_right _ hx
 ·have hk:=zaq 0 (show 0<(zb R.1 root).kids.length by omega)
  obtain⟨e,rfl⟩:∃e,d=e+1:=by
   cases d with
   |zero=>have:=LeafOk.kids h.fit.2.2.2.2;rw[this]at h1;simp at h1
   |succ e=>exact⟨e,rfl⟩
  have hkb:(zb R.1 root).kids.getD 0 0∈(zb R.1 root).kids.flatMap (wkF R.1 (e+1)):=List.mem_flatMap.2 ⟨_,hk,zas⟩
  have hkw:(zb R.1 root).kids.getD 0 0∈wkF R.1 (e+1+1) root:=List.mem_cons_of_mem _ hkb
  have hne:(zb R.1 root).kids.getD 0 0≠root:=fun e=>by
   have:=(List.nodup_cons.1 n1).1
   rw[e]at hkb;exact this hkb
  refine⟨List.nodup_cons.2 ⟨fun hc=>?_,List.nodup_append.2 ⟨n2,by simp,fun x hx y hy=>?_⟩⟩,fun x hx=>hr x ?_⟩
  ·rcases List.mem_append.1 hc with hc|hc
   ·exact n3 _ hkw _ hc rfl
   ·exact hne (List.mem_singleton.1 hc)
  ·rw[List.mem_singleton]at hy
   subst hy
   exact fun e=>n3 _ hs _ hx e.symm
  ·rcases List.mem_cons.1 hx with rfl|hx
   ·exact List.mem_append_left _ hkw
   ·rcases List.mem_append.1 hx with hx|hx
    ·exact List.mem_append_right _ hx
    ·rw[List.mem_singleton]at hx;subst hx;exact List.mem_append_left _ hs
end Go.VL
