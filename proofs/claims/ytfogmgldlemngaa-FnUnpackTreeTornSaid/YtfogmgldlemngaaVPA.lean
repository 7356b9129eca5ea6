/- V-logic: PT3 PT4 PT5 -/
import Derived.Test.YtfogmgldlemngaaVMA
namespace Go.VL
set_option linter.unusedVariables false
set_option linter.unusedSimpArgs false
def zbc:List Pr→Pr→List Pr
 |[],x=>[x]
 |p::t,x=>if p.key<x.key then p::zbc t x else if p.key=x.key then x::t else x::p::t
theorem zlc {x y:Pr}:∀{l:List Pr},y∈zbc l x→y=x∨y∈l
 |[],h=>.inl (by simpa [zbc]using h)
 |p::t,h=>by
  unfold zbc at h
  split at h
  ·rcases List.mem_cons.1 h with rfl|h
   ·exact .inr (by simp)
   ·exact(zlc h).imp id fun h=>List.mem_cons_of_mem _ h
  ·split at h
   ·rcases List.mem_cons.1 h with rfl|h
    ·exact .inl rfl
    ·exact .inr (List.mem_cons_of_mem _ h)
   ·rcases List.mem_cons.1 h with rfl|h
    ·exact .inl rfl
    ·exact .inr h
theorem zyh {x:Pr}:∀{l:List Pr},x∈zbc l x
 |[]=>by simp[zbc]
 |p::t=>by
  unfold zbc
  split
  ·exact List.mem_cons_of_mem _ zyh
  ·split<;>simp
theorem zwg {x y:Pr}:∀{l:List Pr},Asc (l.map Pr.key)→y∈l→y.key≠x.key→y∈zbc l x
 |[],_,h,_=>by cases h
 |p::t,ha,h,hk=>by
  unfold zbc
  rw[List.map_cons,zcf]at ha
  split
  ·rcases List.mem_cons.1 h with rfl|h
   ·simp
   ·exact List.mem_cons_of_mem _ (zwg ha.2 h hk)
  ·split
   ·rename_i e
    rcases List.mem_cons.1 h with rfl|h
    ·exact(hk e).elim
    ·exact List.mem_cons_of_mem _ h
   ·exact List.mem_cons_of_mem _ h
theorem zso {x:Pr}:∀{l:List Pr},Asc (l.map Pr.key)→Asc ((zbc l x).map Pr.key)
 |[],_=>by simp[zbc,Asc]
 |p::t,ha=>by
  have ha':=ha
  rw[List.map_cons,zcf]at ha
  unfold zbc
  split
  ·rename_i h1
   rw[List.map_cons,zcf]
   refine⟨fun k hk=>?_,zso ha.2⟩
   obtain⟨y,hy,rfl⟩:=List.mem_map.1 hk
   rcases zlc hy with rfl|hy
   ·exact h1
   ·exact ha.1 _ (List.mem_map.2 ⟨y,hy,rfl⟩)
  ·rename_i h1
   split
   ·rename_i h2
    rw[List.map_cons,zcf]
    exact⟨fun k hk=>h2▸ha.1 k hk,ha.2⟩
   ·rename_i h2
    rw[List.map_cons,zcf]
    refine⟨fun k hk=>?_,ha'⟩
    rcases List.mem_cons.1 hk with rfl|hk
    ·omega
    ·have:=ha.1 k hk;omega
theorem zvq {x:Pr} {l:List Pr} {lo hi:Int} (h:RowOk l lo hi) (h1:lo≤x.key) (h2:x.key≤hi) (h3:-1000≤x.value∧x.value≤1000):RowOk (zbc l x) lo hi:=by
 refine⟨zso h.asc,fun y hy=>?_,fun y hy=>?_⟩
 ·rcases zlc hy with rfl|hy
  ·exact⟨h1,h2⟩
  ·exact h.rng y hy
 ·rcases zlc hy with rfl|hy
  ·exact h3
  ·exact h.vrng y hy
theorem zok {x:Pr}:∀{l:List Pr},Asc (l.map Pr.key)→(zbc l x).length=l.length+(if x.key∈l.map Pr.key then 0 else 1)
 |[],_=>by simp[zbc]
 |p::t,ha=>by
  rw[List.map_cons,zcf]at ha
  unfold zbc
  split
  ·rename_i h1
   rw[List.length_cons,zok ha.2]
   by_cases hm:x.key∈t.map Pr.key
   ·rw[if_pos hm,if_pos (by rw[List.map_cons];exact List.mem_cons_of_mem _ hm)];simp
   ·rw[if_neg hm,if_neg (by
     rw[List.map_cons,List.mem_cons]
     rintro(e|e)
     ·omega
     ·exact hm e)]
    simp<;>omega
  ·rename_i h1
   split
   ·rename_i h2
    rw[if_pos (by rw[List.map_cons,h2];exact List.mem_cons_self)];simp
   ·rename_i h2
    rw[if_neg (by
     rw[List.map_cons,List.mem_cons]
     rintro(e|e)
     ·omega
     ·have:=ha.1 _ e;omega)]
    simp
theorem zq4 {x:Pr} {B:List Pr}:∀{A:List Pr},(∀y∈A,y.key<x.key)→zbc (A++B) x=A++zbc B x
 |[],_=>rfl
 |p::t,h=>by
  rw[List.cons_append,zbc,if_pos (h p (by simp)),zq4 fun y hy=>h y (List.mem_cons_of_mem _ hy),List.cons_append]
theorem zpx {x:Pr} {B:List Pr} (hB:∀y∈B,x.key<y.key):∀{A:List Pr},zbc (A++B) x=zbc A x++B
 |[]=>by
  cases B with
  |nil=>rfl
  |cons b t =>
   have:=hB b (by simp)
   show zbc (b::t) x=x::b::t
   rw[zbc,if_neg (by omega),if_neg (by omega)]
 |p::t=>by
  rw[List.cons_append,zbc,zbc,zpx hB]
  split
  ·rfl
  ·split<;>rfl
def zam (p:Pg):Pg×Int×Pg :=
 if p.kids.length=0 then(zae ((zab p).take (((zab p).length+1) / 2)),((zab p).getD (((zab p).length+1) / 2) ⟨0,0⟩).key,zae ((zab p).drop (((zab p).length+1) / 2)))
 else(⟨p.keys.take (p.keys.length / 2),p.kids.take (p.keys.length / 2+1),[]⟩,p.keys.getD (p.keys.length / 2) 0,⟨p.keys.drop (p.keys.length / 2+1),p.kids.drop (p.keys.length / 2+1),[]⟩)
theorem RowOk.cut {row:List Pr} {lo hi:Int} (h:RowOk row lo hi) {n:Nat} (hn:n<row.length):RowOk (row.take n) lo ((row.getD n ⟨0,0⟩).key-1)∧RowOk (row.drop n) (row.getD n ⟨0,0⟩).key hi:=by
 have e:row.drop n=row.getD n ⟨0,0⟩::row.drop (n+1):=zg0 _ hn
 have e2:row=row.take n++row.drop n:=(List.take_append_drop n row).symm
 have ha:=h.asc
 rw[e2,List.map_append,z2x]at ha
 obtain⟨a1,a2,a3⟩:=ha
 refine⟨⟨a1,fun x hx=>⟨(h.rng x (List.mem_of_mem_take hx)).1,?_⟩,fun x hx=>h.vrng x (List.mem_of_mem_take hx)⟩,⟨a2,fun x hx=>⟨?_,(h.rng x (List.mem_of_mem_drop hx)).2⟩,fun x hx=>h.vrng x (List.mem_of_mem_drop hx)⟩⟩
 ·have:=a3 x.key (List.mem_map.2 ⟨x,hx,rfl⟩) (row.getD n ⟨0,0⟩).key (by rw[e];simp)
  omega
 ·rw[e,List.map_cons,zcf]at a2
  rw[e]at hx
  rcases List.mem_cons.1 hx with rfl|hx
  ·exact Int.le_refl _
  ·exact Int.le_of_lt (a2.1 _ (List.mem_map.2 ⟨x,hx,rfl⟩))
theorem zla {ps:List Pg} {d:Nat} {p:Pg} {lo hi:Int} (h:zaa ps d p lo hi) (h5:5≤p.keys.length) (h6:p.keys.length≤6) :
  zaa ps d (zam p).1 lo ((zam p).2.1-1)∧zaa ps d (zam p).2.2 (zam p).2.1 hi ∧
  (2≤(zam p).1.keys.length∧(zam p).1.keys.length≤4)∧(2≤(zam p).2.2.keys.length∧(zam p).2.2.keys.length≤4) ∧
  bw ps d (zam p).1++bw ps d (zam p).2.2=bw ps d p∧prF ps d (zam p).1++prF ps d (zam p).2.2=prF ps d p:=by
 match d,h with
 |1,h =>
  have hk:p.kids.length=0:=by rw[LeafOk.kids h];rfl
  have hl:=zby p (LeafOk.len h)
  unfold zam
  rw[if_pos hk]
  generalize hn:((zab p).length+1) / 2=n
  have hn1:n<(zab p).length:=by omega
  obtain⟨c1,c2⟩:=(LeafOk.row h).cut hn1
  refine⟨zfr.2 c1,zfr.2 c2,?_,?_,?_,?_⟩
  ·simp only[zae,List.length_map,List.length_take];omega
  ·simp only[zae,List.length_map,List.length_drop];omega
  ·simp only[bw,zae,List.flatMap_nil,LeafOk.kids h,List.append_nil]
  ·simp only[prF,ze3,List.take_append_drop]
 |d+2,h =>
  have hk:=zaa.kidsLen h
  unfold zam
  rw[if_neg (by omega)]
  generalize hn:p.keys.length / 2=n
  have e:p.keys=p.keys.take n++p.keys.getD n 0::p.keys.drop (n+1):=by
   rw[←zg0 0 (by omega),List.take_append_drop]
  have e2:p.kids=p.kids.take (n+1)++p.kids.drop (n+1):=(List.take_append_drop _ _).symm
  have hs:=h.2
  rw[e,e2,zpm (by simp only[List.length_take];omega)]at hs
  refine⟨⟨rfl,hs.1⟩,⟨rfl,hs.2⟩,?_,?_,?_,?_⟩
  ·simp only[List.length_take];omega
  ·simp only[List.length_drop];omega
  ·show(p.kids.take (n+1)).flatMap _++(p.kids.drop (n+1)).flatMap _=_
   rw[←List.flatMap_append,List.take_append_drop];rfl
  ·show(p.kids.take (n+1)).flatMap _++(p.kids.drop (n+1)).flatMap _=_
   rw[←List.flatMap_append,List.take_append_drop];rfl
theorem Seg.route {F:Int→Int→Int→Prop} {key hi:Int} (hk:key≤hi):∀{ks cs:List Int} {lo:Int},lo≤key→Seg F lo hi ks cs →
  ∃KA KB A B c l r,ks=KA++KB∧cs=A++c::B∧KA.length=upF ks key∧A.length=KA.length∧B.length=KB.length∧cs.getD (upF ks key) 0=c ∧
   zca F lo KA A l∧F c l r∧zc3 F r hi KB B∧l≤key∧key≤r:=by
 intro ks
 induction ks with
 |nil =>
  intro cs lo hl h
  match cs,h with
  |[c],h=>exact⟨[],[],[],[],c,lo,hi,rfl,rfl,rfl,rfl,rfl,rfl,rfl,h,rfl,hl,hk⟩
 |cons k ks ih =>
  intro cs lo hl h
  match cs,h with
  |c0::cs,h =>
   by_cases hc:k≤key
   ·obtain⟨KA,KB,A,B,c,l,r,h1,h2,h3,h4,h5,h6,h7,h8,h9,h10,h11⟩:=ih hc h.2
    have hu:upF (k::ks) key=upF ks key+1:=by unfold upF;rw[List.takeWhile_cons,if_pos (decide_eq_true hc),List.length_cons]
    refine⟨k::KA,KB,c0::A,B,c,l,r,by rw[h1];rfl,by rw[h2];rfl,by rw[hu,List.length_cons,h3],by simp[h4],h5,?_,⟨h.1,h7⟩,h8,h9,h10,h11⟩
    rw[hu,List.getD_cons_succ];exact h6
   ·have hu:upF (k::ks) key=0:=by unfold upF;rw[List.takeWhile_cons,if_neg (by rw[decide_eq_true_eq];exact hc)];rfl
    have hlen:=Seg.len h.2
    match cs,h,hlen with
    |c1::cs,h,hlen =>
     exact⟨[],k::ks,[],c1::cs,c0,lo,k-1,rfl,rfl,by rw[hu];rfl,rfl,by simpa using hlen,by rw[hu];rfl,rfl,h.1,⟨rfl,h.2⟩,hl,by omega⟩
theorem zca.row {F:Int→Int→Int→Prop} {g:Int→List Pr} {l:Int} (hF:∀c l r,F c l r→l≤r):∀{ks cs:List Int} {lo:Int},(∀c∈cs,∀l r,F c l r→RowOk (g c) l r)→zca F lo ks cs l→RowOk (cs.flatMap g) lo (l-1)∧lo≤l
 |[],[],_,_,h=>by cases h;exact⟨⟨by simp[Asc],by simp,by simp⟩,Int.le_refl _⟩
 |[],_::_,_,_,h=>h.elim
 |_::_,[],_,_,h=>h.elim
 |k::ks,c::cs,lo,hg,h=>by
  obtain⟨h1,h2⟩:=zca.row hF (fun x hx=>hg x (List.mem_cons_of_mem _ hx)) h.2
  have:=hF _ _ _ h.1
  rw[List.flatMap_cons]
  exact⟨RowOk.append (hg c (by simp) _ _ h.1) h1 (by omega) (by omega),by omega⟩
theorem zc3.row {F:Int→Int→Int→Prop} {g:Int→List Pr} {r hi:Int} (hF:∀c l r,F c l r→l≤r):∀{ks cs:List Int},(∀c∈cs,∀l r,F c l r→RowOk (g c) l r)→zc3 F r hi ks cs→RowOk (cs.flatMap g) (r+1) hi∧r≤hi
 |[],[],_,h=>by cases h;exact⟨⟨by simp[Asc],by simp,by simp⟩,Int.le_refl _⟩
 |[],_::_,_,h=>h.elim
 |_::_,[],_,h=>h.elim
 |k::ks,c::cs,hg,h=>by
  obtain⟨h1,h2⟩:=h
  have:=(Seg.bounds hF h2).1
  subst h1
  rw[show k-1+1=k by omega]
  exact⟨Seg.row hF hg h2,by omega⟩
def plN (xs:List Int) (n:Int):Nat:=(xs.takeWhile fun x=>decide (x≠n)).length
theorem zqf {A B:List Int} {c:Int} (h:c∉A):plN (A++c::B) c=A.length:=by
 unfold plN
 induction A with
 |nil=>simp
 |cons a t ih =>
  rw[List.mem_cons,not_or]at h
  rw[List.cons_append,List.takeWhile_cons,if_pos (by rw[decide_eq_true_eq];exact fun e=>h.1 e.symm),List.length_cons,ih h.2,List.length_cons]
def zfu (p:Pg) (place:Nat) (key kid:Int):Pg:=⟨p.keys.take place++key::p.keys.drop place,p.kids.take (place+1)++kid::p.kids.drop (place+1),[]⟩
theorem z1m {p:Pg} {KA KB A B:List Int} {c key kid:Int} (h1:p.keys=KA++KB) (h2:p.kids=A++c::B) (h3:A.length=KA.length):zfu p A.length key kid=⟨KA++key::KB,A++c::kid::B,[]⟩:=by
 unfold zfu
 rw[h1,h2,h3,List.take_left' rfl,List.drop_left' rfl]
 have e:A++c::B=(A++[c])++B:=by simp
 rw[e,List.take_left' (by simp;omega),List.drop_left' (by simp;omega)]
 simp
def zmw (ps:List Pg) (a c:Int):List Pg :=
 if 4<(zb ps c).keys.length then
  (ps.set c.toNat (zam (zb ps c)).1++[(zam (zb ps c)).2.2]).set a.toNat (zfu (zb ps a) (plN (zb ps a).kids c) (zam (zb ps c)).2.1 ps.length)
 else ps
def zbb (ps:List Pg) (x:Pr):Nat→Int→List Pg
 |0,_=>ps
 |1,a=>ps.set a.toNat (zae (zbc (zab (zb ps a)) x))
 |d+2,a=>zmw (zbb ps x (d+1) ((zb ps a).kids.getD (upF (zb ps a).keys x.key) 0)) a ((zb ps a).kids.getD (upF (zb ps a).keys x.key) 0)
def zea (ps:List Pg) (x:Int):Nat→Int→Nat
 |0,_=>0
 |1,a=>if x∉(zb ps a).keys∧(zb ps a).keys.length=4 then 1 else 0
 |d+2,a=>if zea ps x (d+1) ((zb ps a).kids.getD (upF (zb ps a).keys x) 0)=d+1∧(zb ps a).keys.length=4 then d+2 else zea ps x (d+1) ((zb ps a).kids.getD (upF (zb ps a).keys x) 0)
def nw (m n:Nat):List Int:=(List.range' m (n-m)).map Int.ofNat
theorem zpj {m n:Nat} {x:Int}:x∈nw m n↔(m:Int)≤x∧x<n:=by
 unfold nw
 rw[List.mem_map]
 constructor
 ·rintro⟨k,hk,rfl⟩
  rw[List.mem_range'_1]at hk
  show(m:Int)≤(k:Int)∧(k:Int)<n
  omega
 ·intro h
  exact⟨x.toNat,by rw[List.mem_range'_1];omega,by show((x.toNat:Nat):Int)=x;omega⟩
theorem z22 (m:Nat):nw m m=[]:=by unfold nw;rw[Nat.sub_self];rfl
theorem z10 {m n:Nat} (h:m≤n):nw m (n+1)=nw m n++[(n:Int)]:=by
 unfold nw
 rw[show n+1-m=(n-m)+1 by omega,List.range'_concat,List.map_append,List.map_singleton,Nat.one_mul,show m+(n-m)=n by omega]
 rfl
theorem nw_nodup (m n:Nat):(nw m n).Nodup:=by
 unfold nw
 refine List.Pairwise.map _ (fun i j h e=>h ?_) (List.nodup_range' (step:=1) (s:=m) (n:=n-m))
 have:(i:Int)=j:=e
 omega
theorem zc9 {ps:List Pg} {a b:Int} {p:Pg} (h0:0≤a) (h1:a<ps.length) (hb:0≤b):zb (ps.set a.toNat p) b=if b=a then p else zb ps b:=by
 unfold zb
 rw[z7 _ _ _ _ _ (by omega)]
 by_cases e:b=a
 ·rw[if_pos e,if_pos (by omega)]
 ·rw[if_neg e,if_neg (by omega)]
theorem zlv {ps qs:List Pg} {b:Int} (hb:0≤b):zb (ps++qs) b=if b<ps.length then zb ps b else zb qs (b-ps.length):=by
 unfold zb
 rw[zdp]
 by_cases e:b<ps.length
 ·rw[if_pos e,if_pos (by omega)]
 ·rw[if_neg e,if_neg (by omega),show(b-ps.length).toNat=b.toNat-ps.length by omega]
theorem zph {ps:List Pg} {d:Nat} {A B:List Int} {c:Int}:(A++c::B).flatMap (wkF ps d)=A.flatMap (wkF ps d)++(wkF ps d c++B.flatMap (wkF ps d)):=by
 rw[List.flatMap_append,List.flatMap_cons]
structure PutOk (ps ps':List Pg) (d mn:Nat) (a lo hi:Int) (x:Pr) (s:Nat):Prop where
 le:s≤d
 len:ps'.length=ps.length+(if s=d then d-1 else s)
 fit:Fit ps' d mn 5 a lo hi
 over:(zb ps' a).keys.length=5↔s=d
 out:∀i:Int,0≤i→i<ps.length→i∉wkF ps d a→zb ps' i=zb ps i
 perm:(wkF ps' d a).Perm (wkF ps d a++nw ps.length ps'.length)
 prs:prF ps' d (zb ps' a)=zbc (prF ps d (zb ps a)) x
theorem zcz {ps ps':List Pg} {d:Nat} (hl:ps.length≤ps'.length) {Z:List Int} (hZ:∀z∈Z,∃l r,Fit ps (d+1) 2 4 z l r) (hs:∀y∈Z.flatMap (wkF ps (d+1)),zb ps' y=zb ps y) :
  (∀z∈Z,∀l r,Fit ps (d+1) 2 4 z l r→Fit ps' (d+1) 2 4 z l r)∧Z.flatMap (wkF ps' (d+1))=Z.flatMap (wkF ps (d+1)) ∧
  (Z.flatMap fun c=>prF ps' (d+1) (zb ps' c))=Z.flatMap fun c=>prF ps (d+1) (zb ps c):=by
 have key:∀z∈Z,∀l r,Fit ps (d+1) 2 4 z l r→Fit ps' (d+1) 2 4 z l r∧wkF ps' (d+1) z=wkF ps (d+1) z∧prF ps' (d+1) (zb ps' z)=prF ps (d+1) (zb ps z):=fun z hz l r hf =>
  Fit.frame hl hf fun y hy=>hs y (List.mem_flatMap.2 ⟨z,hz,hy⟩)
 refine⟨fun z hz l r hf=>(key z hz l r hf).1,flatMap_congr' fun z hz=>?_,flatMap_congr' fun z hz=>?_⟩
 ·obtain⟨l,r,hf⟩:=hZ z hz;exact(key z hz l r hf).2.1
 ·obtain⟨l,r,hf⟩:=hZ z hz;exact(key z hz l r hf).2.2
structure Mid (ps:List Pg) (d:Nat) (a lo hi:Int) (KA KB A B:List Int) (c l r:Int):Prop where
 ks:(zb ps a).keys=KA++KB
 cs:(zb ps a).kids=A++c::B
 lA:A.length=KA.length
 lB:B.length=KB.length
 sL:zca (Fit ps (d+1) 2 4) lo KA A l
 sR:zc3 (Fit ps (d+1) 2 4) r hi KB B
 fA:∀z∈A,∃l r,Fit ps (d+1) 2 4 z l r
 fB:∀z∈B,∃l r,Fit ps (d+1) 2 4 z l r
 na:a∉A.flatMap (wkF ps (d+1))++(wkF ps (d+1) c++B.flatMap (wkF ps (d+1)))
 nA:(A.flatMap (wkF ps (d+1))).Nodup
 nB:(B.flatMap (wkF ps (d+1))).Nodup
 nc:(wkF ps (d+1) c).Nodup
 dA:∀y∈A.flatMap (wkF ps (d+1)),y∉wkF ps (d+1) c++B.flatMap (wkF ps (d+1))
 dB:∀y∈B.flatMap (wkF ps (d+1)),y∉wkF ps (d+1) c
theorem zp5 {ps:List Pg} {d:Nat} {a lo hi:Int} {KA KB A B:List Int} {c l r:Int} (hn:(wkF ps (d+2) a).Nodup) (hseg:Seg (Fit ps (d+1) 2 4) lo hi (zb ps a).keys (zb ps a).kids)
  (ks:(zb ps a).keys=KA++KB) (cs:(zb ps a).kids=A++c::B) (lA:A.length=KA.length) (lB:B.length=KB.length) (sL:zca (Fit ps (d+1) 2 4) lo KA A l) (sR:zc3 (Fit ps (d+1) 2 4) r hi KB B):Mid ps d a lo hi KA KB A B c l r:=by
 have hw:bw ps (d+2) (zb ps a)=A.flatMap (wkF ps (d+1))++(wkF ps (d+1) c++B.flatMap (wkF ps (d+1))):=by
  show(zb ps a).kids.flatMap _=_
  rw[cs,zph]
 rw[zaf,hw,List.nodup_cons,List.nodup_append,List.nodup_append]at hn
 obtain⟨n1,n2,⟨n3,n4,n5⟩,n6⟩:=hn
 exact⟨ks,cs,lA,lB,sL,sR,fun z hz=>Seg.mem hseg z (by rw[cs];simp[hz]),fun z hz=>Seg.mem hseg z (by rw[cs];simp[hz]),n1,n2,n4,n3,fun y hy hc=>n6 y hy y hc rfl,fun y hy hc=>n5 y hc y hy rfl⟩
theorem Mid.wk {ps:List Pg} {d:Nat} {a lo hi:Int} {KA KB A B:List Int} {c l r:Int} (m:Mid ps d a lo hi KA KB A B c l r):wkF ps (d+2) a=a::(A.flatMap (wkF ps (d+1))++(wkF ps (d+1) c++B.flatMap (wkF ps (d+1)))):=by
 rw[zaf]
 show a::(zb ps a).kids.flatMap _=_
 rw[m.cs,zph]
theorem Mid.pr {ps:List Pg} {d:Nat} {a lo hi:Int} {KA KB A B:List Int} {c l r:Int} (m:Mid ps d a lo hi KA KB A B c l r) :
  prF ps (d+2) (zb ps a)=(A.flatMap fun c=>prF ps (d+1) (zb ps c))++(prF ps (d+1) (zb ps c)++B.flatMap fun c=>prF ps (d+1) (zb ps c)):=by
 show(zb ps a).kids.flatMap _=_
 rw[m.cs,List.flatMap_append,List.flatMap_cons]
theorem Mid.lt {ps:List Pg} {d:Nat} {a lo hi:Int} {KA KB A B:List Int} {c l r:Int} (m:Mid ps d a lo hi KA KB A B c l r) {y:Int} (hy:y∈A.flatMap (wkF ps (d+1))∨y∈B.flatMap (wkF ps (d+1))) :
  0≤y∧y<ps.length∧y≠a∧y∉wkF ps (d+1) c:=by
 have hb:0≤y∧y<ps.length:=by
  rcases hy with hy|hy
  ·obtain⟨z,hz,hy⟩:=List.mem_flatMap.1 hy
   obtain⟨l,r,hf⟩:=m.fA z hz
   exact hf.wkLt y hy
  ·obtain⟨z,hz,hy⟩:=List.mem_flatMap.1 hy
   obtain⟨l,r,hf⟩:=m.fB z hz
   exact hf.wkLt y hy
 refine⟨hb.1,hb.2,fun e=>m.na (e▸?_),?_⟩
 ·rcases hy with hy|hy
  ·exact List.mem_append_left _ hy
  ·exact List.mem_append_right _ (List.mem_append_right _ hy)
 ·rcases hy with hy|hy
  ·exact fun hc=>m.dA y hy (List.mem_append_left _ hc)
  ·exact m.dB y hy
structure MidF (ps ps':List Pg) (d:Nat) (lo hi:Int) (KA KB A B:List Int) (l r:Int):Prop where
 sL:zca (Fit ps' (d+1) 2 4) lo KA A l
 sR:zc3 (Fit ps' (d+1) 2 4) r hi KB B
 wA:A.flatMap (wkF ps' (d+1))=A.flatMap (wkF ps (d+1))
 wB:B.flatMap (wkF ps' (d+1))=B.flatMap (wkF ps (d+1))
 pA:(A.flatMap fun c=>prF ps' (d+1) (zb ps' c))=A.flatMap fun c=>prF ps (d+1) (zb ps c)
 pB:(B.flatMap fun c=>prF ps' (d+1) (zb ps' c))=B.flatMap fun c=>prF ps (d+1) (zb ps c)
theorem Mid.frame {ps ps':List Pg} {d:Nat} {a lo hi:Int} {KA KB A B:List Int} {c l r:Int} (m:Mid ps d a lo hi KA KB A B c l r) (hl:ps.length≤ps'.length)
  (hs:∀y:Int,0≤y→y<ps.length→y≠a→y∉wkF ps (d+1) c→zb ps' y=zb ps y):MidF ps ps' d lo hi KA KB A B l r:=by
 have kA:=zcz hl m.fA fun y hy=>by
  obtain⟨q1,q2,q3,q4⟩:=m.lt (.inl hy);exact hs y q1 q2 q3 q4
 have kB:=zcz hl m.fB fun y hy=>by
  obtain⟨q1,q2,q3,q4⟩:=m.lt (.inr hy);exact hs y q1 q2 q3 q4
 exact⟨zca.imp kA.1 m.sL,zc3.imp kB.1 m.sR,kA.2.1,kB.2.1,kA.2.2,kB.2.2⟩
theorem Mid.ins {ps:List Pg} {d:Nat} {a lo hi:Int} {KA KB A B:List Int} {c l r:Int} (m:Mid ps d a lo hi KA KB A B c l r) {x:Pr} (h1:l≤x.key) (h2:x.key≤r) (C:List Pr) :
  zbc ((A.flatMap fun c=>prF ps (d+1) (zb ps c))++(C++B.flatMap fun c=>prF ps (d+1) (zb ps c))) x =
  (A.flatMap fun c=>prF ps (d+1) (zb ps c))++(zbc C x++B.flatMap fun c=>prF ps (d+1) (zb ps c)):=by
 have rA:=zca.row (g:=fun c=>prF ps (d+1) (zb ps c)) Fit.le' (fun c _ l r hc=>zaa.row hc.2.2.2.2) m.sL
 have rB:=zc3.row (g:=fun c=>prF ps (d+1) (zb ps c)) Fit.le' (fun c _ l r hc=>zaa.row hc.2.2.2.2) m.sR
 rw[zq4 fun y hy=>by have:=rA.1.rng y hy;omega,zpx fun y hy=>by have:=rB.1.rng y hy;omega]
theorem zy0 {ps:List Pg} {x:Pr} (hv:-1000≤x.value∧x.value≤1000) {mn:Nat} {a lo hi:Int} (h:Fit ps 1 mn 4 a lo hi) (hl:lo≤x.key) (hh:x.key≤hi) :
  PutOk ps (zbb ps x 1 a) 1 mn a lo hi x (zea ps x.key 1 a):=by
 obtain⟨h0,h1,h2,h3,h4⟩:=h
 have h4:LeafOk (zb ps a) lo hi:=h4
 have hrow:=zdi h4.len
 have hlen:=zok (x:=x) (l:=zab (zb ps a)) (by rw[hrow];exact h4.asc)
 rw[hrow,zby _ h4.len]at hlen
 have hs:∀b:Int,0≤b→zb (zbb ps x 1 a) b=if b=a then zae (zbc (zab (zb ps a)) x)else zb ps b:=fun b hb=>zc9 h0 h1 hb
 have hsa:=hs a h0
 rw[if_pos rfl]at hsa
 have hl':(zbb ps x 1 a).length=ps.length:=List.length_set
 have hk:(zae (zbc (zab (zb ps a)) x)).keys.length=(zbc (zab (zb ps a)) x).length:=by simp[zae]
 have es:zea ps x.key 1 a=if x.key∉(zb ps a).keys∧(zb ps a).keys.length=4 then 1 else 0:=rfl
 have ok:=zfr.2 (zvq h4.row hl hh hv)
 have hw:wkF (zbb ps x 1 a) 1 a=[a]:=by rw[zaf,hsa];rfl
 have hw0:wkF ps 1 a=[a]:=by rw[zaf];show a::(zb ps a).kids.flatMap _=_;rw[h4.kids];rfl
 refine⟨?_,?_,⟨h0,by rw[hl'];exact h1,?_,?_,?_⟩,?_,?_,?_,?_⟩
 ·rw[es];split<;>omega
 ·rw[hl',es];split<;>simp
 ·rw[hsa,hk];split at hlen<;>omega
 ·rw[hsa,hk];split at hlen<;>omega
 ·rw[hsa];exact ok
 ·rw[hsa,hk,es]
  by_cases c1:x.key∈(zb ps a).keys
  ·rw[if_pos c1]at hlen
   rw[if_neg (fun c=>c.1 c1)]
   constructor<;>intro<;>omega
  ·rw[if_neg c1]at hlen
   by_cases c2:(zb ps a).keys.length=4
   ·rw[if_pos ⟨c1,c2⟩];constructor<;>intro<;>omega
   ·rw[if_neg (fun c=>c2 c.2)];constructor<;>intro<;>omega
 ·intro i hi0 hi1 hi2
  rw[hs i hi0,if_neg]
  rintro rfl;rw[hw0]at hi2;simp at hi2
 ·rw[hw,hw0,hl',z22,List.append_nil]
 ·rw[hsa];exact ze3 _
theorem zgz {α:Type} [BEq α] [LawfulBEq α] {l l':List α} (h:∀a,l.count a=l'.count a):l.Perm l':=List.perm_iff_count.2 h
theorem zqu {ps:List Pg} {x:Pr} (hv:-1000≤x.value∧x.value≤1000):∀{d mn:Nat} {a lo hi:Int},Fit ps (d+1) mn 4 a lo hi→(wkF ps (d+1) a).Nodup→lo≤x.key→x.key≤hi →
  PutOk ps (zbb ps x (d+1) a) (d+1) mn a lo hi x (zea ps x.key (d+1) a):=by
 intro d
 induction d with
 |zero=>intro mn a lo hi h hn hl hh;exact zy0 hv h hl hh
 |succ d ih =>
  intro mn a lo hi h hn hl hh
  obtain⟨h0,h1,h2,h3,hv0,hseg⟩:=h
  have hseg:Seg (Fit ps (d+1) 2 4) lo hi (zb ps a).keys (zb ps a).kids:=hseg
  obtain⟨KA,KB,A,B,c,l,r,e1,e2,e3,e4,e5,e6,s1,s2,s3,g1,g2⟩:=Seg.route hh hl hseg
  have m:Mid ps d a lo hi KA KB A B c l r:=zp5 hn hseg e1 e2 e4 e5 s1 s3
  have P:=ih s2 m.nc g1 g2
  have eR:zbb ps x (d+1+1) a=zmw (zbb ps x (d+1) c) a c:=by
   show zmw (zbb ps x (d+1) ((zb ps a).kids.getD (upF (zb ps a).keys x.key) 0)) a ((zb ps a).kids.getD (upF (zb ps a).keys x.key) 0)=_
   rw[e6]
  have eS:zea ps x.key (d+1+1) a=if zea ps x.key (d+1) c=d+1∧(zb ps a).keys.length=4 then d+2 else zea ps x.key (d+1) c:=by
   show(if zea ps x.key (d+1) ((zb ps a).kids.getD (upF (zb ps a).keys x.key) 0)=d+1∧(zb ps a).keys.length=4 then d+2 else zea ps x.key (d+1) ((zb ps a).kids.getD (upF (zb ps a).keys x.key) 0))=_
   rw[e6]
  rw[eR,eS]
  generalize zbb ps x (d+1) c=ps1 at P⊢
  generalize zea ps x.key (d+1) c=s at P⊢
  have hc0:=s2.1
  have hc1:=s2.2.1
  have hac:a≠c:=fun e=>m.na (e▸List.mem_append_right _ (List.mem_append_left _ zas))
  have haW:a∉wkF ps (d+1) c:=fun e=>m.na (List.mem_append_right _ (List.mem_append_left _ e))
  have pa1:=P.out a h0 h1 haW
  have hle:=P.le
  have hlen:=P.len
  have hfit:=P.fit
  have hkl:=hfit.2.2.2.1
  have hll:ps.length≤ps1.length:=by omega
  unfold zmw
  by_cases hov:s=d+1
  ·
   have h5:=P.over.2 hov
   rw[if_pos (by omega)]
   obtain⟨q1,q2,q3,q4,q5,q6⟩:=zla hfit.2.2.2.2 (by omega) (by omega)
   generalize zam (zb ps1 c)=sp at q1 q2 q3 q4 q5 q6⊢
   have hplace:plN (zb ps1 a).kids c=A.length:=by
    rw[pa1,m.cs]
    exact zqf fun hc=>m.dA c (List.mem_flatMap.2 ⟨c,hc,zas⟩) (List.mem_append_left _ zas)
   rw[hplace,z1m (by rw[pa1];exact m.ks) (by rw[pa1];exact m.cs) m.lA]
   generalize hps:(ps1.set c.toNat sp.1++[sp.2.2]).set a.toNat ⟨KA++sp.2.1::KB,A++c::(ps1.length:Int)::B,[]⟩=ps2
   have hlen2:ps2.length=ps1.length+1:=by rw[←hps];simp
   have hc1':c<ps1.length:=by omega
   have get:∀b:Int,0≤b→zb ps2 b=if b=a then⟨KA++sp.2.1::KB,A++c::(ps1.length:Int)::B,[]⟩else if b=c then sp.1 else if b=ps1.length then sp.2.2 else if b<ps1.length then zb ps1 b else⟨[],[],[]⟩:=by
    intro b hb
    rw[←hps,zc9 h0 (by simp;omega) hb]
    by_cases b1:b=a
    ·rw[if_pos b1,if_pos b1]
    rw[if_neg b1,if_neg b1,zlv hb,List.length_set]
    by_cases b2:b<ps1.length
    ·rw[if_pos b2,zc9 hc0 hc1' hb]
     by_cases b3:b=c
     ·rw[if_pos b3,if_pos b3]
     ·rw[if_neg b3,if_neg b3,if_neg (by omega),if_pos b2]
    ·rw[if_neg b2,if_neg (by omega)]
     by_cases b3:b=ps1.length
     ·rw[if_pos b3,b3,Int.sub_self];rfl
     ·rw[if_neg b3,if_neg b2]
      unfold zb
      rw[List.getD_eq_getElem?_getD,List.getElem?_eq_none (by simp;omega)];rfl
   have ga:zb ps2 a=⟨KA++sp.2.1::KB,A++c::(ps1.length:Int)::B,[]⟩:=by rw[get a h0,if_pos rfl]
   have gc:zb ps2 c=sp.1:=by rw[get c hc0,if_neg (fun e=>hac e.symm),if_pos rfl]
   have gn:zb ps2 ps1.length=sp.2.2:=by rw[get _ (by omega),if_neg (by omega),if_neg (by omega),if_pos rfl]
   have go:∀y:Int,0≤y→y<ps1.length→y≠a→y≠c→zb ps2 y=zb ps1 y:=fun y y0 y1 y2 y3=>by
    rw[get y y0,if_neg y2,if_neg y3,if_neg (by omega),if_pos y1]
   have hwc:(wkF ps1 (d+1) c).Nodup:=by
    refine P.perm.nodup_iff.2 (List.nodup_append.2 ⟨m.nc,?_,fun y hy z hz e=>?_⟩)
    ·exact nw_nodup _ _
    ·have:=(s2.wkLt y hy).2
     rw[zpj]at hz
     omega
   have hbc:∀y∈bw ps1 (d+1) (zb ps1 c),0≤y∧y<ps1.length∧y≠a∧y≠c:=fun y hy=>by
    obtain⟨b1,b2⟩:=zaa.bwLt hfit.2.2.2.2 y hy
    refine⟨b1,b2,fun e=>?_,fun e=>?_⟩
    ·subst e
     rcases List.mem_append.1 (P.perm.mem_iff.1 (List.mem_cons_of_mem _ hy))with hy|hy
     ·exact haW hy
     ·rw[zpj]at hy;omega
    ·subst e
     rw[zaf,List.nodup_cons]at hwc
     exact hwc.1 hy
   have fr1:=zaa.frame (ps':=ps2) (by omega) q1 fun y hy=>by
    obtain⟨b1,b2,b3,b4⟩:=hbc y (by rw[←q5];exact List.mem_append_left _ hy)
    exact go y b1 b2 b3 b4
   have fr2:=zaa.frame (ps':=ps2) (by omega) q2 fun y hy=>by
    obtain⟨b1,b2,b3,b4⟩:=hbc y (by rw[←q5];exact List.mem_append_right _ hy)
    exact go y b1 b2 b3 b4
   have mf:=m.frame (ps':=ps2) (by omega) fun y y0 y1 y2 y3=>by
    rw[go y y0 (by omega) y2 (fun e=>y3 (e▸zas))]
    exact P.out y y0 y1 y3
   have fc:Fit ps2 (d+1) 2 4 c l (sp.2.1-1):=⟨hc0,by omega,by rw[gc];exact q3.1,by rw[gc];exact q3.2,by rw[gc];exact fr1.1⟩
   have fn:Fit ps2 (d+1) 2 4 ps1.length sp.2.1 r:=⟨by omega,by omega,by rw[gn];exact q4.1,by rw[gn];exact q4.2,by rw[gn];exact fr2.1⟩
   have hkl2:(KA++sp.2.1::KB).length=(zb ps a).keys.length+1:=by rw[m.ks];simp;omega
   have wk2:wkF ps2 (d+2) a=a::(A.flatMap (wkF ps (d+1))++(c::bw ps1 (d+1) sp.1++((ps1.length:Int)::bw ps1 (d+1) sp.2.2++B.flatMap (wkF ps (d+1))))):=by
    rw[zaf,ga]
    show a::(A++c::(ps1.length:Int)::B).flatMap _=_
    rw[List.flatMap_append,List.flatMap_cons,List.flatMap_cons,mf.wA,mf.wB,zaf,zaf,gc,gn,fr1.2.1,fr2.2.1]
   refine⟨?_,?_,⟨h0,by omega,?_,?_,?_⟩,?_,?_,?_,?_⟩
   ·split<;>omega
   ·rw[hlen2,hlen,if_pos hov]
    split
    ·rw[if_pos rfl];omega
    ·rw[if_neg (by omega)];omega
   ·rw[ga];show mn≤(KA++sp.2.1::KB).length;omega
   ·rw[ga];show(KA++sp.2.1::KB).length≤5;omega
   ·rw[ga]
    exact⟨rfl,(zt6 m.lA m.lB).2 ⟨l,r,mf.sL,fc,fn,mf.sR⟩⟩
   ·rw[ga]
    show(KA++sp.2.1::KB).length=5↔_
    rw[hkl2]
    by_cases c4:(zb ps a).keys.length=4
    ·rw[if_pos ⟨hov,c4⟩,c4];simp
    ·rw[if_neg (fun c=>c4 c.2)]
     constructor<;>intro<;>omega
   ·intro i i0 i1 i2
    rw[m.wk,List.mem_cons,not_or,List.mem_append,not_or,List.mem_append,not_or]at i2
    rw[go i i0 (by omega) i2.1 (fun e=>i2.2.2.1 (e▸zas))]
    exact P.out i i0 i1 i2.2.2.1
   ·rw[wk2,m.wk,hlen2,z10 hll]
    have hp:=P.perm
    rw[zaf,←q5]at hp
    refine zgz fun y=>?_
    have:=hp.count_eq y
    simp only[List.count_cons,List.count_append,List.count_nil]at this⊢
    omega
   ·rw[ga]
    show(A++c::(ps1.length:Int)::B).flatMap _=_
    rw[List.flatMap_append,List.flatMap_cons,List.flatMap_cons,mf.pA,mf.pB,gc,gn,fr1.2.2,fr2.2.2,m.pr,m.ins g1 g2,←P.prs,←q6,List.append_assoc]
  ·have h5:(zb ps1 c).keys.length≤4:=by
    have:¬(zb ps1 c).keys.length=5:=fun e=>hov (P.over.1 e)
    omega
   rw[if_neg (by omega),if_neg (fun e=>hov e.1)]
   rw[if_neg hov]at hlen
   have mf:=m.frame (ps':=ps1) hll fun y y0 y1 y2 y3=>P.out y y0 y1 y3
   have hfit4:Fit ps1 (d+1) 2 4 c l r:=⟨hfit.1,hfit.2.1,hfit.2.2.1,h5,hfit.2.2.2.2⟩
   have wk2:wkF ps1 (d+2) a=a::(A.flatMap (wkF ps (d+1))++(wkF ps1 (d+1) c++B.flatMap (wkF ps (d+1)))):=by
    rw[zaf,pa1]
    show a::(zb ps a).kids.flatMap _=_
    rw[m.cs,zph,mf.wA,mf.wB]
   refine⟨by omega,?_,⟨h0,by omega,?_,?_,?_⟩,?_,?_,?_,?_⟩
   ·rw[hlen,if_neg (by omega)]
   ·rw[pa1];exact h2
   ·rw[pa1];omega
   ·rw[pa1]
    refine⟨hv0,?_⟩
    show Seg (Fit ps1 (d+1) 2 4) lo hi _ _
    rw[m.ks,m.cs,zk0 m.lA m.lB]
    exact⟨l,r,mf.sL,hfit4,mf.sR⟩
   ·rw[pa1];constructor<;>intro<;>omega
   ·intro i i0 i1 i2
    rw[m.wk,List.mem_cons,not_or,List.mem_append,not_or,List.mem_append,not_or]at i2
    exact P.out i i0 i1 i2.2.2.1
   ·rw[wk2,m.wk]
    refine zgz fun y=>?_
    have:=P.perm.count_eq y
    simp only[List.count_cons,List.count_append,List.count_nil]at this⊢
    omega
   ·rw[pa1,m.pr]
    show(zb ps a).kids.flatMap _=_
    rw[m.cs,List.flatMap_append,List.flatMap_cons,mf.pA,mf.pB,m.ins g1 g2,←P.prs]
structure VT0 (root:Int) (ps:List Pg) (h:Nat):Prop where
 h1:1≤h
 fit:Fit ps h (if h=1 then 0 else 1) 4 root 0 99
 nd:(wkF ps h root).Nodup
 all:(wkF ps h root).length=ps.length
theorem VT.v0 {root:Int} {ps:List Pg} {h:Nat} (v:VT root ps h):VT0 root ps h:=⟨v.h1,v.fit,v.nd,v.all⟩
theorem VT0.vt {root:Int} {ps:List Pg} {h:Nat} (v:VT0 root ps h) (h1:ps.length≤16) (h2:h≤3):VT root ps h :=
 ⟨by have:=v.fit.1;have:=v.fit.2.1;omega,h1,v.h1,h2,v.fit,v.nd,v.all⟩
theorem hg_eq {ps:List Pg} {d mn mx f:Nat} {a lo hi n:Int} (h:Fit ps d mn mx a lo hi) (hf:f+1<d):hgF ps f a n=n+f:=by
 induction f generalizing d mn mx a lo hi n with
 |zero=>simp[hgF]
 |succ f ih =>
  obtain⟨e,rfl⟩:∃e,d=e+2:=⟨d-2,by omega⟩
  have hl:=zaa.kidsLen h.2.2.2.2
  have h0:=h.1
  have h1:=h.2.1
  rw[zqp (by omega) (by show 0<(zb ps a).kids.length;omega)]
  obtain⟨l,r,hc⟩:=Seg.mem h.2.2.2.2.2 ((zb ps a).kids.getD 0 0) (by
   have hh:0<(zb ps a).kids.length:=by omega
   have e:(zb ps a).kids.getD 0 0=(zb ps a).kids[0]:=by rw[List.getD_eq_getElem?_getD,List.getElem?_eq_getElem hh];rfl
   rw[e];exact List.getElem_mem hh)
  have:=ih (d:=e+1) (n:=n+1) hc (by omega)
  show hgF ps f ((zb ps a).kids.getD 0 0) (n+1)=_
  rw[this];omega
theorem VT0.vTree {root:Int} {ps:List Pg} {h:Nat} (v:VT0 root ps h):vTree root ps=decide (ps.length≤16∧h≤3):=by
 by_cases c:ps.length≤16∧h≤3
 ·rw[decide_eq_true c];exact zdk.2 ⟨h,v.vt c.1 c.2⟩
 ·rw[decide_eq_false c]
  cases hq:Go.VL.vTree root ps with
  |false=>rfl
  |true =>
   obtain⟨h',v'⟩:=zdk.1 hq
   have h3:=v'.h3
   have:=v'.hg
   have l16:=v'.l16
   have h1:=v.h1
   exfalso
   by_cases c2:h≤4
   ·rw[v.fit.height (by omega)]at this;exact c ⟨l16,by omega⟩
   ·rw[hg_eq v.fit (by omega)]at this;omega
def zer (root:Int) (ps:List Pg) (h:Nat) (x:Pr):Int×List Pg :=
 if 4<(zb (zbb ps x h root) root).keys.length then
  (((zbb ps x h root).length:Int)+1,(zbb ps x h root).set root.toNat (zam (zb (zbb ps x h root) root)).1++[(zam (zb (zbb ps x h root) root)).2.2,⟨[(zam (zb (zbb ps x h root) root)).2.1],[root,((zbb ps x h root).length:Int)],[]⟩])
 else(root,zbb ps x h root)
structure PutT (root:Int) (ps:List Pg) (h:Nat) (x:Pr) (r:Int×List Pg) (s:Nat):Prop where
 le:s≤h
 vt:VT0 r.1 r.2 (if s=h then h+1 else h)
 prs:prF r.2 (if s=h then h+1 else h) (zb r.2 r.1)=zbc (prF ps h (zb ps root)) x
 len:r.2.length=ps.length+s+(if s=h then 1 else 0)
 root:r.1≠root↔s=h
theorem zvr {root:Int} {ps:List Pg} {h:Nat} {x:Pr} (v:VT0 root ps h) (hv:-1000≤x.value∧x.value≤1000) (h0:0≤x.key) (h9:x.key≤99) :
  PutT root ps h x (zer root ps h x) (zea ps x.key h root):=by
 obtain⟨d,rfl⟩:∃d,h=d+1:=⟨h-1,by have:=v.h1;omega⟩
 have P:=zqu hv v.fit v.nd h0 h9
 unfold zer
 generalize zbb ps x (d+1) root=ps1 at P⊢
 generalize zea ps x.key (d+1) root=s at P⊢
 have hfit:=P.fit
 have hlen:=P.len
 have hle:=P.le
 have hkl:=hfit.2.2.2.1
 have hr0:=hfit.1
 have hr1:=hfit.2.1
 have hro:=v.fit.2.1
 have hnd1:(wkF ps1 (d+1) root).Nodup:=by
  refine P.perm.nodup_iff.2 (List.nodup_append.2 ⟨v.nd,nw_nodup _ _,fun y hy z hz e=>?_⟩)
  have:=(v.fit.wkLt y hy).2
  rw[zpj]at hz
  omega
 have hall1:(wkF ps1 (d+1) root).length=ps1.length:=by
  have:=P.perm.length_eq
  rw[this,List.length_append,v.all]
  unfold nw
  rw[List.length_map,List.length_range']
  omega
 by_cases hov:s=d+1
 ·have h5:=P.over.2 hov
  rw[if_pos hov]at hlen
  rw[if_pos (by omega),hov]
  obtain⟨q1,q2,q3,q4,q5,q6⟩:=zla hfit.2.2.2.2 (by omega) (by omega)
  generalize zam (zb ps1 root)=sp at q1 q2 q3 q4 q5 q6⊢
  generalize hps:ps1.set root.toNat sp.1++[sp.2.2,⟨[sp.2.1],[root,(ps1.length:Int)],[]⟩]=ps2
  have hlen2:ps2.length=ps1.length+2:=by rw[←hps];simp
  have get:∀b:Int,0≤b→zb ps2 b=if b<ps1.length then(if b=root then sp.1 else zb ps1 b)else zb [sp.2.2,⟨[sp.2.1],[root,(ps1.length:Int)],[]⟩] (b-ps1.length):=by
   intro b hb
   rw[←hps,zlv hb,List.length_set]
   split
   ·rw[zc9 hr0 hr1 hb]
   ·rfl
  have gr:zb ps2 root=sp.1:=by rw[get root hr0,if_pos hr1,if_pos rfl]
  have gn:zb ps2 ps1.length=sp.2.2:=by rw[get _ (by omega),if_neg (by omega),Int.sub_self];rfl
  have gt:zb ps2 ((ps1.length:Int)+1)=⟨[sp.2.1],[root,(ps1.length:Int)],[]⟩:=by rw[get _ (by omega),if_neg (by omega),show(ps1.length:Int)+1-ps1.length=1 by omega];rfl
  have go:∀y:Int,0≤y→y<ps1.length→y≠root→zb ps2 y=zb ps1 y:=fun y y0 y1 y2=>by rw[get y y0,if_pos y1,if_neg y2]
  have hwc:=hnd1
  rw[zaf,List.nodup_cons]at hwc
  have hb:∀y∈bw ps1 (d+1) (zb ps1 root),zb ps2 y=zb ps1 y:=fun y hy=>by
   obtain⟨b1,b2⟩:=zaa.bwLt hfit.2.2.2.2 y hy
   exact go y b1 b2 fun e=>hwc.1 (e▸hy)
  have fr1:=zaa.frame (ps':=ps2) (by omega) q1 fun y hy=>hb y (by rw[←q5];exact List.mem_append_left _ hy)
  have fr2:=zaa.frame (ps':=ps2) (by omega) q2 fun y hy=>hb y (by rw[←q5];exact List.mem_append_right _ hy)
  have f1:Fit ps2 (d+1) 2 4 root 0 (sp.2.1-1):=⟨hr0,by omega,by rw[gr];exact q3.1,by rw[gr];exact q3.2,by rw[gr];exact fr1.1⟩
  have f2:Fit ps2 (d+1) 2 4 ps1.length sp.2.1 99:=⟨by omega,by omega,by rw[gn];exact q4.1,by rw[gn];exact q4.2,by rw[gn];exact fr2.1⟩
  have wk2:wkF ps2 (d+1+1) ((ps1.length:Int)+1)=((ps1.length:Int)+1)::(root::bw ps1 (d+1) sp.1++((ps1.length:Int)::bw ps1 (d+1) sp.2.2)):=by
   rw[zaf,gt]
   show _::[root,(ps1.length:Int)].flatMap _=_
   rw[List.flatMap_cons,List.flatMap_cons,List.flatMap_nil,List.append_nil,zaf,zaf,gr,gn,fr1.2.1,fr2.2.1]
  have hperm:(wkF ps2 (d+1+1) ((ps1.length:Int)+1)).Perm (wkF ps1 (d+1) root++[(ps1.length:Int),(ps1.length:Int)+1]):=by
   rw[wk2,zaf,←q5]
   refine zgz fun y=>?_
   simp only[List.count_cons,List.count_append,List.count_nil]
   omega
  have hvt:VT0 ((ps1.length:Int)+1) ps2 (d+1+1):=by
   refine⟨by omega,⟨by omega,by omega,?_,?_,?_⟩,?_,?_⟩
   ·rw[gt,if_neg (by omega)];exact Nat.le_refl _
   ·rw[gt];show 1≤4;omega
   ·rw[gt];exact⟨rfl,f1,f2⟩
   ·refine hperm.nodup_iff.2 (List.nodup_append.2 ⟨hnd1,by simp;omega,fun y hy z hz e=>?_⟩)
    have:=(hfit.wkLt y hy).2
    simp only[List.mem_cons,List.not_mem_nil,or_false]at hz
    omega
   ·rw[hperm.length_eq,List.length_append,hall1,hlen2];rfl
  have hpr:prF ps2 (d+1+1) (zb ps2 ((ps1.length:Int)+1))=zbc (prF ps (d+1) (zb ps root)) x:=by
   rw[gt]
   show [root,(ps1.length:Int)].flatMap _=_
   rw[List.flatMap_cons,List.flatMap_cons,List.flatMap_nil,List.append_nil,gr,gn,fr1.2.2,fr2.2.2,←P.prs,←q6]
  refine⟨Nat.le_refl _,?_,?_,?_,?_⟩
  ·rw[if_pos rfl];exact hvt
  ·rw[if_pos rfl];exact hpr
  ·rw[if_pos rfl];show ps2.length=_;omega
  ·show(ps1.length:Int)+1≠root↔_
   exact⟨fun _=>rfl,fun _=>by omega⟩
 ·have h5:(zb ps1 root).keys.length≤4:=by
   have:¬(zb ps1 root).keys.length=5:=fun e=>hov (P.over.1 e)
   omega
  rw[if_neg hov]at hlen
  rw[if_neg (by omega)]
  refine⟨hle,?_,?_,?_,?_⟩
  ·rw[if_neg hov];exact⟨by omega,⟨hr0,hr1,hfit.2.2.1,h5,hfit.2.2.2.2⟩,hnd1,hall1⟩
  ·rw[if_neg hov];exact P.prs
  ·rw[if_neg hov];show ps1.length=_;omega
  ·exact⟨fun h=>(h rfl).elim,fun h=>(hov h).elim⟩
end Go.VL
