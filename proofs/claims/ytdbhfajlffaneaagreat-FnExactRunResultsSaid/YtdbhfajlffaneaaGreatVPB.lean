/- V-logic -/
import Derived.Test.YtdbhfajlffaneaaGreatVPA
namespace Go.VL
set_option linter.unusedVariables false
set_option linter.unusedSimpArgs false
def zbq:List Pr→Int→List Pr
 |[],_=>[]
 |p::t,k=>if p.key<k then p::zbq t k else if p.key=k then t else p::t
def zcr (x:Pg) (k:Int) (y:Pg):Pg :=
 if x.kids.length=0 then zae (zab x++zab y)else⟨x.keys++k::y.keys,x.kids++y.kids,[]⟩
def zf9 (p:Pg) (place:Nat):Pg:=⟨p.keys.take (place-1)++p.keys.drop place,p.kids.take place++p.kids.drop (place+1),[]⟩
def zcd (ps:List Pg) (up:Int) (first:Nat):List Pg×List Int :=
 if (zcr (zb ps ((zb ps up).kids.getD first 0)) ((zb ps up).keys.getD first 0) (zb ps ((zb ps up).kids.getD (first+1) 0))).keys.length≤4 then
  ((ps.set ((zb ps up).kids.getD first 0).toNat (zcr (zb ps ((zb ps up).kids.getD first 0)) ((zb ps up).keys.getD first 0) (zb ps ((zb ps up).kids.getD (first+1) 0)))).set up.toNat (zf9 (zb ps up) (first+1)),[(zb ps up).kids.getD (first+1) 0])
 else(((ps.set ((zb ps up).kids.getD first 0).toNat (zam (zcr (zb ps ((zb ps up).kids.getD first 0)) ((zb ps up).keys.getD first 0) (zb ps ((zb ps up).kids.getD (first+1) 0)))).1).set ((zb ps up).kids.getD (first+1) 0).toNat (zam (zcr (zb ps ((zb ps up).kids.getD first 0)) ((zb ps up).keys.getD first 0) (zb ps ((zb ps up).kids.getD (first+1) 0)))).2.2).set up.toNat ⟨(zb ps up).keys.set first (zam (zcr (zb ps ((zb ps up).kids.getD first 0)) ((zb ps up).keys.getD first 0) (zb ps ((zb ps up).kids.getD (first+1) 0)))).2.1,(zb ps up).kids,(zb ps up).vals⟩,[])
structure MendOk (ps:List Pg) (d:Nat) (a lo hi:Int) (u w:Int) (R:List Pg×List Int):Prop where
 len:R.1.length=ps.length
 fit:zaa R.1 (d+2) (zb R.1 a) lo hi
 kl:(zb R.1 a).keys.length+R.2.length=(zb ps a).keys.length
 gl:R.2.length≤1
 out:∀i:Int,0≤i→i≠a→i≠u→i≠w→zb R.1 i=zb ps i
 perm:(wkF ps (d+2) a).Perm (wkF R.1 (d+2) a++R.2)
 prs:prF R.1 (d+2) (zb R.1 a)=prF ps (d+2) (zb ps a)
theorem zlw {α:Type} (d:α) (A:List α) (u:α) (B:List α):(A++u::B).getD A.length d=u:=by
 rw[zdp,if_neg (by omega),Nat.sub_self];rfl
def zao (ps:List Pg) (key:Int):Nat→Int→List Pg×List Int
 |0,_=>(ps,[])
 |1,a=>(ps.set a.toNat (zae (zbq (zab (zb ps a)) key)),[])
 |d+2,a =>
  if (zb (zao ps key (d+1) ((zb ps a).kids.getD (upF (zb ps a).keys key) 0)).1 ((zb ps a).kids.getD (upF (zb ps a).keys key) 0)).keys.length<2 then
   ((zcd (zao ps key (d+1) ((zb ps a).kids.getD (upF (zb ps a).keys key) 0)).1 a (plN (zb (zao ps key (d+1) ((zb ps a).kids.getD (upF (zb ps a).keys key) 0)).1 a).kids ((zb ps a).kids.getD (upF (zb ps a).keys key) 0)-1)).1,
    (zao ps key (d+1) ((zb ps a).kids.getD (upF (zb ps a).keys key) 0)).2++(zcd (zao ps key (d+1) ((zb ps a).kids.getD (upF (zb ps a).keys key) 0)).1 a (plN (zb (zao ps key (d+1) ((zb ps a).kids.getD (upF (zb ps a).keys key) 0)).1 a).kids ((zb ps a).kids.getD (upF (zb ps a).keys key) 0)-1)).2)
  else zao ps key (d+1) ((zb ps a).kids.getD (upF (zb ps a).keys key) 0)
structure DropOk (ps:List Pg) (key:Int) (d mn:Nat) (a lo hi:Int) (R:List Pg×List Int):Prop where
 len:R.1.length=ps.length
 fit:Fit R.1 d (mn-1) 4 a lo hi
 kl:(zb R.1 a).keys.length+(if R.2.length+1=d then 1 else 0)=(zb ps a).keys.length
 gl:R.2.length+1≤d
 bot:∀j,j<R.2.length→(zb ps ((ptF ps key d a).getD (d-1-j) 0)).keys.length=2
 out:∀i:Int,0≤i→i∉wkF ps d a→zb R.1 i=zb ps i
 perm:(wkF ps d a).Perm (wkF R.1 d a++R.2)
 prs:prF R.1 d (zb R.1 a)=zbq (prF ps d (zb ps a)) key
theorem Mid.has {ps:List Pg} {d:Nat} {a lo hi:Int} {KA KB A B:List Int} {c l r:Int} (m:Mid ps d a lo hi KA KB A B c l r) {x:Int} (h1:l≤x) (h2:x≤r) :
  x∈(prF ps (d+2) (zb ps a)).map Pr.key↔x∈(prF ps (d+1) (zb ps c)).map Pr.key:=by
 have rA:=zca.row (g:=λc=>prF ps (d+1) (zb ps c)) Fit.le' (λc _ l r hc=>zaa.row hc.2.2.2.2) m.sL
 have rB:=zc3.row (g:=λc=>prF ps (d+1) (zb ps c)) Fit.le' (λc _ l r hc=>zaa.row hc.2.2.2.2) m.sR
 rw[m.pr,List.map_append,List.map_append,List.mem_append,List.mem_append]
 constructor
 ·rintro(h|h|h)
  ·obtain⟨y,hy,rfl⟩:=List.mem_map.1 h
   have:=rA.1.rng y hy;omega
  ·exact h
  ·obtain⟨y,hy,rfl⟩:=List.mem_map.1 h
   have:=rB.1.rng y hy;omega
 ·exact λh=>.inr (.inl h)
theorem zv8 {α:Type} {l:List α} {n:Nat} (h:l.length=n+1):∃l' x,l=l'++[x]∧l'.length=n:=by
 have hne:l≠[]:=by intro e;rw[e]at h;simp at h
 exact⟨l.dropLast,l.getLast hne,(List.dropLast_concat_getLast hne).symm,by rw[List.length_dropLast];omega⟩
def adj (g i:Int):Int:=if i>g then i-1 else i
def ziu (g:Int) (p:Pg):Pg:=⟨p.keys,p.kids.map (adj g),p.vals⟩
def zct (ps:List Pg) (g:Int):List Pg:=(ps.eraseIdx g.toNat).map (ziu g)
theorem zvv {g i j:Int} (h1:i≠g) (h2:j≠g) (h:adj g i=adj g j):i=j:=by
 unfold adj at h
 split at h<;>split at h<;>omega
theorem zns {g i:Int} {n:Nat} (hg0:0≤g) (h0:0≤i) (h1:i<(n:Int)+1) (hg:g<(n:Int)+1) (hne:i≠g):0≤adj g i∧adj g i<n:=by
 unfold adj;split<;>omega
theorem zl2 {ps:List Pg} {g:Int} (h0:0≤g) (h1:g<ps.length):(zct ps g).length+1=ps.length:=by
 unfold zct
 rw[List.length_map,List.length_eraseIdx,if_pos (by omega)];omega
theorem zs8 {ps:List Pg} {g a:Int} (h0:0≤g) (h1:g<ps.length) (a0:0≤a) (a1:a<ps.length) (hne:a≠g):zb (zct ps g) (adj g a)=ziu g (zb ps a):=by
 unfold zb zct adj
 simp only[List.getD_eq_getElem?_getD,List.getElem?_map,List.getElem?_eraseIdx]
 by_cases c:a>g
 ·rw[if_pos c,if_neg (by omega),show(a-1).toNat+1=a.toNat by omega,List.getElem?_eq_getElem (by omega)];rfl
 ·rw[if_neg c,if_pos (by omega),List.getElem?_eq_getElem (by omega)];rfl
theorem Seg.map {F G:Int→Int→Int→Prop} {f:Int→Int} {hi:Int}:∀{ks cs:List Int} {lo:Int},(∀c∈cs,∀l r,F c l r→G (f c) l r)→Seg F lo hi ks cs→Seg G lo hi ks (cs.map f)
 |[],[],_,_,h=>h.elim
 |[],[c],_,hf,h=>hf c (by simp) _ _ h
 |[],_::_::_,_,_,h=>h.elim
 |_::_,[],_,_,h=>h.elim
 |_::ks,c::cs,_,hf,h=>⟨hf c (by simp) _ _ h.1,Seg.map (λx hx=>hf x (List.mem_cons_of_mem _ hx)) h.2⟩
theorem flatMap_map' {α β γ:Type} (l:List α) (f:α→β) (g:β→List γ):(l.map f).flatMap g=l.flatMap λx=>g (f x):=by
 induction l with
 |nil=>rfl
 |cons a t ih=>rw[List.map_cons,List.flatMap_cons,List.flatMap_cons,ih]
theorem map_flatMap' {α β γ:Type} (l:List α) (f:α→List β) (g:β→γ):(l.flatMap f).map g=l.flatMap λx=>(f x).map g:=by
 induction l with
 |nil=>rfl
 |cons a t ih=>rw[List.flatMap_cons,List.flatMap_cons,List.map_append,ih]
theorem zaa.cut {ps:List Pg} {g:Int} (h0:0≤g) (h1:g<ps.length):∀{d:Nat} {p:Pg} {lo hi:Int},zaa ps d p lo hi→g∉bw ps d p →
  zaa (zct ps g) d (ziu g p) lo hi∧bw (zct ps g) d (ziu g p)=(bw ps d p).map (adj g)∧prF (zct ps g) d (ziu g p)=prF ps d p
 |0,_,_,_,h,_=>h.elim
 |1,p,lo,hi,h,_=>by
  have h':LeafOk p lo hi:=h
  have hk:=h'.kids
  refine⟨⟨h'.asc,h'.rng,?_,h'.len,h'.vrng⟩,?_,rfl⟩
  ·simp only[ziu,hk,List.map_nil]
  ·simp only[bw,ziu,hk,List.map_nil,List.flatMap_nil]
 |d+2,p,lo,hi,h,hg=>by
  have hcl:=zl2 h0 h1
  have key:∀c∈p.kids,∀l r,Fit ps (d+1) 2 4 c l r→c≠g∧Fit (zct ps g) (d+1) 2 4 (adj g c) l r∧wkF (zct ps g) (d+1) (adj g c)=(wkF ps (d+1) c).map (adj g)∧prF (zct ps g) (d+1) (zb (zct ps g) (adj g c))=prF ps (d+1) (zb ps c):=λc hc l r hf=>by
   have hne:c≠g:=λe=>hg (e▸zgj hc zas)
   have hp:=zs8 h0 h1 hf.1 hf.2.1 hne
   obtain⟨k1,k2,k3⟩:=zaa.cut h0 h1 hf.2.2.2.2 λhx=>hg (zgj hc (List.mem_cons_of_mem _ hx))
   have hb:=zns (n:=(zct ps g).length) h0 hf.1 (by have:=hf.2.1;omega) (by omega) hne
   refine⟨hne,⟨hb.1,hb.2,?_,?_,?_⟩,?_,?_⟩
   ·rw[hp];exact hf.2.2.1
   ·rw[hp];exact hf.2.2.2.1
   ·rw[hp];exact k1
   ·rw[zaf,zaf,hp,k2,List.map_cons]
   ·rw[hp,k3]
  refine⟨⟨h.1,Seg.map (F:=Fit ps (d+1) 2 4) (G:=Fit (zct ps g) (d+1) 2 4) (λc hc l r hf=>(key c hc l r hf).2.1) h.2⟩,?_,?_⟩
  ·show(p.kids.map (adj g)).flatMap _=(p.kids.flatMap _).map _
   rw[flatMap_map',map_flatMap']
   refine flatMap_congr' λc hc=>?_
   obtain⟨l,r,hf⟩:=Seg.mem h.2 c hc
   exact(key c hc l r hf).2.2.1
  ·show(p.kids.map (adj g)).flatMap _=p.kids.flatMap _
   rw[flatMap_map']
   refine flatMap_congr' λc hc=>?_
   obtain⟨l,r,hf⟩:=Seg.mem h.2 c hc
   exact(key c hc l r hf).2.2.2
theorem Fit.cut {ps:List Pg} {g:Int} (h0:0≤g) (h1:g<ps.length) {d mn mx:Nat} {a lo hi:Int} (hf:Fit ps (d+1) mn mx a lo hi) (hg:g∉wkF ps (d+1) a) :
  Fit (zct ps g) (d+1) mn mx (adj g a) lo hi∧wkF (zct ps g) (d+1) (adj g a)=(wkF ps (d+1) a).map (adj g)∧prF (zct ps g) (d+1) (zb (zct ps g) (adj g a))=prF ps (d+1) (zb ps a):=by
 have hcl:=zl2 h0 h1
 have hne:a≠g:=λe=>hg (e▸zas)
 have hp:=zs8 h0 h1 hf.1 hf.2.1 hne
 obtain⟨k1,k2,k3⟩:=zaa.cut h0 h1 hf.2.2.2.2 λhx=>hg (List.mem_cons_of_mem _ hx)
 have hb:=zns (n:=(zct ps g).length) h0 hf.1 (by have:=hf.2.1;omega) (by omega) hne
 refine⟨⟨hb.1,hb.2,?_,?_,?_⟩,?_,?_⟩
 ·rw[hp];exact hf.2.2.1
 ·rw[hp];exact hf.2.2.2.1
 ·rw[hp];exact k1
 ·rw[zaf,zaf,hp,k2,List.map_cons]
 ·rw[hp,k3]
structure CutOk (ps:List Pg) (d mn mx:Nat) (root lo hi:Int) (n:Nat) (R:Int×List Pg):Prop where
 len:R.2.length+n=ps.length
 fit:Fit R.2 d mn mx R.1 lo hi
 nd:(wkF R.2 d R.1).Nodup
 wl:(wkF R.2 d R.1).length=(wkF ps d root).length
 prs:prF R.2 d (zb R.2 R.1)=prF ps d (zb ps root)
theorem zji {f:Int→Int}:∀{l:List Int},(∀x∈l,∀y∈l,f x=f y→x=y)→l.Nodup→(l.map f).Nodup
 |[],_,_=>by simp
 |a::t,hf,h=>by
  rw[List.nodup_cons]at h
  rw[List.map_cons,List.nodup_cons]
  refine⟨λhc=>?_,zji (λx hx y hy=>hf x (List.mem_cons_of_mem _ hx) y (List.mem_cons_of_mem _ hy)) h.2⟩
  obtain⟨y,hy,e⟩:=List.mem_map.1 hc
  exact h.1 (hf y (List.mem_cons_of_mem _ hy) a (by simp) e▸hy)
structure DropT (root:Int) (ps:List Pg) (h:Nat) (key:Int) (R:Int×List Pg) (j c:Nat):Prop where
 vt:VT0 R.1 R.2 (h-c)
 prs:prF R.2 (h-c) (zb R.2 R.1)=zbq (prF ps h (zb ps root)) key
 len:R.2.length+j+c=ps.length
 jl:j+1≤h
 cl:c≤1
 ch:c+1≤h
end Go.VL
