/- V-logic: PT22 PT23 PT24 PT25 PT26 Ins0 Ins1 Ins2 TrFa TrFb TrHa TrKa TrKb Un TrKc -/
import Derived.Test.YtdbhfajlffaneaaGreatVPE
import Derived.Test.YtdbhfajlffaneaaGreatVEG
import Derived.Shelf.RegionOpenPlain
import Derived.WalkKit
import Derived.Lib.Walk
import Derived.Lib.SliceRun
import Derived.Lib.AppendZerosOnto
import Derived.Lib.JoinLaws
import Derived.Lib.Overlaps
import Derived.Laws.Externs
import Derived.Laws.IdiomCopy
import Derived.Laws.NewBlocks
import Derived.Deep.AppendSrc
import Derived.Deep.RegionLaw
import Derived.Test.YtdbhfajlffaneaaGreatVT1
import Derived.Test.YtdbhfajlffaneaaGreatProg
import Derived.Test.YtdbhfajlffaneaaGreatVW1
import Derived.Test.YtdbhfajlffaneaaGreatVMA
import Derived.Test.YtdbhfajlffaneaaGreatVPD
namespace Go.VL
set_option linter.unusedVariables false
set_option linter.unusedSimpArgs false
theorem zou {xs:List Int} {k:Int} (ha:Asc xs):k∈xs↔belF xs k<xs.length∧xs.getD (belF xs k) 0=k:=by
 constructor
 ·intro h
  obtain⟨i,hi,e⟩:=List.getElem_of_mem h
  have e':xs.getD i 0=k:=by rw[List.getD_eq_getElem?_getD,List.getElem?_eq_getElem hi];exact e
  have hb:belF xs k=i:=zv4 ha (by omega) (fun j hj=>by have:=zez ha hj hi;omega) (fun j h1 h2=>by
   rcases Nat.lt_or_ge i j with c|c
   ·have:=zez ha c h2;omega
   ·obtain rfl:i=j:=by omega
    omega)
  rw[hb];exact⟨hi,e'⟩
 ·rintro⟨h1,h2⟩
  rw[←h2];exact zaq 0 h1
theorem zkw {xs:List Pr} {k:Int} (h:k∉xs.map Pr.key):zei xs k=0:=by unfold zei;rw[if_neg h]
theorem zmk (xs:List Pr) (i:Nat):(xs.map Pr.key).getD i 0=(xs.getD i ⟨0,0⟩).key:=by
 rw[List.getD_eq_getElem?_getD,List.getD_eq_getElem?_getD,List.getElem?_map]
 cases xs[i]?<;>rfl
theorem zzk {ps:List Pg} {d mn mx:Nat} {a lo hi key:Int} (h:Fit ps (d+1) mn mx a lo hi) :
  zei (zab (zb ps (lfF ps key (d+1) a))) key=zei (prF ps (d+1) (zb ps a)) key∧((zab (zb ps (lfF ps key (d+1) a))).map Pr.key).contains key=((prF ps (d+1) (zb ps a)).map Pr.key).contains key:=by
 obtain⟨_,_,l,r,hl⟩:=zec h _ (zi7 h (key:=key))
 have hi:=zvj h (key:=key)
 rw[←zdi hl.len]at hi
 constructor
 ·by_cases c:key∈(prF ps (d+1) (zb ps a)).map Pr.key
  ·obtain⟨y,hy,rfl⟩:=List.mem_map.1 c
   rw[zhx (zaa.row h.2.2.2.2).asc hy,zhx hl.row.asc (z1d h hy)]
  ·rw[zkw c,zkw fun q=>c (hi.2 q)]
 ·rw[Bool.eq_iff_iff,List.contains_iff_mem,List.contains_iff_mem];exact hi.symm
theorem PgOk.row {ps:List Pg} {p:Pg} (h:PgOk ps p) (hk:p.kids=[]):zdb (zab p)=true∧p.vals.length=p.keys.length:=by
 have k4:=h.k4
 rcases h.c with ⟨_,h2,h3⟩|⟨_,_,h2,_⟩
 ·refine⟨?_,h2⟩
  unfold zdb
  rw[zdi h2,h.vk,zby p h2,decide_eq_true (by omega),Bool.true_and,Bool.and_true]
  refine List.all_eq_true.2 fun x hx=>decide_eq_true (h3 _ ?_)
  rw[←zq8 h2];exact List.mem_map.2 ⟨x,hx,rfl⟩
 ·rw[hk]at h2;simp at h2
structure LvB (root:Int) (ps:List Pg):Prop where
 pos:1≤(lvF ps (htF root ps) root).length
 le:(lvF ps (htF root ps) root).length≤97656
 four:(psF root ps).length≤4*(lvF ps (htF root ps) root).length
 len:(psF root ps).length≤100
theorem z6w {l:List Pr} {k:Int} (h:k∉l.map Pr.key):zei l k=0:=by unfold zei;rw[if_neg h]
theorem z8l {ps:List Pg} {x:Pr} (hv:-1000≤x.value∧x.value≤1000):∀{d:Nat} {a:Int},At ps x.key (d+1) a→∀i:Int,0≤i→i<ps.length→zb (zbb ps x (d+1) a) i≠zb ps i →
  ∃k,k≤d∧i=(ptF ps x.key (d+1) a).getD k 0∧d≤k+zea ps x.key (d+1) a
 |0,a,h,i,h0,h1,hc=>by
  obtain⟨_,_,_,hf,_⟩:=h
  refine⟨0,Nat.le_refl _,?_,Nat.zero_le _⟩
  apply Classical.byContradiction
  intro hne
  have hne:¬i=a:=hne
  refine hc ?_
  show zb (ps.set a.toNat _) i=_
  rw[zc9 hf.1 hf.2.1 h0,if_neg hne]
 |d+1,a,h,i,h0,h1,hc=>by
  obtain⟨hd,hna⟩:=h.down
  obtain⟨_,_,_,hf,_⟩:=h
  have ih:=z8l hv hd i h0 h1
  obtain⟨mn,lo,hi,_,_,P⟩:=At.put hv hd
  obtain⟨_,_,_,hfc,_⟩:=hd
  have eS:zea ps x.key (d+2) a=if zea ps x.key (d+1) ((zb ps a).kids.getD (upF (zb ps a).keys x.key) 0)=d+1∧(zb ps a).keys.length=4 then d+2 else zea ps x.key (d+1) ((zb ps a).kids.getD (upF (zb ps a).keys x.key) 0):=rfl
  rw[show d+1+1=d+2 from rfl,eS]
  rw[show d+1+1=d+2 from rfl,zz5]at hc
  have p0:(ptF ps x.key (d+2) a).getD 0 0=a:=zfy
  have pS:∀k,(ptF ps x.key (d+2) a).getD (k+1) 0=(ptF ps x.key (d+1) ((zb ps a).kids.getD (upF (zb ps a).keys x.key) 0)).getD k 0:=fun k=>zgs
  have c0:(ptF ps x.key (d+1) ((zb ps a).kids.getD (upF (zb ps a).keys x.key) 0)).getD 0 0=(zb ps a).kids.getD (upF (zb ps a).keys x.key) 0:=zfy
  have hPf:=P.fit
  have hov:=P.over
  have hPl:=P.len
  have hle:=P.le
  generalize (zb ps a).kids.getD (upF (zb ps a).keys x.key) 0=c at *
  generalize zea ps x.key (d+1) c=s at *
  generalize zbb ps x (d+1) c=ps1 at *
  have hs2:s≤(if s=d+1∧(zb ps a).keys.length=4 then d+2 else s):=by split<;>omega
  generalize (if s=d+1∧(zb ps a).keys.length=4 then d+2 else s)=s2 at *
  have low:zb ps1 i≠zb ps i→∃k,k≤d+1∧i=(ptF ps x.key (d+2) a).getD k 0∧d+1≤k+s2:=fun q=>by
   obtain⟨k,k1,k2,k3⟩:=ih q
   exact⟨k+1,by omega,by rw[pS];exact k2,by omega⟩
  unfold zmw at hc
  split at hc
  ·rename_i h4
   have hs:s=d+1:=hov.1 (by have:=hPf.2.2.2.1;omega)
   by_cases e1:i=a
   ·exact⟨0,Nat.zero_le _,by rw[p0];exact e1,by omega⟩
   ·by_cases e2:i=c
    ·exact⟨1,by omega,by rw[pS,c0];exact e2,by omega⟩
    ·refine low fun q=>hc ?_
     have l1:(ps1.length:Int)≥ps.length:=by split at hPl<;>omega
     rw[zc9 hf.1 (by rw[List.length_append,List.length_set];have:=hf.2.1;simp;omega) h0,if_neg e1,zlv h0,List.length_set,if_pos (by omega),zc9 hfc.1 (by have:=hfc.2.1;omega) h0,if_neg e2,q]
  ·exact low hc
theorem ybk {root:Int} {ps:List Pg} {x:Pr} {d:Nat} (v:VT0 root ps (d+1)) (hv:-1000≤x.value∧x.value≤1000) (h0:0≤x.key) (h9:x.key≤99) (i:Int) (i0:0≤i) (i1:i<ps.length)
  (hc:zb (zer root ps (d+1) x).2 i≠zb ps i):∃k,k≤d∧i=(ptF ps x.key (d+1) root).getD k 0∧d≤k+zea ps x.key (d+1) root:=by
 have ha:=v.at h0 h9
 have hr:=z8l hv ha i i0 i1
 obtain⟨mn,lo,hi,_,_,P⟩:=At.put hv ha
 have hPf:=P.fit
 have hov:=P.over
 have hPl:=P.len
 have p0:(ptF ps x.key (d+1) root).getD 0 0=root:=zfy
 unfold zer at hc
 split at hc
 ·rename_i h4
  have hs:=hov.1 (by have:=hPf.2.2.2.1;omega)
  by_cases e:i=root
  ·exact⟨0,Nat.zero_le _,by rw[p0];exact e,by omega⟩
  ·refine hr fun q=>hc ?_
   have l1:((zbb ps x (d+1) root).length:Int)≥ps.length:=by split at hPl<;>omega
   rw[zlv i0,List.length_set,if_pos (by omega),zc9 hPf.1 hPf.2.1 i0,if_neg e,q]
 ·exact hr hc
theorem ybt {root:Int} {ps:List Pg} (h:vTree root ps=true):Asc ((psF root ps).map Pr.key):=(zaa.row (za0 h).fit.2.2.2.2).asc
theorem VT0.psF {root:Int} {ps:List Pg} {h:Nat} (v:VT0 root ps h) (w:Go.VL.vTree root ps=true):htF root ps=h∧Go.VL.psF root ps=prF ps h (zb ps root):=by
 have q:=za0 w
 have e:htF root ps=h:=by
  rw[v.vTree,decide_eq_true_iff]at w
  exact(v.vt w.1 w.2).ht
 refine⟨e,?_⟩
 unfold Go.VL.psF
 rw[e]
structure PutF (root:Int) (ps:List Pg) (x:Pr) (r:Int×List Pg):Prop where
 v0:vTree root ps=true
 rng:(0≤x.key∧x.key≤99)∧-1000≤x.value∧x.value≤1000
 vt:vTree r.1 r.2=true
 prs:psF r.1 r.2=zbc (psF root ps) x
 le:zea ps x.key (htF root ps) root≤htF root ps
 ht:htF r.1 r.2=htF root ps+(if zea ps x.key (htF root ps) root=htF root ps then 1 else 0)
 len:r.2.length=ps.length+zea ps x.key (htF root ps) root+(if zea ps x.key (htF root ps) root=htF root ps then 1 else 0)
 root:r.1≠root↔zea ps x.key (htF root ps) root=htF root ps
theorem z4k {root:Int} {ps:List Pg} {x:Pr} {r:Int×List Pg} (h:zqc root ps x=some r):PutF root ps x r:=by
 obtain⟨h1,h2,rfl,h4⟩:=zrm h
 have v:=za0 h1
 have hb:=zsq.1 h2
 have P:=zvr v.v0 hb.2 hb.1.1 hb.1.2
 obtain⟨e1,e2⟩:=P.vt.psF h4
 refine⟨h1,hb,h4,?_,P.le,?_,P.len,P.root⟩
 ·rw[e2,P.prs];rfl
 ·rw[e1];split<;>omega
def pgEq (p q:Pg):Bool:=decide (p.keys=q.keys)&&decide (p.kids=q.kids)&&decide (p.vals=q.vals)
theorem z77 {p q:Pg}:pgEq p q=true↔p=q:=by
 unfold pgEq
 rw[Bool.and_eq_true,Bool.and_eq_true,decide_eq_true_iff,decide_eq_true_iff,decide_eq_true_iff]
 constructor
 ·rintro⟨⟨h1,h2⟩,h3⟩;cases p;cases q;simp_all
 ·rintro rfl;exact⟨⟨rfl,rfl⟩,rfl⟩
theorem ya1 {p q:Pg}:pgEq p q=false↔p≠q:=by rw[←Bool.not_eq_true,z77]
def chF (ps qs:List Pg) (n:Nat):List Int:=((List.range n).filter fun i=>!pgEq (ps.getD i ⟨[],[],[]⟩) (qs.getD i ⟨[],[],[]⟩)).map Int.ofNat
theorem z6o {ps qs:List Pg} {n:Nat} {i:Int}:i∈chF ps qs n↔0≤i∧i<n∧zb qs i≠zb ps i:=by
 unfold chF
 rw[List.mem_map]
 constructor
 ·rintro⟨k,hk,rfl⟩
  rw[List.mem_filter,List.mem_range]at hk
  refine⟨Int.natCast_nonneg _,by show(k:Int)<n;omega,fun e=>?_⟩
  have h:=hk.2
  rw[show ps.getD k ⟨[],[],[]⟩=qs.getD k ⟨[],[],[]⟩from e.symm,z77.2 rfl]at h
  cases h
 ·rintro⟨h0,h1,h2⟩
  refine⟨i.toNat,?_,by show((i.toNat:Nat):Int)=i;omega⟩
  rw[List.mem_filter,List.mem_range]
  refine⟨by omega,?_⟩
  rw[ya1.2 fun e=>h2 e.symm];rfl
theorem z6r {root:Int} {ps:List Pg} {x:Pr} {r:Int×List Pg} (h:zqc root ps x=some r) {d:Nat} (hd:htF root ps=d+1) {i:Int} (hi:i∈chF ps r.2 ps.length) :
  ∃k,k≤d∧i=(ptF ps x.key (d+1) root).getD k 0∧d≤k+zea ps x.key (d+1) root:=by
 have F:=z4k h
 obtain⟨_,_,rfl,_⟩:=zrm h
 have v:=za0 F.v0
 rw[hd]at v hi
 obtain⟨i0,i1,i2⟩:=z6o.1 hi
 exact ybk v.v0 F.rng.2 F.rng.1.1 F.rng.1.2 i i0 i1 i2
theorem z4y (b:Nat) (vs:List Value) (o:Nat) (w:World) (h:∀j,j<vs.length→(w.cell? ⟨b,o+j,none⟩).isSome=true) (k:Nat) (hk:(w.cell? ⟨b,k,none⟩).isSome=true):((w.setCells b o vs).cell? ⟨b,k,none⟩).isSome=true:=by
 by_cases hin:o≤k∧k<o+vs.length
 ·have:=World.cell?_setCells_in b vs o w h (k-o) (by omega)
  rw[show o+(k-o)=k by omega]at this
  rw[this];rfl
 ·rw[World.cell?_setCells_out b vs o w ⟨b,k,none⟩ (fun _ _=>by show k<o∨o+vs.length≤k;omega)]
  exact hk
theorem z4f {b:Nat} {ty:TypeId}:∀(vs:List Value) (o:Nat) (w:World) (cs:List Value),w.heap[b]? = some (.cells cs.toArray ty (0,0))→o+vs.length≤cs.length →
  (w.setCells b o vs).heap[b]? = some (.cells (cs.take o++vs++cs.drop (o+vs.length)).toArray ty (0,0))∧Only b w (w.setCells b o vs)
 |[],o,w,cs,hb,hl=>by
  refine⟨?_,Only.refl b w⟩
  rw[List.append_nil,List.length_nil,Nat.add_zero,List.take_append_drop]
  exact hb
 |v::r,o,w,cs,hb,hl=>by
  rw[List.length_cons]at hl
  obtain⟨e1,e2⟩:=zup (i:=o) v hb
  obtain⟨r1,r2⟩:=z4f r (o+1) _ _ e1 (by rw[List.length_set];omega)
  refine⟨?_,e2.trans r2⟩
  rw[World.setCells,r1]
  congr 3
  apply List.ext_getElem?
  intro j
  have ho:o<cs.length:=by omega
  simp only[List.getElem?_append,List.getElem?_take,List.getElem?_drop,List.length_append,List.length_take,List.length_set,List.length_cons,List.getElem?_set,List.getElem?_cons]
  rcases Nat.lt_trichotomy j o with c|c|c
  ·simp only[show j<min (o+1) cs.length by omega,show j<o+1 by omega,show j<min o cs.length by omega,c,if_true,show min (o+1) cs.length+r.length=o+1+r.length by omega,show min o cs.length+(r.length+1)=o+1+r.length by omega,show j<o+1+r.length by omega]
   simp[show o≠j by omega]
  ·subst c
   simp only[show j<min (j+1) cs.length by omega,show j<j+1 by omega,show ¬j<min j cs.length by omega,if_true,if_false,show min (j+1) cs.length+r.length=j+1+r.length by omega,show min j cs.length+(r.length+1)=j+1+r.length by omega,show j<j+1+r.length by omega,show j-min j cs.length=0 by omega]
   simp[ho]
  ·by_cases d:j<o+1+r.length
   ·simp only[show ¬j<min (o+1) cs.length by omega,show ¬j<min o cs.length by omega,if_true,if_false,show min (o+1) cs.length+r.length=o+1+r.length by omega,show min o cs.length+(r.length+1)=o+1+r.length by omega,d,show j-min (o+1) cs.length=j-(o+1) by omega,show j-min o cs.length=j-(o+1)+1 by omega]
    simp
   ·simp only[show min (o+1) cs.length+r.length=o+1+r.length by omega,show min o cs.length+(r.length+1)=o+1+r.length by omega,d,if_false]
    rw[if_neg (by omega)]
    congr 1
    omega
def fl1 (xs:List Int):List Value:=xs.map fun x=>.int .i64 x
def fl2:List Pr→List Value
 |[]=>[]
 |x::t=>.int .i64 x.key::.int .i64 x.value::fl2 t
theorem z6n (xs:List Int):(fl1 xs).length=xs.length*1:=by unfold fl1;simp
theorem z5m:∀xs:List Pr,(fl2 xs).length=xs.length*2
 |[]=>rfl
 |x::t=>by rw[fl2,List.length_cons,List.length_cons,z5m t,List.length_cons];omega
theorem z7k (a b:List Int):fl1 (a++b)=fl1 a++fl1 b:=by unfold fl1;simp
theorem z6k:∀a b:List Pr,fl2 (a++b)=fl2 a++fl2 b
 |[],b=>rfl
 |x::t,b=>by rw[List.cons_append,fl2,z6k t b];rfl
theorem z75 (xs:List Int) (i:Nat):(fl1 xs).take (i*1)=fl1 (xs.take i):=by unfold fl1;rw[Nat.mul_one,List.map_take]
theorem z8j (xs:List Int) (i:Nat):(fl1 xs).drop (i*1)=fl1 (xs.drop i):=by unfold fl1;rw[Nat.mul_one,List.map_drop]
theorem z6x:∀(xs:List Pr) (i:Nat),(fl2 xs).take (i*2)=fl2 (xs.take i)
 |_,0=>by simp[fl2]
 |[],i+1=>by simp[fl2]
 |x::t,i+1=>by rw[fl2,show(i+1)*2=i*2+1+1 by omega,List.take_succ_cons,List.take_succ_cons,z6x t i];rfl
theorem z6u:∀(xs:List Pr) (i:Nat),(fl2 xs).drop (i*2)=fl2 (xs.drop i)
 |_,0=>by simp
 |[],i+1=>by simp[fl2]
 |x::t,i+1=>by rw[fl2,show(i+1)*2=i*2+1+1 by omega,List.drop_succ_cons,List.drop_succ_cons,z6u t i];rfl
theorem z7a (xs:List Int):∀v∈fl1 xs,v.oneCell'=true:=by
 intro v hv
 obtain⟨x,_,rfl⟩:=List.mem_map.1 hv
 rfl
theorem z6l:∀(xs:List Pr),∀v∈fl2 xs,v.oneCell'=true
 |[],v,h=>by cases h
 |x::t,v,h=>by
  rw[fl2]at h
  rcases List.mem_cons.1 h with rfl|h
  ·rfl
  ·rcases List.mem_cons.1 h with rfl|h
   ·rfl
   ·exact z6l t v h
theorem z9b (xs:List Int) (i:Nat) (h:i<xs.length):(fl1 xs)[i*1+0]? = some (.int .i64 (xs.getD i 0)):=by
 unfold fl1
 rw[Nat.mul_one,Nat.add_zero,List.getElem?_map,List.getD_eq_getElem?_getD,List.getElem?_eq_getElem h];rfl
theorem z7h:∀(xs:List Pr) (i:Nat),i<xs.length→(fl2 xs)[i*2]? = some (.int .i64 (xs.getD i ⟨0,0⟩).key)∧(fl2 xs)[i*2+1]? = some (.int .i64 (xs.getD i ⟨0,0⟩).value)
 |[],i,h=>absurd h (Nat.not_lt_zero _)
 |x::t,0,_=>⟨rfl,rfl⟩
 |x::t,i+1,h=>by
  have:=z7h t i (by rw[List.length_cons]at h;omega)
  rw[fl2,show(i+1)*2=i*2+1+1 by omega]
  exact this
def FlO (g:Gam) (w:World) (id k len:Nat) (cs:List Value):Prop :=
 (g id=none∧len=0)∨∃b cap rest ty,g id=some (b,cap,len)∧w.heap[b]? = some (.cells (cs++rest).toArray ty (0,0))∧(cs++rest).length=cap*k∧len≤cap
theorem z5z {I:Nat→Prop} {w:World} {k:IntKind} {m:Int} {v:Value} (h:RC I w (.int k m) v):v=.int k m:=by
 cases h with
 |int=>rfl
 |empty _ _ _ hs _=>cases hs
 |sl _ _ _ _ _ hs=>cases hs
theorem ro1 {I:Nat→Prop} {g:Gam} {n:Nat} {w:World} {id:Nat} {xs:List Int}:RO I g n w id (.arr (.nums .i64 xs))↔FlO g w id 1 xs.length (fl1 xs):=by
 constructor
 ·intro h
  cases h with
  |none _ hg hs h0=>exact .inl ⟨hg,h0⟩
  |arr _ b cap cells ty hg hs hb hl hcap h ht =>
   have hl:cells.length=cap*1:=hl
   have hcap:xs.length≤cap:=hcap
   have e:cells.take xs.length=fl1 xs:=by
    apply List.ext_getElem?
    intro i
    by_cases c:i<xs.length
    ·have e1:=z9b xs i c
     rw[Nat.mul_one,Nat.add_zero]at e1
     rw[List.getElem?_take,if_pos c,e1]
     obtain⟨v,hv,hr⟩:=h i 0 (.int .i64 (xs.getD i 0)) c rfl
     have hr:=z5z hr
     subst hr
     simpa [C.stride]using hv
    ·rw[List.getElem?_take,if_neg c,List.getElem?_eq_none (by rw[z6n];omega)]
   refine .inr ⟨b,cap,cells.drop xs.length,ty,hg,?_,?_,hcap⟩
   ·rw[←e,List.take_append_drop];exact hb
   ·rw[←e,List.take_append_drop];exact hl
 ·rintro(⟨hg,h0⟩|⟨b,cap,rest,ty,hg,hb,hl,hcap⟩)
  ·exact .none _ hg rfl h0
  ·refine .arr _ b cap (fl1 xs++rest) ty hg rfl hb hl hcap (fun i j y hi hy=>?_) (fun h=>by cases h)
   have hi:i<xs.length:=hi
   have hy:[C.int .i64 (xs.getD i 0)][j]? = some y:=hy
   cases j with
   |zero =>
    cases hy
    refine⟨_,?_,.int _ _⟩
    show(fl1 xs++rest)[i*1+0]? = _
    rw[List.getElem?_append_left (by rw[z6n];omega)]
    exact z9b xs i hi
   |succ j=>cases hy
theorem ro2 {I:Nat→Prop} {g:Gam} {n:Nat} {w:World} {id:Nat} {xs:List Pr}:RO I g n w id (.arr (.prs xs))↔FlO g w id 2 xs.length (fl2 xs):=by
 constructor
 ·intro h
  cases h with
  |none _ hg hs h0=>exact .inl ⟨hg,h0⟩
  |arr _ b cap cells ty hg hs hb hl hcap h ht =>
   have hl:cells.length=cap*2:=hl
   have hcap:xs.length≤cap:=hcap
   have e:cells.take (xs.length*2)=fl2 xs:=by
    apply List.ext_getElem?
    intro t
    by_cases c:t<xs.length*2
    ·obtain⟨e1,e2⟩:=z7h xs (t / 2) (by omega)
     rw[List.getElem?_take,if_pos c]
     rcases(by omega:t=t / 2*2∨t=t / 2*2+1)with d|d
     ·obtain⟨v,hv,hr⟩:=h (t / 2) 0 (.int .i64 (xs.getD (t / 2) ⟨0,0⟩).key) (by show t / 2<xs.length;omega) rfl
      have hr:=z5z hr
      subst hr
      rw[d,e1]
      exact hv
     ·obtain⟨v,hv,hr⟩:=h (t / 2) 1 (.int .i64 (xs.getD (t / 2) ⟨0,0⟩).value) (by show t / 2<xs.length;omega) rfl
      have hr:=z5z hr
      subst hr
      rw[d,e2]
      exact hv
    ·rw[List.getElem?_take,if_neg c,List.getElem?_eq_none (by rw[z5m];omega)]
   refine .inr ⟨b,cap,cells.drop (xs.length*2),ty,hg,?_,?_,hcap⟩
   ·rw[←e,List.take_append_drop];exact hb
   ·rw[←e,List.take_append_drop];exact hl
 ·rintro(⟨hg,h0⟩|⟨b,cap,rest,ty,hg,hb,hl,hcap⟩)
  ·exact .none _ hg rfl h0
  ·refine .arr _ b cap (fl2 xs++rest) ty hg rfl hb hl hcap (fun i j y hi hy=>?_) (fun h=>by cases h)
   have hi:i<xs.length:=hi
   have hy:(xs.getD i ⟨0,0⟩).row[j]? = some y:=hy
   obtain⟨e1,e2⟩:=z7h xs i hi
   match j with
   |0 =>
    cases hy
    refine⟨_,?_,.int _ _⟩
    show(fl2 xs++rest)[i*2+0]? = _
    rw[List.getElem?_append_left (by rw[z5m];omega)]
    exact e1
   |1 =>
    cases hy
    refine⟨_,?_,.int _ _⟩
    show(fl2 xs++rest)[i*2+1]? = _
    rw[List.getElem?_append_left (by rw[z5m];omega)]
    exact e2
   |j+2=>cases hy
def z5n (w:World) (bo:Option Nat) (k len:Nat) (cs:List Value) (e:Ending) (w':World):Prop :=
 ∃b cap rest ty,e=.returned (.slice (some ⟨b,0,none⟩) len cap)∧w'.heap[b]? = some (.cells (cs++rest).toArray ty (0,0))∧(cs++rest).length=cap*k∧len≤cap ∧
  (bo=some b∨w.heap.size≤b)∧w'.os=w.os∧w'.tape=w.tape∧w'.output=w.output∧w.heap.size≤w'.heap.size∧∀j,j<w.heap.size→some j≠bo→w'.heap[j]? = w.heap[j]?
theorem z5b {w:World} {b:Nat} {cs:List Value} {ty:TypeId} (h:w.heap[b]? = some (.cells cs.toArray ty (0,0))) (j:Nat):w.cell? ⟨b,j,none⟩=cs[j]?:=by
 unfold World.cell?
 simp[h]
theorem z53 {w:World} {b:Nat} {cs:List Value} {ty:TypeId} (h:w.heap[b]? = some (.cells cs.toArray ty (0,0))) (j:Nat):w.frozen? ⟨b,j,none⟩=false:=by
 unfold World.frozen?
 simp[h]
theorem z6p {P:Program} (k:Nat) (w:World) (t e ty:TypeId) (z:Value) (ht:P.underlying t=some (.slice e)) (hv:∀w,(zeroValue e).run P w=.ok z w) (hz:z.cells.size=k) (h1:∀v∈z.cells.toList,v.oneCell'=true) (b o c:Nat)
  (hc:∀j,j<k→(w.cell? ⟨b,o+j,none⟩).isSome=true) (hf:∀j,j<k→w.frozen? ⟨b,o+j,none⟩=false) :
  (Builtin.clear_ #[t] ty #[.slice (some ⟨b,o,none⟩) 1 c]).run P w=.ok (.tuple #[]) (w.setCells b o z.cells.toList):=by
 have hzc:(Builtin.zeroCells z.cells 1).toList=z.cells.toList:=by
  apply List.ext_getElem
  ·simp[Builtin.zeroCells]
  ·intro i h1 h2
   simp at h2
   simp[Builtin.zeroCells,Nat.mod_eq_of_lt h2]
   rw[getElem!_pos z.cells i h2]
 have hst:=run_storeCells_cells (P:=P) b o z.cells.toList 0 w (by simpa [hz]using hc) (by simpa [hz]using hf) h1
 simp only[Nat.add_zero]at hst
 simp[Builtin.clear_,run_underlying ht,hv,hzc,hst]
theorem z8e {α:Type} {A X B R Z:List α} {K:Nat} (hX:X.length=K) (hZ:Z.length=K) {c:List α} (hc:c=((A++(X++B))++R).take A.length++B++((A++(X++B))++R).drop (A.length+B.length)) :
  c.take (A.length+B.length)++Z++c.drop (A.length+B.length+Z.length)=(A++B)++(Z++R):=by
 have e1:((A++(X++B))++R).take A.length=A:=by rw[List.append_assoc];exact List.take_left' rfl
 have e2:((A++(X++B))++R).drop (A.length+B.length)=(X++B).drop B.length++R:=by
  rw[List.append_assoc,List.drop_append,List.drop_eq_nil_of_le (by omega),List.nil_append,Nat.add_sub_cancel_left,List.drop_append,show B.length-(X++B).length=0 by rw[List.length_append];omega,List.drop_zero]
 have e3:((X++B).drop B.length).length=K:=by rw[List.length_drop,List.length_append];omega
 rw[e1,e2]at hc
 generalize (X++B).drop B.length=T at hc e3
 have e4:c=(A++B)++(T++R):=hc
 have e5:c=((A++B)++T)++R:=by rw[hc];simp
 have f1:c.take (A.length+B.length)=A++B:=by rw[e4];exact List.take_left' (by rw[List.length_append])
 have f2:c.drop (A.length+B.length+Z.length)=R:=by rw[e5];exact List.drop_left' (by rw[List.length_append,List.length_append,hZ,e3])
 rw[f1,f2]
 simp
theorem z5t {W w':World} {I:Nat→Prop} {g:Gam} {x z:C} {k:Nat} {cz:List Value} {bo:Option Nat} {e:Ending} (hI:∀b,I b→b<W.heap.size) (hh:HOk I g 1 W [(0,.arr x)])
  (hbo:∀b,bo=some b→∃cl,g 0=some (b,cl)) (hz:∀{g':Gam} {w:World},FlO g' w 0 k z.len cz→RO I g' 1 w 0 (.arr z)) (h:z5n W bo k z.len cz e w') :
  zte W I g [(0,.arr x)] 1 (.slc 0) [(0,.arr z)] e w':=by
 obtain⟨b,cap,rest,ty,rfl,hb,hl,hcap,hw,h1,h2,h3,h4,h5⟩:=h
 have own:∀id o c,(id,o)∈[(0,O.arr z)]→Own (fun i=>if i=0 then some (b,cap,z.len)else none) w' id o c→c=b:=by
  intro id o c hm hc
  cases List.mem_singleton.1 hm
  rcases hc with ⟨cl,hc⟩|hc
  ·simp at hc;exact hc.1.symm
  ·exact hc.elim
 have hbs:b<w'.heap.size:=(Array.getElem?_eq_some_iff.1 hb).1
 have dom:∀b,bo=some b→Dom g W [(0,.arr x)] b:=fun b hb=>⟨0,_,List.mem_singleton.2 rfl,.inl (hbo b hb)⟩
 refine⟨_,I,fun i=>if i=0 then some (b,cap,z.len)else none,rfl,fun b h=>h,fun b h=>.inl h,(fun b h=>by have:=hI b h;omega),⟨fun id o hm=>?_,(fun id o c hm hc=>?_),by simp,fun id o id' o' c hm hm' _ _=>?_⟩,.slc 0 _ b cap (by omega) rfl,(fun id o o' hm hm' hbx=>by cases List.mem_singleton.1 hm';cases hbx),(fun c hc=>?_),⟨h1,h2,h3,h4,fun j hj hd=>h5 j hj fun e=>hd (dom j e.symm)⟩⟩
 ·cases List.mem_singleton.1 hm
  exact⟨by omega,hz (.inr ⟨b,cap,rest,ty,rfl,hb,hl,hcap⟩)⟩
 ·have:=own id o c hm hc
  subst this
  refine⟨fun hi=>?_,hbs⟩
  rcases hw with hw|hw
  ·exact(hh.apart 0 _ c (List.mem_singleton.2 rfl) (.inl (hbo c hw))).1 hi
  ·have:=hI c hi;omega
 ·cases List.mem_singleton.1 hm
  cases List.mem_singleton.1 hm'
  rfl
 ·obtain⟨id,o,hm,hc⟩:=hc
  have:=own id o c hm hc
  subst this
  rcases hw with hw|hw
  ·exact .inr (dom c hw)
  ·exact .inl hw
end Go.VL
namespace Go.Proofs
open Go.RowKit Go.Lib Go.VL
set_option linter.unusedVariables false
set_option linter.unusedSimpArgs false
set_option maxHeartbeats 4000000 in
set_option maxRecDepth 1000000 in
theorem yaq (b off n cap i j:Nat) (cs:List Value) (w:World) (hj1:j=i+1) (hj:j≤n) (hcap:n≤cap) (hcl:cs.length=n*1)
  (hcs:∀t v,cs[t]? = some v→w.cell? ⟨b,off+t,none⟩=some v) (hfz:∀t,w.frozen? ⟨b,t,none⟩=false) (h1c:∀v∈cs,v.oneCell'=true) :
  Calls Tryz.prog 177 #[.slice (some ⟨b,off,none⟩) n cap,.int .i64 i,.int .i64 j] w fun e w' =>
   e=.returned (.slice (some ⟨b,off,none⟩) (n-1) cap)∧w'=(w.drew.setCells b (off+i*1) (cs.drop (j))).setCells b (off+(i+(n-j))) (.int .i64 0:Value).cells.toList:=by
 obtain⟨i0,hi0,hz0,hzs,hzb⟩:=info_parts (P:=Tryz.prog) (e:=3) (z:=.int .i64 0) (size:=1) (bytes:=8) (by kernel_rfl)
 have mixed:Tryz.prog.follows .mixedOrders=true:=Go.VL.mix
 have hzv:∀w,(zeroValue 3).run Tryz.prog w=.ok (.int .i64 0) w:=fun w=>by
  simp[zeroValue,typeInfo,hi0,hz0]
 have hlt:i<j:=by omega
 have hsp:∀t,t<n*1→(w.cell? ⟨b,off+t,none⟩).isSome=true:=fun t ht=>by
  rw[hcs t _ (List.getElem?_eq_getElem (by omega))];rfl
 obtain⟨news,hnews⟩:∃news,news=cs.drop (j):=⟨_,rfl⟩
 have hlen:news.length=(n-j)*1:=by rw[hnews,List.length_drop,hcl];omega
 obtain⟨A,hA,hsrc⟩:∃A:Addr,(if cap=j then some (⟨b,off,none⟩:Addr)else some ⟨b,off+j,none⟩)=some A∧Hid (∀t u,news[t]? = some u→w.drew.cell? (A.add t)=some u):=by
  by_cases h:cap=j
  ·refine⟨⟨b,off,none⟩,by simp[h],fun t u hu=>?_⟩
   rw[List.length_eq_zero_iff.1 (show news.length=0 by rw[hlen];omega)]at hu
   simp at hu
  ·refine⟨⟨b,off+j,none⟩,by simp[h],fun t u hu=>?_⟩
   rw[hnews,List.getElem?_drop]at hu
   rw[Addr.add_lit,Nat.add_assoc]
   exact hcs _ u hu
 have s1:Hid (news.length=(n-j)*1):=hlen
 have s2:Hid (∀u∈news,u.oneCell'=true):=fun u hu=>h1c u (by rw[hnews]at hu;exact List.mem_of_mem_drop hu)
 have s3:Hid (∀t,t<news.length→(w.drew.cell? ⟨b,off+i*1+t,none⟩).isSome=true∧w.drew.frozen? ⟨b,off+i*1+t,none⟩=false):=fun t ht=>by
  rw[hlen]at ht
  rw[Nat.add_assoc]
  exact⟨hsp _ (by omega),hfz _⟩
 obtain⟨W1,hW1⟩:∃W1,W1=w.drew.setCells b (off+i*1) news:=⟨_,rfl⟩
 have hW:Hid (W1=w.drew.setCells b (off+i*1) news):=hW1
 have hclr:∀ty,(Builtin.clear_ #[26] ty #[.slice (some ⟨b,off+(i+(n-j)),none⟩) (n-(i+(n-j))) (cap-(i+(n-j)))]).run Tryz.prog W1=.ok (.tuple #[]) (W1.setCells b (off+(i+(n-j))) (.int .i64 0:Value).cells.toList):=fun ty=>by
  rw[show n-(i+(n-j))=1 by omega]
  refine z6p 1 W1 26 3 ty (.int .i64 0) Tryz.underlying26 hzv rfl (by simp[Value.cells,Value.oneCell']) b _ _ (fun t ht=>?_) (fun t ht=>?_)
  ·rw[hW1,Nat.add_assoc]
   exact z4y b _ _ w.drew (fun u hu=>by rw[Nat.add_assoc];exact hsp _ (by omega)) _ (hsp _ (by omega))
  ·rw[hW1,World.frozen?_setCells];exact hfz _
 have hic:i≤cap:=by omega
 have hjc:j≤cap:=by omega
 have hn1:n-1=i+(n-j):=by omega
 rw[←hnews]
 clear hW1 hcs hsp hfz h1c hnews hlen hj1 hcl
 go_enter Tryz.func177,Tryz.ntmps177
 go_wp2_with fail
 go_region_law_o (refine step_append_room rfl _ _ 26 rfl 3 i0 1 Tryz.underlying26 hi0 hzs b off i cap (by simp[Act.eval,Act.put]) A (n-j) (cap-j) news (by simp[Act.eval,Act.put]) s1.out hsrc.out s2.out (by omega) s3.out ?_;rw[←hW.out])
 go_wp2
 go_ret
 exact⟨by rw[hn1];rfl,by rw[hW.out];rfl⟩
set_option maxHeartbeats 4000000 in
set_option maxRecDepth 1000000 in
theorem ybd (b off n cap i j:Nat) (cs:List Value) (w:World) (hj1:j=i+1) (hj:j≤n) (hcap:n≤cap) (hcl:cs.length=n*2)
  (hcs:∀t v,cs[t]? = some v→w.cell? ⟨b,off+t,none⟩=some v) (hfz:∀t,w.frozen? ⟨b,t,none⟩=false) (h1c:∀v∈cs,v.oneCell'=true) :
  Calls Tryz.prog 174 #[.slice (some ⟨b,off,none⟩) n cap,.int .i64 i,.int .i64 j] w fun e w' =>
   e=.returned (.slice (some ⟨b,off,none⟩) (n-1) cap)∧w'=(w.drew.setCells b (off+i*2) (cs.drop (j*2))).setCells b (off+(i+(n-j))*2) (.agg #[.int .i64 0,.int .i64 0]:Value).cells.toList:=by
 obtain⟨i0,hi0,hz0,hzs,hzb⟩:=info_parts (P:=Tryz.prog) (e:=71) (z:=.agg #[.int .i64 0,.int .i64 0]) (size:=2) (bytes:=16) (by kernel_rfl)
 have mixed:Tryz.prog.follows .mixedOrders=true:=Go.VL.mix
 have hzv:∀w,(zeroValue 71).run Tryz.prog w=.ok (.agg #[.int .i64 0,.int .i64 0]) w:=fun w=>by
  simp[zeroValue,typeInfo,hi0,hz0]
 have hlt:i<j:=by omega
 have hsp:∀t,t<n*2→(w.cell? ⟨b,off+t,none⟩).isSome=true:=fun t ht=>by
  rw[hcs t _ (List.getElem?_eq_getElem (by omega))];rfl
 obtain⟨news,hnews⟩:∃news,news=cs.drop (j*2):=⟨_,rfl⟩
 have hlen:news.length=(n-j)*2:=by rw[hnews,List.length_drop,hcl];omega
 obtain⟨A,hA,hsrc⟩:∃A:Addr,(if cap=j then some (⟨b,off,none⟩:Addr)else some ⟨b,off+j*2,none⟩)=some A∧Hid (∀t u,news[t]? = some u→w.drew.cell? (A.add t)=some u):=by
  by_cases h:cap=j
  ·refine⟨⟨b,off,none⟩,by simp[h],fun t u hu=>?_⟩
   rw[List.length_eq_zero_iff.1 (show news.length=0 by rw[hlen];omega)]at hu
   simp at hu
  ·refine⟨⟨b,off+j*2,none⟩,by simp[h],fun t u hu=>?_⟩
   rw[hnews,List.getElem?_drop]at hu
   rw[Addr.add_lit,Nat.add_assoc]
   exact hcs _ u hu
 have s1:Hid (news.length=(n-j)*2):=hlen
 have s2:Hid (∀u∈news,u.oneCell'=true):=fun u hu=>h1c u (by rw[hnews]at hu;exact List.mem_of_mem_drop hu)
 have s3:Hid (∀t,t<news.length→(w.drew.cell? ⟨b,off+i*2+t,none⟩).isSome=true∧w.drew.frozen? ⟨b,off+i*2+t,none⟩=false):=fun t ht=>by
  rw[hlen]at ht
  rw[Nat.add_assoc]
  exact⟨hsp _ (by omega),hfz _⟩
 obtain⟨W1,hW1⟩:∃W1,W1=w.drew.setCells b (off+i*2) news:=⟨_,rfl⟩
 have hW:Hid (W1=w.drew.setCells b (off+i*2) news):=hW1
 have hclr:∀ty,(Builtin.clear_ #[33] ty #[.slice (some ⟨b,off+(i+(n-j))*2,none⟩) (n-(i+(n-j))) (cap-(i+(n-j)))]).run Tryz.prog W1=.ok (.tuple #[]) (W1.setCells b (off+(i+(n-j))*2) (.agg #[.int .i64 0,.int .i64 0]:Value).cells.toList):=fun ty=>by
  rw[show n-(i+(n-j))=1 by omega]
  refine z6p 2 W1 33 71 ty (.agg #[.int .i64 0,.int .i64 0]) Tryz.underlying33 hzv rfl (by simp[Value.cells,Value.oneCell']) b _ _ (fun t ht=>?_) (fun t ht=>?_)
  ·rw[hW1,Nat.add_assoc]
   exact z4y b _ _ w.drew (fun u hu=>by rw[Nat.add_assoc];exact hsp _ (by omega)) _ (hsp _ (by omega))
  ·rw[hW1,World.frozen?_setCells];exact hfz _
 have hic:i≤cap:=by omega
 have hjc:j≤cap:=by omega
 have hn1:n-1=i+(n-j):=by omega
 rw[←hnews]
 clear hW1 hcs hsp hfz h1c hnews hlen hj1 hcl
 go_enter Tryz.func174,Tryz.ntmps174
 go_wp2_with fail
 go_region_law_o (refine step_append_room rfl _ _ 33 rfl 71 i0 2 Tryz.underlying33 hi0 hzs b off i cap (by simp[Act.eval,Act.put]) A (n-j) (cap-j) news (by simp[Act.eval,Act.put]) s1.out hsrc.out s2.out (by omega) s3.out ?_;rw[←hW.out])
 go_wp2
 go_ret
 exact⟨by rw[hn1];rfl,by rw[hW.out];rfl⟩
end Go.Proofs
namespace Go.Proofs
open Go.RowKit Go.Lib Go.VL
set_option linter.unusedVariables false
set_option linter.unusedSimpArgs false
theorem ybl (w:World) (n i cap:Nat) (b:Nat) (cs rest:List Value) (ty:TypeId) (hi:i<n) (hcl:cs.length=n*1) (h1c:∀v∈cs,v.oneCell'=true)
  (hb:w.heap[b]? = some (.cells (cs++rest).toArray ty (0,0))) (hl:(cs++rest).length=cap*1) (hcap:n≤cap) :
  Calls Tryz.prog 177 #[.slice (some ⟨b,0,none⟩) n cap,.int .i64 i,.int .i64 ((i+1:Nat):Int)] w (z5n w (some b) 1 (n-1) (cs.take (i*1)++cs.drop ((i+1)*1))):=by
 have hll:(cs++rest).length=cs.length+rest.length:=List.length_append
 have hcell:∀j v,cs[j]? = some v→w.cell? ⟨b,0+j,none⟩=some v:=fun j v hj=>by
  rw[Nat.zero_add,z5b hb,List.getElem?_append_left (List.getElem?_eq_some_iff.1 hj).1];exact hj
 refine(yaq b 0 n cap i (i+1) cs w rfl (by omega) hcap hcl hcell (z53 hb) h1c).mono ?_
 rintro e w' ⟨rfl,rfl⟩
 obtain⟨A,hA⟩:∃A,A=cs.take (i*1):=⟨_,rfl⟩
 obtain⟨X,hX⟩:∃X,X=(cs.drop (i*1)).take 1:=⟨_,rfl⟩
 obtain⟨B,hB⟩:∃B,B=cs.drop ((i+1)*1):=⟨_,rfl⟩
 have hAl:A.length=i*1:=by rw[hA,List.length_take];omega
 have hXl:X.length=1:=by rw[hX,List.length_take,List.length_drop];omega
 have hBl:B.length=(n-(i+1))*1:=by rw[hB,List.length_drop];omega
 have hc:cs=A++(X++B):=by
  have e1:=List.take_append_drop (i*1) cs
  have e2:=List.take_append_drop 1 (cs.drop (i*1))
  rw[List.drop_drop,show i*1+1=(i+1)*1 by omega]at e2
  rw[hX,hB,e2,hA,e1]
 have hB':cs.drop ((i+1))=B:=by rw[hB];(try rfl);(try (congr 1;omega))
 (try rw[hB'])
 rw[←hA]
 (try rw[←hB])
 rw[hc]at hb hl hll
 obtain⟨r1,r2⟩:=z4f B (0+i*1) w.drew _ hb (by simp only[List.length_append];omega)
 obtain⟨r3,r4⟩:=z4f (.int .i64 0:Value).cells.toList (0+(i+(n-(i+1)))) _ _ r1 (by simp only[List.length_append,List.length_take,List.length_drop,Value.cells];(try simp);omega)
 have r5:=r2.trans r4
 refine⟨b,cap,(.int .i64 0:Value).cells.toList++rest,ty,rfl,?_,?_,by omega,.inl rfl,r5.os,r5.tape,r5.output,Nat.le_of_eq r5.size.symm,fun j hj hjb=>r5.block j fun e=>hjb (by rw[e])⟩
 ·rw[r3]
  congr 3
  have:=z8e (A:=A) (X:=X) (B:=B) (R:=rest) (Z:=(.int .i64 0:Value).cells.toList) (K:=1) hXl rfl rfl
  rw[←this]
  rw[show 0+(i+(n-(i+1)))=A.length+B.length by omega,show 0+i*1=A.length by omega]
  (try rfl)
 ·simp only[List.length_append]at hl⊢
  simp only[Value.cells]
  (try simp)
  omega
theorem z8p (xs:List Int) (i:Nat) (I J:Int) (hI:I=i) (hJ:J=i+1) (hi:i<xs.length):Go.VL.zr Tryz.prog 177 1 [.slc 0,.c (.int .i64 I),.c (.int .i64 J)] [(0,.arr (C.nums .i64 xs))] 1 (.slc 0) [(0,.arr (C.nums .i64 (xs.take i++xs.drop (i+1))))]:=by
 subst hI
 obtain rfl:J=((i+1:Nat):Int):=by omega
 refine⟨⟨_,Tryz.func177,by kernel_rfl,by kernel_rfl⟩,fun W I g argv hI hh hla ha=>?_⟩
 obtain⟨a,b,c,rfl⟩:∃a b c,argv=[a,b,c]:=by
  match argv,hla with
  |[a,b,c],_=>exact⟨a,b,c,rfl⟩
 have e0:=RV.slc_inv (ha 0 _ _ rfl rfl)
 have e1:=RV.int_inv (ha 1 _ _ rfl rfl)
 have e2:=RV.int_inv (ha 2 _ _ rfl rfl)
 subst e1;subst e2
 have hlen:(fl1 xs).length=xs.length*1:=z6n xs
 have hzl:(C.nums .i64 (xs.take i++xs.drop (i+1))).len=xs.length-1:=by
  show(xs.take i++xs.drop (i+1)).length=_
  simp only[List.length_append,List.length_take,List.length_drop]
  omega
 rcases ro1.1 (hh.obj 0 _ (List.mem_singleton.2 rfl)).2 with ⟨hg,h0⟩|⟨b,cap,rest,ty,hg,hb,hlc,hcap⟩
 ·omega
 ·rcases e0.2 with ⟨b',cap',len',hg',ha'⟩|⟨hg',_⟩
  ·rw[hg]at hg'
   cases hg'
   subst ha'
   refine(ybl W xs.length i cap b (fl1 xs) rest ty hi hlen (z7a xs) hb hlc hcap).mono fun e w' hL=>?_
   refine z5t (k:=1) (cz:=fl1 (xs.take i++xs.drop (i+1))) (bo:=some b) hI hh (fun b hb=>?_) (fun h=>ro1.2 h) ?_
   ·cases hb;exact⟨_,hg⟩
   ·rw[z7k,←z75,←z8j,hzl];exact hL
  ·rw[hg]at hg';cases hg'
theorem yay (w:World) (n i cap:Nat) (b:Nat) (cs rest:List Value) (ty:TypeId) (hi:i<n) (hcl:cs.length=n*2) (h1c:∀v∈cs,v.oneCell'=true)
  (hb:w.heap[b]? = some (.cells (cs++rest).toArray ty (0,0))) (hl:(cs++rest).length=cap*2) (hcap:n≤cap) :
  Calls Tryz.prog 174 #[.slice (some ⟨b,0,none⟩) n cap,.int .i64 i,.int .i64 ((i+1:Nat):Int)] w (z5n w (some b) 2 (n-1) (cs.take (i*2)++cs.drop ((i+1)*2))):=by
 have hll:(cs++rest).length=cs.length+rest.length:=List.length_append
 have hcell:∀j v,cs[j]? = some v→w.cell? ⟨b,0+j,none⟩=some v:=fun j v hj=>by
  rw[Nat.zero_add,z5b hb,List.getElem?_append_left (List.getElem?_eq_some_iff.1 hj).1];exact hj
 refine(ybd b 0 n cap i (i+1) cs w rfl (by omega) hcap hcl hcell (z53 hb) h1c).mono ?_
 rintro e w' ⟨rfl,rfl⟩
 obtain⟨A,hA⟩:∃A,A=cs.take (i*2):=⟨_,rfl⟩
 obtain⟨X,hX⟩:∃X,X=(cs.drop (i*2)).take 2:=⟨_,rfl⟩
 obtain⟨B,hB⟩:∃B,B=cs.drop ((i+1)*2):=⟨_,rfl⟩
 have hAl:A.length=i*2:=by rw[hA,List.length_take];omega
 have hXl:X.length=2:=by rw[hX,List.length_take,List.length_drop];omega
 have hBl:B.length=(n-(i+1))*2:=by rw[hB,List.length_drop];omega
 have hc:cs=A++(X++B):=by
  have e1:=List.take_append_drop (i*2) cs
  have e2:=List.take_append_drop 2 (cs.drop (i*2))
  rw[List.drop_drop,show i*2+2=(i+1)*2 by omega]at e2
  rw[hX,hB,e2,hA,e1]
 have hB':cs.drop ((i+1)*2)=B:=by rw[hB];(try rfl);(try (congr 1;omega))
 (try rw[hB'])
 rw[←hA]
 (try rw[←hB])
 rw[hc]at hb hl hll
 obtain⟨r1,r2⟩:=z4f B (0+i*2) w.drew _ hb (by simp only[List.length_append];omega)
 obtain⟨r3,r4⟩:=z4f (.agg #[.int .i64 0,.int .i64 0]:Value).cells.toList (0+(i+(n-(i+1)))*2) _ _ r1 (by simp only[List.length_append,List.length_take,List.length_drop,Value.cells];(try simp);omega)
 have r5:=r2.trans r4
 refine⟨b,cap,(.agg #[.int .i64 0,.int .i64 0]:Value).cells.toList++rest,ty,rfl,?_,?_,by omega,.inl rfl,r5.os,r5.tape,r5.output,Nat.le_of_eq r5.size.symm,fun j hj hjb=>r5.block j fun e=>hjb (by rw[e])⟩
 ·rw[r3]
  congr 3
  have:=z8e (A:=A) (X:=X) (B:=B) (R:=rest) (Z:=(.agg #[.int .i64 0,.int .i64 0]:Value).cells.toList) (K:=2) hXl rfl rfl
  rw[←this]
  rw[show 0+(i+(n-(i+1)))*2=A.length+B.length by omega,show 0+i*2=A.length by omega]
  (try rfl)
 ·simp only[List.length_append]at hl⊢
  simp only[Value.cells]
  (try simp)
  omega
theorem yas (xs:List Pr) (i:Nat) (I J:Int) (hI:I=i) (hJ:J=i+1) (hi:i<xs.length):Go.VL.zr Tryz.prog 174 1 [.slc 0,.c (.int .i64 I),.c (.int .i64 J)] [(0,.arr (C.prs xs))] 1 (.slc 0) [(0,.arr (C.prs (xs.take i++xs.drop (i+1))))]:=by
 subst hI
 obtain rfl:J=((i+1:Nat):Int):=by omega
 refine⟨⟨_,Tryz.func174,by kernel_rfl,by kernel_rfl⟩,fun W I g argv hI hh hla ha=>?_⟩
 obtain⟨a,b,c,rfl⟩:∃a b c,argv=[a,b,c]:=by
  match argv,hla with
  |[a,b,c],_=>exact⟨a,b,c,rfl⟩
 have e0:=RV.slc_inv (ha 0 _ _ rfl rfl)
 have e1:=RV.int_inv (ha 1 _ _ rfl rfl)
 have e2:=RV.int_inv (ha 2 _ _ rfl rfl)
 subst e1;subst e2
 have hlen:(fl2 xs).length=xs.length*2:=z5m xs
 have hzl:(C.prs (xs.take i++xs.drop (i+1))).len=xs.length-1:=by
  show(xs.take i++xs.drop (i+1)).length=_
  simp only[List.length_append,List.length_take,List.length_drop]
  omega
 rcases ro2.1 (hh.obj 0 _ (List.mem_singleton.2 rfl)).2 with ⟨hg,h0⟩|⟨b,cap,rest,ty,hg,hb,hlc,hcap⟩
 ·omega
 ·rcases e0.2 with ⟨b',cap',len',hg',ha'⟩|⟨hg',_⟩
  ·rw[hg]at hg'
   cases hg'
   subst ha'
   refine(yay W xs.length i cap b (fl2 xs) rest ty hi hlen (z6l xs) hb hlc hcap).mono fun e w' hL=>?_
   refine z5t (k:=2) (cz:=fl2 (xs.take i++xs.drop (i+1))) (bo:=some b) hI hh (fun b hb=>?_) (fun h=>ro2.2 h) ?_
   ·cases hb;exact⟨_,hg⟩
   ·rw[z6k,←z6x,←z6u,hzl];exact hL
  ·rw[hg]at hg';cases hg'
end Go.Proofs
namespace Go.VL
open Go.Proofs
set_option maxRecDepth 10000
set_option linter.unusedSimpArgs false
set_option linter.unusedVariables false
theorem zko (xs:List Pr) (hl:xs.length≤4294967296):zr Tryz.prog 128 0 [.c (.prs xs)] [] 1 (.slc 0) [(0,.arr (.nums .i64 (xs.map Pr.key)))]:=by
 refine spi (fn:=Tryz.f128) _ ?_
 conv=>whnf
 repeat' (refine za (by(try simp only[wA,wL])<;>omega) ?_;conv=>whnf)
 refine zd0 (fun(i:Nat) (L:List Int)=>i≤xs.length∧L=(xs.map Pr.key).take i++List.replicate (xs.length-i) 0) (fun i L=>⟨23,1,[(3,.slc 0),(9,.c (.prs xs)),(10,.c (.int .i64 xs.length)),(11,.c (.int .i64 i))],[(0,.arr (.nums .i64 L))]⟩) (fun i L=>xs.length-i) 0 (List.replicate xs.length 0) ⟨Nat.zero_le _,rfl⟩ (fun _ _=>Nat.zero_le _) (ydn [] [0]) (fun i L hi=>?_)
 obtain⟨hi,hL⟩:=hi
 have hll:L.length=xs.length:=by rw[hL,List.length_append,List.length_take,List.length_map,List.length_replicate];omega
 conv=>whnf
 repeat' first
  |(refine za (by(try simp only[wA,wL])<;>omega) ?_;conv=>whnf)
  |(refine zk (fun h=>?_) (fun h=>?_)<;>(try simp only[qA]at h)<;>(try simp only[wA]at h)<;>conv=>whnf)
  |(refine zg (by(try simp only[wA,wL])<;>omega) (by(try simp only[wA,wL])<;>omega) ?_;conv=>whnf)
 ·refine⟨⟨(i+1,L.set i (xs.getD i ⟨0,0⟩).key),?_⟩,(ydn [] [0]),by dsimp only;omega⟩;(try dsimp only)
  refine⟨by omega,?_⟩
  rw[hL,zog _ _ (by omega) (by rw[List.length_take,List.length_map];omega),zat 0 (by rw[List.length_map];omega),zmk]
 ·rw[List.take_of_length_le (by rw[List.length_map];omega),show xs.length-i=0 by omega,List.replicate_zero,List.append_nil]at hL
  rw[hL]
  exact(zu [] [0])
theorem zt4 (xs:List Pr) (i:Nat):(xs.map Pr.value).getD i 0=(xs.getD i ⟨0,0⟩).value:=by
 rw[List.getD_eq_getElem?_getD,List.getD_eq_getElem?_getD,List.getElem?_map]
 cases xs[i]?<;>rfl
theorem zr8 (xs:List Pr) (hl:xs.length≤4294967296):zr Tryz.prog 129 0 [.c (.prs xs)] [] 1 (.slc 0) [(0,.arr (.nums .i64 (xs.map Pr.value)))]:=by
 refine spi (fn:=Tryz.f129) _ ?_
 conv=>whnf
 repeat' (refine za (by(try simp only[wA,wL])<;>omega) ?_;conv=>whnf)
 refine zd0 (fun(i:Nat) (L:List Int)=>i≤xs.length∧L=(xs.map Pr.value).take i++List.replicate (xs.length-i) 0) (fun i L=>⟨23,1,[(3,.slc 0),(9,.c (.prs xs)),(10,.c (.int .i64 xs.length)),(11,.c (.int .i64 i))],[(0,.arr (.nums .i64 L))]⟩) (fun i L=>xs.length-i) 0 (List.replicate xs.length 0) ⟨Nat.zero_le _,rfl⟩ (fun _ _=>Nat.zero_le _) (ydn [] [0]) (fun i L hi=>?_)
 obtain⟨hi,hL⟩:=hi
 have hll:L.length=xs.length:=by rw[hL,List.length_append,List.length_take,List.length_map,List.length_replicate];omega
 conv=>whnf
 repeat' first
  |(refine za (by(try simp only[wA,wL])<;>omega) ?_;conv=>whnf)
  |(refine zk (fun h=>?_) (fun h=>?_)<;>(try simp only[qA]at h)<;>(try simp only[wA]at h)<;>conv=>whnf)
  |(refine zg (by(try simp only[wA,wL])<;>omega) (by(try simp only[wA,wL])<;>omega) ?_;conv=>whnf)
 ·refine⟨⟨(i+1,L.set i (xs.getD i ⟨0,0⟩).value),?_⟩,(ydn [] [0]),by dsimp only;omega⟩;(try dsimp only)
  refine⟨by omega,?_⟩
  rw[hL,zog _ _ (by omega) (by rw[List.length_take,List.length_map];omega),zat 0 (by rw[List.length_map];omega),zt4]
 ·rw[List.take_of_length_le (by rw[List.length_map];omega),show xs.length-i=0 by omega,List.replicate_zero,List.append_nil]at hL
  rw[hL]
  exact(zu [] [0])
theorem zw7 (xs:List Pr) (hl:xs.length≤4294967296):zr Tryz.prog 123 0 [.c (.prs xs)] [] 0 (.c (.bool (zdb xs))) []:=by
 have hk:=zko xs hl
 have hv:=zfj (xs.map Pr.key) (by rw[List.length_map];exact hl)
 have e:zdb xs=((xs.all fun x=>decide (-1000≤x.value∧x.value≤1000))&&(decide (xs.length≤24)&&za2 (xs.map Pr.key))):=rfl
 generalize zdb xs=X at *
 generalize za2 (xs.map Pr.key)=VK at *
 refine spi (fn:=Tryz.f123) _ ?_
 conv=>whnf
 repeat' first|(refine zk (fun h=>?_) (fun h=>?_)<;>(try simp only[qA]at h)<;>(try simp only[wA]at h)<;>conv=>whnf)|refine zd ?_
 ·rw[e,decide_eq_false (by omega),Bool.false_and,Bool.and_false]
 rw[decide_eq_true (p:=xs.length≤24) (by omega),Bool.true_and]at e
 refine zau (fun i:Nat=>i≤xs.length∧(xs.take i).all (fun x=>decide (-1000≤x.value∧x.value≤1000))=true) (fun i=>⟨22,0,[(0,.c (.prs xs)),(8,.c (.prs xs)),(9,.c (.int .i64 xs.length)),(10,.c (.int .i64 i))],[]⟩) (fun i=>xs.length-i) 0 ⟨Nat.zero_le _,by simp⟩ (fun _=>Nat.zero_le _) zbn (fun i hi=>?_)
 obtain⟨hi,hal⟩:=hi
 conv=>whnf
 repeat' first
  |(refine za (by(try simp only[wA,wL])<;>omega) ?_;conv=>whnf)
  |(refine zk (fun h=>?_) (fun h=>?_)<;>(try simp only[qA]at h)<;>(try simp only[wA]at h)<;>conv=>whnf)
  |refine zd ?_
  |refine zh ?_
  |(refine zg (by(try simp only[wA,wL])<;>omega) (by(try simp only[wA,wL])<;>omega) ?_;conv=>whnf)
  |(refine zp (zrb _) rfl rfl ?_;conv=>whnf)
  |(refine z8 (hk) rfl ?_;conv=>whnf)
  |(refine zbo (hv) rfl rfl rfl ?_;conv=>whnf)
 ·rw[e,zf6 (⟨0,0⟩:Pr) (k:=i) (by omega) (decide_eq_false h),Bool.false_and]
 ·refine⟨⟨i+1,by omega,zeg (⟨0,0⟩:Pr) hal (by omega) (decide_eq_true h)⟩,zbn,by dsimp only;omega⟩
 ·rw[e,zh3 hal (by omega),Bool.true_and]
theorem zto (xs:List Pr) (key:Int) (hl:xs.length≤4294967296) (hv:za2 (xs.map Pr.key)=true):zr Tryz.prog 124 0 [.c (.prs xs),.c (.int .i64 key)] [] 0 (.tup [.c (.int .i64 (belF (xs.map Pr.key) key)),.c (.bool ((xs.map Pr.key).contains key))]) []:=by
 have hk:=zko xs hl
 have hb:=zvg (xs.map Pr.key) key hv (by rw[List.length_map];exact hl)
 have hh:=zou (k:=key) (zde.1 hv).1
 rw[List.length_map,zmk,←List.contains_iff_mem]at hh
 generalize belF (xs.map Pr.key) key=B at *
 generalize (xs.map Pr.key).contains key=Z at *
 refine spi (fn:=Tryz.f124) _ ?_
 conv=>whnf
 repeat' first
  |(refine za (by kernel_rfl) ?_;conv=>whnf)
  |(refine zn ?_ ?_;(focus ((try simp only[qA])<;>(try simp only[wA])<;>omega));conv=>whnf)
  |(refine za (by(try simp only[wA,wL])<;>omega) ?_;conv=>whnf)
  |(refine zk (fun h=>?_) (fun h=>?_)<;>(try simp only[qA]at h)<;>(try simp only[wA]at h)<;>conv=>whnf)
  |(refine z8 (hk) rfl ?_;conv=>whnf)
  |(refine zbo (hb) rfl rfl rfl ?_;conv=>whnf)
  |(refine ze ?_;conv=>whnf)
 ·rw[hh.2 ⟨by omega,by assumption⟩];exact(zu [] [])
 ·rw[show Z=false from by cases Z;rfl;exact absurd (hh.1 rfl).2 (by assumption)];exact(zu [] [])
 ·rw[show Z=false from by cases Z;rfl;exact absurd (hh.1 rfl).1 (by omega)];exact(zu [] [])
end Go.VL
namespace Go.VL
open Go.Proofs
set_option maxRecDepth 10000
set_option linter.unusedSimpArgs false
set_option linter.unusedVariables false
structure LfF (root:Int) (ps:List Pg) (key:Int) (d:Nat):Prop where
 d3:d<3
 ht:htF root ps=d+1
 p0:0≤lfF ps key (d+1) root
 p1:lfF ps key (d+1) root<ps.length
 kl:(zb ps (lfF ps key (d+1) root)).keys.length≤4
 vl:(zb ps (lfF ps key (d+1) root)).vals.length=(zb ps (lfF ps key (d+1) root)).keys.length
 kids:(zb ps (lfF ps key (d+1) root)).kids=[]
 row:zdb (zab (zb ps (lfF ps key (d+1) root)))=true
 val:zei (zab (zb ps (lfF ps key (d+1) root))) key=zei (psF root ps) key
 has:((zab (zb ps (lfF ps key (d+1) root))).map Pr.key).contains key=((psF root ps).map Pr.key).contains key
 len:(ptF ps key (d+1) root).length=d+1
 last:(ptF ps key (d+1) root).getD d 0=lfF ps key (d+1) root
theorem lf_f {root key:Int} {ps:List Pg} (hv:vTree root ps=true):∃d,LfF root ps key d:=by
 have V:=za0 hv
 obtain⟨d,hd⟩:∃d,htF root ps=d+1:=⟨htF root ps-1,by have:=V.h1;omega⟩
 have h3:=V.h3
 have hf:=V.fit
 rw[hd]at hf h3
 obtain⟨h0,h1,l,r,hl⟩:=zec hf _ (zi7 hf (key:=key))
 have hpg:=zl6 hv h0 h1
 obtain⟨r1,r2⟩:=hpg.row hl.kids
 obtain⟨v1,v2⟩:=zzk hf (key:=key)
 have e:psF root ps=prF ps (d+1) (zb ps root):=by unfold psF;rw[hd]
 exact⟨d,by omega,hd,h0,h1,hpg.k4,r2,hl.kids,r1,by rw[v1,e],by rw[v2,e],zg1,zlt⟩
end Go.VL
namespace Go.VL
open Go.Proofs
set_option maxRecDepth 10000
set_option linter.unusedSimpArgs false
set_option linter.unusedVariables false
theorem zvt (xs:List Int) (hl:xs.length≤4294967296):zr Tryz.prog 93 0 [.c (.nums .i64 xs)] [] 1 (.slc 0) [(0,.arr (.nums .i64 xs))]:=by
 refine zq9 (R:=fun m res hout=>(m=1∧res=.slc 0∧hout=[(0,.arr (.nums .i64 xs))])∨(m=0∧res=.nil∧hout=[]∧xs=[])) ?_ (by
  rintro m res hout (h|⟨h1,h2,h3,rfl⟩)
  ·exact .inl h
  ·exact .inr ⟨h1,h2,h3,rfl,rfl⟩)
 refine spx (fn:=Tryz.f93) _ ?_
 conv=>whnf
 refine zye (fun h=>?_) ?_
 ·conv=>whnf
  skip
  refine za1 0 .nil [] (.inr ⟨rfl,rfl,rfl,List.eq_nil_of_length_eq_zero h⟩) rfl ?_
  exact(zu [] [])
 ·conv=>whnf
  repeat' (refine za (by(try simp only[wA,wL])<;>omega) ?_;conv=>whnf)
  refine za1 1 (.slc 0) [(0,.arr (.nums .i64 xs))] (.inl ⟨rfl,rfl,rfl⟩) rfl ?_
  exact(zu [] [0])
end Go.VL
namespace Go.VL
open Go.Proofs
set_option maxRecDepth 10000
set_option linter.unusedSimpArgs false
set_option linter.unusedVariables false
theorem z6m (xs:List Int) (hl:xs.length≤4294967296):zr Tryz.prog 93 0 [.c (.nums .i64 xs)] [] 0 (.c (.nums .i64 xs)) []:=zdn (zvt xs hl) rfl
theorem z6i (xs:List Pr) (hl:xs.length≤4294967296):zr Tryz.prog 130 0 [.c (.prs xs)] [] 1 (.slc 0) [(0,.arr (.prs xs))]:=by
 refine zq9 (R:=fun m res hout=>(m=1∧res=.slc 0∧hout=[(0,.arr (.prs xs))])∨(m=0∧res=.nil∧hout=[]∧xs=[])) ?_ (by
  rintro m res hout (h|⟨h1,h2,h3,rfl⟩)
  ·exact .inl h
  ·exact .inr ⟨h1,h2,h3,rfl,rfl⟩)
 refine spx (fn:=Tryz.f130) _ ?_
 conv=>whnf
 refine zye (fun h=>?_) ?_
 ·conv=>whnf
  skip
  refine za1 0 .nil [] (.inr ⟨rfl,rfl,rfl,List.eq_nil_of_length_eq_zero h⟩) rfl ?_
  exact(zu [] [])
 ·conv=>whnf
  repeat' (refine za (by(try simp only[wA,wL])<;>omega) ?_;conv=>whnf)
  refine za1 1 (.slc 0) [(0,.arr (.prs xs))] (.inl ⟨rfl,rfl,rfl⟩) rfl ?_
  exact(zu [] [0])
theorem yb0 (xs:List Pr) (hl:xs.length≤4294967296):zr Tryz.prog 130 0 [.c (.prs xs)] [] 0 (.c (.prs xs)) []:=zdn (z6i xs hl) rfl
theorem z81 (xs:List Pr) (hl:xs.length≤1000) (hv:zdb xs=true):zr Tryz.prog 132 0 [.c (.prs xs)] [] 0 (.tup [.c (.prs (xs.take ((xs.length+1) / 2))),.c (.prs (xs.drop ((xs.length+1) / 2)))]) []:=by
 have hvr:=zw7 xs (by omega)
 rw[hv]at hvr
 have hd:((xs.length:Int)+1).tdiv 2=((xs.length:Int)+1) / 2:=Int.tdiv_eq_ediv_of_nonneg (by omega)
 refine spi (fn:=Tryz.f132) _ ?_
 conv=>whnf
 repeat' first
  |(refine za (by kernel_rfl) ?_;conv=>whnf)
  |(refine zm ?_ ?_;(focus (first|rfl|exact bne_self_eq_false _));conv=>whnf)
  |(refine za (by(try simp only[wA,wL])<;>omega) ?_;conv=>whnf)
  |(refine zg (by(try simp only[wA,wL])<;>omega) (by(try simp only[wA,wL])<;>omega) ?_;conv=>whnf)
  |(refine zp (hvr) rfl rfl ?_;conv=>whnf)
  |(refine zw (yb0 _ (by first|(rw[w7];omega)|(rw[w8];omega))) rfl rfl ?_;conv=>whnf)
  |(refine ze ?_;conv=>whnf)
 exact(zu [] [])
end Go.VL
namespace Go.VL
open Go.Proofs
set_option maxRecDepth 10000
set_option linter.unusedSimpArgs false
set_option linter.unusedVariables false
theorem z76 (p:Pg) (kid:Int) (hl:p.kids.length≤4294967296) (hm:kid∈p.kids):zr Tryz.prog 86 0 [pgV p,.c (.int .i64 kid)] [] 0 (.c (.int .i64 (plN p.kids kid))) []:=by
 obtain⟨ks,cs,vs⟩:=p
 dsimp only at *
 refine spi (fn:=Tryz.f86) _ ?_
 conv=>whnf
 skip
 refine zau (fun k:Nat=>k≤cs.length∧kid∉cs.take k) (fun k=>⟨20,0,[(1,.c (.int .i64 kid)),(8,.c (.nums .i64 cs)),(9,.c (.int .i64 cs.length)),(10,.c (.int .i64 k))],[]⟩) (fun k=>cs.length-k) 0 ⟨Nat.zero_le _,by simp⟩ (fun _=>Nat.zero_le _) zbn (fun k hk=>?_)
 obtain⟨hk,hn⟩:=hk
 by_cases c:k<cs.length
 ·by_cases e:cs.getD k 0=kid
  ·have:=z3l hn c e
   conv=>whnf
   repeat' first|(refine zn ?_ ?_;(focus ((try simp only[qA])<;>(try simp only[wA])<;>omega));conv=>whnf)|(refine za (by(try simp only[wA,wL])<;>omega) ?_;conv=>whnf)|refine zi ?_
   all_goals first|exact(zu [] [])|(exfalso;omega)|(rw[←this])
  ·have:=zuq hn c e
   conv=>whnf
   repeat' first
    |(refine zn ?_ ?_;(focus ((try simp only[qA])<;>(try simp only[wA])<;>omega));conv=>whnf)
    |(refine zm ?_ ?_;(focus ((try simp only[qA])<;>(try simp only[wA])<;>omega));conv=>whnf)
    |(refine za (by(try simp only[wA,wL])<;>omega) ?_;conv=>whnf)
    |(refine zg (by(try simp only[wA,wL])<;>omega) (by(try simp only[wA,wL])<;>omega) ?_;conv=>whnf)
   all_goals first|(exfalso;exact e (by assumption))|exact⟨⟨k+1,by omega,this⟩,zbn,by dsimp only;omega⟩
 ·rw[List.take_of_length_le (by omega)]at hn
  exact absurd hm hn
end Go.VL
namespace Go.VL
abbrev ztV:V:=.agg [.c (.int .i64 0),.nil]
def unR:Option (Int×List Pg)→List V
 |some (r,ps)=>[trV r ps,.tt]
 |none=>[ztV,.ff]
end Go.VL
namespace Go.VL
open Go.Proofs
set_option maxRecDepth 10000
set_option linter.unusedSimpArgs false
set_option linter.unusedVariables false
theorem z68 (root:Int) (ps:List Pg) (hp:pB ps) (hl:ps.length≤1000):zr Tryz.prog 57 0 [trV root ps] [] 1 (.agg [.c (.int .i64 root),.slc 0]) [(0,.arr (.pgs ps))]:=by
 refine spi (fn:=Tryz.f57) _ ?_
 conv=>whnf
 repeat' first
  |(refine za (by kernel_rfl) ?_;conv=>whnf)
  |(refine za (by(try simp only[wA,wL])<;>omega) ?_;conv=>whnf)
  |(refine zo ?_;conv=>whnf)
  |(refine ze ?_;conv=>whnf)
 refine zd0 (fun(i:Nat) (L:List Pg)=>i≤ps.length∧L=ps.take i++List.replicate (ps.length-i) ⟨[],[],[]⟩) (fun i L=>⟨37,3,[(2,.ptr 0 0 0 0),(3,.ptr 1 0 0 0),(14,.c (.pgs ps)),(15,.c (.int .i64 ps.length)),(16,.c (.int .i64 i))],[(0,.box [.c (.int .i64 0),.nil] [] []),(1,.box [.c (.int .i64 root),.slc 2] [] []),(2,.arr (.pgs L))]⟩) (fun i _=>ps.length-i) 0 (List.replicate ps.length ⟨[],[],[]⟩) ⟨Nat.zero_le _,rfl⟩ (fun _ _=>Nat.zero_le _) (ydn [] [1,9,7]) (fun i L hi=>?_)
 obtain⟨hi,hL⟩:=hi
 have k1:=hp.keys i
 have k2:=hp.kids i
 have k3:=hp.vals i
 dsimp only[zb,Int.toNat_natCast]at k1 k2 k3
 have hLl:=congrArg List.length hL
 rw[List.length_append,List.length_take,List.length_replicate]at hLl
 by_cases c:i<ps.length
 ·have c1:=z6m (ps.getD i ⟨[],[],[]⟩).keys k1
  have c2:=z6m (ps.getD i ⟨[],[],[]⟩).kids k2
  have c3:=z6m (ps.getD i ⟨[],[],[]⟩).vals k3
  conv=>whnf
  repeat' first
   |(refine za (by kernel_rfl) ?_;conv=>whnf)
   |(refine zn ?_ ?_;(focus ((try simp only[qA])<;>(try simp only[wA])<;>omega));conv=>whnf)
   |(refine za (by(try simp only[wA,wL])<;>omega) ?_;conv=>whnf)
   |(refine zg (by(try simp only[wA,wL])<;>omega) (by(try simp only[wA,wL])<;>omega) ?_;conv=>whnf)
   |(refine zw (c1) rfl rfl ?_;conv=>whnf)
   |(refine zw (c2) rfl rfl ?_;conv=>whnf)
   |(refine zw (c3) rfl rfl ?_;conv=>whnf)
   |(refine ze ?_;conv=>whnf)
  refine⟨⟨(i+1,L.set i (ps.getD i ⟨[],[],[]⟩)),by dsimp only;omega,?_⟩,(ydn [] [0,1,2]),by dsimp only;omega⟩
  show L.set i _=_
  rw[hL,zog _ _ c (by rw[List.length_take];omega),zat ⟨[],[],[]⟩ c]
 ·rw[List.take_of_length_le (by omega),show ps.length-i=0 by omega,List.replicate_zero,List.append_nil]at hL
  subst hL
  conv=>whnf
  repeat' (refine zm ?_ ?_;(focus ((try simp only[qA])<;>(try simp only[wA])<;>omega));conv=>whnf)
  exact(zu [] [2])
end Go.VL
