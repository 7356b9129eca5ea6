/- V-logic: PT22 -/
import Derived.Test.YtobcecpdafbbeaaGreatVPE
namespace Go.VL
set_option linter.unusedVariables false
set_option linter.unusedSimpArgs false
theorem zou {xs:List Int} {k:Int} (ha:Asc xs):k∈xs↔belF xs k<xs.length∧xs.getD (belF xs k) 0=k:=by
 constructor
 ·intro h
  obtain⟨i,hi,e⟩:=List.getElem_of_mem h
  have e':xs.getD i 0=k:=by rw[List.getD_eq_getElem?_getD,List.getElem?_eq_getElem hi];exact e
  have hb:belF xs k=i:=zv4 ha (by omega) (fun j hj=>by have:=zez ha hj hi;omega) (fun j h1 h2=>by
   rcases Nat.lt_or_ge i j with c|c
   ·have:=zez ha c h2;omega
   ·obtain rfl:i=j:=by omega
    omega)
  rw[hb];exact⟨hi,e'⟩
 ·rintro⟨h1,h2⟩
  rw[←h2];exact zaq 0 h1
theorem zv9 {xs:List Pr} {k:Int} (h:k∈xs.map Pr.key):zei xs k=(xs.getD (belF (xs.map Pr.key) k) ⟨0,0⟩).value:=by unfold zei;rw[if_pos h]
theorem zkw {xs:List Pr} {k:Int} (h:k∉xs.map Pr.key):zei xs k=0:=by unfold zei;rw[if_neg h]
theorem zmk (xs:List Pr) (i:Nat):(xs.map Pr.key).getD i 0=(xs.getD i ⟨0,0⟩).key:=by
 rw[List.getD_eq_getElem?_getD,List.getD_eq_getElem?_getD,List.getElem?_map]
 cases xs[i]?<;>rfl
theorem zzk {ps:List Pg} {d mn mx:Nat} {a lo hi key:Int} (h:Fit ps (d+1) mn mx a lo hi) :
  zei (zab (zb ps (lfF ps key (d+1) a))) key=zei (prF ps (d+1) (zb ps a)) key∧((zab (zb ps (lfF ps key (d+1) a))).map Pr.key).contains key=((prF ps (d+1) (zb ps a)).map Pr.key).contains key:=by
 obtain⟨_,_,l,r,hl⟩:=zec h _ (zi7 h (key:=key))
 have hi:=zvj h (key:=key)
 rw[←zdi hl.len]at hi
 constructor
 ·by_cases c:key∈(prF ps (d+1) (zb ps a)).map Pr.key
  ·obtain⟨y,hy,rfl⟩:=List.mem_map.1 c
   rw[zhx (zaa.row h.2.2.2.2).asc hy,zhx hl.row.asc (z1d h hy)]
  ·rw[zkw c,zkw fun q=>c (hi.2 q)]
 ·rw[Bool.eq_iff_iff,List.contains_iff_mem,List.contains_iff_mem];exact hi.symm
theorem PgOk.row {ps:List Pg} {p:Pg} (h:PgOk ps p) (hk:p.kids=[]):zdb (zab p)=true∧p.vals.length=p.keys.length:=by
 have k4:=h.k4
 rcases h.c with ⟨_,h2,h3⟩|⟨_,_,h2,_⟩
 ·refine⟨?_,h2⟩
  unfold zdb
  rw[zdi h2,h.vk,zby p h2,decide_eq_true (by omega),Bool.true_and,Bool.and_true]
  refine List.all_eq_true.2 fun x hx=>decide_eq_true (h3 _ ?_)
  rw[←zq8 h2];exact List.mem_map.2 ⟨x,hx,rfl⟩
 ·rw[hk]at h2;simp at h2
structure LvB (root:Int) (ps:List Pg):Prop where
 pos:1≤(lvF ps (htF root ps) root).length
 le:(lvF ps (htF root ps) root).length≤97656
 four:(psF root ps).length≤4*(lvF ps (htF root ps) root).length
 len:(psF root ps).length≤100
end Go.VL
