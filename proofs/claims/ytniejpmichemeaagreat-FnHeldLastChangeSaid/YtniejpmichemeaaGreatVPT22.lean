/- V-logic: PT22 -/
import Derived.Test.YtniejpmichemeaaGreatVPE
namespace Go.VL
set_option linter.unusedVariables false
set_option linter.unusedSimpArgs false
theorem zou {xs:List Int} {k:Int} (ha:Asc xs):k∈xs↔belF xs k<xs.length∧xs.getD (belF xs k) 0=k:=by
 constructor
 ·intro h
  obtain⟨i,hi,e⟩:=List.getElem_of_mem h
  have e':xs.getD i 0=k:=by rw[List.getD_eq_getElem?_getD,List.getElem?_eq_getElem hi];exact e
  have hb:belF xs k=i:=zv4 ha (by omega) (fun j hj=>by have:=zez ha hj hi;omega) (fun j h1 h2=>by
   rcases Nat.lt_or_ge i j with c|c
   ·have:=zez ha c h2;omega
   ·obtain rfl:i=j:=by omega
    omega)
  rw[hb];exact⟨hi,e'⟩
 ·rintro⟨h1,h2⟩
  rw[←h2];exact zaq 0 h1
theorem zmk (xs:List Pr) (i:Nat):(xs.map Pr.key).getD i 0=(xs.getD i ⟨0,0⟩).key:=by
 rw[List.getD_eq_getElem?_getD,List.getD_eq_getElem?_getD,List.getElem?_map]
 cases xs[i]?<;>rfl
theorem PgOk.row {ps:List Pg} {p:Pg} (h:PgOk ps p) (hk:p.kids=[]):zdb (zab p)=true∧p.vals.length=p.keys.length:=by
 have k4:=h.k4
 rcases h.c with ⟨_,h2,h3⟩|⟨_,_,h2,_⟩
 ·refine⟨?_,h2⟩
  unfold zdb
  rw[zdi h2,h.vk,zby p h2,decide_eq_true (by omega),Bool.true_and,Bool.and_true]
  refine List.all_eq_true.2 fun x hx=>decide_eq_true (h3 _ ?_)
  rw[←zq8 h2];exact List.mem_map.2 ⟨x,hx,rfl⟩
 ·rw[hk]at h2;simp at h2
structure LvB (root:Int) (ps:List Pg):Prop where
 pos:1≤(lvF ps (htF root ps) root).length
 le:(lvF ps (htF root ps) root).length≤97656
 four:(psF root ps).length≤4*(lvF ps (htF root ps) root).length
 len:(psF root ps).length≤100
end Go.VL
