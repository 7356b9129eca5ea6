/- V-logic -/
import Derived.Test.YtdbhfajlffaneaaGreatVPD
import Derived.Test.YtdbhfajlffaneaaGreatVT4
namespace Go.VL
open Go.Proofs
set_option maxRecDepth 10000
set_option linter.unusedSimpArgs false
set_option linter.unusedVariables false
theorem zt2:∀{l:List Int},l.Nodup→∀{i j:Nat},i<l.length→j<l.length→l.getD i 0=l.getD j 0→i=j
 |[],_,i,_,hi,_,_=>by simp at hi
 |a::t,h,0,0,_,_,_=>rfl
 |a::t,h,0,j+1,_,hj,e=>by
  exfalso
  refine(List.nodup_cons.1 h).1 ?_
  have e:a=t.getD j 0:=e
  rw[e];exact zaq 0 (by simpa using hj)
 |a::t,h,i+1,0,hi,_,e=>by
  exfalso
  refine(List.nodup_cons.1 h).1 ?_
  have e:t.getD i 0=a:=e
  rw[←e];exact zaq 0 (by simpa using hi)
 |a::t,h,i+1,j+1,hi,hj,e=>by
  have:=zt2 (List.nodup_cons.1 h).2 (i:=i) (j:=j) (by simpa using hi) (by simpa using hj) e
  omega
structure MendPre (ps:List Pg) (up c:Int) (first:Nat):Prop where
 cm:c∈(zb ps up).kids
 hz:((plN (zb ps up).kids c:Nat):Int)=first+1∨((plN (zb ps up).kids c:Nat):Int)=0∧first=0
 u0:0≤up
 u1:up<ps.length
 hkl:first<(zb ps up).keys.length
 hcl:(zb ps up).kids.length=(zb ps up).keys.length+1
 hk9:(zb ps up).keys.length≤100
 hvs:(zb ps up).vals=[]
 c0:0≤c∧c<ps.length
 a0:0≤(zb ps up).kids.getD first 0∧(zb ps up).kids.getD first 0<ps.length
 b0:0≤(zb ps up).kids.getD (first+1) 0∧(zb ps up).kids.getD (first+1) 0<ps.length
 au:(zb ps up).kids.getD first 0≠up
 bu:(zb ps up).kids.getD (first+1) 0≠up
 ab:(zb ps up).kids.getD first 0≠(zb ps up).kids.getD (first+1) 0
 ka:(zb ps ((zb ps up).kids.getD first 0)).keys.length≤100
 kb:(zb ps ((zb ps up).kids.getD (first+1) 0)).keys.length≤100
 hlf:(zb ps ((zb ps up).kids.getD first 0)).kids.length=0→(zb ps ((zb ps up).kids.getD first 0)).vals.length=(zb ps ((zb ps up).kids.getD first 0)).keys.length∧(zb ps ((zb ps up).kids.getD (first+1) 0)).vals.length=(zb ps ((zb ps up).kids.getD (first+1) 0)).keys.length
 hin:(zb ps ((zb ps up).kids.getD first 0)).kids.length≠0→(zb ps ((zb ps up).kids.getD first 0)).kids.length=(zb ps ((zb ps up).kids.getD first 0)).keys.length+1∧(zb ps ((zb ps up).kids.getD (first+1) 0)).kids.length=(zb ps ((zb ps up).kids.getD (first+1) 0)).keys.length+1
theorem Lev.pre {ps R:List Pg} {d:Nat} {up c:Int} (L:Lev ps R d up c):MendPre R up c (plN (zb R up).kids c-1):=by
 have hlen:=L.len
 have hu0:=L.a0
 have hu1:=L.a1
 have hkl:=L.kl
 have hk1:=L.k1
 have hk4:=L.k4
 have hpl:=ztx L.cm
 obtain⟨f,hf⟩:∃f,plN (zb ps up).kids c-1=f:=⟨_,rfl⟩
 have hma:=zaq 0 (show f<(zb ps up).kids.length by omega)
 have hmb:=zaq 0 (show f+1<(zb ps up).kids.length by omega)
 obtain⟨l1,r1,fa⟩:=L.fit _ hma
 obtain⟨l2,r2,fb⟩:=L.fit _ hmb
 obtain⟨l3,r3,fc⟩:=L.fit _ L.cm
 rw[L.pg,hf]
 have fak:=fa.2.2.2.1
 have fbk:=fb.2.2.2.1
 refine⟨by rw[L.pg];exact L.cm,by rw[L.pg];omega,hu0,by omega,by rw[L.pg];omega,by rw[L.pg];exact hkl,by rw[L.pg];omega,by rw[L.pg];exact L.vals,⟨fc.1,fc.2.1⟩,?_,?_,?_,?_,?_,?_,?_,?_,?_⟩<;>rw[L.pg]
 ·exact⟨fa.1,fa.2.1⟩
 ·exact⟨fb.1,fb.2.1⟩
 ·exact λe=>L.na (by rw[e]at hma;exact hma)
 ·exact λe=>L.na (by rw[e]at hmb;exact hmb)
 ·exact λe=>by have:=zt2 L.nd (by omega) (by omega) e;omega
 ·omega
 ·omega
 ·intro h0
  match d,fa,fb with
  |0,fa,fb=>exact⟨LeafOk.len fa.2.2.2.2,LeafOk.len fb.2.2.2.2⟩
  |d+1,fa,fb=>have:=zaa.kidsLen fa.2.2.2.2;omega
 ·intro h0
  match d,fa,fb with
  |0,fa,fb=>exact absurd (by rw[LeafOk.kids fa.2.2.2.2];rfl) h0
  |d+1,fa,fb=>exact⟨zaa.kidsLen fa.2.2.2.2,zaa.kidsLen fb.2.2.2.2⟩
end Go.VL
