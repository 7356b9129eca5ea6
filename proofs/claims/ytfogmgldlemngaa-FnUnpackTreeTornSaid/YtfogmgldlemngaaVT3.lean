/- V-logic: TrJ TrK TrL -/
import Derived.Test.YtfogmgldlemngaaVPD
import Derived.Test.YtfogmgldlemngaaVT2
namespace Go.VL
open Go.Proofs
set_option maxRecDepth 10000
set_option linter.unusedSimpArgs false
set_option linter.unusedVariables false
set_option maxHeartbeats 4000000 in
theorem zq2 (root:Int) (ps:List Pg) (x:Pr) (hp:pB ps) (hpl:ps.length≤1000) (h:Nat) (hh:h≤8) (v:VT0 root ps h) (hv:-1000≤x.value∧x.value≤1000) (h0:0≤x.key) (h9:x.key≤99) :
  zr Try.prog 54 0 [trV root ps,prV x] [] 1 (.agg [.c (.int .i64 (zer root ps h x).1),.slc 0]) [(0,.arr (.pgs (zer root ps h x).2))]:=by
 obtain⟨d,rfl⟩:∃d,h=d+1:=⟨h-1,by have:=v.h1;omega⟩
 have ha:=v.at h0 h9
 have hpt:=zlz root x.key ps hp d _ _ _ _ v.fit (by omega)
 have hPl:(ptF ps x.key (d+1) root).length=d+1:=zg1
 have hon:=fun i (hi:i<d+1)=>z21 hv ha hi
 have hst:=fun i (hi:i<d+1)=>zz1 hv ha hi
 have hup:=fun i (hi:i+1<d+1)=>zwd (ps:=ps) (x:=x) (root:=root) hi
 have hab:=fun i (hi:i+1<d+1)=>zpt hv ha hi
 have hkid:=fun i (hi:i+1<d+1)=>z0y (ps:=ps) (key:=x.key) ha hi
 have hp0:(ptF ps x.key (d+1) root).getD 0 0=root:=zfy
 have hpd:=zjg ha (show d<d+1 by omega)
 have hR1:zbb ps x (d+1-d) ((ptF ps x.key (d+1) root).getD d 0)=ps.set ((ptF ps x.key (d+1) root).getD d 0).toNat (zae (zbc (zab (zb ps ((ptF ps x.key (d+1) root).getD d 0))) x)):=by rw[show d+1-d=1 by omega];rfl
 obtain⟨R,hR⟩:∃R:Int×List Pg,zer root ps (d+1) x=R:=⟨_,rfl⟩
 rw[hR]at hst⊢
 have hRt:4<(zb (zbb ps x (d+1) root) root).keys.length→R=(((zbb ps x (d+1) root).length:Int)+1,(zbb ps x (d+1) root).set root.toNat (zam (zb (zbb ps x (d+1) root) root)).1++[(zam (zb (zbb ps x (d+1) root) root)).2.2,⟨[(zam (zb (zbb ps x (d+1) root) root)).2.1],[root,((zbb ps x (d+1) root).length:Int)],[]⟩]):=fun hc=>by
  rw[←hR];unfold zer;rw[if_pos hc]
 generalize ptF ps x.key (d+1) root=P at *
 rw[show d+1-d=1 by omega]at hpd hR1
 have hD:((P.length:Int)-1).toNat=d:=by omega
 rw[←hD]at hpd hR1
 obtain⟨_,_,_,hpf,_⟩:=hpd
 have hlk:LeafOk (zb ps (P.getD ((P.length:Int)-1).toNat 0)) _ _:=hpf.2.2.2.2
 have b0:=hpf.1
 have b1:=hpf.2.1
 have hln:=hlk.len
 have k1:=hpf.2.2.2.1
 have hrl:=zby _ hln
 have hil:=zok (x:=x) (l:=zab (zb ps (P.getD ((P.length:Int)-1).toNat 0))) (by rw[zdi hln];exact hlk.asc)
 have hil2:(zbc (zab (zb ps (P.getD ((P.length:Int)-1).toNat 0))) x).length≤5:=by rw[hil,hrl];split<;>omega
 clear hil hpf hlk
 dsimp only[zb]at hln k1 hrl hil2 hR1
 have k4:=hp.len
 refine spi (fn:=Try.f54) _ ?_
 conv=>whnf
 repeat' first
  |(refine za (by kernel_rfl) ?_;conv=>whnf)
  |(refine za (by(try simp only[wA,wL])<;>omega) ?_;conv=>whnf)
  |(refine zg (by(try simp only[wA,wL])<;>omega) (by(try simp only[wA,wL])<;>omega) ?_;conv=>whnf)
  |((refine ze9 [.fz [16,5],.kp [2,3,4,5,6,7,8]] ?_;(conv=>whnf);fail_if_success (guard_target =~ False));conv=>whnf)
  |(refine zbe (zp1 root ps hp) rfl rfl rfl rfl ?_;conv=>whnf)
  |(refine z8 (hpt) rfl ?_;conv=>whnf)
  |(refine zar (zg4 (ps.getD (P.getD ((P.length:Int)-1).toNat 0).toNat ⟨[],[],[]⟩) (by omega) (by omega)) rfl rfl ?_;conv=>whnf)
  |(refine zeb (z1r (zab (ps.getD (P.getD ((P.length:Int)-1).toNat 0).toNat ⟨[],[],[]⟩)) x (by omega)) rfl rfl rfl rfl rfl ?_;conv=>whnf)
  |(refine zw (zfz _ (by omega)) rfl rfl ?_;conv=>whnf)
  |(refine ze ?_;conv=>whnf)
 refine zd0 (fun(qs:List Pg) (z:Int)=>0≤z∧z<d+1∧qs=zbb ps x (d+1-z.toNat) (P.getD z.toNat 0))
  (fun qs z=>⟨194,3,[(4,.ptr 0 0 0 0),(5,.ptr 1 0 0 0),(6,.c (.nums .i64 P)),(7,.c (.int .i64 z))],[(0,.box [.c (.int .i64 0),.nil] [] []),(1,.box [.c (.int .i64 root),.slc 2] [] []),(2,.arr (.pgs qs))]⟩) (fun qs z=>z.toNat)
  (ps.set (P.getD ((P.length:Int)-1).toNat 0).toNat (zae (zbc (zab (ps.getD (P.getD ((P.length:Int)-1).toNat 0).toNat ⟨[],[],[]⟩)) x))) ((P.length:Int)-1) ⟨by omega,by omega,by rw[hD]at hR1⊢;rw[show d+1-d=1 by omega];exact hR1.symm⟩ (fun _ _=>Nat.zero_le _) (ydn [] [2,4,3]) (fun qs z hi=>?_)
 obtain⟨hz0,hz1,hq⟩:=hi
 clear b0 b1 hln k1 hrl hil2 hR1 hpt
 obtain⟨lo,hi',q0,q9,qf,q5,qa0,qa1,qpl,qpu⟩:=hon z.toNat (by omega)
 have hst':=hst z.toNat (by omega)
 rw[←hq]at hst' qf q5 qa1 qpl qpu
 dsimp only[zb]at hst' q5
 clear hon hst
 obtain⟨pg,hpg⟩:∃pg,qs.getD (P.getD z.toNat 0).toNat ⟨[],[],[]⟩=pg:=⟨_,rfl⟩
 have hpg':zb qs (P.getD z.toNat 0)=pg:=hpg
 rw[hpg]at hst' q5
 rw[hpg']at qf
 by_cases hov:4<pg.keys.length
 ·obtain⟨sp,hsp⟩:∃sp,zam pg=sp:=⟨_,rfl⟩
  obtain⟨pa,kx,pb⟩:=sp
  have hfin:∀i:Nat,z.toNat=i+1→zbb ps x (d+1-i) (P.getD i 0)=(qs.set (P.getD z.toNat 0).toNat pa++([]++[pb])).set (P.getD i 0).toNat (zfu (zb ps (P.getD i 0)) (plN (zb ps (P.getD i 0)).kids (P.getD z.toNat 0)) kx qs.length):=fun i hi=>by
   have e1:=hup i (by omega)
   obtain⟨e2,e3,e4,e5⟩:=hab i (by omega)
   rw[←hi,←hq]at e1 e2
   rw[e1]
   unfold zmw
   rw[hpg',if_pos hov,hsp,e2];rfl
  have hR0:z=0→R=(((qs.set (P.getD z.toNat 0).toNat pa++([]++[pb])++([]++[(⟨[]++[kx],[]++[P.getD (Int.toNat 0) 0]++[(qs.length:Int)],[]⟩:Pg)])).length:Int)-1,qs.set (P.getD z.toNat 0).toNat pa++([]++[pb])++([]++[⟨[]++[kx],[]++[P.getD (Int.toNat 0) 0]++[(qs.length:Int)],[]⟩])):=fun hz=>by
   subst hz
   have e:P.getD (Int.toNat 0) 0=root:=hp0
   rw[e]at hpg' hpg⊢
   rw[show d+1-Int.toNat 0=d+1 from rfl,e]at hq
   rw[hRt (by rw[←hq,hpg'];exact hov),←hq,hpg',hsp]
   refine Prod.ext ?_ ?_
   ·simp;omega
   ·simp
  clear hRt hup hR
  have hov2:4<(qs.getD (P.getD z.toNat 0).toNat ⟨[],[],[]⟩).keys.length:=by rw[hpg];exact hov
  by_cases hlf:pg.kids.length=0
  ·have hL:LeafOk pg lo hi':=by
    obtain⟨e,he⟩:∃e,d+1-z.toNat=e+1:=⟨d-z.toNat,by omega⟩
    rw[he]at qf
    cases e with
    |zero=>exact qf
    |succ e=>have:=zaa.kidsLen qf;omega
   have hlf2:(qs.getD (P.getD z.toNat 0).toNat ⟨[],[],[]⟩).kids.length=0:=by rw[hpg];exact hlf
   have hln:=hL.len
   have hrl:=zby _ hln
   have hvr:zdb (zab pg)=true:=zln.2 ⟨hL.row.wide q0 q9,by omega⟩
   unfold zam at hsp
   rw[if_pos hlf]at hsp
   have hro:=zg4 pg (by omega) (by omega)
   have hSp:=zxq (zab pg) (by omega) hvr
   generalize zab pg=r at hrl hvr hsp hro hSp
   have hn2:(r.length+1) / 2<r.length∧(r.length+1) / 2≤1000:=by omega
   have hra:(r.take ((r.length+1) / 2)).length≤1000:=by rw[List.length_take];omega
   have hrb:(r.drop ((r.length+1) / 2)).length≤1000∧0<(r.drop ((r.length+1) / 2)).length:=by rw[List.length_drop];omega
   rw[←zw5]at hsp
   generalize r.take ((r.length+1) / 2)=ra at hsp hSp hra
   generalize r.drop ((r.length+1) / 2)=rb at hsp hSp hrb
   have hla:=zfz ra (by omega)
   have hlb:=zfz rb (by omega)
   obtain⟨e1,e2⟩:=Prod.mk.inj hsp
   obtain⟨e3,e4⟩:=Prod.mk.inj e2
   rw[e1]at hla
   rw[e4]at hlb
   clear hsp e1 e2 e4
   subst e3
   by_cases hz:z=0
   ·have hR0:=hR0 hz
    subst hR0
    clear hab hfin
    conv=>whnf
    repeat' first
     |(refine za (by kernel_rfl) ?_;conv=>whnf)
     |(refine zn ?_ ?_;(focus ((try simp only[qA])<;>(try simp only[wA])<;>omega));conv=>whnf)
     |(refine za (by(try simp only[wA,wL])<;>omega) ?_;conv=>whnf)
     |(refine zg (by(try simp only[wA,wL])<;>omega) (by(try simp only[wA,wL])<;>omega) ?_;conv=>whnf)
     |((refine ze9 [.fz [212,232],.kp [4,5,6,7,9,10,11,12]] ?_;(conv=>whnf);fail_if_success (guard_target =~ False));conv=>whnf)
     |(refine zw (hla) rfl rfl ?_;conv=>whnf)
     |(refine zw (hlb) rfl rfl ?_;conv=>whnf)
     |(refine zar (show zr Try.prog 56 0 [pgV (qs.getD (P.getD z.toNat 0).toNat ⟨[],[],[]⟩)] [] 1 (.slc 0) [(0,.arr (.prs r))] by rw[hpg];exact hro) rfl rfl ?_;conv=>whnf)
     |(refine zlg [.arr (.prs ra),.arr (.prs rb)] (hSp) rfl rfl rfl rfl rfl rfl rfl ?_;conv=>whnf)
     |(refine zw (zb6 ⟨_,_,[]⟩) rfl rfl ?_;conv=>whnf)
     |(refine zo ?_;conv=>whnf)
     |(refine ze ?_;conv=>whnf)
    exact(zu [] [2])
   ·obtain⟨i,hi⟩:∃i,z.toNat=i+1:=⟨z.toNat-1,by omega⟩
    have hfin:=hfin i hi
    obtain⟨e2,e3,e4,e5⟩:=hab i (by omega)
    clear hab hR0
    have ez:(z-1).toNat=i:=by omega
    obtain⟨up,hup'⟩:∃up,zb ps (P.getD i 0)=up:=⟨_,rfl⟩
    rw[←hi]at e2 e5
    rw[←hq]at e2
    rw[hup']at hfin e2
    have hX:(qs.set (P.getD z.toNat 0).toNat pa++([]++[pb])).getD (P.getD (z-1).toNat 0).toNat ⟨[],[],[]⟩=up:=by
     rw[ez]
     show zb (qs.set (P.getD z.toNat 0).toNat pa++[pb]) (P.getD i 0)=up
     rw[zlv e3,List.length_set,if_pos (by omega),zc9 qa0 qa1 e3,if_neg e5,e2]
    obtain⟨f1,f2,f3,f4⟩:=hkid i (by omega)
    rw[hup']at f1 f2 f3 f4
    rw[←hi]at f1
    have hlt:=ztx f1
    have hpo:=zms up.kids (P.getD z.toNat 0) (by omega)
    rw[if_pos f1]at hpo
    have hak:=zt5 up (plN up.kids (P.getD z.toNat 0)) (rb.getD 0 ⟨0,0⟩).key qs.length (by omega) (by omega) (by omega) (by omega)
    have hin:=zb6 (zfu up (plN up.kids (P.getD z.toNat 0)) (rb.getD 0 ⟨0,0⟩).key qs.length)
    rw[show pgV ⟨(zfu up (plN up.kids (P.getD z.toNat 0)) (rb.getD 0 ⟨0,0⟩).key qs.length).keys,(zfu up (plN up.kids (P.getD z.toNat 0)) (rb.getD 0 ⟨0,0⟩).key qs.length).kids,[]⟩=pgV (zfu up (plN up.kids (P.getD z.toNat 0)) (rb.getD 0 ⟨0,0⟩).key qs.length)from rfl]at hin
    have hio:=ze2 up
    rw[←hX]at hpo hio hak
    rw[hX]at hak
    generalize zfu up (plN up.kids (P.getD z.toNat 0)) (rb.getD 0 ⟨0,0⟩).key qs.length=pu at hak hin hfin
    rw[←hX]at hak
    have e3':0≤P.getD (z-1).toNat 0:=by rw[ez];exact e3
    have e4':P.getD (z-1).toNat 0<ps.length:=by rw[ez];exact e4
    conv=>whnf
    repeat' first
     |(refine za (by kernel_rfl) ?_;conv=>whnf)
     |(refine zn ?_ ?_;(focus ((try simp only[qA])<;>(try simp only[wA])<;>omega));conv=>whnf)
     |(refine zm ?_ ?_;(focus ((try simp only[qA])<;>(try simp only[wA])<;>omega));conv=>whnf)
     |(refine za (by(try simp only[wA,wL])<;>omega) ?_;conv=>whnf)
     |(refine zg (by(try simp only[wA,wL])<;>omega) (by(try simp only[wA,wL])<;>omega) ?_;conv=>whnf)
     |((refine ze9 [.fz [212,232],.kp [4,5,6,7,9,10,11,12]] ?_;(conv=>whnf);fail_if_success (guard_target =~ False));conv=>whnf)
     |(refine zw (hla) rfl rfl ?_;conv=>whnf)
     |(refine zw (hlb) rfl rfl ?_;conv=>whnf)
     |(refine zar (show zr Try.prog 56 0 [pgV (qs.getD (P.getD z.toNat 0).toNat ⟨[],[],[]⟩)] [] 1 (.slc 0) [(0,.arr (.prs r))] by rw[hpg];exact hro) rfl rfl ?_;conv=>whnf)
     |(refine zlg [.arr (.prs ra),.arr (.prs rb)] (hSp) rfl rfl rfl rfl rfl rfl rfl ?_;conv=>whnf)
     |(refine zw (hio) rfl rfl ?_;conv=>whnf)
     |(refine zw (hpo) rfl rfl ?_;conv=>whnf)
     |(refine zw (hak) rfl rfl ?_;conv=>whnf)
     |(refine zw (hin) rfl rfl ?_;conv=>whnf)
     |(refine zo ?_;conv=>whnf)
     |(refine ze ?_;conv=>whnf)
    refine⟨⟨((qs.set (P.getD z.toNat 0).toNat pa++([]++[pb])).set (P.getD (z-1).toNat 0).toNat pu,z-1),?_⟩,(ydn [] [0,1,2]),by dsimp only;omega⟩
    dsimp only
    refine⟨by omega,by omega,?_⟩
    rw[ez];exact hfin.symm
  ·have hkl:pg.kids.length=pg.keys.length+1:=by
    obtain⟨e,he⟩:∃e,d+1-z.toNat=e+1:=⟨d-z.toNat,by omega⟩
    rw[he]at qf
    cases e with
    |zero=>have:=LeafOk.kids qf;rw[this]at hlf;exact(hlf rfl).elim
    |succ e=>exact zaa.kidsLen qf
   have hlf2:¬(qs.getD (P.getD z.toNat 0).toNat ⟨[],[],[]⟩).kids.length=0:=by rw[hpg];exact hlf
   have hsi:=zmh pg (by omega) hkl (by omega)
   have hio0:=ze2 (qs.getD (P.getD z.toNat 0).toNat ⟨[],[],[]⟩)
   unfold zam at hsp
   rw[if_neg hlf]at hsp
   obtain⟨e1,e2⟩:=Prod.mk.inj hsp
   obtain⟨e3,e4⟩:=Prod.mk.inj e2
   have hia:=zb6 pa
   have hib:=zb6 pb
   rw[show(⟨pa.keys,pa.kids,[]⟩:Pg)=pa by rw[←e1]]at hia
   rw[show(⟨pb.keys,pb.kids,[]⟩:Pg)=pb by rw[←e4]]at hib
   rw[e1,e3,e4]at hsi
   clear hsp e1 e2 e3 e4
   rw[←hpg]at hsi
   by_cases hz:z=0
   ·have hR0:=hR0 hz
    subst hR0
    clear hab hfin
    conv=>whnf
    repeat' first
     |(refine za (by kernel_rfl) ?_;conv=>whnf)
     |(refine zn ?_ ?_;(focus ((try simp only[qA])<;>(try simp only[wA])<;>omega));conv=>whnf)
     |(refine zm ?_ ?_;(focus ((try simp only[qA])<;>(try simp only[wA])<;>omega));conv=>whnf)
     |(refine za (by(try simp only[wA,wL])<;>omega) ?_;conv=>whnf)
     |(refine zg (by(try simp only[wA,wL])<;>omega) (by(try simp only[wA,wL])<;>omega) ?_;conv=>whnf)
     |((refine ze9 [.kp [4,5,6,7,9,10,13,14,15]] ?_;(conv=>whnf);fail_if_success (guard_target =~ False));conv=>whnf)
     |(refine zw (hio0) rfl rfl ?_;conv=>whnf)
     |(refine zw (hsi) rfl rfl ?_;conv=>whnf)
     |(refine zw (hia) rfl rfl ?_;conv=>whnf)
     |(refine zw (hib) rfl rfl ?_;conv=>whnf)
     |(refine zw (zb6 ⟨_,_,[]⟩) rfl rfl ?_;conv=>whnf)
     |(refine zo ?_;conv=>whnf)
    exact(zu [] [2])
   ·obtain⟨i,hi⟩:∃i,z.toNat=i+1:=⟨z.toNat-1,by omega⟩
    have hfin:=hfin i hi
    obtain⟨e2,e3,e4,e5⟩:=hab i (by omega)
    clear hab hR0
    have ez:(z-1).toNat=i:=by omega
    obtain⟨up,hup'⟩:∃up,zb ps (P.getD i 0)=up:=⟨_,rfl⟩
    rw[←hi]at e2 e5
    rw[←hq]at e2
    rw[hup']at hfin e2
    have hX:(qs.set (P.getD z.toNat 0).toNat pa++([]++[pb])).getD (P.getD (z-1).toNat 0).toNat ⟨[],[],[]⟩=up:=by
     rw[ez]
     show zb (qs.set (P.getD z.toNat 0).toNat pa++[pb]) (P.getD i 0)=up
     rw[zlv e3,List.length_set,if_pos (by omega),zc9 qa0 qa1 e3,if_neg e5,e2]
    obtain⟨f1,f2,f3,f4⟩:=hkid i (by omega)
    rw[hup']at f1 f2 f3 f4
    rw[←hi]at f1
    have hlt:=ztx f1
    have hpo:=zms up.kids (P.getD z.toNat 0) (by omega)
    rw[if_pos f1]at hpo
    have hak:=zt5 up (plN up.kids (P.getD z.toNat 0)) kx qs.length (by omega) (by omega) (by omega) (by omega)
    have hin:=zb6 (zfu up (plN up.kids (P.getD z.toNat 0)) kx qs.length)
    rw[show pgV ⟨(zfu up (plN up.kids (P.getD z.toNat 0)) kx qs.length).keys,(zfu up (plN up.kids (P.getD z.toNat 0)) kx qs.length).kids,[]⟩=pgV (zfu up (plN up.kids (P.getD z.toNat 0)) kx qs.length)from rfl]at hin
    have hio:=ze2 up
    rw[←hX]at hpo hio hak
    rw[hX]at hak
    generalize zfu up (plN up.kids (P.getD z.toNat 0)) kx qs.length=pu at hak hin hfin
    rw[←hX]at hak
    have e3':0≤P.getD (z-1).toNat 0:=by rw[ez];exact e3
    have e4':P.getD (z-1).toNat 0<ps.length:=by rw[ez];exact e4
    conv=>whnf
    repeat' first
     |(refine za (by kernel_rfl) ?_;conv=>whnf)
     |(refine zn ?_ ?_;(focus ((try simp only[qA])<;>(try simp only[wA])<;>omega));conv=>whnf)
     |(refine zm ?_ ?_;(focus ((try simp only[qA])<;>(try simp only[wA])<;>omega));conv=>whnf)
     |(refine za (by(try simp only[wA,wL])<;>omega) ?_;conv=>whnf)
     |(refine zg (by(try simp only[wA,wL])<;>omega) (by(try simp only[wA,wL])<;>omega) ?_;conv=>whnf)
     |((refine ze9 [.kp [4,5,6,7,9,10,13,14,15]] ?_;(conv=>whnf);fail_if_success (guard_target =~ False));conv=>whnf)
     |(refine zw (hio0) rfl rfl ?_;conv=>whnf)
     |(refine zw (hsi) rfl rfl ?_;conv=>whnf)
     |(refine zw (hia) rfl rfl ?_;conv=>whnf)
     |(refine zw (hib) rfl rfl ?_;conv=>whnf)
     |(refine zw (hio) rfl rfl ?_;conv=>whnf)
     |(refine zw (hpo) rfl rfl ?_;conv=>whnf)
     |(refine zw (hak) rfl rfl ?_;conv=>whnf)
     |(refine zw (hin) rfl rfl ?_;conv=>whnf)
     |(refine zo ?_;conv=>whnf)
     |(refine ze ?_;conv=>whnf)
    refine⟨⟨((qs.set (P.getD z.toNat 0).toNat pa++([]++[pb])).set (P.getD (z-1).toNat 0).toNat pu,z-1),?_⟩,(ydn [] [0,1,2]),by dsimp only;omega⟩
    dsimp only
    refine⟨by omega,by omega,?_⟩
    rw[ez];exact hfin.symm
 ·have hov2:¬4<(qs.getD (P.getD z.toNat 0).toNat ⟨[],[],[]⟩).keys.length:=by rw[hpg];exact hov
  have hRR:=hst' hov
  subst hRR
  conv=>whnf
  repeat' first
   |(refine za (by kernel_rfl) ?_;conv=>whnf)
   |(refine zn ?_ ?_;(focus ((try simp only[qA])<;>(try simp only[wA])<;>omega));conv=>whnf)
   |(refine zm ?_ ?_;(focus ((try simp only[qA])<;>(try simp only[wA])<;>omega));conv=>whnf)
   |(refine za (by(try simp only[wA,wL])<;>omega) ?_;conv=>whnf)
   |(refine ze ?_;conv=>whnf)
  exact(zu [] [2])
end Go.VL
namespace Go.VL
open Go.Proofs
set_option maxRecDepth 10000
set_option linter.unusedSimpArgs false
set_option linter.unusedVariables false
theorem zx7 (root:Int) (ps:List Pg) (x:Pr) (hp:pB ps) (r:Int×List Pg) (hr:zqc root ps x=some r):zr Try.prog 35 0 [trV root ps,prV x] [] 1 (.tup [.agg [.c (.int .i64 r.1),.slc 0],.tt]) [(0,.arr (.pgs r.2))]:=by
 obtain⟨h1,h2,h3,h4⟩:=zrm hr
 have v:=za0 h1
 have hb:=zsq.1 h2
 have l16:=v.l16
 have l3:=v.h3
 have hv1:=zay root ps hp
 have hvr:=zhe [x] (by simp)
 have hpu:=zq2 root ps x hp (by omega) (htF root ps) (by omega) v.v0 hb.2 hb.1.1 hb.1.2
 rw[←h3]at hpu
 have q:=za0 h4
 have q16:=q.l16
 have hv2:=zay r.1 r.2 (q.v0.pB (by omega))
 rw[h1]at hv1
 rw[h2]at hvr
 rw[h4]at hv2
 clear h1 h2 h3 h4 v hb q hr
 refine spi (fn:=Try.f35) _ ?_
 conv=>whnf
 repeat' first
  |(refine zm ?_ ?_;(focus ((try simp only[qA])<;>(try simp only[wA])<;>omega));conv=>whnf)
  |(refine yhk (hv1) rfl rfl ?_;conv=>whnf)
  |(refine zbo (hvr) rfl rfl rfl ?_;conv=>whnf)
  |(refine zbe (hpu) rfl rfl rfl rfl ?_;conv=>whnf)
  |(refine zbo (hv2) rfl rfl rfl ?_;conv=>whnf)
 exact(zu [] [5])
theorem zzh (root:Int) (ps:List Pg) (x:Pr) (hp:pB ps) (hr:zqc root ps x=none):zr Try.prog 35 0 [trV root ps,prV x] [] 0 (.tup [.agg [.c (.int .i64 0),.nil],.ff]) []:=by
 have hv1:=zay root ps hp
 have hvr:=zhe [x] (by simp)
 by_cases h1:vTree root ps=true
 ·rw[h1]at hv1
  by_cases h2:zdb [x]=true
  ·have v:=za0 h1
   have hb:=zsq.1 h2
   have l16:=v.l16
   have l3:=v.h3
   have hpu:=zq2 root ps x hp (by omega) (htF root ps) (by omega) v.v0 hb.2 hb.1.1 hb.1.2
   have hok:=(zvr v.v0 hb.2 hb.1.1 hb.1.2).vt
   have h3:vTree (zer root ps (htF root ps) x).1 (zer root ps (htF root ps) x).2=false:=by
    cases h:vTree (zer root ps (htF root ps) x).1 (zer root ps (htF root ps) x).2 with
    |false=>rfl
    |true=>unfold zqc at hr;rw[if_pos ⟨h1,h2,h⟩]at hr;cases hr
   have hle:(zer root ps (htF root ps) x).2.length≤1000:=by
    have:=(zvr v.v0 hb.2 hb.1.1 hb.1.2).len
    obtain⟨d,hd⟩:∃d,htF root ps=d+1:=⟨htF root ps-1,by have:=v.h1;omega⟩
    have q:=(zqu hb.2 (hd▸v.fit) (hd▸v.nd) hb.1.1 hb.1.2).le
    rw[←hd]at q
    split at this<;>omega
   have hv2:=zay (zer root ps (htF root ps) x).1 (zer root ps (htF root ps) x).2 (hok.pB (by omega))
   rw[h3]at hv2
   rw[h2]at hvr
   generalize zer root ps (htF root ps) x=r at *
   clear h1 h2 v hb hok h3 hr
   refine spi (fn:=Try.f35) _ ?_
   conv=>whnf
   repeat' first
    |(refine zn ?_ ?_;(focus ((try simp only[qA])<;>(try simp only[wA])<;>omega));conv=>whnf)
    |(refine zm ?_ ?_;(focus ((try simp only[qA])<;>(try simp only[wA])<;>omega));conv=>whnf)
    |(refine yhk (hv1) rfl rfl ?_;conv=>whnf)
    |(refine zbo (hvr) rfl rfl rfl ?_;conv=>whnf)
    |(refine zbe (hpu) rfl rfl rfl rfl ?_;conv=>whnf)
    |(refine zbo (hv2) rfl rfl rfl ?_;conv=>whnf)
   exact(zu [] [])
  ·have h2:zdb [x]=false:=by simpa using h2
   rw[h2]at hvr
   clear h1 hr h2
   refine spi (fn:=Try.f35) _ ?_
   conv=>whnf
   repeat' first
    |(refine zn ?_ ?_;(focus ((try simp only[qA])<;>(try simp only[wA])<;>omega));conv=>whnf)
    |(refine zm ?_ ?_;(focus ((try simp only[qA])<;>(try simp only[wA])<;>omega));conv=>whnf)
    |(refine yhk (hv1) rfl rfl ?_;conv=>whnf)
    |(refine zbo (hvr) rfl rfl rfl ?_;conv=>whnf)
   exact(zu [] [])
 ·have h1:vTree root ps=false:=by simpa using h1
  rw[h1]at hv1
  clear h1 hr
  refine spi (fn:=Try.f35) _ ?_
  conv=>whnf
  repeat' first|(refine zn ?_ ?_;(focus ((try simp only[qA])<;>(try simp only[wA])<;>omega));conv=>whnf)|(refine yhk (hv1) rfl rfl ?_;conv=>whnf)
  exact(zu [] [])
end Go.VL
namespace Go.VL
open Go.Proofs
set_option maxRecDepth 10000
set_option linter.unusedSimpArgs false
set_option linter.unusedVariables false
theorem ztq {xs:List Int} {lo:Int} (h:Asc xs) (hb:∀k∈xs,lo≤k):∀i,i<xs.length→lo+i≤xs.getD i 0
 |0,hi=>by have:=hb _ (zaq 0 hi);omega
 |i+1,hi=>by have:=ztq h hb i (by omega);have:=zez h (show i<i+1 by omega) hi;omega
theorem zrn {l:List Pr} (h:RowOk l 0 99):l.length≤100:=by
 apply Classical.byContradiction
 intro hc
 have hl:(l.map Pr.key).length=l.length:=List.length_map _
 have h1:=ztq (lo:=0) h.asc (fun k hk=>by obtain⟨y,hy,rfl⟩:=List.mem_map.1 hk;exact(h.rng y hy).1) 100 (by omega)
 have h2:=zaq 0 (show 100<(l.map Pr.key).length by omega)
 obtain⟨y,hy,e⟩:=List.mem_map.1 h2
 have:=(h.rng y hy).2
 omega
theorem zue (root key:Int) (ps:List Pg) (hp:pB ps) (v:VT root ps (htF root ps)):zr Try.prog 57 0 [trV root ps,.c (.int .i64 key)] [] 0 (.c (.bool (((psF root ps).map Pr.key).contains key))) []:=by
 obtain⟨d,hd⟩:∃d,htF root ps=d+1:=⟨htF root ps-1,by have:=v.h1;omega⟩
 have h3:=v.h3
 have hpo:=zrf root ps hp d _ _ _ _ (hd▸v.fit) (by omega) (Nat.le_refl _)
 rw[show prF ps (d+1) (zb ps root)=psF root ps by unfold psF;rw[hd]]at hpo
 have hle:(psF root ps).length≤4294967296:=by
  have:=zrn (zaa.row v.fit.2.2.2.2)
  unfold psF;omega
 generalize psF root ps=L at *
 have hk:=zdt L hle
 have hi:=zo5 (L.map Pr.key) key (by rw[List.length_map];exact hle)
 refine spi (fn:=Try.f57) _ ?_
 conv=>whnf
 repeat' first
  |refine zh ?_
  |(refine z8 (hpo) rfl ?_;conv=>whnf)
  |(refine zbe (hk) rfl rfl rfl rfl ?_;conv=>whnf)
  |(refine zbo (hi) rfl rfl rfl ?_;conv=>whnf)
 rfl
theorem z0k {ps:List Pg} {g i:Nat} (hi:i<ps.length) (hne:i≠g):(ps.take (i+1)).eraseIdx g=(ps.take i).eraseIdx g++[ps.getD i ⟨[],[],[]⟩]:=by
 rw[zat ⟨[],[],[]⟩ hi]
 by_cases c:i<g
 ·rw[List.eraseIdx_of_length_le (by simp;omega),List.eraseIdx_of_length_le (by simp;omega)]
 ·rw[List.eraseIdx_append_of_lt_length (by simp;omega)]
theorem z1f {ps:List Pg} {g:Nat} (hi:g<ps.length):(ps.take (g+1)).eraseIdx g=(ps.take g).eraseIdx g:=by
 have:(ps.take g).length=g:=by simp;omega
 rw[zat ⟨[],[],[]⟩ hi,List.eraseIdx_append_of_length_le (by omega),this,Nat.sub_self,List.eraseIdx_of_length_le (l:=ps.take g) (by omega)]
 exact List.append_nil _
theorem zxy (p:Pg) (h1:p.keys.length≤4294967296) (h2:p.kids.length≤4294967296) (h3:p.vals.length≤4294967296):zr Try.prog 72 0 [pgV p] [] 1 (.agg [.slc 0,.c (.nums .i64 p.kids),.c (.nums .i64 p.vals)]) [(0,.arr (.nums .i64 p.keys))]:=by
 refine spi (fn:=Try.f72) _ ?_
 conv=>whnf
 repeat' first
  |(refine za (by kernel_rfl) ?_;conv=>whnf)
  |(refine zar (zcn _ (by assumption)) rfl rfl ?_;conv=>whnf)
  |(refine ze ?_;conv=>whnf)
 (refine zbg [7,10] [4] ?_;(conv=>whnf);exact⟨rfl,by repeat first|exact trivial|refine⟨rfl,?_⟩,rfl,rfl,rfl,rfl,rfl,rfl⟩)
theorem zx1 (p:Pg) (h1:p.keys.length≤4294967296) (h2:p.kids.length≤4294967296) (h3:p.vals.length≤4294967296):zr Try.prog 72 0 [pgV p] [] 1 (.agg [.c (.nums .i64 p.keys),.slc 0,.c (.nums .i64 p.vals)]) [(0,.arr (.nums .i64 p.kids))]:=by
 refine spi (fn:=Try.f72) _ ?_
 conv=>whnf
 repeat' first
  |(refine za (by kernel_rfl) ?_;conv=>whnf)
  |(refine zar (zcn _ (by assumption)) rfl rfl ?_;conv=>whnf)
  |(refine ze ?_;conv=>whnf)
 (refine zbg [4,10] [7] ?_;(conv=>whnf);exact⟨rfl,by repeat first|exact trivial|refine⟨rfl,?_⟩,rfl,rfl,rfl,rfl,rfl,rfl⟩)
theorem zoc {g:Int} {ys:List Int} {k:Nat} (h:k<ys.length):(ys.set k (adj g (ys.getD k 0))).take (k+1)++((ys.set k (adj g (ys.getD k 0))).drop (k+1)).map (adj g)=ys.take k++(ys.drop k).map (adj g):=by
 rw[zat 0 (by rw[List.length_set];exact h),List.drop_set,if_pos (by omega),List.take_set_of_le (by omega),zg0 0 h,z7 _ _ _ _ _ h,if_pos rfl,List.map_cons,List.append_assoc];rfl
theorem zzs (root g:Int) (ps:List Pg) (hp:pB ps) (h0:0≤g) (h1:g<ps.length) (hr:0≤root∧root<ps.length) (hk:∀i,∀c∈(zb ps i).kids,-1≤c∧c≤1000000) :
  zr Try.prog 71 0 [trV root ps,.c (.int .i64 g)] [] 1 (.agg [.c (.int .i64 (adj g root)),.slc 0]) [(0,.arr (.pgs (zct ps g)))]:=by
 have k4:=hp.len
 obtain⟨Z,hZ⟩:∃Z,zct ps g=Z:=⟨_,rfl⟩
 rw[hZ]
 refine spi (fn:=Try.f71) _ ?_
 conv=>whnf
 repeat' first
  |(refine za (by kernel_rfl) ?_;conv=>whnf)
  |(refine zk (fun h=>?_) (fun h=>?_)<;>(try simp only[qA]at h)<;>(try simp only[wA]at h)<;>conv=>whnf)
  |(refine zg (by(try simp only[wA,wL])<;>omega) (by(try simp only[wA,wL])<;>omega) ?_;conv=>whnf)
  |(refine zw (zov) rfl rfl ?_;conv=>whnf)
  |(refine zw (zor) rfl rfl ?_;conv=>whnf)
  |(refine zlj ?_;conv=>whnf)
  |(refine ze ?_;conv=>whnf)
 all_goals
  refine zau (fun i:Nat=>i≤ps.length) (fun i=>⟨67,4,[(1,.c (.int .i64 g)),(2,.ptr 0 0 0 0),(4,.ptr 1 0 0 0),(5,.ptr 2 0 0 0),(6,.c (.int .i64 i))],[(0,.box [.c (.int .i64 root),.c (.pgs ps)] [] []),(1,.box [.c (.int .i64 0),.nil] [] []),(2,.box [.c (.int .i64 (adj g root)),.slc 3] [] []),(3,.arr (.pgs (((ps.take i).eraseIdx g.toNat).map (ziu g))))]⟩) (fun i=>ps.length-i) 0 (Nat.zero_le _) (fun _=>Nat.zero_le _) (zbd [] [0,1,12,10] ⟨by repeat first|exact trivial|refine⟨rfl,?_⟩,?_,rfl,rfl,rfl,rfl,rfl,rfl,rfl⟩) (fun i hi=>?_)
  ·refine⟨rfl,rfl,congrArg (fun z=>some (O.box [V.c (C.int .i64 z),.slc 10] [] [])) (by unfold adj;split<;>omega),rfl,trivial⟩
  have q1:=hp.keys i
  have q2:=hp.kids i
  have q3:=hp.vals i
  have hki:=hk i
  dsimp only[zb,Int.toNat_natCast]at q1 q2 q3 hki
  have hel:((ps.take i).eraseIdx g.toNat).length≤i:=by rw[List.length_eraseIdx];split<;>(rw[List.length_take];omega)
  conv=>whnf
  repeat' first
   |(refine za (by(try simp only[wA,wL])<;>omega) ?_;conv=>whnf)
   |(refine zk (fun h=>?_) (fun h=>?_)<;>(try simp only[qA]at h)<;>(try simp only[wA]at h)<;>conv=>whnf)
   |(refine zg (by(try simp only[wA,wL])<;>omega) (by(try simp only[wA,wL])<;>omega) ?_;conv=>whnf)
   |(refine zal [] [4] (zx1 (ps.getD i ⟨[],[],[]⟩) q1 q2 q3) ⟨rfl,rfl,rfl,(by repeat first|exact trivial|refine⟨rfl,?_⟩),⟨rfl,rfl,rfl,rfl,rfl,rfl⟩,?_⟩;conv=>whnf)
  ·refine⟨⟨i+1,?_⟩,(zbd [] [0,1,2,3] ⟨by repeat first|exact trivial|refine⟨rfl,?_⟩,?_,rfl,rfl,rfl,rfl,rfl,rfl,rfl⟩),by dsimp only;omega⟩;(try dsimp only)
   ·omega
   ·refine⟨rfl,rfl,rfl,congrArg (fun z=>some (O.arr (C.pgs z))) ?_,trivial⟩
    have e:g.toNat=i:=by omega
    rw[e,z1f (by omega)]
  ·refine zd0 (fun(ys:List Int) (k:Nat)=>k≤ys.length∧ys.length≤4294967296∧(∀c∈ys,-1≤c∧c≤1000000)∧ys.take k++(ys.drop k).map (adj g)=(ps.getD i ⟨[],[],[]⟩).kids.map (adj g)) (fun ys k=>⟨67,6,[(1,.c (.int .i64 g)),(2,.ptr 0 0 0 0),(4,.ptr 1 0 0 0),(5,.ptr 2 0 0 0),(6,.c (.int .i64 i)),(7,.ptr 4 0 0 0),(8,.c (.int .i64 k))],[(0,.box [.c (.int .i64 root),.c (.pgs ps)] [] []),(1,.box [.c (.int .i64 0),.nil] [] []),(2,.box [.c (.int .i64 (adj g root)),.slc 3] [] []),(3,.arr (.pgs (((ps.take i).eraseIdx g.toNat).map (ziu g)))),(4,.box [.c (.nums .i64 (ps.getD i ⟨[],[],[]⟩).keys),.slc 5,.c (.nums .i64 (ps.getD i ⟨[],[],[]⟩).vals)] [] []),(5,.arr (.nums .i64 ys))]⟩) (fun ys k=>ys.length-k) (ps.getD i ⟨[],[],[]⟩).kids 0 ⟨Nat.zero_le _,q2,fun c hc=>by have:=hki c hc;omega,rfl⟩ (fun _ _=>Nat.zero_le _) (ydn [] [0,1,2,3,5,4]) (fun ys k hj=>?_)
   obtain⟨j1,j2,j3,j4⟩:=hj
   have hx:k<ys.length→-1≤ys.getD k 0∧ys.getD k 0≤1000000:=fun hl=>j3 _ (zaq 0 hl)
   conv=>whnf
   repeat' first
    |(refine za (by kernel_rfl) ?_;conv=>whnf)
    |(refine za (by(try simp only[wA,wL])<;>omega) ?_;conv=>whnf)
    |(refine zk (fun h=>?_) (fun h=>?_)<;>(try simp only[qA]at h)<;>(try simp only[wA]at h)<;>conv=>whnf)
    |(refine zg (by(try simp only[wA,wL])<;>omega) (by(try simp only[wA,wL])<;>omega) ?_;conv=>whnf)
    |(refine zw (zov) rfl rfl ?_;conv=>whnf)
    |(refine zw (zor) rfl rfl ?_;conv=>whnf)
    |(refine zo ?_;conv=>whnf)
    |(refine ze ?_;conv=>whnf)
   ·refine⟨⟨(ys.set k (adj g (ys.getD k 0)),k+1),?_⟩,(zbd [] [0,1,2,3,4,5] ⟨by repeat first|exact trivial|refine⟨rfl,?_⟩,?_,rfl,rfl,rfl,rfl,rfl,rfl,rfl⟩),by dsimp only;rw[List.length_set];omega⟩
    ·dsimp only
     refine⟨by rw[List.length_set];omega,by rw[List.length_set];omega,fun c hc=>?_,(zoc (by omega)).trans j4⟩
     rcases List.mem_or_eq_of_mem_set hc with hc|rfl
     ·exact j3 c hc
     ·unfold adj;split<;>omega
    ·refine⟨rfl,rfl,rfl,rfl,rfl,congrArg (fun z=>some (O.arr (C.nums .i64 (ys.set k z)))) ?_,trivial⟩
     unfold adj;rw[if_pos (by assumption)];rfl
   ·refine⟨⟨(ys.set k (adj g (ys.getD k 0)),k+1),?_⟩,(zbd [] [0,1,2,3,4,5] ⟨by repeat first|exact trivial|refine⟨rfl,?_⟩,?_,rfl,rfl,rfl,rfl,rfl,rfl,rfl⟩),by dsimp only;rw[List.length_set];omega⟩
    ·dsimp only
     refine⟨by rw[List.length_set];omega,by rw[List.length_set];omega,fun c hc=>?_,(zoc (by omega)).trans j4⟩
     rcases List.mem_or_eq_of_mem_set hc with hc|rfl
     ·exact j3 c hc
     ·unfold adj;split<;>omega
    ·refine⟨rfl,rfl,rfl,rfl,rfl,congrArg (fun z=>some (O.arr (C.nums .i64 (ys.set k z)))) ?_,trivial⟩
     unfold adj;rw[if_neg (by assumption)]
     show ys.getD k 0-0=_;omega
   ·refine⟨⟨i+1,?_⟩,(zbd [] [0,1,2,3] ⟨by repeat first|exact trivial|refine⟨rfl,?_⟩,?_,rfl,rfl,rfl,rfl,rfl,rfl,rfl⟩),by dsimp only;omega⟩;(try dsimp only)
    ·omega
    ·refine⟨rfl,rfl,rfl,congrArg (fun z=>some (O.arr (C.pgs z))) ?_,trivial⟩
     rw[z0k (by omega) (by omega),List.map_append]
     rw[List.take_of_length_le (by omega),List.drop_of_length_le (by omega),List.map_nil,List.append_nil]at j4
     rw[j4];rfl
  ·rw[List.take_of_length_le (by omega)]
   rw[show(ps.eraseIdx g.toNat).map (ziu g)=Z from hZ]
   exact(zu [] [3])
end Go.VL
