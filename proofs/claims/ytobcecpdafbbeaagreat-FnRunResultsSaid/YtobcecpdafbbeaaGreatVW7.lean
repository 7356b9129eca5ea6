/- V-logic: TrKc Gr TrPa -/
import Derived.Test.YtobcecpdafbbeaaGreatVW6
import Derived.Test.YtobcecpdafbbeaaGreatVEG
import Derived.Test.YtobcecpdafbbeaaGreatVT1
import Derived.Shelf.RegionOpenPlain
import Derived.WalkKit
import Derived.Lib.Walk
import Derived.Lib.SliceRun
import Derived.Lib.AppendZerosOnto
import Derived.Test.YtobcecpdafbbeaaGreatVW3
import Derived.Test.YtobcecpdafbbeaaGreatVPE
namespace Go.VL
open Go.Proofs
set_option maxRecDepth 10000
set_option linter.unusedSimpArgs false
set_option linter.unusedVariables false
theorem z68 (root:Int) (ps:List Pg) (hp:pB ps) (hl:ps.length≤1000):zr Tryz.prog 97 0 [trV root ps] [] 1 (.agg [.c (.int .i64 root),.slc 0]) [(0,.arr (.pgs ps))]:=by
 refine spi (fn:=Tryz.f97) _ ?_
 conv=>whnf
 repeat' first
  |(refine za (by kernel_rfl) ?_;conv=>whnf)
  |(refine za (by(try simp only[wA,wL])<;>omega) ?_;conv=>whnf)
  |(refine zo ?_;conv=>whnf)
  |(refine ze ?_;conv=>whnf)
 refine zd0 (fun(i:Nat) (L:List Pg)=>i≤ps.length∧L=ps.take i++List.replicate (ps.length-i) ⟨[],[],[]⟩) (fun i L=>⟨37,3,[(2,.ptr 0 0 0 0),(3,.ptr 1 0 0 0),(14,.c (.pgs ps)),(15,.c (.int .i64 ps.length)),(16,.c (.int .i64 i))],[(0,.box [.c (.int .i64 0),.nil] [] []),(1,.box [.c (.int .i64 root),.slc 2] [] []),(2,.arr (.pgs L))]⟩) (fun i _=>ps.length-i) 0 (List.replicate ps.length ⟨[],[],[]⟩) ⟨Nat.zero_le _,rfl⟩ (fun _ _=>Nat.zero_le _) (ydn [] [1,9,7]) (fun i L hi=>?_)
 obtain⟨hi,hL⟩:=hi
 have k1:=hp.keys i
 have k2:=hp.kids i
 have k3:=hp.vals i
 dsimp only[zb,Int.toNat_natCast]at k1 k2 k3
 have hLl:=congrArg List.length hL
 rw[List.length_append,List.length_take,List.length_replicate]at hLl
 by_cases c:i<ps.length
 ·have c1:=z6m (ps.getD i ⟨[],[],[]⟩).keys k1
  have c2:=z6m (ps.getD i ⟨[],[],[]⟩).kids k2
  have c3:=z6m (ps.getD i ⟨[],[],[]⟩).vals k3
  conv=>whnf
  repeat' first
   |(refine za (by kernel_rfl) ?_;conv=>whnf)
   |(refine zn ?_ ?_;(focus ((try simp only[qA])<;>(try simp only[wA])<;>omega));conv=>whnf)
   |(refine za (by(try simp only[wA,wL])<;>omega) ?_;conv=>whnf)
   |(refine zg (by(try simp only[wA,wL])<;>omega) (by(try simp only[wA,wL])<;>omega) ?_;conv=>whnf)
   |(refine zw (c1) rfl rfl ?_;conv=>whnf)
   |(refine zw (c2) rfl rfl ?_;conv=>whnf)
   |(refine zw (c3) rfl rfl ?_;conv=>whnf)
   |(refine ze ?_;conv=>whnf)
  refine⟨⟨(i+1,L.set i (ps.getD i ⟨[],[],[]⟩)),by dsimp only;omega,?_⟩,(ydn [] [0,1,2]),by dsimp only;omega⟩
  show L.set i _=_
  rw[hL,zog _ _ c (by rw[List.length_take];omega),zat ⟨[],[],[]⟩ c]
 ·rw[List.take_of_length_le (by omega),show ps.length-i=0 by omega,List.replicate_zero,List.append_nil]at hL
  subst hL
  conv=>whnf
  repeat' (refine zm ?_ ?_;(focus ((try simp only[qA])<;>(try simp only[wA])<;>omega));conv=>whnf)
  exact(zu [] [2])
theorem yb8 {root:Int} {ps:List Pg} {x:Pr} (h1:vTree root ps=true) (h2:zdb [x]=true) {R:Int×List Pg} (hR:zer root ps (htF root ps) x=R):zqc root ps x=if vTree R.1 R.2=true then some R else none:=by
 subst hR
 unfold zqc
 by_cases c:vTree (zer root ps (htF root ps) x).1 (zer root ps (htF root ps) x).2=true
 ·rw[if_pos ⟨h1,h2,c⟩,if_pos c]
 ·rw[if_neg (fun q=>c q.2.2),if_neg c]
set_option maxHeartbeats 4000000 in
theorem ya9 (root:Int) (ps:List Pg) (x:Pr) (hp:pB ps) (g1:vTree root ps=true) (g2:zdb [x]=true):zr Tryz.prog 69 0 [trV root ps,prV x] [] 0 (.tup (unR (zqc root ps x))) []:=by
 have V:=za0 g1
 have v:=V.v0
 have hb:=zsq.1 g2
 have h0:=hb.1.1
 have h9:=hb.1.2
 have hv:=hb.2
 have l16:=V.l16
 have h3:=V.h3
 obtain⟨d,hd⟩:∃d,htF root ps=d+1:=⟨htF root ps-1,by have:=V.h1;omega⟩
 rw[hd]at v h3
 have hvt:=zbi root ps hp
 have hip:=z8s x
 have hpt:=zdn (zjo root x.key ps hp g1) rfl
 change zr _ _ _ _ _ _ (.c (.nums .i64 (ptF ps x.key (htF root ps) root))) _ at hpt
 have hct:=z68 root ps hp (by omega)
 rw[g1]at hvt
 rw[g2]at hip
 rw[hd]at hpt
 have ha:=v.at h0 h9
 have hPl:(ptF ps x.key (d+1) root).length=d+1:=zg1
 have hon:=fun i (hi:i<d+1)=>z21 hv ha hi
 have hst:=fun i (hi:i<d+1)=>zz1 hv ha hi
 have hup:=fun i (hi:i+1<d+1)=>zwd (ps:=ps) (x:=x) (root:=root) hi
 have hab:=fun i (hi:i+1<d+1)=>zpt hv ha hi
 have hkid:=fun i (hi:i+1<d+1)=>z0y (ps:=ps) (key:=x.key) ha hi
 have hmo:=fun i (hi:i<d+1)=>yaa (ps:=ps) (x:=x) (root:=root) hi
 have hpi:∀i,i+1<d+1→(zbb ps x (d+1-i) ((ptF ps x.key (d+1) root).getD i 0)).length≤16→zl3 (zb (zbb ps x (d+1-i) ((ptF ps x.key (d+1) root).getD i 0)) ((ptF ps x.key (d+1) root).getD i 0))=true:=fun i hi hl=>by
  obtain⟨e,he⟩:∃e,d+1-i=e+2:=⟨d-1-i,by omega⟩
  have hai:=zjg ha (show i<d+1 by omega)
  rw[he]at hai hl
  have:=ybg hv hai hl
  rw[←he]at this
  exact this
 have hp0:(ptF ps x.key (d+1) root).getD 0 0=root:=zfy
 have hpd:=zjg ha (show d<d+1 by omega)
 have hR1:zbb ps x (d+1-d) ((ptF ps x.key (d+1) root).getD d 0)=ps.set ((ptF ps x.key (d+1) root).getD d 0).toNat (zae (zbc (zab (zb ps ((ptF ps x.key (d+1) root).getD d 0))) x)):=by rw[show d+1-d=1 by omega];rfl
 obtain⟨R,hR⟩:∃R:Int×List Pg,zer root ps (d+1) x=R:=⟨_,rfl⟩
 have hM:=yb8 g1 g2 (R:=R) (by rw[hd];exact hR)
 have hok:=zvr v hv h0 h9
 rw[hR]at hst hok
 have hRl:R.2.length≤100:=by have q1:=hok.len;have q2:=hok.le;split at q1<;>omega
 have hvR:=zbi R.1 R.2 (hok.vt.pB (by omega))
 have hmo:∀i,i<d+1→4<(zb (zbb ps x (d+1-i) ((ptF ps x.key (d+1) root).getD i 0)) ((ptF ps x.key (d+1) root).getD i 0)).keys.length→(zbb ps x (d+1-i) ((ptF ps x.key (d+1) root).getD i 0)).length+1≤R.2.length:=fun i hi ho=>by rw[←hR];exact hmo i hi ho
 have hbig:16<R.2.length→vTree R.1 R.2=false:=fun q=>by
  cases c:vTree R.1 R.2 with
  |false=>rfl
  |true=>have:=(za0 c).l16;omega
 clear hok
 rw[hM]
 have hRt:4<(zb (zbb ps x (d+1) root) root).keys.length→R=(((zbb ps x (d+1) root).length:Int)+1,(zbb ps x (d+1) root).set root.toNat (zam (zb (zbb ps x (d+1) root) root)).1++[(zam (zb (zbb ps x (d+1) root) root)).2.2,⟨[(zam (zb (zbb ps x (d+1) root) root)).2.1],[root,((zbb ps x (d+1) root).length:Int)],[]⟩]):=fun hc=>by
  rw[←hR];unfold zer;rw[if_pos hc]
 have hinr:∀i,0≤i→i<(ps.length:Int)→(zb ps i).kids≠[]→zl3 (zb ps i)=true:=fun i i0 i1 hk=>(zl6 g1 i0 i1).inr l16 hk
 clear hR hM
 generalize vTree R.1 R.2=VR at *
 generalize ptF ps x.key (d+1) root=P at *
 rw[show d+1-d=1 by omega]at hpd hR1
 have hD:((P.length:Int)-1).toNat=d:=by omega
 rw[←hD]at hpd hR1
 obtain⟨_,_,_,hpf,_⟩:=hpd
 have hlk:LeafOk (zb ps (P.getD ((P.length:Int)-1).toNat 0)) _ _:=hpf.2.2.2.2
 have b0:=hpf.1
 have b1:=hpf.2.1
 have hln:=hlk.len
 have k1:=hpf.2.2.2.1
 have hrl:=zby _ hln
 have hil:=zok (x:=x) (l:=zab (zb ps (P.getD ((P.length:Int)-1).toNat 0))) (by rw[zdi hln];exact hlk.asc)
 have hil2:(zbc (zab (zb ps (P.getD ((P.length:Int)-1).toNat 0))) x).length≤5:=by rw[hil,hrl];split<;>omega
 have hlr:=(zl6 g1 b0 b1).row hlk.kids
 have hrk:=(zln.1 hlr.1).1
 have hpol:=zdn (zmb (zb ps (P.getD ((P.length:Int)-1).toNat 0)) hln (by omega)) rfl
 change zr _ _ _ _ _ _ (.c (.prs (zab (zb ps (P.getD ((P.length:Int)-1).toNat 0))))) _ at hpol
 have hpir:=zdn (z9g (zab (zb ps (P.getD ((P.length:Int)-1).toNat 0))) x (by omega) (zde.2 ⟨hrk.asc,fun k hk=>by obtain⟨y,hy,rfl⟩:=List.mem_map.1 hk;exact hrk.rng y hy⟩)) rfl
 change zr _ _ _ _ _ _ (.c (.prs (zbc (zab (zb ps (P.getD ((P.length:Int)-1).toNat 0))) x))) _ at hpir
 have hlf:=z6t (zbc (zab (zb ps (P.getD ((P.length:Int)-1).toNat 0))) x) (by omega)
 clear hil hpf hlk hlr hrk
 dsimp only[zb]at hln k1 hrl hil2 hR1 hpol hpir hlf
 have k4:=hp.len
 refine spi (fn:=Tryz.f69) _ ?_
 conv=>whnf
 repeat' first
  |(refine za (by kernel_rfl) ?_;conv=>whnf)
  |(refine zm ?_ ?_;(focus (first|rfl|exact bne_self_eq_false _));conv=>whnf)
  |(refine za (by(try simp only[wA,wL])<;>omega) ?_;conv=>whnf)
  |(refine zg (by(try simp only[wA,wL])<;>omega) (by(try simp only[wA,wL])<;>omega) ?_;conv=>whnf)
  |(refine zp (hvt) rfl rfl ?_;conv=>whnf)
  |(refine zp (hip) rfl rfl ?_;conv=>whnf)
  |(refine zp (hpt) rfl rfl ?_;conv=>whnf)
  |(refine z8 (hct) rfl ?_;conv=>whnf)
  |(refine zw (hpol) rfl rfl ?_;conv=>whnf)
  |(refine zw (hpir) rfl rfl ?_;conv=>whnf)
  |(refine zw (hlf) rfl rfl ?_;conv=>whnf)
  |(refine ze ?_;conv=>whnf)
 refine zd0 (fun(qs:List Pg) (z:Int)=>0≤z∧z<d+1∧qs=zbb ps x (d+1-z.toNat) (P.getD z.toNat 0))
  (fun qs z=>⟨154,3,[(4,.ptr 0 0 0 0),(6,.c (.nums .i64 P)),(7,.ptr 1 0 0 0),(9,.c (.int .i64 z))],[(0,.box [.c (.int .i64 0),.nil] [] []),(1,.box [.c (.int .i64 root),.slc 2] [] []),(2,.arr (.pgs qs))]⟩) (fun qs z=>z.toNat)
  (ps.set (P.getD ((P.length:Int)-1).toNat 0).toNat (zae (zbc (zab (ps.getD (P.getD ((P.length:Int)-1).toNat 0).toNat ⟨[],[],[]⟩)) x))) ((P.length:Int)-1) ⟨by omega,by omega,by rw[hD]at hR1⊢;rw[show d+1-d=1 by omega];exact hR1.symm⟩ (fun _ _=>Nat.zero_le _) (ydn [] [2,4,3]) (fun qs z hi=>?_)
 obtain⟨hz0,hz1,hq⟩:=hi
 clear b0 b1 hln k1 hrl hil2 hR1 hpt hpol hpir hlf hct hvt hip
 obtain⟨lo,hi',q0,q9,qf,q5,qa0,qa1,qpl,qpu⟩:=hon z.toNat (by omega)
 have hst':=hst z.toNat (by omega)
 have hmo':=hmo z.toNat (by omega)
 rw[←hq]at hst' hmo' qf q5 qa1 qpl qpu
 dsimp only[zb]at hst' q5
 clear hon hst hmo
 obtain⟨pg,hpg⟩:∃pg,qs.getD (P.getD z.toNat 0).toNat ⟨[],[],[]⟩=pg:=⟨_,rfl⟩
 have hpg':zb qs (P.getD z.toNat 0)=pg:=hpg
 rw[hpg]at hst' q5
 rw[hpg']at qf hmo'
 by_cases hov:4<pg.keys.length
 ·have hmo':=hmo' hov
  clear hst'
  obtain⟨sp,hsp⟩:∃sp,zam pg=sp:=⟨_,rfl⟩
  obtain⟨pa,kx,pb⟩:=sp
  have hfin:∀i:Nat,z.toNat=i+1→zbb ps x (d+1-i) (P.getD i 0)=(qs.set (P.getD z.toNat 0).toNat pa++([]++[pb])).set (P.getD i 0).toNat (zfu (zb ps (P.getD i 0)) (plN (zb ps (P.getD i 0)).kids (P.getD z.toNat 0)) kx qs.length):=fun i hi=>by
   have e1:=hup i (by omega)
   obtain⟨e2,e3,e4,e5⟩:=hab i (by omega)
   rw[←hi,←hq]at e1 e2
   rw[e1]
   unfold zmw
   rw[hpg',if_pos hov,hsp,e2];rfl
  have hR0:z=0→R=((qs.length:Int)+1,qs.set (P.getD z.toNat 0).toNat pa++([]++[pb])++([]++[(⟨[]++[kx],[]++[P.getD z.toNat 0]++[(qs.length:Int)],[]⟩:Pg)])):=fun hz=>by
   subst hz
   have e:P.getD (Int.toNat 0) 0=root:=hp0
   rw[e]at hpg' hpg⊢
   rw[show d+1-Int.toNat 0=d+1 from rfl,e]at hq
   rw[hRt (by rw[←hq,hpg'];exact hov),←hq,hpg',hsp]
   refine Prod.ext rfl ?_
   simp
  have hso:=z9q pg (by omega) (by omega) (fun hk=>by
   have hL:LeafOk pg lo hi':=by
    obtain⟨e,he⟩:∃e,d+1-z.toNat=e+1:=⟨d-z.toNat,by omega⟩
    rw[he]at qf
    cases e with
    |zero=>exact qf
    |succ e=>have:=zaa.kidsLen qf;omega
   exact⟨hL.len,zln.2 ⟨hL.row.wide q0 q9,by rw[zby _ hL.len];omega⟩⟩) (fun hk=>by
   obtain⟨e,he⟩:∃e,d+1-z.toNat=e+1:=⟨d-z.toNat,by omega⟩
   rw[he]at qf
   cases e with
   |zero=>have:=LeafOk.kids qf;rw[this]at hk;exact(hk rfl).elim
   |succ e=>exact zaa.kidsLen qf)
  rw[hsp]at hso
  dsimp only at hso
  clear hRt hup hsp
  have hov2:4<(qs.getD (P.getD z.toNat 0).toNat ⟨[],[],[]⟩).keys.length:=by rw[hpg];exact hov
  rw[←hpg]at hso
  by_cases hz:z=0
  ·have hR0:=hR0 hz
   subst hR0
   dsimp only at hvR
   clear hab hfin hkid hpi
   have hin0:=z5g ⟨[]++[kx],[]++[P.getD z.toNat 0]++[(qs.length:Int)],[]⟩
   conv=>whnf
   repeat' first
    |(refine zn ?_ ?_;(focus ((try simp only[qA])<;>(try simp only[wA])<;>omega));conv=>whnf)
    |(refine zm ?_ ?_;(focus ((try simp only[qA])<;>(try simp only[wA])<;>omega));conv=>whnf)
    |(refine za (by(try simp only[wA,wL])<;>omega) ?_;conv=>whnf)
    |(refine zk (fun h=>?_) (fun h=>?_)<;>(try simp only[qA]at h)<;>(try simp only[wA]at h)<;>conv=>whnf)
    |(refine zg (by(try simp only[wA,wL])<;>omega) (by(try simp only[wA,wL])<;>omega) ?_;conv=>whnf)
    |(refine zp (hso) rfl rfl ?_;conv=>whnf)
    |(refine zal [6,7] [] (hin0) ?_;(conv=>whnf);refine⟨rfl,rfl,rfl,(by repeat first|exact trivial|refine⟨rfl,?_⟩),⟨rfl,rfl,rfl,rfl,rfl,rfl⟩,?_⟩;conv=>whnf)
    |(refine zbo (hvR) rfl rfl rfl ?_;conv=>whnf)
    |(refine zo ?_;conv=>whnf)
   all_goals ((repeat first|rw[if_pos (by assumption)]|rw[if_neg (by assumption)]|rw[if_neg (by rw[Bool.not_eq_true];assumption)]|rw[if_neg (by rw[Bool.not_eq_false];assumption)]|rw[if_pos (by omega)]|rw[if_neg (by omega)]);first|exact(zu [] [])|exact(zu [2] []))
  ·obtain⟨i,hi⟩:∃i,z.toNat=i+1:=⟨z.toNat-1,by omega⟩
   have hfin:=hfin i hi
   obtain⟨e2,e3,e4,e5⟩:=hab i (by omega)
   have hpi:=hpi i (by omega)
   clear hab hR0
   have ez:(z-1).toNat=i:=by omega
   obtain⟨up,hup'⟩:∃up,zb ps (P.getD i 0)=up:=⟨_,rfl⟩
   rw[←hi]at e2 e5
   rw[←hq]at e2
   obtain⟨f1,f2,f3,f4⟩:=hkid i (by omega)
   have hiu:=hinr _ e3 e4 (fun hc=>by rw[hc]at f2;simp at f2)
   rw[hup']at hfin e2 hiu
   have hX:(qs.set (P.getD z.toNat 0).toNat pa++([]++[pb])).getD (P.getD (z-1).toNat 0).toNat ⟨[],[],[]⟩=up:=by
    rw[ez]
    show zb (qs.set (P.getD z.toNat 0).toNat pa++[pb]) (P.getD i 0)=up
    rw[zlv e3,List.length_set,if_pos (by omega),zc9 qa0 qa1 e3,if_neg e5,e2]
   rw[hup']at f1 f2 f3 f4
   rw[←hi]at f1
   have hlt:=ztx f1
   have hpo:=z76 up (P.getD z.toNat 0) (by omega) f1
   have hak:=yar up (plN up.kids (P.getD z.toNat 0)) kx qs.length hlt hiu (by omega) (by omega) f2
   have hin:=z5g (zfu up (plN up.kids (P.getD z.toNat 0)) kx qs.length)
   rw[show pgV ⟨(zfu up (plN up.kids (P.getD z.toNat 0)) kx qs.length).keys,(zfu up (plN up.kids (P.getD z.toNat 0)) kx qs.length).kids,[]⟩=pgV (zfu up (plN up.kids (P.getD z.toNat 0)) kx qs.length)from rfl]at hin
   have hio:=zxh up
   have e3':0≤P.getD (z-1).toNat 0:=by rw[ez];exact e3
   have e4':P.getD (z-1).toNat 0<ps.length:=by rw[ez];exact e4
   have hPq:zbb ps x (d+1-i) (P.getD i 0)=(qs.set (P.getD z.toNat 0).toNat pa++([]++[pb])).set (P.getD i 0).toNat (zfu up (plN up.kids (P.getD z.toNat 0)) kx qs.length):=hfin
   have hpg2:zb ((qs.set (P.getD z.toNat 0).toNat pa++([]++[pb])).set (P.getD i 0).toNat (zfu up (plN up.kids (P.getD z.toNat 0)) kx qs.length)) (P.getD i 0)=zfu up (plN up.kids (P.getD z.toNat 0)) kx qs.length:=by
    rw[zc9 e3 (by rw[List.length_append,List.length_set];omega) e3,if_pos rfl]
   rw[hPq,hpg2]at hpi
   have hll:((qs.set (P.getD z.toNat 0).toNat pa++([]++[pb])).set (P.getD i 0).toNat (zfu up (plN up.kids (P.getD z.toNat 0)) kx qs.length)).length=qs.length+1:=by
    rw[List.length_set,List.length_append,List.length_set];rfl
   rw[hll]at hpi
   by_cases h16:qs.length+1≤16
   ·rw[if_pos (hpi h16)]at hak
    clear hpi hmo' hbig hvR hll hpg2 hinr hkid hiu
    rw[←hX]at hpo hio hak
    rw[hX]at hak
    generalize zfu up (plN up.kids (P.getD z.toNat 0)) kx qs.length=pu at *
    rw[←hX]at hak
    conv=>whnf
    repeat' first
     |(refine za (by kernel_rfl) ?_;conv=>whnf)
     |(refine zn ?_ ?_;(focus ((try simp only[qA])<;>(try simp only[wA])<;>omega));conv=>whnf)
     |(refine zm ?_ ?_;(focus ((try simp only[qA])<;>(try simp only[wA])<;>omega));conv=>whnf)
     |(refine za (by(try simp only[wA,wL])<;>omega) ?_;conv=>whnf)
     |(refine zg (by(try simp only[wA,wL])<;>omega) (by(try simp only[wA,wL])<;>omega) ?_;conv=>whnf)
     |(refine zp (hso) rfl rfl ?_;conv=>whnf)
     |(refine zp (hpo) rfl rfl ?_;conv=>whnf)
     |(refine zp (hio) rfl rfl ?_;conv=>whnf)
     |(refine zp (hak) rfl rfl ?_;conv=>whnf)
     |(refine zw (hin) rfl rfl ?_;conv=>whnf)
     |(refine zo ?_;conv=>whnf)
     |(refine ze ?_;conv=>whnf)
    refine⟨⟨((qs.set (P.getD z.toNat 0).toNat pa++([]++[pb])).set (P.getD (z-1).toNat 0).toNat pu,z-1),?_⟩,(ydn [] [0,1,2]),by dsimp only;omega⟩
    dsimp only
    refine⟨by omega,by omega,?_⟩
    rw[ez];exact hfin.symm
   ·have hno:zl3 (zfu up (plN up.kids (P.getD z.toNat 0)) kx qs.length)=false:=by
     cases c:zl3 (zfu up (plN up.kids (P.getD z.toNat 0)) kx qs.length)with
     |false=>rfl
     |true =>
      exfalso
      unfold zl3 at c
      rw[Bool.and_eq_true,Bool.and_eq_true,List.all_eq_true]at c
      have:=c.1.2 (qs.length:Int) (by unfold zfu;simp)
      rw[decide_eq_true_iff]at this
      omega
    rw[if_neg (by rw[hno];decide)]at hak
    have hRf:=hbig (by omega)
    subst hRf
    clear hpi hmo' hbig hvR hll hpg2 hinr hkid hiu hfin hPq hin
    rw[←hX]at hpo hio hak
    rw[hX]at hak
    rw[←hX]at hak
    conv=>whnf
    repeat' first
     |(refine zn ?_ ?_;(focus ((try simp only[qA])<;>(try simp only[wA])<;>omega));conv=>whnf)
     |(refine zm ?_ ?_;(focus ((try simp only[qA])<;>(try simp only[wA])<;>omega));conv=>whnf)
     |(refine za (by(try simp only[wA,wL])<;>omega) ?_;conv=>whnf)
     |(refine zg (by(try simp only[wA,wL])<;>omega) (by(try simp only[wA,wL])<;>omega) ?_;conv=>whnf)
     |(refine zp (hso) rfl rfl ?_;conv=>whnf)
     |(refine zp (hpo) rfl rfl ?_;conv=>whnf)
     |(refine zp (hio) rfl rfl ?_;conv=>whnf)
     |(refine zp (hak) rfl rfl ?_;conv=>whnf)
     |(refine zo ?_;conv=>whnf)
    rw[if_neg (by decide)]
    exact(zu [] [])
 ·have hov2:¬4<(qs.getD (P.getD z.toNat 0).toNat ⟨[],[],[]⟩).keys.length:=by rw[hpg];exact hov
  have hRR:=hst' hov
  subst hRR
  dsimp only at hvR
  conv=>whnf
  repeat' first
   |(refine zn ?_ ?_;(focus ((try simp only[qA])<;>(try simp only[wA])<;>omega));conv=>whnf)
   |(refine za (by(try simp only[wA,wL])<;>omega) ?_;conv=>whnf)
   |(refine zk (fun h=>?_) (fun h=>?_)<;>(try simp only[qA]at h)<;>(try simp only[wA]at h)<;>conv=>whnf)
   |(refine zbo (hvR) rfl rfl rfl ?_;conv=>whnf)
  all_goals ((repeat first|rw[if_pos (by assumption)]|rw[if_neg (by assumption)]|rw[if_neg (by rw[Bool.not_eq_true];assumption)]|rw[if_neg (by rw[Bool.not_eq_false];assumption)]|rw[if_pos (by omega)]|rw[if_neg (by omega)]);first|exact(zu [] [])|exact(zu [2] []))
theorem z60 (root:Int) (ps:List Pg) (x:Pr) (hp:pB ps):zr Tryz.prog 69 0 [trV root ps,prV x] [] 0 (.tup (unR (zqc root ps x))) []:=by
 by_cases g:vTree root ps=true∧zdb [x]=true
 ·exact ya9 root ps x hp g.1 g.2
 ·have e:zqc root ps x=none:=by unfold zqc;rw[if_neg fun q=>g ⟨q.1,q.2.1⟩]
  rw[e]
  have hvt:=zbi root ps hp
  have hip:=z8s x
  cases g1:vTree root ps with
  |false =>
   rw[g1]at hvt
   refine spi (fn:=Tryz.f69) _ ?_
   conv=>whnf
   repeat' first
    |(refine zn ?_ ?_;(focus (first|rfl|exact beq_self_eq_true _));conv=>whnf)
    |(refine zp (hvt) rfl rfl ?_;conv=>whnf)
   exact(zu [] [])
  |true =>
   have g2:zdb [x]=false:=by
    cases q:zdb [x]with
    |false=>rfl
    |true=>exact(g ⟨g1,q⟩).elim
   rw[g1]at hvt
   rw[g2]at hip
   refine spi (fn:=Tryz.f69) _ ?_
   conv=>whnf
   repeat' first
    |(refine zn ?_ ?_;(focus (first|rfl|exact beq_self_eq_true _));conv=>whnf)
    |(refine zm ?_ ?_;(focus (first|rfl|exact bne_self_eq_false _));conv=>whnf)
    |(refine zp (hvt) rfl rfl ?_;conv=>whnf)
    |(refine zp (hip) rfl rfl ?_;conv=>whnf)
   exact(zu [] [])
theorem yab (root:Int) (ps:List Pg) (x:Pr) (hp:pB ps):zr Tryz.prog 186 0 [trV root ps,prV x] [] 0 (.tup (unR (zqc root ps x))) []:=by
 cases g:zqc root ps x with
 |none=>exact zzh root ps x hp g
 |some r=>exact zdn (zx7 root ps x hp r g) rfl
end Go.VL
namespace Go.Proofs
set_option linter.unusedVariables false
set_option linter.unusedSimpArgs false
open Go.RowKit Go.Lib
end Go.Proofs
namespace Go.VL
set_option linter.unusedVariables false
set_option linter.unusedSimpArgs false
open Go.Proofs
end Go.VL
namespace Go.Proofs
set_option linter.unusedVariables false
set_option linter.unusedSimpArgs false
open Go.RowKit Go.Lib
end Go.Proofs
namespace Go.VL
set_option linter.unusedVariables false
set_option linter.unusedSimpArgs false
open Go.Proofs
end Go.VL
namespace Go.VL
open Go.Proofs
set_option maxRecDepth 10000
set_option linter.unusedSimpArgs false
set_option linter.unusedVariables false
structure pgB (p:Pg):Prop where
 keys:p.keys.length≤4294967296
 kids:p.kids.length≤4294967296
 vals:p.vals.length≤4294967296
end Go.VL
