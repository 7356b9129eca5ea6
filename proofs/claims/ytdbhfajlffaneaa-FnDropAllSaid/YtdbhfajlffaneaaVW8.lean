/- V-logic: TrXoa TrXo TrXs TrXti -/
import Derived.Test.YtdbhfajlffaneaaVW7
import Derived.Test.YtdbhfajlffaneaaVW3
import Derived.Test.YtdbhfajlffaneaaVT6
import Derived.Test.YtdbhfajlffaneaaVW6
namespace Go.VL
open Go.Proofs
set_option maxRecDepth 10000
set_option linter.unusedSimpArgs false
set_option linter.unusedVariables false
theorem yfb (G H:List Int):H.foldl (fun l g=>l.set g.toNat true) (z6j G)=z6j (G++H):=by
 unfold z6j;rw[List.foldl_append]
set_option maxHeartbeats 8000000 in
theorem yes (root key:Int) (ps:List Pg) (hp:pB ps) (d:Nat) (v:VT root ps (d+1)) (hvT:vTree root ps=true) (hht:htF root ps=d+1) (hk:key∈(prF ps (d+1) (zb ps root)).map Pr.key) :
  zr Try.prog 22 0 [trV root ps,.c (.int .i64 key)] [] 1 (.tup [.agg [.c (.int .i64 (zf4 root ps (d+1) key).1),.slc 0],.c (.int .i64 (zao ps key (d+1) root).2.length),.tt]) [(0,.arr (.pgs (zf4 root ps (d+1) key).2))]:=by
 have h3:=v.h3
 have l16:=v.l16
 have hrt:=v.v0.pos
 obtain⟨hb,ha⟩:=v.dAt hk
 have hbd:=v.v0.bd (by omega)
 have hvt:=zbi root ps hp
 rw[hvT]at hvt
 have hpt:=zdn (zjo root key ps hp hvT) rfl
 change zr _ _ _ _ _ _ (.c (.nums .i64 (ptF ps key (htF root ps) root))) _ at hpt
 rw[hht]at hpt
 have hct:=yct root ps hp (by omega)
 have hPl:(ptF ps key (d+1) root).length=d+1:=zg1
 have hlev:=fun i (hi:i+1<d+1)=>zm2 ha hi
 have hro:=fun i (hi:i+1<d+1) f hf=>yd4 ha hi (f:=f) hf
 have hup:=fun i (hi:i+1<d+1) R=>ztc (ps:=ps) (key:=key) (root:=root) (R:=R) hi
 have hst:=fun i (hi:i<d+1)=>zxl ha hi
 have hbd2:=fun i=>hbd.drop (key:=key) (d+1-i) ((ptF ps key (d+1) root).getD i 0)
 have hok:DropOk ps key (d+1) _ root 0 99 (zao ps key (d+1) root):=zoj v.fit (fun hd=>by rw[if_neg (by omega)];exact Nat.le_refl _) v.nd hb.1 hb.2 hk
 have hcu:=hok.cuts v.nd (fun x hx=>v.fit.wkLt x hx)
 have hkid:=fun i h0 h1 hn=>ydc (i:=i) v.v0 hok h0 h1 hn
 have hp0:(ptF ps key (d+1) root).getD 0 0=root:=zfy
 have hpd:=zqw ha (show d<d+1 by omega)
 have hR1:zao ps key (d+1-d) ((ptF ps key (d+1) root).getD d 0)=(ps.set ((ptF ps key (d+1) root).getD d 0).toNat (zae (zbq (zab (zb ps ((ptF ps key (d+1) root).getD d 0))) key)),[]):=by rw[show d+1-d=1 by omega];rfl
 obtain⟨Z,hZ⟩:∃Z,zf4 root ps (d+1) key=Z:=⟨_,rfl⟩
 obtain⟨W,hW⟩:∃W,zao ps key (d+1) root=W:=⟨_,rfl⟩
 rw[hZ,hW]
 unfold zf4 at hZ
 rw[hW]at hZ hok hcu hkid
 rw[hW]at hst
 generalize ptF ps key (d+1) root=P at *
 rw[show d+1-d=1 by omega]at hpd hR1
 have hD:((P.length:Int)-1).toNat=d:=by omega
 rw[←hD]at hpd hR1
 obtain⟨_,_,_,hpf,_,_,_,_,hkr,hl0,hl9⟩:=hpd
 have hlk:LeafOk (zb ps (P.getD ((P.length:Int)-1).toNat 0)) _ _:=hpf.2.2.2.2
 have b0:=hpf.1
 have b1:=hpf.2.1
 have hln:=hlk.len
 have k1:=hpf.2.2.2.1
 have hrl:=zby _ hln
 have hpol:=zdn (zmb (zb ps (P.getD ((P.length:Int)-1).toNat 0)) hln (by omega)) rfl
 change zr _ _ _ _ _ _ (.c (.prs (zab (zb ps (P.getD ((P.length:Int)-1).toNat 0))))) _ at hpol
 have hdp:=zdn (yco (zab (zb ps (P.getD ((P.length:Int)-1).toNat 0))) key (by omega) (zln.2 ⟨hlk.row.wide hl0 hl9,by omega⟩) hkr) rfl
 change zr _ _ _ _ _ _ (.tup [.c (.prs (zbq (zab (zb ps (P.getD ((P.length:Int)-1).toNat 0))) key)),.tt]) _ at hdp
 have hlo:=ydk (zbq (zab (zb ps (P.getD ((P.length:Int)-1).toNat 0))) key) (by have:=zqi key (zab (zb ps (P.getD ((P.length:Int)-1).toNat 0)));omega)
 dsimp only[zb]at hln k1 hrl hpol hdp hlo hR1
 obtain⟨row,hrow⟩:∃row,zbq (zab (ps.getD (P.getD ((P.length:Int)-1).toNat 0).toNat ⟨[],[],[]⟩)) key=row:=⟨_,rfl⟩
 rw[hrow]at hdp hlo hR1
 have k4:=hp.len
 refine spi (fn:=Try.f22) _ ?_
 conv=>whnf
 repeat' first
  |(refine zm ?_ ?_;(focus (first|rfl|exact bne_self_eq_false _));conv=>whnf)
  |(refine za (by(try simp only[wA,wL])<;>omega) ?_;conv=>whnf)
  |(refine zg (by(try simp only[wA,wL])<;>omega) (by(try simp only[wA,wL])<;>omega) ?_;conv=>whnf)
  |(refine zp (hvt) rfl rfl ?_;conv=>whnf)
  |(refine zp (hpt) rfl rfl ?_;conv=>whnf)
  |(refine zp (hpol) rfl rfl ?_;conv=>whnf)
  |(refine zp (hdp) rfl rfl ?_;conv=>whnf)
  |(refine zbe (hct) rfl rfl rfl rfl ?_;conv=>whnf)
 refine ze9 [.kp [2,4,5,6,7,8,9,11],.bx 3 1 16,.pin 2] ?_
 conv=>whnf
 repeat' first
  |(refine za (by kernel_rfl) ?_;conv=>whnf)
  |(refine za (by(try simp only[wA,wL])<;>omega) ?_;conv=>whnf)
  |(refine zlg [.arr (.nums .i64 (row.map Pr.key)),.arr (.nums .i64 (row.map Pr.value))] (hlo) rfl rfl rfl rfl rfl rfl rfl ?_;conv=>whnf)
 conv=>arg 2;simp only[Nat.reduceAdd,C.stride]
 refine ze9 [.kp [2,4,5,6,7,11],.cl 2] ?_
 conv=>whnf
 repeat' (refine zg (by(try simp only[wA,wL])<;>omega) (by(try simp only[wA,wL])<;>omega) ?_;conv=>whnf)
 refine zk5 (fun(qs:List Pg) (G:List Int) (z:Int)=>0≤z∧z<d+1∧zao ps key (d+1-z.toNat) (P.getD z.toNat 0)=(qs,G)∧G.length+z.toNat≤d)
  (fun qs G z=>⟨116,4,[(2,.ptr 0 0 0 0),(4,.ptr 1 0 0 0),(7,.c (.nums .i64 P)),(11,.ptr 3 0 0 0),(12,.c (.int .i64 z))],[(0,.box [.c (.int .i64 root),.c (.pgs ps)] [] []),(1,.box [.c (.int .i64 0),.nil] [] []),(2,.deep true 0 (.pgs qs) []),(3,.box [.slc 2] (z6j G) [.c (.int .i64 (G.length:Nat))])]⟩) (fun qs G z=>z.toNat)
  (ps.set (P.getD ((P.length:Int)-1).toNat 0).toNat (zae row)) [] ((P.length:Int)-1) ⟨by omega,by omega,by rw[hD]at hR1⊢;rw[show d+1-d=1 by omega];exact hR1,by simp;omega⟩ (fun _ _ _=>Nat.zero_le _) (ydn [] [0,1,2,3]) (fun qs G z hi=>?_)
 obtain⟨hz0,hz1,hq,hGz⟩:=hi
 clear hln k1 hrl hpol hdp hlo hpf b0 b1 hlk hkr hR1
 have hst':=hst z.toNat (by omega)
 rw[hq]at hst'
 have hbq:=hbd2 z.toNat
 rw[hq]at hbq
 clear hst hbd2
 have hgl:=hok.gl
 have hrng:0<z→0≤P.getD z.toNat 0∧P.getD z.toNat 0<qs.length:=fun hz=>by
  obtain⟨i,hi⟩:∃i,z.toNat=i+1:=⟨z.toNat-1,by omega⟩
  have L:=(hlev i (by omega)).2
  rw[←hi,hq]at L
  have:=L.pre.c0
  exact this
 have hwl:=hok.len
 have hql:qs.length=ps.length:=by
  by_cases hz:z=0
  ·have h1:=hst' (by omega)
   rw[h1]at hwl;exact hwl
  ·obtain⟨i,hi⟩:∃i,z.toNat=i+1:=⟨z.toNat-1,by omega⟩
   have L:=(hlev i (by omega)).2
   rw[←hi,hq]at L
   exact L.len
 dsimp only at hbq
 have hb47:Bd 47 qs:=hbq.mono ((show ∀e,e≤3→bdN 5 e≤47 by decide) _ (by omega))
 have hpq:=hb47.pB (by decide) (by omega)
 have hkq:=hpq.keys
 have hkk:=hpq.kids
 have hzr:0≤P.getD z.toNat 0∧P.getD z.toNat 0<qs.length:=by
  by_cases hz:z=0
  ·subst hz
   have e:P.getD (Int.toNat 0) 0=root:=hp0
   rw[e];omega
  ·exact hrng (by omega)
 obtain⟨pn,hpn⟩:∃pn:Nat,P.getD z.toNat 0=pn:=⟨(P.getD z.toNat 0).toNat,by omega⟩
 have hpnl:pn<qs.length:=by omega
 have k1:=hkq pn
 dsimp only[zb,Int.toNat_natCast]at k1
 by_cases hx:z=0∨¬(qs.getD pn ⟨[],[],[]⟩).keys.length<2
 ·have hst':=hst' (fun h0=>by
   rcases hx with hx|hx
   ·omega
   ·rw[hpn];exact hx)
  subst hst'
  have hrl:root.toNat<qs.length:=by omega
  have k5:=hkq root
  have k6:=hkk root
  have hrk:(qs.getD root.toNat ⟨[],[],[]⟩).kids.length=0∨(qs.getD root.toNat ⟨[],[],[]⟩).kids.length=(qs.getD root.toNat ⟨[],[],[]⟩).keys.length+1:=by
   have hf:=hok.fit.2.2.2.2
   match d,hf with
   |0,hf=>left;have:=LeafOk.kids hf;unfold zb at this;rw[this];rfl
   |d+1,hf=>right;exact zaa.kidsLen hf
  dsimp only[zb]at k5 k6 hcu hZ
  have hG16:∀x∈G,0≤x∧x<qs.length:=fun x hx=>by have:=hcu.1.rng x (List.mem_cons_of_mem _ hx);exact this
  have fin:∀(H:List Int) (rt:Int) (g:Nat→Bool),z6j H=tab g→(∀x∈H,0≤x∧x<qs.length)→H.Nodup→(∀x∈G,x∈H)→0≤rt→rt<qs.length→zmq id H (rt,qs)=Z →
    zr Try.prog 45 2 [.ptr 0 0 0 0,.c (.int .i64 rt)] (mdH qs (tab g) (G.length:Nat)) 3 (.agg [.c (.int .i64 Z.1),.slc 2]) [(0,.box [.slc 1] (tab g) [.c (.int .i64 (G.length:Nat))]),(1,.deep true qs.length (.pgs qs) []),(2,.arr (.pgs Z.2))]:=by
   intro H rt g e1 e2 e3 e4 e5 e6 e7
   have e8:=yfg (G:=H) fun x hx=>by have:=e2 x hx;omega
   rw[e1]at e8
   rw[yf1 e3 e2,←e8]at e7
   have h:=yeu qs (tab g) rfl (G.length:Nat) rt hpq (by omega) e5 e6 fun i hi hf=>by
    refine hkid i (by omega) (show(i:Int)<(qs.length:Nat) by omega) fun hm=>?_
    have e9:=yer (gn:=fun _=>false) (e4 _ hm)
    rw[←e8,Int.toNat_natCast]at e9
    unfold gnB at e9
    rw[hf]at e9;cases e9
   rw[←e7]
   exact h
  obtain⟨g0,hg0⟩:∃g0,z6j G=tab g0:=⟨_,z3k (yc1 G)⟩
  obtain⟨g2,hg2⟩:∃g2,(z6j G).set root.toNat true=tab g2:=⟨_,z3k (by rw[List.length_set];exact yc1 G)⟩
  have hgb:=yc1 G
  have fin0:=fun q=>fin G root g0 hg0 hG16 (List.nodup_cons.1 hcu.1.nd).2 (fun _ h=>h) hrt.1 (by omega) q
  have fin2:=fun h1 q=>fin (G++[root]) ((qs.getD root.toNat ⟨[],[],[]⟩).kids.getD 0 0) g2 (by rw[ycy];exact hg2) (fun x hx=>(hcu.2 h1).rng x (List.mem_cons_of_mem _ hx)) (List.nodup_cons.1 (hcu.2 h1).nd).2 (fun _ h=>List.mem_append_left _ h) ((hcu.2 h1).rng _ List.mem_cons_self).1 ((hcu.2 h1).rng _ List.mem_cons_self).2 q
  clear fin
  conv=>whnf
  refine ze9 [.op 2 pn] (yd2 rfl ⟨Nat.zero_le _,hpnl⟩ ?_)
  conv=>whnf
  repeat' first
   |(refine za (by kernel_rfl) ?_;conv=>whnf)
   |(refine zm ?_ ?_;(focus ((try simp only[qA])<;>(try simp only[wA])<;>omega));conv=>whnf)
   |(refine za (by(try simp only[wA,wL])<;>omega) ?_;conv=>whnf)
   |(refine zk (fun h=>?_) (fun h=>?_)<;>(try simp only[qA]at h)<;>(try simp only[wA]at h)<;>conv=>whnf)
   |(refine zl (by first|rfl|omega) ?_;conv=>whnf)
  all_goals
   refine ze9 [.kp [2,4,7,11],.cl 2] ?_
   conv=>whnf
   skip
   conv=>arg 2;simp only[ydy,Nat.reduceAdd,C.stride]
   refine ze9 [.op 2 root.toNat] (yd2 rfl ⟨Nat.zero_le _,hrl⟩ ?_)
   conv=>whnf
   by_cases h1:(qs.getD root.toNat ⟨[],[],[]⟩).kids.length=1
   ·rw[if_pos h1]at hZ
    have f2:=fin2 h1 hZ
    repeat' first
     |(refine zn ?_ ?_;(focus ((try simp only[qA])<;>(try simp only[wA])<;>omega));conv=>whnf)
     |(refine za (by(try simp only[wA,wL])<;>omega) ?_;conv=>whnf)
     |(refine zl (by first|rfl|omega) ?_;conv=>whnf)
    conv=>arg 2;simp only[Nat.reduceAdd,C.stride]
    refine ze9 [.kp [2,4,11,13]] ?_
    conv=>whnf
    repeat' (refine za (by(try simp only[wA,wL])<;>omega) ?_;conv=>whnf)
    conv=>arg 2;simp only[hg2,Nat.reduceAdd,C.stride]
    refine ze ?_
    conv=>whnf
    repeat' first|(refine za (by(try simp only[wA,wL])<;>omega) ?_;conv=>whnf)|(refine zl (by first|rfl|omega) ?_;conv=>whnf)
    conv=>arg 2;simp only[Nat.reduceAdd,C.stride]
    refine ze9 [.kp [2,4,11,13],.cl 2] (vkp (yd3 (x':=.pgs qs) rfl rfl rfl (congrArg (fun z=>some (C.pgs z)) (ydy qs root.toNat)) rfl ?_))
    conv=>whnf
    repeat' first
     |(refine za (by kernel_rfl) ?_;conv=>whnf)
     |(refine yep [3,2] f2 (.box [.slc 1] (tab g2) [.c (.int .i64 (G.length:Nat))]) [.deep true 0 (.pgs qs) []] [.deep true qs.length (.pgs qs) []] [.arr (.pgs Z.2)] (.agg [.c (.int .i64 Z.1),.slc 0]) rfl rfl rfl rfl rfl rfl ⟨rfl,rfl,rfl,rfl,rfl,rfl,rfl,rfl,rfl⟩ rfl ⟨rfl,rfl,trivial⟩ ?_;conv=>whnf)
     |(refine ze ?_;conv=>whnf)
    exact(zu [] [111])
   ·rw[if_neg h1]at hZ
    have f0:=fin0 hZ
    repeat' first
     |(refine zm ?_ ?_;(focus ((try simp only[qA])<;>(try simp only[wA])<;>omega));conv=>whnf)
     |(refine za (by(try simp only[wA,wL])<;>omega) ?_;conv=>whnf)
     |(refine zk (fun h=>?_) (fun h=>?_)<;>(try simp only[qA]at h)<;>(try simp only[wA]at h)<;>conv=>whnf)
     |(refine zl (by first|rfl|omega) ?_;conv=>whnf)
    all_goals
     conv=>arg 2;simp only[hg0,Nat.reduceAdd,C.stride]
     refine ze9 [.kp [2,4,11,13],.cl 2] (vkp (yd3 (x':=.pgs qs) rfl rfl rfl (congrArg (fun z=>some (C.pgs z)) (ydy qs root.toNat)) rfl ?_))
     conv=>whnf
     repeat' first
      |(refine za (by kernel_rfl) ?_;conv=>whnf)
      |(refine yep [3,2] f0 (.box [.slc 1] (tab g0) [.c (.int .i64 (G.length:Nat))]) [.deep true 0 (.pgs qs) []] [.deep true qs.length (.pgs qs) []] [.arr (.pgs Z.2)] (.agg [.c (.int .i64 Z.1),.slc 0]) rfl rfl rfl rfl rfl rfl ⟨rfl,rfl,rfl,rfl,rfl,rfl,rfl,rfl,rfl⟩ rfl ⟨rfl,rfl,trivial⟩ ?_;conv=>whnf)
      |(refine ze ?_;conv=>whnf)
     exact(zu [] [111])
 ·skip
  have hx2:(qs.getD pn ⟨[],[],[]⟩).keys.length<2:=by omega
  have hx1:z≠0:=by omega
  obtain⟨i,hi⟩:∃i,z.toNat=i+1:=⟨z.toNat-1,by omega⟩
  have ez:(z-1).toNat=i:=by omega
  clear hrng hst' hx
  rw[hi]at hq
  have hup':=hup i (by omega) _ hq
  have L:=(hlev i (by omega)).2
  rw[hq]at L
  have M:=L.pre
  have hr3:=hro i (by omega)
  rw[hq]at hr3
  have lpg:=L.pg
  dsimp only at lpg hr3
  rw[←lpg]at hr3
  clear hlev hup L hcu hZ hok hro hkid
  have hx3:(zb qs (P.getD (i+1) 0)).keys.length<2:=by rw[←hi,hpn];exact hx2
  rw[if_pos hx3]at hup'
  dsimp only at M hup'
  generalize hfi:plN (zb qs (P.getD i 0)).kids (P.getD (i+1) 0)-1=first at *
  have hme:=yfr qs (P.getD i 0) (P.getD (i+1) 0) first M hpq (by omega) (fun hl=>hr3 first M.hkl hl) (z6j G) (yc1 G) (G.length:Nat) (by omega) (by omega)
  have htw:=zym qs (P.getD i 0) first
  clear M hfi hr3
  obtain⟨⟨M1,M2⟩,hM⟩:∃M,zcd qs (P.getD i 0) first=M:=⟨_,rfl⟩
  rw[hM]at hup' hme htw
  have hl2:M2.length≤1:=by rcases htw with e|e<;>(dsimp only at e;rw[e];simp)
  dsimp only at hup' hme
  rw[yfb,show((G.length:Nat):Int)+((M2.length:Nat):Int)=((G++M2).length:Nat) by rw[List.length_append];rfl]at hme
  rw[←hi,←ez]at hme
  conv=>whnf
  refine ze9 [.op 2 pn] (yd2 rfl ⟨Nat.zero_le _,hpnl⟩ ?_)
  conv=>whnf
  repeat' first
   |(refine za (by kernel_rfl) ?_;conv=>whnf)
   |(refine zn ?_ ?_;(focus ((try simp only[qA])<;>(try simp only[wA])<;>omega));conv=>whnf)
   |(refine za (by(try simp only[wA,wL])<;>omega) ?_;conv=>whnf)
   |(refine zl (by first|rfl|omega) ?_;conv=>whnf)
  conv=>arg 2;simp only[Nat.reduceAdd,C.stride]
  refine ze9 [.kp [2,4,7,11,12],.cl 2] (vkp (yd3 (x':=.pgs qs) rfl rfl rfl (congrArg (fun z=>some (C.pgs z)) (ydy qs pn)) rfl ?_))
  conv=>whnf
  repeat' first
   |(refine za (by kernel_rfl) ?_;conv=>whnf)
   |(refine za (by(try simp only[wA,wL])<;>omega) ?_;conv=>whnf)
   |(refine zg (by(try simp only[wA,wL])<;>omega) (by(try simp only[wA,wL])<;>omega) ?_;conv=>whnf)
   |(refine yfk [3,2] hme [.box [.slc 1] (z6j G) [.c (.int .i64 (G.length:Nat))],.deep true 0 (.pgs qs) []] [.box [.slc 1] (z6j (G++M2)) [.c (.int .i64 ((G++M2).length:Nat))],.deep true 0 (.pgs M1) []] [] (.tup []) rfl rfl rfl rfl rfl rfl ⟨rfl,rfl,rfl,rfl,rfl,rfl,rfl,rfl,rfl⟩ rfl ⟨rfl,rfl,trivial⟩ ?_;conv=>whnf)
   |(refine ze ?_;conv=>whnf)
  refine⟨⟨(M1,G++M2,z-1),?_⟩,(ydn [] [0,1,2,3]),by dsimp only;omega⟩
  dsimp only
  refine⟨by omega,by omega,?_,by rw[List.length_append];omega⟩
  rw[ez];exact hup'
end Go.VL
namespace Go.VL
open Go.Proofs
set_option maxRecDepth 10000
set_option linter.unusedSimpArgs false
set_option linter.unusedVariables false
def dmV (root:Int) (ps:List Pg) (key:Int):V:=match z4o root ps key with
 |none=>.tup [ztV,.c (.int .i64 0),.ff]
 |some r=>.tup [trV r.1 r.2,.c (.int .i64 (jnF root ps key:Nat)),.tt]
theorem yet (root:Int) (ps:List Pg) (key:Int) (hp:pB ps):zr Try.prog 22 0 [trV root ps,.c (.int .i64 key)] [] 0 (dmV root ps key) []:=by
 unfold dmV
 cases h1:vTree root ps with
 |false =>
  have e:z4o root ps key=none:=by unfold z4o;rw[if_neg (fun q=>by rw[h1]at q;cases q.1)]
  have hvt:=zbi root ps hp
  rw[h1]at hvt
  rw[e]
  dsimp only
  refine spi (fn:=Try.f22) _ ?_
  conv=>whnf
  repeat' first
   |(refine zn ?_ ?_;(focus (first|rfl|exact beq_self_eq_true _));conv=>whnf)
   |(refine zp (hvt) rfl rfl ?_;conv=>whnf)
  exact(zu [] [])
 |true =>
  have v:=za0 h1
  obtain⟨d,hd⟩:∃d,htF root ps=d+1:=⟨htF root ps-1,by have:=v.h1;omega⟩
  cases h2:((psF root ps).map Pr.key).contains key with
  |true =>
   have e:z4o root ps key=some (zf4 root ps (htF root ps) key):=by unfold z4o;rw[if_pos ⟨h1,h2⟩]
   rw[e]
   dsimp only
   unfold jnF
   rw[hd]at v⊢
   have hk:key∈(prF ps (d+1) (zb ps root)).map Pr.key:=by
    have:=List.contains_iff_mem.1 h2
    unfold psF at this
    rwa [hd]at this
   exact zdn (yes root key ps hp d v h1 hd hk) rfl
  |false =>
   have e:z4o root ps key=none:=by unfold z4o;rw[if_neg (fun q=>by rw[h2]at q;cases q.2)]
   have hvt:=zbi root ps hp
   rw[h1]at hvt
   have hpt:=zdn (zjo root key ps hp h1) rfl
   change zr _ _ _ _ _ _ (.c (.nums .i64 (ptF ps key (htF root ps) root))) _ at hpt
   obtain⟨d',q1,q2,q3,q4,q5,q6,q7,q8,q9,q10,q11,q12⟩:=lf_f (key:=key) h1
   rw[q2]at hpt
   rw[e]
   dsimp only
   rw[←q12]at q3 q4 q5 q6 q8 q10
   rw[h2]at q10
   clear q7 q9 q12
   generalize ptF ps key (d'+1) root=P at *
   have hD:d'=((P.length:Int)-1).toNat:=by omega
   rw[hD]at q3 q4 q5 q6 q8 q10
   have hrl:=zby _ q6
   have hpol:=zdn (zmb (zb ps (P.getD ((P.length:Int)-1).toNat 0)) q6 (by omega)) rfl
   change zr _ _ _ _ _ _ (.c (.prs (zab (zb ps (P.getD ((P.length:Int)-1).toNat 0))))) _ at hpol
   have hdp:=yci (zab (zb ps (P.getD ((P.length:Int)-1).toNat 0))) key (by omega) q8 (fun hm=>by rw[List.contains_iff_mem.2 hm]at q10;cases q10)
   dsimp only[zb]at q5 q6 hrl hpol hdp
   clear q8 q10
   generalize zab (ps.getD (P.getD ((P.length:Int)-1).toNat 0).toNat ⟨[],[],[]⟩)=row at *
   refine spi (fn:=Try.f22) _ ?_
   conv=>whnf
   repeat' first
    |(refine zm ?_ ?_;(focus (first|rfl|exact bne_self_eq_false _));conv=>whnf)
    |(refine za (by(try simp only[wA,wL])<;>omega) ?_;conv=>whnf)
    |(refine zg (by(try simp only[wA,wL])<;>omega) (by(try simp only[wA,wL])<;>omega) ?_;conv=>whnf)
    |(refine zp (hvt) rfl rfl ?_;conv=>whnf)
    |(refine zp (hpt) rfl rfl ?_;conv=>whnf)
    |(refine zp (hpol) rfl rfl ?_;conv=>whnf)
    |(refine zp (hdp) rfl rfl ?_;conv=>whnf)
   exact(zu [] [])
end Go.VL
namespace Go.VL
open Go.Proofs
set_option maxRecDepth 10000
set_option linter.unusedSimpArgs false
set_option linter.unusedVariables false
theorem yew {root:Int} {ps:List Pg} {key:Int}:zql root ps key=true↔vTree root ps=true∧((psF root ps).map Pr.key).contains key=true:=by
 unfold zql;rw[Bool.and_eq_true]
theorem yen (root:Int) (ps:List Pg) (key:Int) (hp:pB ps):zr Try.prog 13 0 [trV root ps,.c (.int .i64 key)] [] 0 (.tup (unR (z4o root ps key))) []:=by
 have h:=yet root ps key hp
 unfold dmV at h
 cases g:z4o root ps key with
 |none =>
  rw[g]at h
  dsimp only at h
  refine spi (fn:=Try.f13) _ ?_
  conv=>whnf
  repeat' (refine zp (h) rfl rfl ?_;conv=>whnf)
  exact(zu [] [])
 |some r =>
  rw[g]at h
  dsimp only at h
  refine spi (fn:=Try.f13) _ ?_
  conv=>whnf
  repeat' (refine zp (h) rfl rfl ?_;conv=>whnf)
  exact(zu [] [])
theorem yem (root:Int) (ps:List Pg) (key:Int) (hp:pB ps):zr Try.prog 14 0 [trV root ps,.c (.int .i64 key)] [] 0 (.tup (unR (z4o root ps key))) []:=by
 unfold z4o
 by_cases c:vTree root ps=true∧((psF root ps).map Pr.key).contains key=true
 ·rw[if_pos c]
  exact zdn (zps root key ps hp (yew.2 c)) rfl
 ·rw[if_neg c]
  refine z33 root key ps hp ?_
  cases q:zql root ps key with
  |false=>rfl
  |true=>exact(c (yew.1 q)).elim
theorem yeh (root:Int) (ps:List Pg) (xs:List Int) (hp:pB ps) (hl:xs.length≤1000):zr Try.prog 19 0 [trV root ps,.c (.nums .i64 xs)] [] 0 (.tup (unR (yae root ps xs))) []:=by
 have hvt:=zbi root ps hp
 cases g:vTree root ps with
 |false =>
  have e:yae root ps xs=none:=by unfold yae;rw[if_neg (by rw[g];simp)]
  rw[g]at hvt
  rw[e]
  refine spi (fn:=Try.f19) _ ?_
  conv=>whnf
  repeat' first
   |(refine zn ?_ ?_;(focus (first|rfl|exact beq_self_eq_true _));conv=>whnf)
   |(refine zp (hvt) rfl rfl ?_;conv=>whnf)
  exact(zu [] [])
 |true =>
  rw[g]at hvt
  by_cases c:xs.length≤24
  ·have e:yae root ps xs=z4n (root,ps) xs:=by unfold yae;rw[if_pos ⟨g,c⟩]
   have l16:=(za0 g).l16
   have hct:=zdn (z68 root ps hp (by omega)) rfl
   change zr _ _ _ _ _ _ (.agg [.c (.int .i64 root),.c (.pgs ps)]) _ at hct
   rw[e]
   obtain⟨R,hR⟩:∃R,z4n (root,ps) xs=R:=⟨_,rfl⟩
   rw[hR]
   refine spi (fn:=Try.f19) _ ?_
   conv=>whnf
   repeat' first
    |(refine zm ?_ ?_;(focus (first|rfl|exact bne_self_eq_false _));conv=>whnf)
    |(refine zm ?_ ?_;(focus ((try simp only[qA])<;>(try simp only[wA])<;>omega));conv=>whnf)
    |(refine zp (hvt) rfl rfl ?_;conv=>whnf)
    |(refine zp (hct) rfl rfl ?_;conv=>whnf)
   refine zd0 (fun(i:Nat) (s:Int×List Pg)=>i≤xs.length∧z4n (root,ps) (xs.take i)=some s) (fun i s=>⟨40,3,[(4,.ptr 1 0 0 0),(6,.ptr 2 0 0 0),(22,.c (.nums .i64 xs)),(23,.c (.int .i64 xs.length)),(24,.c (.int .i64 i))],[(0,.box [.c (.int .i64 root),.c (.pgs ps)] [] []),(1,.box [.c (.int .i64 0),.nil] [] []),(2,.box [.c (.int .i64 s.1),.c (.pgs s.2)] [] [])]⟩) (fun i _=>xs.length-i) 0 (root,ps) ⟨Nat.zero_le _,rfl⟩ (fun _ _=>Nat.zero_le _) (ydn [] [0,1,2]) (fun i s hi=>?_)
   obtain⟨hi,hs⟩:=hi
   obtain⟨s1,s2⟩:=s
   have sv:=yef g hs
   dsimp only at sv
   have hsp:=(zdx sv).pb
   by_cases hlt:i<xs.length
   ·have hpk:=yen s1 s2 (xs.getD i 0) hsp
    have hsn:=ycx hlt hs
    dsimp only at hsn
    cases gi:z4o s1 s2 (xs.getD i 0)with
    |none =>
     rw[gi]at hpk hsn
     rw[yev hsn]at hR
     subst hR
     change zr _ _ _ _ _ _ (.tup [ztV,.ff]) _ at hpk
     conv=>whnf
     repeat' first
      |(refine zn ?_ ?_;(focus ((try simp only[qA])<;>(try simp only[wA])<;>omega));conv=>whnf)
      |(refine za (by(try simp only[wA,wL])<;>omega) ?_;conv=>whnf)
      |(refine zp (hpk) rfl rfl ?_;conv=>whnf)
     exact(zu [] [])
    |some q =>
     obtain⟨q1,q2⟩:=q
     rw[gi]at hpk hsn
     change zr _ _ _ _ _ _ (.tup [trV q1 q2,.tt]) _ at hpk
     conv=>whnf
     repeat' first
      |(refine zn ?_ ?_;(focus ((try simp only[qA])<;>(try simp only[wA])<;>omega));conv=>whnf)
      |(refine za (by(try simp only[wA,wL])<;>omega) ?_;conv=>whnf)
      |(refine zg (by(try simp only[wA,wL])<;>omega) (by(try simp only[wA,wL])<;>omega) ?_;conv=>whnf)
      |(refine zp (hpk) rfl rfl ?_;conv=>whnf)
     refine⟨⟨(i+1,(q1,q2)),?_⟩,(ydn [] [0,1,2]),by dsimp only;omega⟩;(try dsimp only)
     exact⟨by omega,hsn⟩
   ·rw[List.take_of_length_le (by omega),hR]at hs
    subst hs
    conv=>whnf
    repeat' (refine zm ?_ ?_;(focus ((try simp only[qA])<;>(try simp only[wA])<;>omega));conv=>whnf)
    exact(zu [] [])
  ·have e:yae root ps xs=none:=by unfold yae;rw[if_neg (fun q=>c q.2)]
   rw[e]
   refine spi (fn:=Try.f19) _ ?_
   conv=>whnf
   repeat' first
    |(refine zm ?_ ?_;(focus (first|rfl|exact bne_self_eq_false _));conv=>whnf)
    |(refine zn ?_ ?_;(focus ((try simp only[qA])<;>(try simp only[wA])<;>omega));conv=>whnf)
    |(refine zp (hvt) rfl rfl ?_;conv=>whnf)
   exact(zu [] [])
theorem yek (root:Int) (ps:List Pg) (xs:List Int) (hp:pB ps) (hl:xs.length≤1000):zr Try.prog 20 0 [trV root ps,.c (.nums .i64 xs)] [] 0 (.tup (unR (yae root ps xs))) []:=by
 have hvt:=zay root ps hp
 cases g:vTree root ps with
 |false =>
  have e:yae root ps xs=none:=by unfold yae;rw[if_neg (by rw[g];simp)]
  rw[g]at hvt
  rw[e]
  refine spi (fn:=Try.f20) _ ?_
  conv=>whnf
  repeat' first
   |(refine zn ?_ ?_;(focus (first|rfl|exact beq_self_eq_true _));conv=>whnf)
   |(refine zp (hvt) rfl rfl ?_;conv=>whnf)
  exact(zu [] [])
 |true =>
  rw[g]at hvt
  by_cases c:xs.length≤24
  ·have e:yae root ps xs=z4n (root,ps) xs:=by unfold yae;rw[if_pos ⟨g,c⟩]
   rw[e]
   obtain⟨R,hR⟩:∃R,z4n (root,ps) xs=R:=⟨_,rfl⟩
   rw[hR]
   refine spi (fn:=Try.f20) _ ?_
   conv=>whnf
   repeat' first
    |(refine zm ?_ ?_;(focus (first|rfl|exact bne_self_eq_false _));conv=>whnf)
    |(refine zm ?_ ?_;(focus ((try simp only[qA])<;>(try simp only[wA])<;>omega));conv=>whnf)
    |(refine zp (hvt) rfl rfl ?_;conv=>whnf)
   refine zd0 (fun(i:Nat) (s:Int×List Pg)=>i≤xs.length∧z4n (root,ps) (xs.take i)=some s) (fun i s=>⟨39,2,[(1,.c (.nums .i64 xs)),(2,.ptr 0 0 0 0),(4,.ptr 1 0 0 0),(6,.c (.int .i64 i))],[(0,.box [.c (.int .i64 s.1),.c (.pgs s.2)] [] []),(1,.box [.c (.int .i64 0),.nil] [] [])]⟩) (fun i _=>xs.length-i) 0 (root,ps) ⟨Nat.zero_le _,rfl⟩ (fun _ _=>Nat.zero_le _) (ydn [] [0,1]) (fun i s hi=>?_)
   obtain⟨hi,hs⟩:=hi
   obtain⟨s1,s2⟩:=s
   have sv:=yef g hs
   dsimp only at sv
   have hsp:=(zdx sv).pb
   by_cases hlt:i<xs.length
   ·have hpk:=yem s1 s2 (xs.getD i 0) hsp
    have hsn:=ycx hlt hs
    dsimp only at hsn
    cases gi:z4o s1 s2 (xs.getD i 0)with
    |none =>
     rw[gi]at hpk hsn
     rw[yev hsn]at hR
     subst hR
     change zr _ _ _ _ _ _ (.tup [ztV,.ff]) _ at hpk
     conv=>whnf
     repeat' first
      |(refine za (by kernel_rfl) ?_;conv=>whnf)
      |(refine zn ?_ ?_;(focus ((try simp only[qA])<;>(try simp only[wA])<;>omega));conv=>whnf)
      |(refine za (by(try simp only[wA,wL])<;>omega) ?_;conv=>whnf)
      |(refine zw (hpk) rfl rfl ?_;conv=>whnf)
      |(refine ze ?_;conv=>whnf)
     exact(zu [] [])
    |some q =>
     obtain⟨q1,q2⟩:=q
     rw[gi]at hpk hsn
     change zr _ _ _ _ _ _ (.tup [trV q1 q2,.tt]) _ at hpk
     conv=>whnf
     repeat' first
      |(refine za (by kernel_rfl) ?_;conv=>whnf)
      |(refine zn ?_ ?_;(focus ((try simp only[qA])<;>(try simp only[wA])<;>omega));conv=>whnf)
      |(refine za (by(try simp only[wA,wL])<;>omega) ?_;conv=>whnf)
      |(refine zg (by(try simp only[wA,wL])<;>omega) (by(try simp only[wA,wL])<;>omega) ?_;conv=>whnf)
      |(refine zw (hpk) rfl rfl ?_;conv=>whnf)
      |(refine ze ?_;conv=>whnf)
     refine⟨⟨(i+1,(q1,q2)),?_⟩,(ydn [] [0,1]),by dsimp only;omega⟩;(try dsimp only)
     exact⟨by omega,hsn⟩
   ·rw[List.take_of_length_le (by omega),hR]at hs
    subst hs
    have hct:=zdn (zp1 s1 s2 hsp) rfl
    change zr _ _ _ _ _ _ (.agg [.c (.int .i64 s1),.c (.pgs s2)]) _ at hct
    conv=>whnf
    repeat' first|(refine zm ?_ ?_;(focus ((try simp only[qA])<;>(try simp only[wA])<;>omega));conv=>whnf)|(refine zp (hct) rfl rfl ?_;conv=>whnf)
    exact(zu [] [])
  ·have e:yae root ps xs=none:=by unfold yae;rw[if_neg (fun q=>c q.2)]
   rw[e]
   refine spi (fn:=Try.f20) _ ?_
   conv=>whnf
   repeat' first
    |(refine zm ?_ ?_;(focus (first|rfl|exact bne_self_eq_false _));conv=>whnf)
    |(refine zn ?_ ?_;(focus ((try simp only[qA])<;>(try simp only[wA])<;>omega));conv=>whnf)
    |(refine zp (hvt) rfl rfl ?_;conv=>whnf)
   exact(zu [] [])
end Go.VL
namespace Go.VL
open Go.Proofs
set_option maxRecDepth 10000
set_option linter.unusedSimpArgs false
set_option linter.unusedVariables false
theorem yhn {root:Int} {ps:List Pg} {xs:List Int} {r:Int×List Pg} (h:yae root ps xs=some r) (hx:xs.length≠0):∃s,yae root ps (xs.take (xs.length-1))=some s∧z4o s.1 s.2 (xs.getD (xs.length-1) 0)=some r:=by
 obtain⟨h1,h2,h3⟩:=ycq h
 have e:yae root ps (xs.take (xs.length-1))=z4n (root,ps) (xs.take (xs.length-1)):=by unfold yae;rw[if_pos ⟨h1,by rw[List.length_take];omega⟩]
 rw[e]
 cases g:z4n (root,ps) (xs.take (xs.length-1))with
 |none=>rw[yev g]at h3;cases h3
 |some s =>
  refine⟨s,rfl,?_⟩
  rw[←ycx (by omega) g,show xs.length-1+1=xs.length by omega,List.take_of_length_le (Nat.le_refl _)]
  exact h3
theorem FnDropAll_v (code:List Int) (hl0:code.length≤9223372036854775807) (hb:∀x∈code,0≤x∧x≤255):zr Try.prog 7 0 [.c (.nums .u8 code)] [] 0 (.c (.bool true)) []:=by
 refine spi (fn:=Try.f7) _ ?_
 conv=>whnf
 repeat' first|(refine zk (fun h=>?_) (fun h=>?_)<;>(try simp only[qA]at h)<;>(try simp only[wA]at h)<;>conv=>whnf)|refine zc ?_
 ·rfl
 refine zbw [] [] (yeg code (by omega) (zie hb)) ⟨rfl,rfl,rfl,(by repeat first|exact trivial|refine⟨rfl,?_⟩),⟨rfl,rfl,rfl⟩,?_⟩
 rintro m res hout ⟨root,ps,l,hp,hps,hll,rfl,rfl,rfl⟩
 refine⟨⟨rfl,rfl,rfl⟩,?_⟩
 have h1:=yeh root ps l hp (by omega)
 have h2:=yek root ps l hp (by omega)
 cases g:yae root ps l with
 |none =>
  rw[g]at h1 h2
  change zr _ _ _ _ _ _ (.tup [ztV,.ff]) _ at h1 h2
  have h3:=z3a
  conv=>whnf
  repeat' first
   |(refine zn ?_ ?_;(focus (first|rfl|exact beq_self_eq_true _));conv=>whnf)
   |(refine zm ?_ ?_;(focus (first|rfl|exact bne_self_eq_false _));conv=>whnf)
   |refine zh ?_
   |(refine zp (h1) rfl rfl ?_;conv=>whnf)
   |(refine zp (h2) rfl rfl ?_;conv=>whnf)
   |(refine zp (h3) rfl rfl ?_;conv=>whnf)
  all_goals rfl
 |some r =>
  rw[g]at h1 h2
  obtain⟨r1,r2⟩:=r
  change zr _ _ _ _ _ _ (.tup [trV r1 r2,.tt]) _ at h1 h2
  have hq:pB r2:=(zdx (yef (ycq g).1 (ycq g).2.2)).pb
  have h3:=z2b r1 r2 hq
  by_cases c:l.length=0
  ·conv=>whnf
   repeat' first
    |(refine zn ?_ ?_;(focus (first|rfl|exact beq_self_eq_true _));conv=>whnf)
    |(refine zm ?_ ?_;(focus (first|rfl|exact bne_self_eq_false _));conv=>whnf)
    |(refine zn ?_ ?_;(focus ((try simp only[qA])<;>(try simp only[wA])<;>omega));conv=>whnf)
    |refine zh ?_
    |(refine zp (h1) rfl rfl ?_;conv=>whnf)
    |(refine zp (h2) rfl rfl ?_;conv=>whnf)
    |(refine zp (h3) rfl rfl ?_;conv=>whnf)
   all_goals rfl
  ·obtain⟨s,g2,g3⟩:=yhn g c
   obtain⟨s1,s2⟩:=s
   have hq2:pB s2:=(zdx (yef (ycq g2).1 (ycq g2).2.2)).pb
   have h4:=yeh root ps (l.take (l.length-1)) hp (by rw[List.length_take];omega)
   have h5:=yen s1 s2 (l.getD (l.length-1) 0) hq2
   rw[g2]at h4
   dsimp only at g3
   rw[g3]at h5
   change zr _ _ _ _ _ _ (.tup [trV s1 s2,.tt]) _ at h4
   change zr _ _ _ _ _ _ (.tup [trV r1 r2,.tt]) _ at h5
   have e:((l.length:Int)-1).toNat=l.length-1:=by omega
   rw[←e]at h4 h5
   conv=>whnf
   repeat' first
    |(refine za (by kernel_rfl) ?_;conv=>whnf)
    |(refine zm ?_ ?_;(focus (first|rfl|exact bne_self_eq_false _));conv=>whnf)
    |(refine zm ?_ ?_;(focus ((try simp only[qA])<;>(try simp only[wA])<;>omega));conv=>whnf)
    |(refine za (by(try simp only[wA,wL])<;>omega) ?_;conv=>whnf)
    |refine zh ?_
    |(refine zg (by(try simp only[wA,wL])<;>omega) (by(try simp only[wA,wL])<;>omega) ?_;conv=>whnf)
    |(refine zp (h1) rfl rfl ?_;conv=>whnf)
    |(refine zp (h2) rfl rfl ?_;conv=>whnf)
    |(refine zp (h3) rfl rfl ?_;conv=>whnf)
    |(refine zw (h4) rfl rfl ?_;conv=>whnf)
    |(refine zw (h5) rfl rfl ?_;conv=>whnf)
    |(refine ze ?_;conv=>whnf)
   all_goals rfl
end Go.VL
