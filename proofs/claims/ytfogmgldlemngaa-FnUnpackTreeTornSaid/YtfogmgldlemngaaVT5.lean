/- V-logic: TrN -/
import Derived.Test.YtfogmgldlemngaaVPD
import Derived.Test.YtfogmgldlemngaaVT4
namespace Go.VL
open Go.Proofs
set_option maxRecDepth 10000
set_option linter.unusedSimpArgs false
set_option linter.unusedVariables false
def drI (Z:Int×List Pg) (rt:Int) (qs:List Pg) (ys:List Int) (i:Nat):Prop :=
 i≤ys.length∧ys.length≤5∧(∃(f:Int→Int) (gs:List Int),ys.drop i=gs.map f∧zmq f gs (rt,qs)=Z)∧Cuts qs.length rt (ys.drop i)∧Bd 47 qs∧qs.length≤16∧∀c∈ys,-1≤c∧c≤1000000
theorem VT.dAt {root key:Int} {ps:List Pg} {h:Nat} (v:VT root ps h) (hk:key∈(prF ps h (zb ps root)).map Pr.key):(0≤key∧key≤99)∧DAt ps key h root:=by
 have hb:0≤key∧key≤99:=by
  obtain⟨y,hy,rfl⟩:=List.mem_map.1 hk
  exact(zaa.row v.fit.2.2.2.2).rng y hy
 exact⟨hb,_,_,_,v.fit,v.nd,hb.1,hb.2,fun hd=>(by rw[if_neg (by omega)];exact Nat.le_refl _),hk,Int.le_refl _,Int.le_refl _⟩
theorem zt2:∀{l:List Int},l.Nodup→∀{i j:Nat},i<l.length→j<l.length→l.getD i 0=l.getD j 0→i=j
 |[],_,i,_,hi,_,_=>by simp at hi
 |a::t,h,0,0,_,_,_=>rfl
 |a::t,h,0,j+1,_,hj,e=>by
  exfalso
  refine(List.nodup_cons.1 h).1 ?_
  have e:a=t.getD j 0:=e
  rw[e];exact zaq 0 (by simpa using hj)
 |a::t,h,i+1,0,hi,_,e=>by
  exfalso
  refine(List.nodup_cons.1 h).1 ?_
  have e:t.getD i 0=a:=e
  rw[←e];exact zaq 0 (by simpa using hi)
 |a::t,h,i+1,j+1,hi,hj,e=>by
  have:=zt2 (List.nodup_cons.1 h).2 (i:=i) (j:=j) (by simpa using hi) (by simpa using hj) e
  omega
structure MendPre (ps:List Pg) (up c:Int) (first:Nat):Prop where
 cm:c∈(zb ps up).kids
 hz:((plN (zb ps up).kids c:Nat):Int)=first+1∨((plN (zb ps up).kids c:Nat):Int)=0∧first=0
 u0:0≤up
 u1:up<ps.length
 hkl:first<(zb ps up).keys.length
 hcl:(zb ps up).kids.length=(zb ps up).keys.length+1
 hk9:(zb ps up).keys.length≤100
 hvs:(zb ps up).vals=[]
 c0:0≤c∧c<ps.length
 a0:0≤(zb ps up).kids.getD first 0∧(zb ps up).kids.getD first 0<ps.length
 b0:0≤(zb ps up).kids.getD (first+1) 0∧(zb ps up).kids.getD (first+1) 0<ps.length
 au:(zb ps up).kids.getD first 0≠up
 bu:(zb ps up).kids.getD (first+1) 0≠up
 ab:(zb ps up).kids.getD first 0≠(zb ps up).kids.getD (first+1) 0
 ka:(zb ps ((zb ps up).kids.getD first 0)).keys.length≤100
 kb:(zb ps ((zb ps up).kids.getD (first+1) 0)).keys.length≤100
 hlf:(zb ps ((zb ps up).kids.getD first 0)).kids.length=0→(zb ps ((zb ps up).kids.getD first 0)).vals.length=(zb ps ((zb ps up).kids.getD first 0)).keys.length∧(zb ps ((zb ps up).kids.getD (first+1) 0)).vals.length=(zb ps ((zb ps up).kids.getD (first+1) 0)).keys.length
 hin:(zb ps ((zb ps up).kids.getD first 0)).kids.length≠0→(zb ps ((zb ps up).kids.getD first 0)).kids.length=(zb ps ((zb ps up).kids.getD first 0)).keys.length+1∧(zb ps ((zb ps up).kids.getD (first+1) 0)).kids.length=(zb ps ((zb ps up).kids.getD (first+1) 0)).keys.length+1
theorem Lev.pre {ps R:List Pg} {d:Nat} {up c:Int} (L:Lev ps R d up c):MendPre R up c (plN (zb R up).kids c-1):=by
 have hlen:=L.len
 have hu0:=L.a0
 have hu1:=L.a1
 have hkl:=L.kl
 have hk1:=L.k1
 have hk4:=L.k4
 have hpl:=ztx L.cm
 obtain⟨f,hf⟩:∃f,plN (zb ps up).kids c-1=f:=⟨_,rfl⟩
 have hma:=zaq 0 (show f<(zb ps up).kids.length by omega)
 have hmb:=zaq 0 (show f+1<(zb ps up).kids.length by omega)
 obtain⟨l1,r1,fa⟩:=L.fit _ hma
 obtain⟨l2,r2,fb⟩:=L.fit _ hmb
 obtain⟨l3,r3,fc⟩:=L.fit _ L.cm
 rw[L.pg,hf]
 have fak:=fa.2.2.2.1
 have fbk:=fb.2.2.2.1
 refine⟨by rw[L.pg];exact L.cm,by rw[L.pg];omega,hu0,by omega,by rw[L.pg];omega,by rw[L.pg];exact hkl,by rw[L.pg];omega,by rw[L.pg];exact L.vals,⟨fc.1,fc.2.1⟩,?_,?_,?_,?_,?_,?_,?_,?_,?_⟩<;>rw[L.pg]
 ·exact⟨fa.1,fa.2.1⟩
 ·exact⟨fb.1,fb.2.1⟩
 ·exact fun e=>L.na (by rw[e]at hma;exact hma)
 ·exact fun e=>L.na (by rw[e]at hmb;exact hmb)
 ·exact fun e=>by have:=zt2 L.nd (by omega) (by omega) e;omega
 ·omega
 ·omega
 ·intro h0
  match d,fa,fb with
  |0,fa,fb=>exact⟨LeafOk.len fa.2.2.2.2,LeafOk.len fb.2.2.2.2⟩
  |d+1,fa,fb=>have:=zaa.kidsLen fa.2.2.2.2;omega
 ·intro h0
  match d,fa,fb with
  |0,fa,fb=>exact absurd (by rw[LeafOk.kids fa.2.2.2.2];rfl) h0
  |d+1,fa,fb=>exact⟨zaa.kidsLen fa.2.2.2.2,zaa.kidsLen fb.2.2.2.2⟩
theorem zym (ps:List Pg) (up:Int) (f:Nat):(zcd ps up f).2=[]∨(zcd ps up f).2=[(zb ps up).kids.getD (f+1) 0]:=by
 unfold zcd
 split
 ·exact .inr rfl
 ·exact .inl rfl
set_option maxHeartbeats 4000000 in
theorem zxa (root key:Int) (ps:List Pg) (hp:pB ps) (h:Nat) (v:VT root ps h) (hk:key∈(prF ps h (zb ps root)).map Pr.key) :
  zr Try.prog 58 0 [trV root ps,.c (.int .i64 key)] [] 1 (.tup [.agg [.c (.int .i64 (zf4 root ps h key).1),.slc 0],.c (.int .i64 (zao ps key h root).2.length)]) [(0,.arr (.pgs (zf4 root ps h key).2))]:=by
 obtain⟨d,rfl⟩:∃d,h=d+1:=⟨h-1,by have:=v.h1;omega⟩
 have h3:=v.h3
 have l16:=v.l16
 have hrt:=v.v0.pos
 obtain⟨hb,ha⟩:=v.dAt hk
 have hbd:=v.v0.bd (by omega)
 have hpt:=zlz root key ps hp d _ _ _ _ v.fit (by omega)
 have hPl:(ptF ps key (d+1) root).length=d+1:=zg1
 have hlev:=fun i (hi:i+1<d+1)=>zm2 ha hi
 have hup:=fun i (hi:i+1<d+1) R=>ztc (ps:=ps) (key:=key) (root:=root) (R:=R) hi
 have hst:=fun i (hi:i<d+1)=>zxl ha hi
 have hbd2:=fun i=>hbd.drop (key:=key) (d+1-i) ((ptF ps key (d+1) root).getD i 0)
 have hok:DropOk ps key (d+1) _ root 0 99 (zao ps key (d+1) root):=zoj v.fit (fun hd=>by rw[if_neg (by omega)];exact Nat.le_refl _) v.nd hb.1 hb.2 hk
 have hcu:=hok.cuts v.nd (fun x hx=>v.fit.wkLt x hx)
 have hp0:(ptF ps key (d+1) root).getD 0 0=root:=zfy
 have hpd:=zqw ha (show d<d+1 by omega)
 have hR1:zao ps key (d+1-d) ((ptF ps key (d+1) root).getD d 0)=(ps.set ((ptF ps key (d+1) root).getD d 0).toNat (zae (zbq (zab (zb ps ((ptF ps key (d+1) root).getD d 0))) key)),[]):=by rw[show d+1-d=1 by omega];rfl
 obtain⟨Z,hZ⟩:∃Z,zf4 root ps (d+1) key=Z:=⟨_,rfl⟩
 obtain⟨W,hW⟩:∃W,zao ps key (d+1) root=W:=⟨_,rfl⟩
 rw[hZ,hW]
 unfold zf4 at hZ
 rw[hW]at hZ hok hcu
 rw[hW]at hst
 generalize ptF ps key (d+1) root=P at *
 rw[show d+1-d=1 by omega]at hpd hR1
 have hD:((P.length:Int)-1).toNat=d:=by omega
 rw[←hD]at hpd hR1
 obtain⟨_,_,_,hpf,_,_,_,_,hkr,hl0,hl9⟩:=hpd
 have hlk:LeafOk (zb ps (P.getD ((P.length:Int)-1).toNat 0)) _ _:=hpf.2.2.2.2
 have b0:=hpf.1
 have b1:=hpf.2.1
 have hln:=hlk.len
 have k1:=hpf.2.2.2.1
 have hrl:=zby _ hln
 have hro:=zg4 (zb ps (P.getD ((P.length:Int)-1).toNat 0)) (by omega) (by omega)
 have hdp:=zxb (zab (zb ps (P.getD ((P.length:Int)-1).toNat 0))) key (by omega) (zln.2 ⟨hlk.row.wide hl0 hl9,by omega⟩) (by rw[List.contains_iff_mem];exact hkr)
 have hlo:=zfz (zbq (zab (zb ps (P.getD ((P.length:Int)-1).toNat 0))) key) (by have:=zqi key (zab (zb ps (P.getD ((P.length:Int)-1).toNat 0)));omega)
 dsimp only[zb]at hln k1 hrl hro hdp hlo hR1
 have k4:=hp.len
 refine spi (fn:=Try.f58) _ ?_
 conv=>whnf
 repeat' first
  |(refine za (by kernel_rfl) ?_;conv=>whnf)
  |(refine za (by(try simp only[wA,wL])<;>omega) ?_;conv=>whnf)
  |(refine zg (by(try simp only[wA,wL])<;>omega) (by(try simp only[wA,wL])<;>omega) ?_;conv=>whnf)
  |((refine ze9 [.fz [15,4],.kp [4,5,6,7,8,9]] ?_;(conv=>whnf);fail_if_success (guard_target =~ False));conv=>whnf)
  |(refine zbe (zp1 root ps hp) rfl rfl rfl rfl ?_;conv=>whnf)
  |(refine z8 (hpt) rfl ?_;conv=>whnf)
  |(refine zar (hro) rfl rfl ?_;conv=>whnf)
  |(refine zeb (hdp) rfl rfl rfl rfl rfl ?_;conv=>whnf)
  |(refine zw (hlo) rfl rfl ?_;conv=>whnf)
  |(refine ze ?_;conv=>whnf)
 refine zk5 (fun(qs:List Pg) (G:List Int) (z:Int)=>0≤z∧z<d+1∧zao ps key (d+1-z.toNat) (P.getD z.toNat 0)=(qs,G)∧G.length+z.toNat≤d)
  (fun qs G z=>⟨162,4,[(4,.ptr 0 0 0 0),(5,.c (.int .i64 0)),(6,.ptr 1 0 0 0),(7,.c (.nums .i64 P)),(8,.c (.int .i64 z)),(11,.slc 2)],[(0,.box [.c (.int .i64 0),.nil] [] []),(1,.box [.c (.int .i64 root),.slc 3] [] []),(2,.arr (.nums .i64 G)),(3,.arr (.pgs qs))]⟩) (fun qs G z=>z.toNat)
  (ps.set (P.getD ((P.length:Int)-1).toNat 0).toNat (zae (zbq (zab (ps.getD (P.getD ((P.length:Int)-1).toNat 0).toNat ⟨[],[],[]⟩)) key))) [] ((P.length:Int)-1) ⟨by omega,by omega,by rw[hD]at hR1⊢;rw[show d+1-d=1 by omega];exact hR1,by simp;omega⟩ (fun _ _ _=>Nat.zero_le _) (ydn [] [1,3,205,2]) (fun qs G z hi=>?_)
 obtain⟨hz0,hz1,hq,hGz⟩:=hi
 clear hln k1 hrl hro hdp hlo hpf b0 b1 hlk hkr hR1
 have hst':=hst z.toNat (by omega)
 rw[hq]at hst'
 have hbq:=hbd2 z.toNat
 rw[hq]at hbq
 clear hst hbd2
 have hgl:=hok.gl
 have hrng:0<z→0≤P.getD z.toNat 0∧P.getD z.toNat 0<qs.length:=fun hz=>by
  obtain⟨i,hi⟩:∃i,z.toNat=i+1:=⟨z.toNat-1,by omega⟩
  have L:=(hlev i (by omega)).2
  rw[←hi,hq]at L
  have:=L.pre.c0
  exact this
 have hwl:=hok.len
 have hql:qs.length=ps.length:=by
  by_cases hz:z=0
  ·have h1:=hst' (by omega)
   rw[h1]at hwl;exact hwl
  ·obtain⟨i,hi⟩:∃i,z.toNat=i+1:=⟨z.toNat-1,by omega⟩
   have L:=(hlev i (by omega)).2
   rw[←hi,hq]at L
   exact L.len
 dsimp only at hbq
 have hb47:Bd 47 qs:=hbq.mono ((show ∀e,e≤3→bdN 5 e≤47 by decide) _ (by omega))
 have hkq:=(hb47.pB (by decide) (by omega)).keys
 have hkk:=(hb47.pB (by decide) (by omega)).kids
 by_cases hx:z=0∨¬(qs.getD (P.getD z.toNat 0).toNat ⟨[],[],[]⟩).keys.length<2
 ·have hst':=hst' (fun h0=>by
   rcases hx with hx|hx
   ·omega
   ·exact hx)
  subst hst'
  have hGl:G.length≤3:=by have:G.length+1≤d+1:=hgl;omega
  have hrl:0≤root∧root<qs.length:=by omega
  have k1:=hkq (P.getD z.toNat 0)
  have k2:=hkk root
  dsimp only[zb]at k1 k2 hcu hZ
  obtain⟨RT,hRT⟩:∃RT,(if (qs.getD root.toNat ⟨[],[],[]⟩).kids.length=1 then(qs.getD root.toNat ⟨[],[],[]⟩).kids.getD 0 0 else root)=RT:=⟨_,rfl⟩
  obtain⟨GG,hGG⟩:∃GG,(if (qs.getD root.toNat ⟨[],[],[]⟩).kids.length=1 then G++([]++[root])else G)=GG:=⟨_,rfl⟩
  have h0:drI Z RT qs GG 0:=by
   by_cases h1:(qs.getD root.toNat ⟨[],[],[]⟩).kids.length=1
   ·rw[if_pos h1]at hZ hRT hGG
    subst hRT;subst hGG
    exact⟨Nat.zero_le _,by simp;omega,⟨id,G++[root],by simp,hZ⟩,hcu.2 h1,hb47,by omega,fun c hc=>by have:=(hcu.2 h1).rng c (List.mem_cons_of_mem _ hc);omega⟩
   ·rw[if_neg h1]at hZ hRT hGG
    subst hRT;subst hGG
    exact⟨Nat.zero_le _,by omega,⟨id,G,by simp,hZ⟩,hcu.1,hb47,by omega,fun c hc=>by have:=hcu.1.rng c (List.mem_cons_of_mem _ hc);omega⟩
  conv=>whnf
  repeat' first
   |(refine za (by kernel_rfl) ?_;conv=>whnf)
   |(refine zm ?_ ?_;(focus ((try simp only[qA])<;>(try simp only[wA])<;>omega));conv=>whnf)
   |(refine za (by(try simp only[wA,wL])<;>omega) ?_;conv=>whnf)
   |(refine zk (fun h=>?_) (fun h=>?_)<;>(try simp only[qA]at h)<;>(try simp only[wA]at h)<;>conv=>whnf)
   |(refine ze ?_;conv=>whnf)
  all_goals
   refine zy2 (drI Z) (fun rt qs2 ys i=>⟨162,4,[(4,.ptr 0 0 0 0),(6,.ptr 1 0 0 0),(11,.slc 2),(15,.c (.int .i64 G.length)),(16,.c (.int .i64 i))],[(0,.box [.c (.int .i64 0),.nil] [] []),(1,.box [.c (.int .i64 rt),.slc 3] [] []),(2,.arr (.nums .i64 ys)),(3,.arr (.pgs qs2))]⟩) (fun rt qs2 ys i=>ys.length-i) RT qs GG 0 h0 (fun _ _ _ _=>Nat.zero_le _) (zbd [] [0,1,2,3] ⟨by repeat first|exact trivial|refine⟨rfl,?_⟩,⟨rfl,congrArg (fun z=>some (O.box [V.c (C.int .i64 z),.slc 3] [] [])) ?_,congrArg (fun z=>some (O.arr (C.nums .i64 z))) ?_,rfl,trivial⟩,rfl,rfl,rfl,rfl,rfl,rfl,rfl⟩) (fun rt qs2 ys i hi=>?_)
   ·rw[←hRT]
    split<;>first|rfl|(exfalso;omega)
   ·rw[←hGG]
    split<;>first|rfl|(exfalso;omega)
   ·obtain⟨i1,i2,⟨f,gs,i3,i4⟩,i5,i6,i7,i8⟩:=hi
    by_cases hil:i<ys.length
    ·obtain⟨g,hg⟩:∃g,ys.getD i 0=g:=⟨_,rfl⟩
     rw[zg0 0 hil,hg]at i3 i5
     have hg0:=i5.rng g (by simp)
     have hr0:=i5.rng rt (by simp)
     have hcl:=zl2 hg0.1 hg0.2
     have hcp:zr Try.prog 71 0 [trV rt qs2,.c (.int .i64 (ys.getD i 0))] [] 1 (.agg [.c (.int .i64 (adj g rt)),.slc 0]) [(0,.arr (.pgs (zct qs2 g)))]:=by
      rw[hg];exact zzs rt g qs2 (i6.pB (by decide) (by omega)) hg0.1 hg0.2 hr0 (fun j c hc=>(i6 j).2.2.2 c hc)
     have h6:∀c∈ys,-1≤c∧c≤1000000:=i8
     conv=>whnf
     repeat' first
      |(refine za (by kernel_rfl) ?_;conv=>whnf)
      |(refine zn ?_ ?_;(focus ((try simp only[qA])<;>(try simp only[wA])<;>omega));conv=>whnf)
      |(refine za (by(try simp only[wA,wL])<;>omega) ?_;conv=>whnf)
      |(refine zg (by(try simp only[wA,wL])<;>omega) (by(try simp only[wA,wL])<;>omega) ?_;conv=>whnf)
      |(refine zeb (hcp) rfl rfl rfl rfl rfl ?_;conv=>whnf)
      |(refine ze ?_;conv=>whnf)
     refine zd0 (fun(zs:List Int) (k:Nat)=>i+1≤k∧k≤zs.length∧zs.length=ys.length∧zs.getD i 0=g∧(∀c∈zs,-1≤c∧c≤1000000)∧zs.take k++(zs.drop k).map (adj g)=ys.take (i+1)++(ys.drop (i+1)).map (adj g)) (fun zs k=>⟨162,4,[(4,.ptr 0 0 0 0),(6,.ptr 1 0 0 0),(11,.slc 2),(15,.c (.int .i64 G.length)),(16,.c (.int .i64 i)),(17,.c (.int .i64 k))],[(0,.box [.c (.int .i64 0),.nil] [] []),(1,.box [.c (.int .i64 (adj g rt)),.slc 3] [] []),(2,.arr (.nums .i64 zs)),(3,.arr (.pgs (zct qs2 g)))]⟩) (fun zs k=>zs.length-k) ys (i+1) ⟨Nat.le_refl _,by omega,rfl,hg,?_,rfl⟩ (fun _ _=>Nat.zero_le _) (ydn [] [0,1,2,9]) (fun zs k hj=>?_)
     ·exact h6
     ·obtain⟨j1,j2,j3,j4,j5,j6⟩:=hj
      have hkk:k<zs.length→-1≤zs.getD k 0∧zs.getD k 0≤1000000:=fun hl=>j5 _ (zaq 0 hl)
      have hset:k<zs.length→i+1≤k+1∧k+1≤(zs.set k (adj g (zs.getD k 0))).length∧(zs.set k (adj g (zs.getD k 0))).length=ys.length∧(zs.set k (adj g (zs.getD k 0))).getD i 0=g∧(∀c∈zs.set k (adj g (zs.getD k 0)),-1≤c∧c≤1000000)∧(zs.set k (adj g (zs.getD k 0))).take (k+1)++((zs.set k (adj g (zs.getD k 0))).drop (k+1)).map (adj g)=ys.take (i+1)++(ys.drop (i+1)).map (adj g):=fun hl=>by
       refine⟨by omega,by rw[List.length_set];omega,by rw[List.length_set];omega,?_,fun c hc=>?_,(zoc hl).trans j6⟩
       ·rw[z7 _ _ _ _ _ hl,if_neg (by omega)];exact j4
       ·have:=hkk hl
        rcases List.mem_or_eq_of_mem_set hc with hc|rfl
        ·exact j5 c hc
        ·unfold adj;split<;>omega
      conv=>whnf
      repeat' first
       |(refine za (by kernel_rfl) ?_;conv=>whnf)
       |(refine za (by(try simp only[wA,wL])<;>omega) ?_;conv=>whnf)
       |(refine zk (fun h=>?_) (fun h=>?_)<;>(try simp only[qA]at h)<;>(try simp only[wA]at h)<;>conv=>whnf)
       |(refine zg (by(try simp only[wA,wL])<;>omega) (by(try simp only[wA,wL])<;>omega) ?_;conv=>whnf)
       |(refine zw (zov) rfl rfl ?_;conv=>whnf)
       |(refine zw (zor) rfl rfl ?_;conv=>whnf)
       |(refine ze ?_;conv=>whnf)
      ·refine⟨⟨(zs.set k (adj g (zs.getD k 0)),k+1),hset (by omega)⟩,(zbd [] [0,1,2,3] ⟨by repeat first|exact trivial|refine⟨rfl,?_⟩,⟨rfl,rfl,congrArg (fun z=>some (O.arr (C.nums .i64 (zs.set k z)))) ?_,rfl,trivial⟩,rfl,rfl,rfl,rfl,rfl,rfl,rfl⟩),by dsimp only;rw[List.length_set];omega⟩
       unfold adj;rw[if_pos (by omega)];rfl
      ·refine⟨⟨(zs.set k (adj g (zs.getD k 0)),k+1),hset (by omega)⟩,(zbd [] [0,1,2,3] ⟨by repeat first|exact trivial|refine⟨rfl,?_⟩,⟨rfl,rfl,congrArg (fun z=>some (O.arr (C.nums .i64 (zs.set k z)))) ?_,rfl,trivial⟩,rfl,rfl,rfl,rfl,rfl,rfl,rfl⟩),by dsimp only;rw[List.length_set];omega⟩
       unfold adj;rw[if_neg (by omega)]
       show zs.getD k 0-0=_;omega
      ·rw[List.take_of_length_le (by omega),List.drop_of_length_le (by omega),List.map_nil,List.append_nil]at j6
       have hzd:zs.drop (i+1)=(ys.drop (i+1)).map (adj g):=by
        rw[j6];exact List.drop_left' (by rw[List.length_take];omega)
       refine⟨⟨(adj g rt,zct qs2 g,zs,i+1),?_⟩,(ydn [] [0,1,2,3]),by dsimp only;omega⟩
       dsimp only
       cases gs with
       |nil=>simp at i3
       |cons g' gs =>
        rw[List.map_cons]at i3
        obtain⟨e1,e2⟩:=List.cons.inj i3
        refine⟨by omega,by omega,⟨fun x=>adj (f g') (f x),gs,?_,?_⟩,?_,i6.cut hg0.1,by omega,j5⟩
        ·rw[hzd,e2,List.map_map,e1];rfl
        ·rw[e1];exact i4
        ·rw[hzd]
         have:=i5
         rw[←hcl]at this
         exact this.step
    ·rw[List.drop_of_length_le (by omega)]at i3
     have hgs:gs=[]:=by
      cases gs with
      |nil=>rfl
      |cons a t=>simp at i3
     subst hgs
     have i4:(rt,qs2)=Z:=i4
     subst i4
     conv=>whnf
     repeat' (refine zm ?_ ?_;(focus ((try simp only[qA])<;>(try simp only[wA])<;>omega));conv=>whnf)
     exact(zu [] [3])
 ·obtain⟨i,hi⟩:∃i,z.toNat=i+1:=⟨z.toNat-1,by omega⟩
  have ez:(z-1).toNat=i:=by omega
  have hx2:(qs.getD (P.getD z.toNat 0).toNat ⟨[],[],[]⟩).keys.length<2:=by omega
  have hx1:z≠0:=by omega
  have hr:=hrng (by omega)
  clear hrng hst' hx
  rw[hi]at hq
  have hup':=hup i (by omega) _ hq
  have L:=(hlev i (by omega)).2
  rw[hq]at L
  have M:=L.pre
  clear hlev hup L hcu hZ hok
  have hx3:(zb qs (P.getD (i+1) 0)).keys.length<2:=by rw[←hi];exact hx2
  rw[if_pos hx3]at hup'
  dsimp only at M hup'
  have hkd:=hkk (P.getD i 0)
  have hpo:=zms (zb qs (P.getD i 0)).kids (P.getD (i+1) 0) hkd
  rw[if_pos M.cm]at hpo
  generalize hfi:plN (zb qs (P.getD i 0)).kids (P.getD (i+1) 0)-1=first at *
  have hmd:=z3v root (P.getD i 0) _ qs (hb47.pB (by decide) (by omega)) (by omega) first M.hz M.u0 M.u1 M.hkl M.hcl M.hk9 M.hvs _ _ _ rfl rfl rfl M.a0 M.b0 M.au M.bu M.ab M.ka M.kb M.hlf M.hin
  have u0:=M.u0
  have u1:=M.u1
  have hb0:=M.b0
  have htw:=zym qs (P.getD i 0) first
  obtain⟨b,hb⟩:∃b,(zb qs (P.getD i 0)).kids.getD (first+1) 0=b:=⟨_,rfl⟩
  rw[hb]at htw hb0
  clear M hfi
  obtain⟨⟨M1,M2⟩,hM⟩:∃M,zcd qs (P.getD i 0) first=M:=⟨_,rfl⟩
  rw[hM]at hup' hmd htw
  rw[←hi]at hpo hmd
  rw[←ez]at hpo hmd u0 u1 hkd
  dsimp only[zb]at hpo hmd hup' htw hkd
  obtain⟨pv,hpv⟩:∃pv,M2.getD 0 (-1)=pv:=⟨_,rfl⟩
  rw[hpv]at hmd
  rcases htw with rfl|rfl
  ·have hpv:-1=pv:=hpv
   subst hpv
   rw[List.append_nil]at hup'
   conv=>whnf
   repeat' first
    |(refine za (by kernel_rfl) ?_;conv=>whnf)
    |(refine zn ?_ ?_;(focus ((try simp only[qA])<;>(try simp only[wA])<;>omega));conv=>whnf)
    |(refine zm ?_ ?_;(focus ((try simp only[qA])<;>(try simp only[wA])<;>omega));conv=>whnf)
    |(refine za (by(try simp only[wA,wL])<;>omega) ?_;conv=>whnf)
    |(refine zg (by(try simp only[wA,wL])<;>omega) (by(try simp only[wA,wL])<;>omega) ?_;conv=>whnf)
    |(refine zw (hpo) rfl rfl ?_;conv=>whnf)
    |(refine zeb (hmd) rfl rfl rfl rfl rfl ?_;conv=>whnf)
    |(refine ze ?_;conv=>whnf)
   refine⟨⟨(M1,G,z-1),?_⟩,(ydn [] [0,1,2,117]),by dsimp only;omega⟩
   dsimp only
   refine⟨by omega,by omega,?_,by omega⟩
   rw[ez];exact hup'
  ·have hpv:b=pv:=hpv
   subst hpv
   conv=>whnf
   repeat' first
    |(refine za (by kernel_rfl) ?_;conv=>whnf)
    |(refine zn ?_ ?_;(focus ((try simp only[qA])<;>(try simp only[wA])<;>omega));conv=>whnf)
    |(refine za (by(try simp only[wA,wL])<;>omega) ?_;conv=>whnf)
    |(refine zg (by(try simp only[wA,wL])<;>omega) (by(try simp only[wA,wL])<;>omega) ?_;conv=>whnf)
    |(refine zw (hpo) rfl rfl ?_;conv=>whnf)
    |(refine zeb (hmd) rfl rfl rfl rfl rfl ?_;conv=>whnf)
    |(refine ze ?_;conv=>whnf)
   refine⟨⟨(M1,G++([]++[b]),z-1),?_⟩,(ydn [] [0,1,2,117]),by dsimp only;omega⟩
   dsimp only
   refine⟨by omega,by omega,?_,by simp;omega⟩
   rw[ez];exact hup'
end Go.VL
