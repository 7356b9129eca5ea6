/- V-logic -/
import Derived.Test.YtdbhfajlffaneaaGreatVW9
import Derived.Test.YtdbhfajlffaneaaGreatVPD
import Derived.Test.YtdbhfajlffaneaaGreatVW1
import Derived.Test.YtdbhfajlffaneaaGreatVT5
import Derived.Test.YtdbhfajlffaneaaGreatVW8
namespace Go.VL
set_option linter.unusedVariables false
set_option linter.unusedSimpArgs false
theorem DAt.seg {ps:List Pg} {key:Int} {d:Nat} {a c:Int} (h:DAt ps key (d+2) a) (hc:(zb ps a).kids.getD (upF (zb ps a).keys key) 0=c) :
  ∃lo hi:Int,0≤lo∧hi≤99∧Seg (Fit (zao ps key (d+1) c).1 (d+1) 1 4) lo hi (zb ps a).keys (zb ps a).kids:=by
 obtain⟨mn,lo,hi,hf,hn,hl,hh,hm,hk,hlo0,hhi9⟩:=h
 obtain⟨h0,h1,h2,h3,hv0,hseg⟩:=hf
 have hseg:Seg (Fit ps (d+1) 2 4) lo hi (zb ps a).keys (zb ps a).kids:=hseg
 obtain⟨KA,KB,A,B,c',l,r,e1,e2,e3,e4,e5,e6,s1,s2,s3,g1,g2⟩:=Seg.route hh hl hseg
 rw[e6]at hc
 subst hc
 have m:Mid ps d a lo hi KA KB A B c' l r:=zp5 hn hseg e1 e2 e4 e5 s1 s3
 have hk':=(m.has g1 g2).1 hk
 have P:=zoj s2 (λ_=>by decide) m.nc g1 g2 hk'
 generalize zao ps key (d+1) c'=R at P⊢
 have hlen:=P.len
 have mf:=m.frame (ps':=R.1) (by omega) λy y0 y1 y2 y3=>P.out y y0 y3
 refine⟨lo,hi,hlo0,hhi9,?_⟩
 rw[m.ks,m.cs]
 exact(zk0 m.lA m.lB).2 ⟨l,r,mf.sL.imp λc _ l r hf=>hf.mono (by decide) (Nat.le_refl _),P.fit,mf.sR.imp λc _ l r hf=>hf.mono (by decide) (Nat.le_refl _)⟩
theorem DAt.rows {ps:List Pg} {key:Int} {d:Nat} {a c:Int} (h:DAt ps key (d+2) a) (hc:(zb ps a).kids.getD (upF (zb ps a).keys key) 0=c) {i:Nat} (hi:i<(zb ps a).keys.length)
  (hl:(zb (zao ps key (d+1) c).1 ((zb ps a).kids.getD i 0)).kids.length=0) :
  zdb (zab (zb (zao ps key (d+1) c).1 ((zb ps a).kids.getD i 0))++zab (zb (zao ps key (d+1) c).1 ((zb ps a).kids.getD (i+1) 0)))=true:=by
 obtain⟨lo,hi',h0,h9,hs⟩:=h.seg hc
 generalize (zao ps key (d+1) c).1=R at *
 have hlen:=hs.len
 have hF:∀c l r,Fit R (d+1) 1 4 c l r→l≤r:=λc l r hf=>hf.le (by decide)
 have ek:(zb ps a).keys=(zb ps a).keys.take i++(zb ps a).keys.getD i 0::(zb ps a).keys.drop (i+1):=by rw[←zg0 0 hi,List.take_append_drop]
 have ec:(zb ps a).kids=(zb ps a).kids.take i++(zb ps a).kids.getD i 0::(zb ps a).kids.getD (i+1) 0::(zb ps a).kids.drop (i+2):=by rw[←zg0 0 (show i+1<_ by omega),←zg0 0 (show i<_ by omega),List.take_append_drop]
 rw[ek,ec]at hs
 obtain⟨l,r,s1,f1,f2,s2⟩:=(zt6 (by rw[List.length_take,List.length_take];omega) (by rw[List.length_drop,List.length_drop];omega)).1 hs
 have b1:=zca.le hF s1
 have b2:=zc3.le hF s2
 have b3:=hF _ _ _ f1
 have b4:=hF _ _ _ f2
 match d,f1,f2 with
 |0,f1,f2 =>
  have o1:LeafOk _ _ _:=f1.2.2.2.2
  have o2:LeafOk _ _ _:=f2.2.2.2.2
  have n1:=f1.2.2.2.1
  have n2:=f2.2.2.2.1
  refine zln.2 ⟨(RowOk.append o1.row o2.row (by omega) (by omega)).wide (by omega) (by omega),?_⟩
  rw[List.length_append,zby _ o1.len,zby _ o2.len];omega
 |d+1,f1,f2 =>
  have:=zaa.kidsLen f1.2.2.2.2
  omega
open Go.Proofs
set_option maxRecDepth 10000
theorem vkp {n0:Nat} {s:S} {K:S→Prop} {l:List Gh} {ks:List Nat} (h:vgh n0 l {s with env:=keepE ks s.env} K):vgh n0 (.kp ks::l) s K:=by
 show S.force {s with env:=keepE ks s.env} λs=>vgh n0 l s K
 rw[S.force_eq]
 exact h
theorem yd3 {n0:Nat} {s:S} {K:S→Prop} {l:List Gh} {id:Nat} {p:Bool} {f:Nat} {x x':C} {i:Nat} {us:List V} (hl:zq s.hp id=some (.deep p f x [(i,us)])) (h1:zfw (zq s.hp) us=true)
  (hN:x.isNest=true) (h2:C.setEl x i (zbf (zq s.hp) us)=some x') (h3:zav (id::zad us)=true)
  (h:vgh n0 l {zeq (zad us) {s with hp:=zac s.hp id (.deep p f x' [])} with hp:=zi5 (zad us) (zeq (zad us) {s with hp:=zac s.hp id (.deep p f x' [])}).hp} K):vgh n0 (.cl id::l) s K:=by
 unfold vgh ydt
 simp only[hl,h1,hN,h2,h3]
 unfold zfp
 rw[S.force_eq]
 exact h
theorem ydr {n0:Nat} {s:S} {K:S→Prop} {l:List Gh} {id:Nat} {p:Bool} {f:Nat} {x x':C} {i j:Nat} {us vs:List V} (hl:zq s.hp id=some (.deep p f x [(i,us),(j,vs)])) (h1:zfw (zq s.hp) us=true)
  (hN:x.isNest=true) (h2:C.setEl x i (zbf (zq s.hp) us)=some x') (h3:zav (id::zad us)=true) (hne:i≠j)
  (h:vgh n0 l {zeq (zad us) {s with hp:=zac s.hp id (.deep p f x' [(j,vs)])} with hp:=zi5 (zad us) (zeq (zad us) {s with hp:=zac s.hp id (.deep p f x' [(j,vs)])}).hp} K):vgh n0 (.cl id::l) s K:=by
 unfold vgh ydt
 simp only[hl,h1,hN,h2,h3]
 unfold zfp
 refine zj hne ?_
 unfold zfp
 rw[S.force_eq]
 exact h
theorem yd2 {n0:Nat} {s:S} {K:S→Prop} {l:List Gh} {id:Nat} {p:Bool} {f:Nat} {x:C} {i:Nat} (hl:zq s.hp id=some (.deep p f x [])) (h1:f≤i∧i<x.len)
  (h:vgh n0 l {s with nx:=s.nx+x.stride,hp:=zc6 s.nx (x.row i)++zac s.hp id (.deep p f x [(i,zb5 s.nx (x.row i))])} K):vgh n0 (.op id i::l) s K:=by
 unfold vgh ydt
 simp only[hl]
 refine za h1 ?_
 unfold zfp
 rw[S.force_eq]
 exact h
theorem ydy (l:List Pg) (w:Nat):l.set w ⟨(l.getD w ⟨[],[],[]⟩).keys,(l.getD w ⟨[],[],[]⟩).kids,(l.getD w ⟨[],[],[]⟩).vals⟩=l:=by
 by_cases c:w<l.length
 ·rw[List.getD_eq_getElem?_getD,List.getElem?_eq_getElem c]
  exact List.set_getElem_self c
 ·exact List.set_eq_of_length_le (by omega)
end Go.VL
namespace Go.VL
open Go.Proofs
set_option maxRecDepth 10000
set_option linter.unusedSimpArgs false
set_option linter.unusedVariables false
theorem yg4 {α:Type} (l:List α) (e a b:α) {i:Nat} (h:i<l.length):((l++List.replicate 1 e).set i a).set l.length b=l.set i a++[b]:=by
 rw[show List.replicate 1 e=[e]from rfl,List.set_append_left _ _ h]
 have:l.length=(l.set i a).length:=by rw[List.length_set]
 rw[this,List.set_append_right _ _ (Nat.le_refl _),Nat.sub_self];rfl
theorem yg3 {α:Type} (l:List α) (e b:α):(l++List.replicate 1 e).set l.length b=l++[b]:=by
 rw[List.set_append_right _ _ (Nat.le_refl _),Nat.sub_self];rfl
theorem z15 {p:Bool} {f:Nat} {x:C} {ti:TI} {i j k:Nat} {v:V} {us:List V} {K:O→Prop} (hk:i=k) (c1:zhr v.cells=true) (c2:Nat.beq v.cells.length ti.size=true) (c3:zhg x v.cells=true) (c4:Nat.ble (j+ti.size) us.length=true)
  (h:K (.deep p f x [(k,zbj us j v.cells)])):zgc p f x [(k,us)] ti i j v K:=by
 unfold zgc zfp
 refine zl hk ?_
 simp only[c1,c2,c3,c4]
 exact h
set_option maxHeartbeats 8000000 in
theorem yha (root:Int) (ps:List Pg) (x:Pr) (hp:pB ps) (R:Int×List Pg) (g:zqc root ps x=some R):zr Tryz.prog 48 0 [trV root ps,prV x] [] 1 (.tup [.agg [.c (.int .i64 R.1),.slc 0],.tt]) [(0,.deep false 0 (.pgs R.2) [])]:=by
 obtain⟨g1,g2,gR,hR⟩:vTree root ps=true∧zdb [x]=true∧vTree R.1 R.2=true∧zer root ps (htF root ps) x=R:=by
  unfold zqc at g
  split at g
  ·rename_i q;cases g;exact⟨q.1,q.2.1,q.2.2,rfl⟩
  ·cases g
 have V:=za0 g1
 have v:=V.v0
 have hb:=zsq.1 g2
 have h0:=hb.1.1
 have h9:=hb.1.2
 have hv:=hb.2
 have l16:=V.l16
 have h3:=V.h3
 obtain⟨d,hd⟩:∃d,htF root ps=d+1:=⟨htF root ps-1,by have:=V.h1;omega⟩
 rw[hd]at v h3 hR
 have hvt:=zbi root ps hp
 have hip:=z8s x
 have hpt:=zdn (zjo root x.key ps hp g1) rfl
 change zr _ _ _ _ _ _ (.c (.nums .i64 (ptF ps x.key (htF root ps) root))) _ at hpt
 have hct:=yct root ps hp (by omega)
 rw[g1]at hvt
 rw[g2]at hip
 rw[hd]at hpt
 have ha:=v.at h0 h9
 have hPl:(ptF ps x.key (d+1) root).length=d+1:=zg1
 have hon:=λi (hi:i<d+1)=>z21 hv ha hi
 have hst:=λi (hi:i<d+1)=>zz1 hv ha hi
 have hup:=λi (hi:i+1<d+1)=>zwd (ps:=ps) (x:=x) (root:=root) hi
 have hab:=λi (hi:i+1<d+1)=>zpt hv ha hi
 have hkid:=λi (hi:i+1<d+1)=>z0y (ps:=ps) (key:=x.key) ha hi
 have hmo:=λi (hi:i<d+1)=>yaa (ps:=ps) (x:=x) (root:=root) hi
 have hpi:∀i,i+1<d+1→(zbb ps x (d+1-i) ((ptF ps x.key (d+1) root).getD i 0)).length≤16→zl3 (zb (zbb ps x (d+1-i) ((ptF ps x.key (d+1) root).getD i 0)) ((ptF ps x.key (d+1) root).getD i 0))=true:=λi hi hl=>by
  obtain⟨e,he⟩:∃e,d+1-i=e+2:=⟨d-1-i,by omega⟩
  have hai:=zjg ha (show i<d+1 by omega)
  rw[he]at hai hl
  have:=ybg hv hai hl
  rw[←he]at this
  exact this
 have hp0:(ptF ps x.key (d+1) root).getD 0 0=root:=zfy
 have hpd:=zjg ha (show d<d+1 by omega)
 have hR1:zbb ps x (d+1-d) ((ptF ps x.key (d+1) root).getD d 0)=ps.set ((ptF ps x.key (d+1) root).getD d 0).toNat (zae (zbc (zab (zb ps ((ptF ps x.key (d+1) root).getD d 0))) x)):=by rw[show d+1-d=1 by omega];rfl
 have hok:=zvr v hv h0 h9
 rw[hR]at hst hok
 have hRl:R.2.length≤16:=(za0 gR).l16
 have hvR:=zbi R.1 R.2 (hok.vt.pB (by omega))
 rw[gR]at hvR
 have hmo:∀i,i<d+1→4<(zb (zbb ps x (d+1-i) ((ptF ps x.key (d+1) root).getD i 0)) ((ptF ps x.key (d+1) root).getD i 0)).keys.length→(zbb ps x (d+1-i) ((ptF ps x.key (d+1) root).getD i 0)).length+1≤R.2.length:=λi hi ho=>by rw[←hR];exact hmo i hi ho
 clear hok
 have hRt:4<(zb (zbb ps x (d+1) root) root).keys.length→R=(((zbb ps x (d+1) root).length:Int)+1,(zbb ps x (d+1) root).set root.toNat (zam (zb (zbb ps x (d+1) root) root)).1++[(zam (zb (zbb ps x (d+1) root) root)).2.2,⟨[(zam (zb (zbb ps x (d+1) root) root)).2.1],[root,((zbb ps x (d+1) root).length:Int)],[]⟩]):=λhc=>by
  rw[←hR];unfold zer;rw[if_pos hc]
 have hinr:∀i,0≤i→i<(ps.length:Int)→(zb ps i).kids≠[]→zl3 (zb ps i)=true:=λi i0 i1 hk=>(zl6 g1 i0 i1).inr l16 hk
 clear hR
 generalize ptF ps x.key (d+1) root=P at *
 rw[show d+1-d=1 by omega]at hpd hR1
 have hD:((P.length:Int)-1).toNat=d:=by omega
 rw[←hD]at hpd hR1
 obtain⟨_,_,_,hpf,_⟩:=hpd
 have hlk:LeafOk (zb ps (P.getD ((P.length:Int)-1).toNat 0)) _ _:=hpf.2.2.2.2
 have b0:=hpf.1
 have b1:=hpf.2.1
 have hln:=hlk.len
 have k1:=hpf.2.2.2.1
 have hrl:=zby _ hln
 have hil:=zok (x:=x) (l:=zab (zb ps (P.getD ((P.length:Int)-1).toNat 0))) (by rw[zdi hln];exact hlk.asc)
 have hil2:(zbc (zab (zb ps (P.getD ((P.length:Int)-1).toNat 0))) x).length≤5:=by rw[hil,hrl];split<;>omega
 have hlr:=(zl6 g1 b0 b1).row hlk.kids
 have hrk:=(zln.1 hlr.1).1
 have hpol:=zmb (zb ps (P.getD ((P.length:Int)-1).toNat 0)) hln (by omega)
 change zr _ _ _ _ _ _ _ [(0,O.arr (.prs (zab (zb ps (P.getD ((P.length:Int)-1).toNat 0)))))]at hpol
 have hpir:=zdn (z9g (zab (zb ps (P.getD ((P.length:Int)-1).toNat 0))) x (by omega) (zde.2 ⟨hrk.asc,λk hk=>by obtain⟨y,hy,rfl⟩:=List.mem_map.1 hk;exact hrk.rng y hy⟩)) rfl
 change zr _ _ _ _ _ _ (.c (.prs (zbc (zab (zb ps (P.getD ((P.length:Int)-1).toNat 0))) x))) _ at hpir
 have hlf:=ydk (zbc (zab (zb ps (P.getD ((P.length:Int)-1).toNat 0))) x) (by omega)
 clear hil hpf hlk hlr hrk
 dsimp only[zb]at hln k1 hrl hil2 hR1 hpol hpir hlf b1
 have k4:=hp.len
 refine spi (fn:=Tryz.f48) _ ?_
 conv=>whnf
 repeat' first
  |(refine zm ?_ ?_;(focus (first|rfl|exact bne_self_eq_false _));conv=>whnf)
  |(refine zp (hvt) rfl rfl ?_;conv=>whnf)
  |(refine zp (hip) rfl rfl ?_;conv=>whnf)
  |(refine zp (hpt) rfl rfl ?_;conv=>whnf)
  |(refine zbe (hct) rfl rfl rfl rfl ?_;conv=>whnf)
 refine ze ?_
 conv=>whnf
 repeat' first|(refine za (by(try simp only[wA,wL])<;>omega) ?_;conv=>whnf)|(refine zg (by(try simp only[wA,wL])<;>omega) (by(try simp only[wA,wL])<;>omega) ?_;conv=>whnf)
 refine ze9 [.kp [2,3,4,6,7,8],.op 3 (P.getD ((P.length:Int)-1).toNat 0).toNat] ?_
 refine vkp ?_
 refine yd2 rfl ⟨Nat.zero_le _,by show _<ps.length;omega⟩ ?_
 conv=>whnf
 repeat' first
  |(refine za (by kernel_rfl) ?_;conv=>whnf)
  |(refine za (by(try simp only[wA,wL])<;>omega) ?_;conv=>whnf)
  |(refine yc9 (hpol) rfl rfl rfl ?_;conv=>whnf)
  |(refine zw (hpir) rfl rfl ?_;conv=>whnf)
  |(refine zlg [.arr (.nums .i64 ((zbc (zab (ps.getD (P.getD ((P.length:Int)-1).toNat 0).toNat ⟨[],[],[]⟩)) x).map Pr.key)),.arr (.nums .i64 ((zbc (zab (ps.getD (P.getD ((P.length:Int)-1).toNat 0).toNat ⟨[],[],[]⟩)) x).map Pr.value))] (hlf) rfl rfl rfl rfl rfl rfl rfl ?_;conv=>whnf)
  |(refine zl (by first|rfl|omega) ?_;conv=>whnf)
 conv=>arg 2;simp only[Nat.reduceAdd,C.stride]
 refine ze9 [.kp [4,6,7],.cl 3] ?_
 refine vkp ?_
 refine yd3 (x':=.pgs (ps.set (P.getD ((P.length:Int)-1).toNat 0).toNat (zae (zbc (zab (ps.getD (P.getD ((P.length:Int)-1).toNat 0).toNat ⟨[],[],[]⟩)) x)))) rfl rfl rfl rfl rfl ?_
 conv=>whnf
 repeat' (refine zg (by(try simp only[wA,wL])<;>omega) (by(try simp only[wA,wL])<;>omega) ?_;conv=>whnf)
 refine zd0 (λ(qs:List Pg) (z:Int)=>0≤z∧z<d+1∧qs=zbb ps x (d+1-z.toNat) (P.getD z.toNat 0))
  (λqs z=>⟨154,3,[(4,.ptr 0 0 0 0),(6,.c (.nums .i64 P)),(7,.ptr 1 0 0 0),(9,.c (.int .i64 z))],[(0,.box [.c (.int .i64 0),.nil] [] []),(1,.box [.c (.int .i64 root),.slc 2] [] []),(2,.deep false 0 (.pgs qs) [])]⟩) (λqs z=>z.toNat)
  (ps.set (P.getD ((P.length:Int)-1).toNat 0).toNat (zae (zbc (zab (ps.getD (P.getD ((P.length:Int)-1).toNat 0).toNat ⟨[],[],[]⟩)) x))) ((P.length:Int)-1) ⟨by omega,by omega,by rw[hD]at hR1⊢;rw[show d+1-d=1 by omega];exact hR1.symm⟩ (λ_ _=>Nat.zero_le _) (ydn [] [2,4,3]) (λqs z hi=>?_)
 obtain⟨hz0,hz1,hq⟩:=hi
 clear b0 b1 hln k1 hrl hil2 hR1 hpt hpol hpir hlf hct hvt hip
 obtain⟨lo,hi',q0,q9,qf,q5,qa0,qa1,qpl,qpu⟩:=hon z.toNat (by omega)
 have hst':=hst z.toNat (by omega)
 have hmo':=hmo z.toNat (by omega)
 rw[←hq]at hst' hmo' qf q5 qa1 qpl qpu
 dsimp only[zb]at hst' q5
 clear hon hst hmo
 obtain⟨pg,hpg⟩:∃pg,qs.getD (P.getD z.toNat 0).toNat ⟨[],[],[]⟩=pg:=⟨_,rfl⟩
 have hpg':zb qs (P.getD z.toNat 0)=pg:=hpg
 rw[hpg]at hst' q5
 rw[hpg']at qf hmo'
 by_cases hov:4<pg.keys.length
 ·have hmo':=hmo' hov
  clear hst'
  obtain⟨sp,hsp⟩:∃sp,zam pg=sp:=⟨_,rfl⟩
  obtain⟨pa,kx,pb⟩:=sp
  have hfin:∀i:Nat,z.toNat=i+1→zbb ps x (d+1-i) (P.getD i 0)=(qs.set (P.getD z.toNat 0).toNat pa++[pb]).set (P.getD i 0).toNat (zfu (zb ps (P.getD i 0)) (plN (zb ps (P.getD i 0)).kids (P.getD z.toNat 0)) kx qs.length):=λi hi=>by
   have e1:=hup i (by omega)
   obtain⟨e2,e3,e4,e5⟩:=hab i (by omega)
   rw[←hi,←hq]at e1 e2
   rw[e1]
   unfold zmw
   rw[hpg',if_pos hov,hsp,e2]
  have hR0:z=0→R=((qs.length:Int)+1,qs.set (P.getD z.toNat 0).toNat pa++[pb]++[(⟨[]++[kx],[]++[P.getD z.toNat 0]++[(qs.length:Int)],[]⟩:Pg)]):=λhz=>by
   subst hz
   have e:P.getD (Int.toNat 0) 0=root:=hp0
   rw[e]at hpg' hpg⊢
   rw[show d+1-Int.toNat 0=d+1 from rfl,e]at hq
   rw[hRt (by rw[←hq,hpg'];exact hov),←hq,hpg',hsp]
   refine Prod.ext rfl ?_
   simp
  have hov2:4<(qs.getD (P.getD z.toNat 0).toNat ⟨[],[],[]⟩).keys.length:=by rw[hpg];exact hov
  have hin2:pg.kids.length≠0→pg.kids.length=pg.keys.length+1:=λhk=>by
   obtain⟨e,he⟩:∃e,d+1-z.toNat=e+1:=⟨d-z.toNat,by omega⟩
   rw[he]at qf
   cases e with
   |zero=>have:=LeafOk.kids qf;rw[this]at hk;exact(hk rfl).elim
   |succ e=>exact zaa.kidsLen qf
  have hlf2:pg.kids.length=0→pg.vals.length=pg.keys.length∧zdb (zab pg)=true:=λhk=>by
   have hL:LeafOk pg lo hi':=by
    obtain⟨e,he⟩:∃e,d+1-z.toNat=e+1:=⟨d-z.toNat,by omega⟩
    rw[he]at qf
    cases e with
    |zero=>exact qf
    |succ e=>have:=zaa.kidsLen qf;omega
   exact⟨hL.len,zln.2 ⟨hL.row.wide q0 q9,by rw[zby _ hL.len];omega⟩⟩
  clear hRt hup qf
  by_cases hk0:pg.kids.length=0
  ·have hso:=yg0 pg (by omega) (by omega) hk0 (hlf2 hk0).1 (hlf2 hk0).2
   rw[hsp]at hso
   have e1:pa.kids=[]∧pb.kids=[]:=by
    unfold zam at hsp
    rw[if_pos hk0]at hsp
    cases hsp
    exact⟨rfl,rfl⟩
   obtain⟨ak,ac,av⟩:=pa
   obtain⟨bk,bc,bv⟩:=pb
   obtain⟨rfl,rfl⟩:ac=[]∧bc=[]:=e1
   clear hsp
   dsimp only at hso
   rw[←hpg]at hso
   conv=>whnf
   refine ze ?_
   conv=>whnf
   repeat' (refine zn ?_ ?_;(focus ((try simp only[qA])<;>(try simp only[wA])<;>omega));conv=>whnf)
   refine ze ?_
   conv=>whnf
   repeat' (refine za (by(try simp only[wA,wL])<;>omega) ?_;conv=>whnf)
   refine ze9 [.op 2 (P.getD z.toNat 0).toNat] (yd2 rfl ⟨Nat.zero_le _,by show _<qs.length;omega⟩ ?_)
   conv=>whnf
   repeat' first
    |(refine zm ?_ ?_;(focus ((try simp only[qA])<;>(try simp only[wA])<;>omega));conv=>whnf)
    |(refine za (by(try simp only[wA,wL])<;>omega) ?_;conv=>whnf)
    |(refine zl (by first|rfl|omega) ?_;conv=>whnf)
   conv=>arg 2;simp only[Nat.reduceAdd,C.stride]
   refine ze ?_
   conv=>whnf
   repeat' first
    |(refine za (by(try simp only[wA,wL])<;>omega) ?_;conv=>whnf)
    |(refine zbe (hso) rfl rfl rfl rfl ?_;conv=>whnf)
    |(refine zl (by first|rfl|omega) ?_;conv=>whnf)
   conv=>arg 2;simp only[Nat.reduceAdd,C.stride]
   refine ze9 [.kp [4,6,7,9,10,11,12,13]] ?_
   refine vkp ?_
   conv=>whnf
   skip
   conv=>arg 2;simp only[Nat.reduceAdd,C.stride]
   refine ze ?_
   conv=>whnf
   refine za (by(try simp only[wA,wN,wL])<;>omega) ?_
   conv=>whnf
   refine za (by(try simp only[wA,wN,wL])<;>omega) ?_
   refine z15 rfl rfl rfl rfl rfl ?_
   conv=>whnf
   skip
   conv=>arg 2;simp only[Nat.reduceAdd,C.stride]
   refine ze ?_
   conv=>whnf
   repeat' first|(refine za (by(try simp only[wA,wL])<;>omega) ?_;conv=>whnf)|(refine zlj ?_;conv=>whnf)
   conv=>arg 2;simp only[Nat.reduceAdd,C.stride]
   have hne:(P.getD z.toNat 0).toNat≠qs.length:=by omega
   refine ze9 [.kp [4,6,7,9,10,12,14],.cl 2,.cl 2,.kp [4,6,7,9,10,12,14]] ?_
   refine vkp ?_
   refine ydr (x':=.pgs ((qs++List.replicate 1 (⟨[],[],[]⟩:Pg)).set (P.getD z.toNat 0).toNat ⟨ak,[],av⟩)) rfl rfl rfl rfl rfl hne ?_
   refine yd3 (x':=.pgs (qs.set (P.getD z.toNat 0).toNat ⟨ak,[],av⟩++[(⟨bk,[],bv⟩:Pg)])) rfl rfl rfl (congrArg (λz=>some (C.pgs z)) (yg4 qs _ _ _ (by omega))) rfl ?_
   by_cases hz:z=0
   ·have hR0:=hR0 hz
    subst hR0
    dsimp only at hvR
    clear hab hfin hkid hpi
    have hq2:(qs.set (P.getD z.toNat 0).toNat ⟨ak,[],av⟩++[(⟨bk,[],bv⟩:Pg)]).length=qs.length+1:=by rw[List.length_append,List.length_set];rfl
    generalize qs.set (P.getD z.toNat 0).toNat ⟨ak,[],av⟩++[(⟨bk,[],bv⟩:Pg)]=q2 at *
    conv=>whnf
    repeat' (refine zn ?_ ?_;(focus ((try simp only[qA])<;>(try simp only[wA])<;>omega));conv=>whnf)
    refine ze ?_
    conv=>whnf
    repeat' (refine yg2 (ycp _ _) ?_;conv=>whnf)
    conv=>arg 2;simp only[Nat.reduceAdd,C.stride]
    refine ze ?_
    conv=>whnf
    repeat' first|(refine za (by(try simp only[wA,wL])<;>omega) ?_;conv=>whnf)|(refine zlj ?_;conv=>whnf)
    conv=>arg 2;simp only[Nat.reduceAdd,C.stride]
    refine ze9 [.kp [4,6,7,9,14],.cl 2,.kp [4,6,7,9,14]] ?_
    refine vkp ?_
    refine yd3 (x':=.pgs (q2++[(⟨[]++[kx],[]++[P.getD z.toNat 0]++[(qs.length:Int)],[]⟩:Pg)])) rfl rfl rfl (congrArg (λz=>some (C.pgs z)) (yg3 q2 _ _)) rfl ?_
    conv=>whnf
    repeat' first
     |(refine zm ?_ ?_;(focus (first|rfl|exact bne_self_eq_false _));conv=>whnf)
     |(refine zg (by(try simp only[wA,wL])<;>omega) (by(try simp only[wA,wL])<;>omega) ?_;conv=>whnf)
     |(refine zbo (hvR) rfl rfl rfl ?_;conv=>whnf)
     |(refine ze ?_;conv=>whnf)
    exact(zu [] [2])
   ·obtain⟨i,hi⟩:∃i,z.toNat=i+1:=⟨z.toNat-1,by omega⟩
    have hfin:=hfin i hi
    obtain⟨e2,e3,e4,e5⟩:=hab i (by omega)
    have hpi:=hpi i (by omega)
    clear hab hR0
    have ez:(z-1).toNat=i:=by omega
    obtain⟨up,hup'⟩:∃up,zb ps (P.getD i 0)=up:=⟨_,rfl⟩
    rw[←hi]at e2 e5
    rw[←hq]at e2
    obtain⟨f1,f2,f3,f4⟩:=hkid i (by omega)
    have hiu:=hinr _ e3 e4 (λhc=>by rw[hc]at f2;simp at f2)
    rw[hup']at hfin e2 hiu f1 f2 f3 f4
    have hq2:(qs.set (P.getD z.toNat 0).toNat ⟨ak,[],av⟩++[(⟨bk,[],bv⟩:Pg)]).length=qs.length+1:=by rw[List.length_append,List.length_set];rfl
    have hX:(qs.set (P.getD z.toNat 0).toNat ⟨ak,[],av⟩++[(⟨bk,[],bv⟩:Pg)]).getD (P.getD (z-1).toNat 0).toNat ⟨[],[],[]⟩=up:=by
     rw[ez]
     show zb (qs.set (P.getD z.toNat 0).toNat ⟨ak,[],av⟩++[(⟨bk,[],bv⟩:Pg)]) (P.getD i 0)=up
     rw[zlv e3,List.length_set,if_pos (by omega),zc9 qa0 qa1 e3,if_neg e5,e2]
    generalize qs.set (P.getD z.toNat 0).toNat ⟨ak,[],av⟩++[(⟨bk,[],bv⟩:Pg)]=q2 at *
    rw[←hi]at f1
    have hlt:=ztx f1
    have hpo:=z76 up (P.getD z.toNat 0) (by omega) f1
    have hw:zl3 (zfu up (plN up.kids (P.getD z.toNat 0)) kx qs.length)=true:=by
     have e6:zb (q2.set (P.getD i 0).toNat (zfu up (plN up.kids (P.getD z.toNat 0)) kx qs.length)) (P.getD i 0)=zfu up (plN up.kids (P.getD z.toNat 0)) kx qs.length:=by
      rw[zc9 e3 (by omega) e3,if_pos rfl]
     have:=hpi (by rw[hfin,List.length_set];omega)
     rw[hfin,e6]at this
     exact this
    have hak:=yg5 up (plN up.kids (P.getD z.toNat 0)) kx qs.length hlt hiu (by omega) (by omega) f2 hw
    have e3':0≤P.getD (z-1).toNat 0:=by rw[ez];exact e3
    have e4':P.getD (z-1).toNat 0<ps.length:=by rw[ez];exact e4
    rw[←ez]at hfin
    have hpv:(zfu up (plN up.kids (P.getD z.toNat 0)) kx qs.length).vals=[]:=rfl
    generalize zfu up (plN up.kids (P.getD z.toNat 0)) kx qs.length=pu at *
    obtain⟨uk,uc,uv⟩:=pu
    obtain rfl:uv=[]:=hpv
    dsimp only at hak
    rw[←hX]at hpo hak
    clear hpi hmo' hw hinr hkid hiu e2 f1 f2 f3 f4 hX
    conv=>whnf
    repeat' (refine zm ?_ ?_;(focus ((try simp only[qA])<;>(try simp only[wA])<;>omega));conv=>whnf)
    refine ze ?_
    conv=>whnf
    repeat' first|(refine za (by(try simp only[wA,wL])<;>omega) ?_;conv=>whnf)|(refine zg (by(try simp only[wA,wL])<;>omega) (by(try simp only[wA,wL])<;>omega) ?_;conv=>whnf)
    refine ze9 [.op 2 (P.getD (z-1).toNat 0).toNat] (yd2 rfl ⟨Nat.zero_le _,by show _<q2.length;omega⟩ ?_)
    conv=>whnf
    repeat' first
     |(refine za (by(try simp only[wA,wL])<;>omega) ?_;conv=>whnf)
     |(refine zbo (hpo) rfl rfl rfl ?_;conv=>whnf)
     |(refine zl (by first|rfl|omega) ?_;conv=>whnf)
    conv=>arg 2;simp only[Nat.reduceAdd,C.stride]
    refine ze ?_
    conv=>whnf
    repeat' first
     |(refine za (by(try simp only[wA,wL])<;>omega) ?_;conv=>whnf)
     |(refine yg2 (ycu _ _ _) ?_;conv=>whnf)
     |(refine zbe (hak) rfl rfl rfl rfl ?_;conv=>whnf)
     |(refine zl (by first|rfl|omega) ?_;conv=>whnf)
    conv=>arg 2;simp only[Nat.reduceAdd,C.stride]
    refine ze9 [.kp [4,6,7,9,16,18,19]] ?_
    conv=>whnf
    skip
    refine ze ?_
    conv=>whnf
    refine ydq (ycp _ _) ?_
    conv=>whnf
    refine za (by(try simp only[wA,wN,wL])<;>omega) ?_
    conv=>whnf
    refine za (by(try simp only[wA,wN,wL])<;>omega) ?_
    refine z15 rfl rfl rfl rfl rfl ?_
    conv=>whnf
    repeat' (refine za (by kernel_rfl) ?_;conv=>whnf)
    conv=>arg 2;simp only[Nat.reduceAdd,C.stride]
    refine ze9 [.kp [4,6,7,9],.cl 2,.kp [4,6,7,9]] ?_
    refine vkp ?_
    refine yd3 (x':=.pgs (q2.set (P.getD (z-1).toNat 0).toNat ⟨uk,uc,[]⟩)) rfl rfl rfl rfl rfl ?_
    conv=>whnf
    repeat' (refine zg (by(try simp only[wA,wL])<;>omega) (by(try simp only[wA,wL])<;>omega) ?_;conv=>whnf)
    refine⟨⟨(q2.set (P.getD (z-1).toNat 0).toNat ⟨uk,uc,[]⟩,z-1),?_⟩,(ydn [] [0,1,2]),by dsimp only;omega⟩
    dsimp only
    refine⟨by omega,by omega,?_⟩
    rw[←hfin,ez]
  ·have hso:=yg1 pg (by omega) (by omega) hk0 (hin2 hk0)
   rw[hsp]at hso
   have e1:pa.vals=[]∧pb.vals=[]:=by
    unfold zam at hsp
    rw[if_neg hk0]at hsp
    cases hsp
    exact⟨rfl,rfl⟩
   obtain⟨ak,ac,av⟩:=pa
   obtain⟨bk,bc,bv⟩:=pb
   obtain⟨rfl,rfl⟩:av=[]∧bv=[]:=e1
   clear hsp
   dsimp only at hso
   rw[←hpg]at hso
   conv=>whnf
   refine ze ?_
   conv=>whnf
   repeat' (refine zn ?_ ?_;(focus ((try simp only[qA])<;>(try simp only[wA])<;>omega));conv=>whnf)
   refine ze ?_
   conv=>whnf
   repeat' (refine za (by(try simp only[wA,wL])<;>omega) ?_;conv=>whnf)
   refine ze9 [.op 2 (P.getD z.toNat 0).toNat] (yd2 rfl ⟨Nat.zero_le _,by show _<qs.length;omega⟩ ?_)
   conv=>whnf
   repeat' first
    |(refine zm ?_ ?_;(focus ((try simp only[qA])<;>(try simp only[wA])<;>omega));conv=>whnf)
    |(refine za (by(try simp only[wA,wL])<;>omega) ?_;conv=>whnf)
    |(refine zl (by first|rfl|omega) ?_;conv=>whnf)
   conv=>arg 2;simp only[Nat.reduceAdd,C.stride]
   refine ze ?_
   conv=>whnf
   repeat' first
    |(refine za (by(try simp only[wA,wL])<;>omega) ?_;conv=>whnf)
    |(refine zbe (hso) rfl rfl rfl rfl ?_;conv=>whnf)
    |(refine zl (by first|rfl|omega) ?_;conv=>whnf)
   conv=>arg 2;simp only[Nat.reduceAdd,C.stride]
   refine ze9 [.kp [4,6,7,9,10,11,12,13]] ?_
   refine vkp ?_
   conv=>whnf
   skip
   conv=>arg 2;simp only[Nat.reduceAdd,C.stride]
   refine ze ?_
   conv=>whnf
   refine za (by(try simp only[wA,wN,wL])<;>omega) ?_
   conv=>whnf
   refine za (by(try simp only[wA,wN,wL])<;>omega) ?_
   refine z15 rfl rfl rfl rfl rfl ?_
   conv=>whnf
   skip
   conv=>arg 2;simp only[Nat.reduceAdd,C.stride]
   refine ze ?_
   conv=>whnf
   repeat' first|(refine za (by(try simp only[wA,wL])<;>omega) ?_;conv=>whnf)|(refine zlj ?_;conv=>whnf)
   conv=>arg 2;simp only[Nat.reduceAdd,C.stride]
   have hne:(P.getD z.toNat 0).toNat≠qs.length:=by omega
   refine ze9 [.kp [4,6,7,9,10,12,14],.cl 2,.cl 2,.kp [4,6,7,9,10,12,14]] ?_
   refine vkp ?_
   refine ydr (x':=.pgs ((qs++List.replicate 1 (⟨[],[],[]⟩:Pg)).set (P.getD z.toNat 0).toNat ⟨ak,ac,[]⟩)) rfl rfl rfl rfl rfl hne ?_
   refine yd3 (x':=.pgs (qs.set (P.getD z.toNat 0).toNat ⟨ak,ac,[]⟩++[(⟨bk,bc,[]⟩:Pg)])) rfl rfl rfl (congrArg (λz=>some (C.pgs z)) (yg4 qs _ _ _ (by omega))) rfl ?_
   by_cases hz:z=0
   ·have hR0:=hR0 hz
    subst hR0
    dsimp only at hvR
    clear hab hfin hkid hpi
    have hq2:(qs.set (P.getD z.toNat 0).toNat ⟨ak,ac,[]⟩++[(⟨bk,bc,[]⟩:Pg)]).length=qs.length+1:=by rw[List.length_append,List.length_set];rfl
    generalize qs.set (P.getD z.toNat 0).toNat ⟨ak,ac,[]⟩++[(⟨bk,bc,[]⟩:Pg)]=q2 at *
    conv=>whnf
    repeat' (refine zn ?_ ?_;(focus ((try simp only[qA])<;>(try simp only[wA])<;>omega));conv=>whnf)
    refine ze ?_
    conv=>whnf
    repeat' (refine yg2 (ycp _ _) ?_;conv=>whnf)
    conv=>arg 2;simp only[Nat.reduceAdd,C.stride]
    refine ze ?_
    conv=>whnf
    repeat' first|(refine za (by(try simp only[wA,wL])<;>omega) ?_;conv=>whnf)|(refine zlj ?_;conv=>whnf)
    conv=>arg 2;simp only[Nat.reduceAdd,C.stride]
    refine ze9 [.kp [4,6,7,9,14],.cl 2,.kp [4,6,7,9,14]] ?_
    refine vkp ?_
    refine yd3 (x':=.pgs (q2++[(⟨[]++[kx],[]++[P.getD z.toNat 0]++[(qs.length:Int)],[]⟩:Pg)])) rfl rfl rfl (congrArg (λz=>some (C.pgs z)) (yg3 q2 _ _)) rfl ?_
    conv=>whnf
    repeat' first
     |(refine zm ?_ ?_;(focus (first|rfl|exact bne_self_eq_false _));conv=>whnf)
     |(refine zg (by(try simp only[wA,wL])<;>omega) (by(try simp only[wA,wL])<;>omega) ?_;conv=>whnf)
     |(refine zbo (hvR) rfl rfl rfl ?_;conv=>whnf)
     |(refine ze ?_;conv=>whnf)
    exact(zu [] [2])
   ·obtain⟨i,hi⟩:∃i,z.toNat=i+1:=⟨z.toNat-1,by omega⟩
    have hfin:=hfin i hi
    obtain⟨e2,e3,e4,e5⟩:=hab i (by omega)
    have hpi:=hpi i (by omega)
    clear hab hR0
    have ez:(z-1).toNat=i:=by omega
    obtain⟨up,hup'⟩:∃up,zb ps (P.getD i 0)=up:=⟨_,rfl⟩
    rw[←hi]at e2 e5
    rw[←hq]at e2
    obtain⟨f1,f2,f3,f4⟩:=hkid i (by omega)
    have hiu:=hinr _ e3 e4 (λhc=>by rw[hc]at f2;simp at f2)
    rw[hup']at hfin e2 hiu f1 f2 f3 f4
    have hq2:(qs.set (P.getD z.toNat 0).toNat ⟨ak,ac,[]⟩++[(⟨bk,bc,[]⟩:Pg)]).length=qs.length+1:=by rw[List.length_append,List.length_set];rfl
    have hX:(qs.set (P.getD z.toNat 0).toNat ⟨ak,ac,[]⟩++[(⟨bk,bc,[]⟩:Pg)]).getD (P.getD (z-1).toNat 0).toNat ⟨[],[],[]⟩=up:=by
     rw[ez]
     show zb (qs.set (P.getD z.toNat 0).toNat ⟨ak,ac,[]⟩++[(⟨bk,bc,[]⟩:Pg)]) (P.getD i 0)=up
     rw[zlv e3,List.length_set,if_pos (by omega),zc9 qa0 qa1 e3,if_neg e5,e2]
    generalize qs.set (P.getD z.toNat 0).toNat ⟨ak,ac,[]⟩++[(⟨bk,bc,[]⟩:Pg)]=q2 at *
    rw[←hi]at f1
    have hlt:=ztx f1
    have hpo:=z76 up (P.getD z.toNat 0) (by omega) f1
    have hw:zl3 (zfu up (plN up.kids (P.getD z.toNat 0)) kx qs.length)=true:=by
     have e6:zb (q2.set (P.getD i 0).toNat (zfu up (plN up.kids (P.getD z.toNat 0)) kx qs.length)) (P.getD i 0)=zfu up (plN up.kids (P.getD z.toNat 0)) kx qs.length:=by
      rw[zc9 e3 (by omega) e3,if_pos rfl]
     have:=hpi (by rw[hfin,List.length_set];omega)
     rw[hfin,e6]at this
     exact this
    have hak:=yg5 up (plN up.kids (P.getD z.toNat 0)) kx qs.length hlt hiu (by omega) (by omega) f2 hw
    have e3':0≤P.getD (z-1).toNat 0:=by rw[ez];exact e3
    have e4':P.getD (z-1).toNat 0<ps.length:=by rw[ez];exact e4
    rw[←ez]at hfin
    have hpv:(zfu up (plN up.kids (P.getD z.toNat 0)) kx qs.length).vals=[]:=rfl
    generalize zfu up (plN up.kids (P.getD z.toNat 0)) kx qs.length=pu at *
    obtain⟨uk,uc,uv⟩:=pu
    obtain rfl:uv=[]:=hpv
    dsimp only at hak
    rw[←hX]at hpo hak
    clear hpi hmo' hw hinr hkid hiu e2 f1 f2 f3 f4 hX
    conv=>whnf
    repeat' (refine zm ?_ ?_;(focus ((try simp only[qA])<;>(try simp only[wA])<;>omega));conv=>whnf)
    refine ze ?_
    conv=>whnf
    repeat' first|(refine za (by(try simp only[wA,wL])<;>omega) ?_;conv=>whnf)|(refine zg (by(try simp only[wA,wL])<;>omega) (by(try simp only[wA,wL])<;>omega) ?_;conv=>whnf)
    refine ze9 [.op 2 (P.getD (z-1).toNat 0).toNat] (yd2 rfl ⟨Nat.zero_le _,by show _<q2.length;omega⟩ ?_)
    conv=>whnf
    repeat' first
     |(refine za (by(try simp only[wA,wL])<;>omega) ?_;conv=>whnf)
     |(refine zbo (hpo) rfl rfl rfl ?_;conv=>whnf)
     |(refine zl (by first|rfl|omega) ?_;conv=>whnf)
    conv=>arg 2;simp only[Nat.reduceAdd,C.stride]
    refine ze ?_
    conv=>whnf
    repeat' first
     |(refine za (by(try simp only[wA,wL])<;>omega) ?_;conv=>whnf)
     |(refine yg2 (ycu _ _ _) ?_;conv=>whnf)
     |(refine zbe (hak) rfl rfl rfl rfl ?_;conv=>whnf)
     |(refine zl (by first|rfl|omega) ?_;conv=>whnf)
    conv=>arg 2;simp only[Nat.reduceAdd,C.stride]
    refine ze9 [.kp [4,6,7,9,16,18,19]] ?_
    conv=>whnf
    skip
    refine ze ?_
    conv=>whnf
    refine ydq (ycp _ _) ?_
    conv=>whnf
    refine za (by(try simp only[wA,wN,wL])<;>omega) ?_
    conv=>whnf
    refine za (by(try simp only[wA,wN,wL])<;>omega) ?_
    refine z15 rfl rfl rfl rfl rfl ?_
    conv=>whnf
    repeat' (refine za (by kernel_rfl) ?_;conv=>whnf)
    conv=>arg 2;simp only[Nat.reduceAdd,C.stride]
    refine ze9 [.kp [4,6,7,9],.cl 2,.kp [4,6,7,9]] ?_
    refine vkp ?_
    refine yd3 (x':=.pgs (q2.set (P.getD (z-1).toNat 0).toNat ⟨uk,uc,[]⟩)) rfl rfl rfl rfl rfl ?_
    conv=>whnf
    repeat' (refine zg (by(try simp only[wA,wL])<;>omega) (by(try simp only[wA,wL])<;>omega) ?_;conv=>whnf)
    refine⟨⟨(q2.set (P.getD (z-1).toNat 0).toNat ⟨uk,uc,[]⟩,z-1),?_⟩,(ydn [] [0,1,2]),by dsimp only;omega⟩
    dsimp only
    refine⟨by omega,by omega,?_⟩
    rw[←hfin,ez]
 ·have hov2:¬4<(qs.getD (P.getD z.toNat 0).toNat ⟨[],[],[]⟩).keys.length:=by rw[hpg];exact hov
  have hRR:=hst' hov
  subst hRR
  dsimp only at hvR
  conv=>whnf
  refine ze ?_
  conv=>whnf
  repeat' (refine zn ?_ ?_;(focus ((try simp only[qA])<;>(try simp only[wA])<;>omega));conv=>whnf)
  refine ze ?_
  conv=>whnf
  repeat' (refine za (by(try simp only[wA,wL])<;>omega) ?_;conv=>whnf)
  refine ze9 [.op 2 (P.getD z.toNat 0).toNat] (yd2 rfl ⟨Nat.zero_le _,by show _<qs.length;omega⟩ ?_)
  conv=>whnf
  repeat' first
   |(refine zn ?_ ?_;(focus ((try simp only[qA])<;>(try simp only[wA])<;>omega));conv=>whnf)
   |(refine za (by(try simp only[wA,wL])<;>omega) ?_;conv=>whnf)
   |(refine zl (by first|rfl|omega) ?_;conv=>whnf)
  conv=>arg 2;simp only[Nat.reduceAdd,C.stride]
  refine ze9 [.kp [4,6,7,9,10],.cl 2] ?_
  refine vkp ?_
  refine yd3 (x':=.pgs qs) rfl rfl rfl (congrArg (λz=>some (C.pgs z)) (ydy qs _)) rfl ?_
  conv=>whnf
  repeat' first
   |(refine zm ?_ ?_;(focus (first|rfl|exact bne_self_eq_false _));conv=>whnf)
   |(refine zbo (hvR) rfl rfl rfl ?_;conv=>whnf)
   |(refine ze ?_;conv=>whnf)
  exact(zu [] [2])
end Go.VL
namespace Go.VL
open Go.Proofs
set_option maxRecDepth 10000
set_option linter.unusedSimpArgs false
set_option linter.unusedVariables false
abbrev rdH (ops:List Opn) (root:Int) (ps:List Pg) (held:List (List Int)) (got done:List Int):List (Nat×O):=[(0,.box [.c (.int .i64 root),.slc 4,.c (.ops ops),.slc 1,.slc 2,.slc 3] [] []),(1,.deep false 0 (.numss held) []),(2,.arr (.nums .i64 got)),(3,.arr (.nums .i64 done)),(4,.deep false 0 (.pgs ps) [])]
theorem yg7 (ops:List Opn) (root:Int) (ps:List Pg) (held:List (List Int)) (got done:List Int) (w:Nat) (hvt:vTree root ps=true) (hin:InP ps (held.getD w [])) (hw:w<ops.length) (hhl:held.length=ops.length) (hkl:∀i,(held.getD i []).length≤1000) (hn:ops.length≤1000) :
  zr Tryz.prog 148 5 [.ptr 0 0 0 0,.c (.int .i64 w)] (rdH ops root ps held got done) 5 (.c (.int .i64 (nxF root ps (held.getD w []) (z4e ops w).key))) (rdH ops root ps held got done):=by
 have hp:pB ps:=(zdx hvt).pb
 have hkw:=hkl w
 by_cases hz:(held.getD w []).length=0
 ·have e:nxF root ps (held.getD w []) (z4e ops w).key=root:=by unfold nxF;rw[if_pos hz]
  rw[e]
  refine spi (fn:=Tryz.f148) _ ?_
  conv=>whnf
  refine ze ?_
  conv=>whnf
  skip
  refine ze9 [.op 1 w] ?_
  conv=>whnf
  repeat' first
   |(refine zn ?_ ?_;(focus ((try simp only[qA])<;>(try simp only[wA])<;>omega));conv=>whnf)
   |(refine za (by(try simp only[wA,wL])<;>omega) ?_;conv=>whnf)
   |((refine ze9 [.cl 1] ?_;(conv=>whnf);refine z45 ?_);conv=>whnf)
   |(refine zl (by first|rfl|omega) ?_;conv=>whnf)
   |(refine ze ?_;conv=>whnf)
  (refine zbg [] [0,1,2,3,4] ⟨rfl,⟨rfl,congrArg (λz=>some (O.deep false 0 (C.numss z) [])) ?_,rfl,rfl,rfl,trivial⟩,rfl,rfl,rfl,rfl,rfl,rfl⟩;exact z6g _ _)
 ·have e:nxF root ps (held.getD w []) (z4e ops w).key=(zb ps (laF (held.getD w []))).kids.getD (upF (zb ps (laF (held.getD w []))).keys (z4e ops w).key) 0:=by unfold nxF;rw[if_neg hz]
  obtain⟨l0,l1,l2⟩:=hin _ (z7d hz)
  have hir:=(zl6 hvt l0 l1).inr (za0 hvt).l16 (λq=>l2 (by rw[q];rfl))
  have hrk:=zxe (zb ps (laF (held.getD w []))) (z4e ops w).key hir
  have hla:laF (held.getD w [])=(held.getD w []).getD (((held.getD w []).length:Int)-1).toNat 0:=by unfold laF;congr 1;omega
  rw[e]
  rw[hla]at hrk l0 l1⊢
  dsimp only[zb]at hrk⊢
  refine spi (fn:=Tryz.f148) _ ?_
  conv=>whnf
  refine ze ?_
  conv=>whnf
  skip
  refine ze9 [.op 1 w] ?_
  conv=>whnf
  repeat' first|(refine za (by(try simp only[wA,wL])<;>omega) ?_;conv=>whnf)|(refine zl (by first|rfl|omega) ?_;conv=>whnf)
  refine ze ?_
  conv=>whnf
  repeat' (refine zm ?_ ?_;(focus ((try simp only[qA])<;>(try simp only[wA])<;>omega));conv=>whnf)
  refine ze9 [.kp [0,1,4,5],.op 4 ((held.getD w []).getD (((held.getD w []).length:Int)-1).toNat 0).toNat] ?_
  refine vkp ?_
  refine yd2 rfl ⟨Nat.zero_le _,by show _<ps.length;omega⟩ ?_
  conv=>whnf
  repeat' first
   |(refine za (by kernel_rfl) ?_;conv=>whnf)
   |(refine za (by(try simp only[wA,wL])<;>omega) ?_;conv=>whnf)
   |(refine zg (by(try simp only[wA,wL])<;>omega) (by(try simp only[wA,wL])<;>omega) ?_;conv=>whnf)
   |(refine zl (by first|rfl|omega) ?_;conv=>whnf)
  conv=>arg 2;simp only[Nat.reduceAdd,C.stride]
  refine ze ?_
  conv=>whnf
  repeat' first
   |(refine za (by kernel_rfl) ?_;conv=>whnf)
   |(refine za (by(try simp only[wA,wL])<;>omega) ?_;conv=>whnf)
   |(refine ydq (ycu _ _ _) ?_;conv=>whnf)
   |(refine zly (hrk) rfl rfl rfl ?_;conv=>whnf)
  conv=>arg 2;simp only[Nat.reduceAdd,C.stride]
  refine ze9 [.kp [4],.cl 1,.cl 4] ?_
  refine vkp ?_
  refine yd3 (x':=.numss held) rfl rfl rfl (congrArg (λz=>some (C.numss z)) (z6g _ _)) rfl ?_
  refine yd3 (x':=.pgs ps) rfl rfl rfl (congrArg (λz=>some (C.pgs z)) (ydy _ _)) rfl ?_
  conv=>whnf
  exact(zu [] [0,1,2,3,4])
theorem yg6 (ops:List Opn) (root:Int) (ps:List Pg) (held:List (List Int)) (got done:List Int) (w:Nat) (page:Int) (hw:w<ops.length) (hhl:held.length=ops.length) (hkl:∀i,(held.getD i []).length≤1000) (hn:ops.length≤1000) :
  zr Tryz.prog 149 5 [.ptr 0 0 0 0,.c (.int .i64 w),.c (.int .i64 page)] (rdH ops root ps held got done) 5 (.c (.bool (z4j ops held w page))) (rdH ops root ps held got done):=by
 refine spi (fn:=Tryz.f149) _ ?_
 conv=>whnf
 repeat' (refine ze ?_;conv=>whnf)
 refine zau (λi:Nat=>i≤held.length∧∀j,j<i→z48 ops held w page j=false) (λi=>⟨49,5,[(0,.ptr 0 0 0 0),(1,.c (.int .i64 w)),(2,.c (.int .i64 page)),(12,.slc 1),(13,.c (.int .i64 held.length)),(14,.c (.int .i64 i))],rdH ops root ps held got done⟩) (λi=>held.length-i) 0 ⟨Nat.zero_le _,λj hj=>absurd hj (Nat.not_lt_zero _)⟩ (λ_=>Nat.le_refl _) (ydn [] [0,1,2,3,4]) (λi hi=>?_)
 obtain⟨hi,hb⟩:=hi
 by_cases c:i<held.length
 ·have hcn:=z61 (held.getD i []) page (by have:=hkl i;omega)
  have hy:=λB (hB:(held.getD i []).contains page=B) q=>z8q (show i<ops.length by omega) (z86 (ops:=ops) (w:=w) hB q)
  have hno:∀B,(held.getD i []).contains page=B→¬(i≠w∧B=true∧((z4e ops i).kind=1∨(z4e ops w).kind=1))→i+1≤held.length∧∀j,j<i+1→z48 ops held w page j=false:=λB hB q=>⟨c,λj hj=>by
   by_cases e:j=i
   ·subst e;exact z8a hB q
   ·exact hb j (by omega)⟩
  have hy:=hy _ rfl
  have hno:=hno _ rfl
  generalize (held.getD i []).contains page=B at *
  dsimp only[z4e]at hy hno
  generalize z4j ops held w page=BF at *
  cases B with
  |true =>
   have hy:(i≠w∧((ops.getD i ⟨0,0,0⟩).kind=1∨(ops.getD w ⟨0,0,0⟩).kind=1))→BF=true:=λq=>hy ⟨q.1,rfl,q.2⟩
   have hno:¬(i≠w∧((ops.getD i ⟨0,0,0⟩).kind=1∨(ops.getD w ⟨0,0,0⟩).kind=1))→i+1≤held.length∧∀j,j<i+1→z48 ops held w page j=false:=λq=>hno λp=>q ⟨p.1,p.2.2⟩
   generalize e1:(ops.getD i ⟨0,0,0⟩).kind=K1 at *
   generalize e2:(ops.getD w ⟨0,0,0⟩).kind=K2 at *
   conv=>whnf
   refine ze9 [.op 1 i] ?_
   conv=>whnf
   repeat' first
    |(refine zm ?_ ?_;(focus (first|rfl|exact bne_self_eq_false _));conv=>whnf)
    |(refine zn ?_ ?_;(focus ((try simp only[qA])<;>(try simp only[wA])<;>omega));conv=>whnf)
    |(refine za (by(try simp only[wA,wL])<;>omega) ?_;conv=>whnf)
    |(refine zk (λh=>?_) (λh=>?_)<;>(try simp only[qA]at h)<;>(try simp only[wA]at h)<;>conv=>whnf)
    |(refine zg (by(try simp only[wA,wL])<;>omega) (by(try simp only[wA,wL])<;>omega) ?_;conv=>whnf)
    |((refine ze9 [.cl 1] ?_;(conv=>whnf);refine z45 ?_);conv=>whnf)
    |(refine zbo (hcn) rfl rfl rfl ?_;conv=>whnf)
    |(refine zl (by first|rfl|omega) ?_;conv=>whnf)
    |(refine ze ?_;conv=>whnf)
   all_goals first
    |(have hy:=hy (by omega);subst hy;(refine zbg [] [0,1,2,3,4] ⟨rfl,⟨rfl,congrArg (λz=>some (O.deep false 0 (C.numss z) [])) ?_,rfl,rfl,rfl,trivial⟩,rfl,rfl,rfl,rfl,rfl,rfl⟩;exact z6g _ _))
    |(refine⟨⟨i+1,hno (by omega)⟩,(zsg [.cl 1] [] [0,1,2,3,4] ?_),by dsimp only;omega⟩
      conv=>whnf
      refine⟨by repeat first|exact trivial|refine⟨rfl,?_⟩,⟨rfl,congrArg (λz=>some (O.deep false 0 (C.numss z) [])) ?_,rfl,rfl,rfl,trivial⟩,rfl,rfl,rfl,rfl,rfl,rfl,rfl⟩
      exact z6g _ _)
  |false =>
   have hno:=hno λp=>by cases p.2.1
   conv=>whnf
   refine ze9 [.op 1 i] ?_
   conv=>whnf
   repeat' first
    |(refine zn ?_ ?_;(focus (first|rfl|exact beq_self_eq_true _));conv=>whnf)
    |(refine zn ?_ ?_;(focus ((try simp only[qA])<;>(try simp only[wA])<;>omega));conv=>whnf)
    |(refine za (by(try simp only[wA,wL])<;>omega) ?_;conv=>whnf)
    |(refine zk (λh=>?_) (λh=>?_)<;>(try simp only[qA]at h)<;>(try simp only[wA]at h)<;>conv=>whnf)
    |(refine zg (by(try simp only[wA,wL])<;>omega) (by(try simp only[wA,wL])<;>omega) ?_;conv=>whnf)
    |(refine zbo (hcn) rfl rfl rfl ?_;conv=>whnf)
    |(refine zl (by first|rfl|omega) ?_;conv=>whnf)
    |(refine ze ?_;conv=>whnf)
   all_goals
    refine⟨⟨i+1,hno⟩,(zsg [.cl 1] [] [0,1,2,3,4] ?_),by dsimp only;omega⟩
    conv=>whnf
    refine⟨by repeat first|exact trivial|refine⟨rfl,?_⟩,⟨rfl,congrArg (λz=>some (O.deep false 0 (C.numss z) [])) ?_,rfl,rfl,rfl,trivial⟩,rfl,rfl,rfl,rfl,rfl,rfl,rfl⟩
    exact z6g _ _
 ·have:=z7t (ops:=ops) (held:=held) (w:=w) (page:=page) λj hj=>hb j (by omega)
  rw[this]
  conv=>whnf
  repeat' first|(refine zm ?_ ?_;(focus ((try simp only[qA])<;>(try simp only[wA])<;>omega));conv=>whnf)|(refine ze ?_;conv=>whnf)
  exact(zu [] [0,1,2,3,4])
theorem yg8 (ops:List Opn) (root:Int) (ps:List Pg) (held:List (List Int)) (got done:List Int) (w:Nat) (hvt:vTree root ps=true) (hk:(z4e ops w).kind=0∨(z4e ops w).kind=1) (hw:w<ops.length) (hhl:held.length=ops.length) (hgl:got.length=ops.length) (hdl:done.length≤1000) (hn:ops.length≤1000) (F:RS) (hF:fiF ops ⟨root,ps,held,done,got⟩ w=F) :
  zr Tryz.prog 151 5 [.ptr 0 0 0 0,.c (.int .i64 w)] (rdH ops root ps held got done) 5 (.tup []) (rdH ops F.root F.ps F.held F.got F.done):=by
 have hp:pB ps:=(zdx hvt).pb
 have hgk:=zom root (z4e ops w).key ps hp hvt
 have hpn:=z60 root ps ⟨(z4e ops w).key,(z4e ops w).value⟩ hp
 have hpk:=yha root ps ⟨(z4e ops w).key,(z4e ops w).value⟩ hp
 unfold gkV at hgk
 have hck:((psF root ps).map Pr.key).contains (z4e ops w).key=true↔(z4e ops w).key∈(psF root ps).map Pr.key:=List.contains_iff_mem
 unfold fiF at hF
 dsimp only[z4e]at *
 rcases hk with hk|hk
 ·rw[if_pos hk]at hF
  generalize zei (psF root ps) (ops.getD w ⟨0,0,0⟩).key=VV at *
  cases c:((psF root ps).map Pr.key).contains (ops.getD w ⟨0,0,0⟩).key with
  |true =>
   rw[if_pos (hck.1 c)]at hF
   rw[c]at hgk
   subst hF
   refine spi (fn:=Tryz.f151) _ ?_
   conv=>whnf
   repeat' first
    |(refine za (by kernel_rfl) ?_;conv=>whnf)
    |(refine zn ?_ ?_;(focus (first|rfl|exact beq_self_eq_true _));conv=>whnf)
    |(refine zn ?_ ?_;(focus ((try simp only[qA])<;>(try simp only[wA])<;>omega));conv=>whnf)
    |(refine za (by(try simp only[wA,wL])<;>omega) ?_;conv=>whnf)
    |((refine ze9 [.cl 1] ?_;(conv=>whnf);refine z45 ?_);conv=>whnf)
    |(refine zly (hgk) rfl rfl rfl ?_;conv=>whnf)
    |(refine ze ?_;conv=>whnf)
   exact(zu [] [0,1,2,3,4])
  |false =>
   rw[if_neg (λq=>by rw[hck.2 q]at c;cases c)]at hF
   rw[c]at hgk
   subst hF
   refine spi (fn:=Tryz.f151) _ ?_
   conv=>whnf
   repeat' first
    |(refine za (by kernel_rfl) ?_;conv=>whnf)
    |(refine zm ?_ ?_;(focus (first|rfl|exact bne_self_eq_false _));conv=>whnf)
    |(refine zn ?_ ?_;(focus ((try simp only[qA])<;>(try simp only[wA])<;>omega));conv=>whnf)
    |(refine za (by(try simp only[wA,wL])<;>omega) ?_;conv=>whnf)
    |((refine ze9 [.cl 1] ?_;(conv=>whnf);refine z45 ?_);conv=>whnf)
    |(refine zly (hgk) rfl rfl rfl ?_;conv=>whnf)
    |(refine ze ?_;conv=>whnf)
   exact(zu [] [0,1,2,3,4])
 ·rw[if_neg (by rw[hk];decide)]at hF
  cases g:zqc root ps ⟨(ops.getD w ⟨0,0,0⟩).key,(ops.getD w ⟨0,0,0⟩).value⟩with
  |none =>
   rw[g]at hF hpn
   change zr _ _ _ _ _ _ (.tup [ztV,.ff]) _ at hpn
   clear hpk
   subst hF
   refine spi (fn:=Tryz.f151) _ ?_
   conv=>whnf
   repeat' first
    |(refine za (by kernel_rfl) ?_;conv=>whnf)
    |(refine zm ?_ ?_;(focus ((try simp only[qA])<;>(try simp only[wA])<;>omega));conv=>whnf)
    |(refine za (by(try simp only[wA,wL])<;>omega) ?_;conv=>whnf)
    |((refine ze9 [.cl 1] ?_;(conv=>whnf);refine z45 ?_);conv=>whnf)
    |(refine zlg [] hpn rfl rfl rfl rfl rfl rfl rfl ?_;conv=>whnf)
    |(refine ze ?_;conv=>whnf)
   exact(zu [] [0,1,2,3,4])
  |some r =>
   have hpk:=hpk r g
   obtain⟨r1,r2⟩:=r
   rw[g]at hF
   clear hpn
   subst hF
   dsimp only at hpk
   refine spi (fn:=Tryz.f151) _ ?_
   conv=>whnf
   repeat' first
    |(refine za (by kernel_rfl) ?_;conv=>whnf)
    |(refine zm ?_ ?_;(focus ((try simp only[qA])<;>(try simp only[wA])<;>omega));conv=>whnf)
    |(refine za (by(try simp only[wA,wL])<;>omega) ?_;conv=>whnf)
    |((refine ze9 [.cl 1] ?_;(conv=>whnf);refine z45 ?_);conv=>whnf)
    |(refine zlg [.deep false 0 (.pgs r2) []] (hpk) rfl rfl rfl rfl rfl rfl rfl ?_;conv=>whnf)
    |(refine ze ?_;conv=>whnf)
   exact(zu [] [0,1,2,3,15])
end Go.VL
