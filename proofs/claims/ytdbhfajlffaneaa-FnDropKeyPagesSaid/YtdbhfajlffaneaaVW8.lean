/- V-logic: TrXna TrXnb TrXoa TrXo TrXs TrYc TrYd TrYe TrXta -/
import Derived.Test.YtdbhfajlffaneaaVW7
import Derived.Test.YtdbhfajlffaneaaVW3
import Derived.Test.YtdbhfajlffaneaaVT6
import Derived.Test.YtdbhfajlffaneaaVW1
import Derived.Test.YtdbhfajlffaneaaVW5
namespace Go.VL
open Go.Proofs
set_option maxRecDepth 10000
set_option linter.unusedSimpArgs false
set_option linter.unusedVariables false
theorem yfr (qs:List Pg) (up c:Int) (f:Nat) (M:MendPre qs up c f) (hp:pB qs) (h16:qs.length≤16)
  (hrow:(zb qs ((zb qs up).kids.getD f 0)).kids.length=0→zdb (zab (zb qs ((zb qs up).kids.getD f 0))++zab (zb qs ((zb qs up).kids.getD (f+1) 0)))=true)
  (bs:List Bool) (hbs:bs.length=16) (j:Int) (j0:0≤j) (j1:j≤1000) :
  zr Try.prog 44 2 [.ptr 0 0 0 0,.c (.int .i64 up),.c (.int .i64 c)] (mdH qs bs j) 2 (.tup []) (mdH (zcd qs up f).1 ((zcd qs up f).2.foldl (fun l g=>l.set g.toNat true) bs) (j+((zcd qs up f).2.length:Nat))):=by
 obtain⟨cm,hz,u0,u1,hkl,hcl,hk9,hvs,hc0,ha0,hb0,hau,hbu,hab,ka,kb,hlf,hin⟩:=M
 obtain⟨u,rfl⟩:∃u:Nat,up=u:=⟨up.toNat,by omega⟩
 obtain⟨a,ha⟩:∃a:Nat,(zb qs u).kids.getD f 0=a:=⟨((zb qs u).kids.getD f 0).toNat,by omega⟩
 obtain⟨b,hb⟩:∃b:Nat,(zb qs u).kids.getD (f+1) 0=b:=⟨((zb qs u).kids.getD (f+1) 0).toNat,by omega⟩
 obtain⟨k,hk⟩:∃k,(zb qs u).keys.getD f 0=k:=⟨_,rfl⟩
 rw[yfl qs u f ha hb hk]
 rw[ha]at ha0 hau hab ka hlf hin hrow
 rw[hb]at hb0 hbu hab kb hlf hin hrow
 have hb16:b<16:=by omega
 have hz':((plN (qs.getD u ⟨[],[],[]⟩).kids c:Nat):Int)=(f:Int)+1∨((plN (qs.getD u ⟨[],[],[]⟩).kids c:Nat):Int)=0∧f=0:=hz
 have N:MeN qs u a b f c:=⟨hp,by omega,by omega,by omega,hb16,fun q=>hau (by rw[q]),fun q=>hbu (by rw[q]),fun q=>hab (by rw[q]),ha,hb,hkl,hcl,hk9,hvs,cm,by omega,ka,kb⟩
 obtain⟨g,hg⟩:∃g,bs=tab g:=⟨_,z3k hbs⟩
 obtain⟨g2,hg2⟩:∃g2,(tab g).set b true=tab g2:=⟨_,z23 g b true⟩
 subst hg
 have ejo:mlF qs a b k=if (zcr (qs.getD a ⟨[],[],[]⟩) k (qs.getD b ⟨[],[],[]⟩)).keys.length≤4 then(qs.set a (zcr (qs.getD a ⟨[],[],[]⟩) k (qs.getD b ⟨[],[],[]⟩)),true,0)
   else((qs.set a (zam (zcr (qs.getD a ⟨[],[],[]⟩) k (qs.getD b ⟨[],[],[]⟩))).1).set b (zam (zcr (qs.getD a ⟨[],[],[]⟩) k (qs.getD b ⟨[],[],[]⟩))).2.2,false,(zam (zcr (qs.getD a ⟨[],[],[]⟩) k (qs.getD b ⟨[],[],[]⟩))).2.1):=rfl
 change (qs.getD a ⟨[],[],[]⟩).kids.length=0→_ at hlf
 change (qs.getD a ⟨[],[],[]⟩).kids.length≠0→_ at hin
 change (qs.getD a ⟨[],[],[]⟩).kids.length=0→zdb (zab (qs.getD a ⟨[],[],[]⟩)++zab (qs.getD b ⟨[],[],[]⟩))=true at hrow
 rw[ejo]
 by_cases lf:(qs.getD a ⟨[],[],[]⟩).kids.length=0
 ·obtain⟨va,vb⟩:=hlf lf
  have hv:=hrow lf
  have e:zcr (qs.getD a ⟨[],[],[]⟩) k (qs.getD b ⟨[],[],[]⟩)=zae (zab (qs.getD a ⟨[],[],[]⟩)++zab (qs.getD b ⟨[],[],[]⟩)):=by unfold zcr;rw[if_pos lf]
  rw[e]
  obtain⟨row,hr⟩:∃row,zab (qs.getD a ⟨[],[],[]⟩)++zab (qs.getD b ⟨[],[],[]⟩)=row:=⟨_,rfl⟩
  rw[hr]at hv⊢
  have el:(zae row).keys.length=row.length:=by simp[zae]
  by_cases h4:row.length≤4
  ·have h:=yf2 qs u a b f c N g g2 hg2 j j0 j1 lf va vb row hr h4
   rw[if_pos (show(zae row).keys.length≤4 by omega),if_pos rfl]
   show zr _ _ _ _ _ _ _ (mdH _ ((tab g).set ((b:Nat):Int).toNat true) (j+1))
   rw[Int.toNat_natCast b,hg2]
   exact h
  ·have h:=yf0 qs u a b f c N g g2 hg2 j j0 j1 lf va vb row hr h4 hv _ rfl
   have hsp:zam (zae row)=(zae (row.take ((row.length+1) / 2)),(row.getD ((row.length+1) / 2) ⟨0,0⟩).key,zae (row.drop ((row.length+1) / 2))):=by
    unfold zam
    rw[if_pos (show(zae row).kids.length=0 from rfl),ze3]
   rw[if_neg (show ¬(zae row).keys.length≤4 by omega),if_neg (fun q=>by cases q),hsp]
   show zr _ _ _ _ _ _ _ (mdH _ (tab g) (j+0))
   rw[Int.add_zero]
   exact h
 ·obtain⟨la,lb⟩:=hin lf
  have e:zcr (qs.getD a ⟨[],[],[]⟩) k (qs.getD b ⟨[],[],[]⟩)=⟨(qs.getD a ⟨[],[],[]⟩).keys++k::(qs.getD b ⟨[],[],[]⟩).keys,(qs.getD a ⟨[],[],[]⟩).kids++(qs.getD b ⟨[],[],[]⟩).kids,[]⟩:=by unfold zcr;rw[if_neg lf]
  rw[e]
  obtain⟨K,hK⟩:∃K,(qs.getD a ⟨[],[],[]⟩).keys++k::(qs.getD b ⟨[],[],[]⟩).keys=K:=⟨_,rfl⟩
  obtain⟨D,hD⟩:∃D,(qs.getD a ⟨[],[],[]⟩).kids++(qs.getD b ⟨[],[],[]⟩).kids=D:=⟨_,rfl⟩
  rw[hK,hD]
  have hDl:D.length≠0:=by rw[←hD,List.length_append];omega
  by_cases h4:K.length≤4
  ·have h:=yf5 qs u a b f c N g g2 hg2 j j0 j1 lf la lb k hk K D hK hD h4
   rw[if_pos h4,if_pos rfl]
   show zr _ _ _ _ _ _ _ (mdH _ ((tab g).set ((b:Nat):Int).toNat true) (j+1))
   rw[Int.toNat_natCast b,hg2]
   exact h
  ·have h:=yfw qs u a b f c N g j j0 j1 lf la lb k hk K D hK hD h4 _ rfl
   have hsp:zam ⟨K,D,[]⟩=(⟨K.take (K.length / 2),D.take (K.length / 2+1),[]⟩,K.getD (K.length / 2) 0,⟨K.drop (K.length / 2+1),D.drop (K.length / 2+1),[]⟩):=by
    unfold zam
    rw[if_neg hDl]
   rw[if_neg h4,if_neg (fun q=>by cases q),hsp]
   show zr _ _ _ _ _ _ _ (mdH _ (tab g) (j+0))
   rw[Int.add_zero]
   exact h
end Go.VL
namespace Go.VL
open Go.Proofs
set_option maxRecDepth 10000
set_option linter.unusedSimpArgs false
set_option linter.unusedVariables false
set_option maxHeartbeats 4000000 in
theorem yeu (qs:List Pg) (bs:List Bool) (hbs:bs.length=16) (j root:Int) (hp:pB qs) (h16:qs.length≤16) (r0:0≤root) (r1:root<qs.length)
  (hkid:∀i:Nat,i<qs.length→bs.getD i false=false→∀c∈(qs.getD i ⟨[],[],[]⟩).kids,0≤c∧c<qs.length) :
  zr Try.prog 45 2 [.ptr 0 0 0 0,.c (.int .i64 root)] (mdH qs bs j) 3 (.agg [.c (.int .i64 (frk (gnB bs) root)),.slc 2])
   [(0,.box [.slc 1] bs [.c (.int .i64 j)]),(1,.deep true qs.length (.pgs qs) []),(2,.arr (.pgs (keL (gnB bs) (frk (gnB bs)) 0 qs)))]:=by
 have hgb:∀i,gnB bs i=bs.getD i false:=fun _=>rfl
 have hrk:=fun i=>yfp (gnB bs) i
 have hrs:=fun i=>yf4 (gnB bs) i
 refine spi (fn:=Try.f45) _ ?_
 conv=>whnf
 repeat' (refine ze ?_;conv=>whnf)
 refine zk5 (fun(i r:Nat) (N:List Int)=>i≤qs.length∧r=rk (gnB bs) i∧N=nuA (gnB bs) i) (fun i r N=>⟨78,4,[(0,.ptr 0 0 0 0),(1,.c (.int .i64 root)),(4,.ptr 2 0 0 0),(5,.ptr 3 0 1 0),(6,.c (.int .i64 r)),(17,.c (.int .i64 qs.length)),(18,.c (.int .i64 i))],[(0,.box [.slc 1] bs [.c (.int .i64 j)]),(1,.deep true 0 (.pgs qs) []),(2,.box [.c (.int .i64 0),.nil] [] []),(3,.arr (.nums .i64 N))]⟩) (fun i _ _=>qs.length-i) 0 0 (List.replicate 16 0) ⟨Nat.zero_le _,rfl,rfl⟩ (fun _ _ _=>Nat.le_add_left 2 2) (ydn [] [0,1,2,3]) (fun i r N hi=>?_)
 obtain⟨hi,hr,hN⟩:=hi
 have hNl:N.length=16:=by rw[hN];exact yfv (by omega)
 by_cases c:i<qs.length
 ·have hrl:=hrk i
  conv=>whnf
  repeat' first
   |(refine zn ?_ ?_;(focus ((try simp only[qA])<;>(try simp only[wA])<;>omega));conv=>whnf)
   |(refine za (by(try simp only[wA,wL])<;>omega) ?_;conv=>whnf)
   |(refine zk (fun h=>?_) (fun h=>?_)<;>(try simp only[qA]at h)<;>(try simp only[wA]at h)<;>conv=>whnf)
   |(refine zg (by(try simp only[wA,wL])<;>omega) (by(try simp only[wA,wL])<;>omega) ?_;conv=>whnf)
   |(refine ze ?_;conv=>whnf)
  ·refine⟨⟨(i+1,r+1,N.set i (r:Int)),?_⟩,(ydn [] [0,1,2,3]),by dsimp only;omega⟩;(try dsimp only)
   refine⟨c,?_,by rw[hN,hr];exact ye5 (by omega)⟩
   rw[hrs,hr,hgb]
   rw[h];rfl
  ·refine⟨⟨(i+1,r,N.set i (r:Int)),?_⟩,(ydn [] [0,1,2,3]),by dsimp only;omega⟩;(try dsimp only)
   refine⟨c,?_,by rw[hN,hr];exact ye5 (by omega)⟩
   rw[hrs,hr,hgb]
   rw[h];rfl
 ·obtain rfl:i=qs.length:=by omega
  have hroot:N.getD root.toNat 0=frk (gnB bs) root:=by rw[hN];exact ye4 r0 r1
  have hnk:∀c:Int,0≤c∧c<qs.length→N.getD c.toNat 0=frk (gnB bs) c:=fun c hc=>by rw[hN];exact ye4 hc.1 hc.2
  clear hN hr hi
  conv=>whnf
  repeat' first|(refine zm ?_ ?_;(focus ((try simp only[qA])<;>(try simp only[wA])<;>omega));conv=>whnf)|(refine za (by(try simp only[wA,wL])<;>omega) ?_;conv=>whnf)|(refine ze ?_;conv=>whnf)
  refine zd0 (fun(i:Nat) (L:List Pg)=>i≤qs.length∧L.length≤i∧L=keL (gnB bs) (frk (gnB bs)) 0 (qs.take i)) (fun i L=>⟨78,6,[(0,.ptr 0 0 0 0),(4,.ptr 2 0 0 0),(5,.ptr 3 0 1 0),(8,.ptr 4 0 0 0),(41,.slc 1),(42,.c (.int .i64 qs.length)),(43,.c (.int .i64 i))],[(0,.box [.slc 1] bs [.c (.int .i64 j)]),(1,.deep true i (.pgs qs) []),(2,.box [.c (.int .i64 0),.nil] [] []),(3,.arr (.nums .i64 N)),(4,.box [.c (.int .i64 (N.getD root.toNat 0)),.slc 5] [] []),(5,.arr (.pgs L))]⟩) (fun i _=>qs.length-i) 0 [] ⟨Nat.zero_le _,Nat.zero_le _,rfl⟩ (fun _ _=>Nat.le_add_left 2 4) (zsg [.nb 4 1 false (.pgs [])] [] [0,1,2,3,4,5] ?_) (fun i L hi=>?_)
  ·conv=>whnf
   exact⟨by repeat first|exact trivial|refine⟨rfl,?_⟩,⟨rfl,rfl,rfl,rfl,rfl,rfl,trivial⟩,rfl,rfl,rfl,rfl,rfl,rfl,rfl⟩
  obtain⟨hi,hLl,hL⟩:=hi
  by_cases ci:i<qs.length
  ·have hkt:=yfh (gn:=gnB bs) (f:=frk (gnB bs)) ci
   by_cases g:bs.getD i false=true
   ·rw[hgb,if_pos g,List.append_nil,←hL]at hkt
    conv=>whnf
    refine ze9 [.op 1 i] (yd2 rfl ⟨Nat.le_refl _,ci⟩ ?_)
    conv=>whnf
    repeat' first
     |(refine zn ?_ ?_;(focus ((try simp only[qA])<;>(try simp only[wA])<;>omega));conv=>whnf)
     |(refine za (by(try simp only[wA,wL])<;>omega) ?_;conv=>whnf)
     |(refine zg (by(try simp only[wA,wL])<;>omega) (by(try simp only[wA,wL])<;>omega) ?_;conv=>whnf)
     |(refine zl (by first|rfl|omega) ?_;conv=>whnf)
     |(refine ze ?_;conv=>whnf)
    refine⟨⟨(i+1,L),⟨by dsimp only;omega,by dsimp only;omega,hkt.symm⟩⟩,(zsg [.ad 1] [] [0,1,2,3,4,5] ?_),by dsimp only;omega⟩
    conv=>whnf
    refine za ⟨Nat.le_refl _,trivial⟩ ?_
    conv=>whnf
    exact⟨by repeat first|exact trivial|refine⟨rfl,?_⟩,⟨rfl,rfl,rfl,rfl,rfl,rfl,trivial⟩,rfl,rfl,rfl,rfl,rfl,rfl,rfl⟩
   ·have hf:bs.getD i false=false:=by
     cases q:bs.getD i false with
     |false=>rfl
     |true=>exact(g q).elim
    have hkd:=hkid i ci hf
    have hkl:=hp.kids i
    dsimp only[zb,Int.toNat_natCast]at hkl
    rw[hgb,if_neg g,←hL]at hkt
    conv=>whnf
    refine ze9 [.op 1 i] (yd2 rfl ⟨Nat.le_refl _,ci⟩ ?_)
    conv=>whnf
    repeat' first
     |(refine zn ?_ ?_;(focus ((try simp only[qA])<;>(try simp only[wA])<;>omega));conv=>whnf)
     |(refine zm ?_ ?_;(focus ((try simp only[qA])<;>(try simp only[wA])<;>omega));conv=>whnf)
     |(refine za (by(try simp only[wA,wL])<;>omega) ?_;conv=>whnf)
     |(refine zl (by first|rfl|omega) ?_;conv=>whnf)
     |(refine ze ?_;conv=>whnf)
    refine zd0 (fun(k:Nat) (CS:List Int)=>k≤(qs.getD i ⟨[],[],[]⟩).kids.length∧CS=reL (frk (gnB bs)) (qs.getD i ⟨[],[],[]⟩).kids k) (fun k CS=>⟨78,10,[(0,.ptr 0 0 0 0),(4,.ptr 2 0 0 0),(5,.ptr 3 0 1 0),(8,.ptr 4 0 0 0),(10,.ptr 9 0 0 0),(41,.slc 1),(42,.c (.int .i64 qs.length)),(43,.c (.int .i64 i)),(55,.slc 7),(56,.c (.int .i64 (qs.getD i ⟨[],[],[]⟩).kids.length)),(57,.c (.int .i64 k))],[(0,.box [.slc 1] bs [.c (.int .i64 j)]),(1,.deep true i (.pgs qs) [(i,[.slc 6,.slc 7,.slc 8])]),(2,.box [.c (.int .i64 0),.nil] [] []),(3,.arr (.nums .i64 N)),(4,.box [.c (.int .i64 (N.getD root.toNat 0)),.slc 5] [] []),(5,.arr (.pgs L)),(6,.arr (.nums .i64 (qs.getD i ⟨[],[],[]⟩).keys)),(7,.arr (.nums .i64 CS)),(8,.arr (.nums .i64 (qs.getD i ⟨[],[],[]⟩).vals)),(9,.box [.slc 6,.slc 7,.slc 8] [] [])]⟩) (fun k _=>(qs.getD i ⟨[],[],[]⟩).kids.length-k) 0 (qs.getD i ⟨[],[],[]⟩).kids ⟨Nat.zero_le _,rfl⟩ (fun _ _=>Nat.le_add_left 2 8) (ydn [] [0,1,2,3,4,5,6,7,8,9]) (fun k CS hk=>?_)
    obtain⟨hk,hCS⟩:=hk
    have hCl:CS.length=(qs.getD i ⟨[],[],[]⟩).kids.length:=by rw[hCS,yfz]
    by_cases ck:k<(qs.getD i ⟨[],[],[]⟩).kids.length
    ·have hx:=hkd _ (zaq 0 ck)
     rw[←ye3 (f:=frk (gnB bs)) ck,←hCS]at hx
     have hst:=yfu (f:=frk (gnB bs)) ck
     rw[←hnk _ (hkd _ (zaq 0 ck)),←ye3 (f:=frk (gnB bs)) ck,←hCS]at hst
     conv=>whnf
     repeat' first
      |(refine za (by kernel_rfl) ?_;conv=>whnf)
      |(refine zn ?_ ?_;(focus ((try simp only[qA])<;>(try simp only[wA])<;>omega));conv=>whnf)
      |(refine za (by(try simp only[wA,wL])<;>omega) ?_;conv=>whnf)
      |(refine zg (by(try simp only[wA,wL])<;>omega) (by(try simp only[wA,wL])<;>omega) ?_;conv=>whnf)
      |(refine ze ?_;conv=>whnf)
     refine⟨⟨(k+1,CS.set k (N.getD (CS.getD k 0).toNat 0)),?_⟩,(ydn [] [0,1,2,3,4,5,6,7,8,9]),by dsimp only;omega⟩;(try dsimp only)
     exact⟨ck,hst⟩
    ·obtain rfl:k=(qs.getD i ⟨[],[],[]⟩).kids.length:=by omega
     rw[yfx]at hCS
     conv=>whnf
     repeat' first
      |(refine zm ?_ ?_;(focus ((try simp only[qA])<;>(try simp only[wA])<;>omega));conv=>whnf)
      |(refine za (by(try simp only[wA,wL])<;>omega) ?_;conv=>whnf)
      |(refine zg (by(try simp only[wA,wL])<;>omega) (by(try simp only[wA,wL])<;>omega) ?_;conv=>whnf)
      |(refine zo ?_;conv=>whnf)
      |(refine ze ?_;conv=>whnf)
     refine⟨⟨(i+1,L++([]++[⟨(qs.getD i ⟨[],[],[]⟩).keys,CS,(qs.getD i ⟨[],[],[]⟩).vals⟩])),⟨by dsimp only;omega,by simp;omega,by dsimp only;rw[hCS];exact hkt.symm⟩⟩,(zsg [.ad 1] [] [0,1,2,3,4,5] ?_),by dsimp only;omega⟩
     conv=>whnf
     refine za ⟨Nat.le_refl _,trivial⟩ ?_
     conv=>whnf
     exact⟨by repeat first|exact trivial|refine⟨rfl,?_⟩,⟨rfl,rfl,rfl,rfl,rfl,rfl,trivial⟩,rfl,rfl,rfl,rfl,rfl,rfl,rfl⟩
  ·obtain rfl:i=qs.length:=by omega
   rw[List.take_length]at hL
   subst hL
   conv=>whnf
   repeat' first|(refine zm ?_ ?_;(focus ((try simp only[qA])<;>(try simp only[wA])<;>omega));conv=>whnf)|(refine ze ?_;conv=>whnf)
   rw[hroot]
   exact(zu [] [0,1,5])
end Go.VL
namespace Go.VL
open Go.Proofs
set_option maxRecDepth 10000
set_option linter.unusedSimpArgs false
set_option linter.unusedVariables false
theorem yfb (G H:List Int):H.foldl (fun l g=>l.set g.toNat true) (z6j G)=z6j (G++H):=by
 unfold z6j;rw[List.foldl_append]
set_option maxHeartbeats 8000000 in
theorem yes (root key:Int) (ps:List Pg) (hp:pB ps) (d:Nat) (v:VT root ps (d+1)) (hvT:vTree root ps=true) (hht:htF root ps=d+1) (hk:key∈(prF ps (d+1) (zb ps root)).map Pr.key) :
  zr Try.prog 22 0 [trV root ps,.c (.int .i64 key)] [] 1 (.tup [.agg [.c (.int .i64 (zf4 root ps (d+1) key).1),.slc 0],.c (.int .i64 (zao ps key (d+1) root).2.length),.tt]) [(0,.arr (.pgs (zf4 root ps (d+1) key).2))]:=by
 have h3:=v.h3
 have l16:=v.l16
 have hrt:=v.v0.pos
 obtain⟨hb,ha⟩:=v.dAt hk
 have hbd:=v.v0.bd (by omega)
 have hvt:=zbi root ps hp
 rw[hvT]at hvt
 have hpt:=zdn (zjo root key ps hp hvT) rfl
 change zr _ _ _ _ _ _ (.c (.nums .i64 (ptF ps key (htF root ps) root))) _ at hpt
 rw[hht]at hpt
 have hct:=yct root ps hp (by omega)
 have hPl:(ptF ps key (d+1) root).length=d+1:=zg1
 have hlev:=fun i (hi:i+1<d+1)=>zm2 ha hi
 have hro:=fun i (hi:i+1<d+1) f hf=>yd4 ha hi (f:=f) hf
 have hup:=fun i (hi:i+1<d+1) R=>ztc (ps:=ps) (key:=key) (root:=root) (R:=R) hi
 have hst:=fun i (hi:i<d+1)=>zxl ha hi
 have hbd2:=fun i=>hbd.drop (key:=key) (d+1-i) ((ptF ps key (d+1) root).getD i 0)
 have hok:DropOk ps key (d+1) _ root 0 99 (zao ps key (d+1) root):=zoj v.fit (fun hd=>by rw[if_neg (by omega)];exact Nat.le_refl _) v.nd hb.1 hb.2 hk
 have hcu:=hok.cuts v.nd (fun x hx=>v.fit.wkLt x hx)
 have hkid:=fun i h0 h1 hn=>ydc (i:=i) v.v0 hok h0 h1 hn
 have hp0:(ptF ps key (d+1) root).getD 0 0=root:=zfy
 have hpd:=zqw ha (show d<d+1 by omega)
 have hR1:zao ps key (d+1-d) ((ptF ps key (d+1) root).getD d 0)=(ps.set ((ptF ps key (d+1) root).getD d 0).toNat (zae (zbq (zab (zb ps ((ptF ps key (d+1) root).getD d 0))) key)),[]):=by rw[show d+1-d=1 by omega];rfl
 obtain⟨Z,hZ⟩:∃Z,zf4 root ps (d+1) key=Z:=⟨_,rfl⟩
 obtain⟨W,hW⟩:∃W,zao ps key (d+1) root=W:=⟨_,rfl⟩
 rw[hZ,hW]
 unfold zf4 at hZ
 rw[hW]at hZ hok hcu hkid
 rw[hW]at hst
 generalize ptF ps key (d+1) root=P at *
 rw[show d+1-d=1 by omega]at hpd hR1
 have hD:((P.length:Int)-1).toNat=d:=by omega
 rw[←hD]at hpd hR1
 obtain⟨_,_,_,hpf,_,_,_,_,hkr,hl0,hl9⟩:=hpd
 have hlk:LeafOk (zb ps (P.getD ((P.length:Int)-1).toNat 0)) _ _:=hpf.2.2.2.2
 have b0:=hpf.1
 have b1:=hpf.2.1
 have hln:=hlk.len
 have k1:=hpf.2.2.2.1
 have hrl:=zby _ hln
 have hpol:=zdn (zmb (zb ps (P.getD ((P.length:Int)-1).toNat 0)) hln (by omega)) rfl
 change zr _ _ _ _ _ _ (.c (.prs (zab (zb ps (P.getD ((P.length:Int)-1).toNat 0))))) _ at hpol
 have hdp:=zdn (yco (zab (zb ps (P.getD ((P.length:Int)-1).toNat 0))) key (by omega) (zln.2 ⟨hlk.row.wide hl0 hl9,by omega⟩) hkr) rfl
 change zr _ _ _ _ _ _ (.tup [.c (.prs (zbq (zab (zb ps (P.getD ((P.length:Int)-1).toNat 0))) key)),.tt]) _ at hdp
 have hlo:=ydk (zbq (zab (zb ps (P.getD ((P.length:Int)-1).toNat 0))) key) (by have:=zqi key (zab (zb ps (P.getD ((P.length:Int)-1).toNat 0)));omega)
 dsimp only[zb]at hln k1 hrl hpol hdp hlo hR1
 obtain⟨row,hrow⟩:∃row,zbq (zab (ps.getD (P.getD ((P.length:Int)-1).toNat 0).toNat ⟨[],[],[]⟩)) key=row:=⟨_,rfl⟩
 rw[hrow]at hdp hlo hR1
 have k4:=hp.len
 refine spi (fn:=Try.f22) _ ?_
 conv=>whnf
 repeat' first
  |(refine zm ?_ ?_;(focus (first|rfl|exact bne_self_eq_false _));conv=>whnf)
  |(refine za (by(try simp only[wA,wL])<;>omega) ?_;conv=>whnf)
  |(refine zg (by(try simp only[wA,wL])<;>omega) (by(try simp only[wA,wL])<;>omega) ?_;conv=>whnf)
  |(refine zp (hvt) rfl rfl ?_;conv=>whnf)
  |(refine zp (hpt) rfl rfl ?_;conv=>whnf)
  |(refine zp (hpol) rfl rfl ?_;conv=>whnf)
  |(refine zp (hdp) rfl rfl ?_;conv=>whnf)
  |(refine zbe (hct) rfl rfl rfl rfl ?_;conv=>whnf)
 refine ze9 [.kp [2,4,5,6,7,8,9,11],.bx 3 1 16,.pin 2] ?_
 conv=>whnf
 repeat' first
  |(refine za (by kernel_rfl) ?_;conv=>whnf)
  |(refine za (by(try simp only[wA,wL])<;>omega) ?_;conv=>whnf)
  |(refine zlg [.arr (.nums .i64 (row.map Pr.key)),.arr (.nums .i64 (row.map Pr.value))] (hlo) rfl rfl rfl rfl rfl rfl rfl ?_;conv=>whnf)
 conv=>arg 2;simp only[Nat.reduceAdd,C.stride]
 refine ze9 [.kp [2,4,5,6,7,11],.cl 2] ?_
 conv=>whnf
 repeat' (refine zg (by(try simp only[wA,wL])<;>omega) (by(try simp only[wA,wL])<;>omega) ?_;conv=>whnf)
 refine zk5 (fun(qs:List Pg) (G:List Int) (z:Int)=>0≤z∧z<d+1∧zao ps key (d+1-z.toNat) (P.getD z.toNat 0)=(qs,G)∧G.length+z.toNat≤d)
  (fun qs G z=>⟨116,4,[(2,.ptr 0 0 0 0),(4,.ptr 1 0 0 0),(7,.c (.nums .i64 P)),(11,.ptr 3 0 0 0),(12,.c (.int .i64 z))],[(0,.box [.c (.int .i64 root),.c (.pgs ps)] [] []),(1,.box [.c (.int .i64 0),.nil] [] []),(2,.deep true 0 (.pgs qs) []),(3,.box [.slc 2] (z6j G) [.c (.int .i64 (G.length:Nat))])]⟩) (fun qs G z=>z.toNat)
  (ps.set (P.getD ((P.length:Int)-1).toNat 0).toNat (zae row)) [] ((P.length:Int)-1) ⟨by omega,by omega,by rw[hD]at hR1⊢;rw[show d+1-d=1 by omega];exact hR1,by simp;omega⟩ (fun _ _ _=>Nat.zero_le _) (ydn [] [0,1,2,3]) (fun qs G z hi=>?_)
 obtain⟨hz0,hz1,hq,hGz⟩:=hi
 clear hln k1 hrl hpol hdp hlo hpf b0 b1 hlk hkr hR1
 have hst':=hst z.toNat (by omega)
 rw[hq]at hst'
 have hbq:=hbd2 z.toNat
 rw[hq]at hbq
 clear hst hbd2
 have hgl:=hok.gl
 have hrng:0<z→0≤P.getD z.toNat 0∧P.getD z.toNat 0<qs.length:=fun hz=>by
  obtain⟨i,hi⟩:∃i,z.toNat=i+1:=⟨z.toNat-1,by omega⟩
  have L:=(hlev i (by omega)).2
  rw[←hi,hq]at L
  have:=L.pre.c0
  exact this
 have hwl:=hok.len
 have hql:qs.length=ps.length:=by
  by_cases hz:z=0
  ·have h1:=hst' (by omega)
   rw[h1]at hwl;exact hwl
  ·obtain⟨i,hi⟩:∃i,z.toNat=i+1:=⟨z.toNat-1,by omega⟩
   have L:=(hlev i (by omega)).2
   rw[←hi,hq]at L
   exact L.len
 dsimp only at hbq
 have hb47:Bd 47 qs:=hbq.mono ((show ∀e,e≤3→bdN 5 e≤47 by decide) _ (by omega))
 have hpq:=hb47.pB (by decide) (by omega)
 have hkq:=hpq.keys
 have hkk:=hpq.kids
 have hzr:0≤P.getD z.toNat 0∧P.getD z.toNat 0<qs.length:=by
  by_cases hz:z=0
  ·subst hz
   have e:P.getD (Int.toNat 0) 0=root:=hp0
   rw[e];omega
  ·exact hrng (by omega)
 obtain⟨pn,hpn⟩:∃pn:Nat,P.getD z.toNat 0=pn:=⟨(P.getD z.toNat 0).toNat,by omega⟩
 have hpnl:pn<qs.length:=by omega
 have k1:=hkq pn
 dsimp only[zb,Int.toNat_natCast]at k1
 by_cases hx:z=0∨¬(qs.getD pn ⟨[],[],[]⟩).keys.length<2
 ·have hst':=hst' (fun h0=>by
   rcases hx with hx|hx
   ·omega
   ·rw[hpn];exact hx)
  subst hst'
  have hrl:root.toNat<qs.length:=by omega
  have k5:=hkq root
  have k6:=hkk root
  have hrk:(qs.getD root.toNat ⟨[],[],[]⟩).kids.length=0∨(qs.getD root.toNat ⟨[],[],[]⟩).kids.length=(qs.getD root.toNat ⟨[],[],[]⟩).keys.length+1:=by
   have hf:=hok.fit.2.2.2.2
   match d,hf with
   |0,hf=>left;have:=LeafOk.kids hf;unfold zb at this;rw[this];rfl
   |d+1,hf=>right;exact zaa.kidsLen hf
  dsimp only[zb]at k5 k6 hcu hZ
  have hG16:∀x∈G,0≤x∧x<qs.length:=fun x hx=>by have:=hcu.1.rng x (List.mem_cons_of_mem _ hx);exact this
  have fin:∀(H:List Int) (rt:Int) (g:Nat→Bool),z6j H=tab g→(∀x∈H,0≤x∧x<qs.length)→H.Nodup→(∀x∈G,x∈H)→0≤rt→rt<qs.length→zmq id H (rt,qs)=Z →
    zr Try.prog 45 2 [.ptr 0 0 0 0,.c (.int .i64 rt)] (mdH qs (tab g) (G.length:Nat)) 3 (.agg [.c (.int .i64 Z.1),.slc 2]) [(0,.box [.slc 1] (tab g) [.c (.int .i64 (G.length:Nat))]),(1,.deep true qs.length (.pgs qs) []),(2,.arr (.pgs Z.2))]:=by
   intro H rt g e1 e2 e3 e4 e5 e6 e7
   have e8:=yfg (G:=H) fun x hx=>by have:=e2 x hx;omega
   rw[e1]at e8
   rw[yf1 e3 e2,←e8]at e7
   have h:=yeu qs (tab g) rfl (G.length:Nat) rt hpq (by omega) e5 e6 fun i hi hf=>by
    refine hkid i (by omega) (show(i:Int)<(qs.length:Nat) by omega) fun hm=>?_
    have e9:=yer (gn:=fun _=>false) (e4 _ hm)
    rw[←e8,Int.toNat_natCast]at e9
    unfold gnB at e9
    rw[hf]at e9;cases e9
   rw[←e7]
   exact h
  obtain⟨g0,hg0⟩:∃g0,z6j G=tab g0:=⟨_,z3k (yc1 G)⟩
  obtain⟨g2,hg2⟩:∃g2,(z6j G).set root.toNat true=tab g2:=⟨_,z3k (by rw[List.length_set];exact yc1 G)⟩
  have hgb:=yc1 G
  have fin0:=fun q=>fin G root g0 hg0 hG16 (List.nodup_cons.1 hcu.1.nd).2 (fun _ h=>h) hrt.1 (by omega) q
  have fin2:=fun h1 q=>fin (G++[root]) ((qs.getD root.toNat ⟨[],[],[]⟩).kids.getD 0 0) g2 (by rw[ycy];exact hg2) (fun x hx=>(hcu.2 h1).rng x (List.mem_cons_of_mem _ hx)) (List.nodup_cons.1 (hcu.2 h1).nd).2 (fun _ h=>List.mem_append_left _ h) ((hcu.2 h1).rng _ List.mem_cons_self).1 ((hcu.2 h1).rng _ List.mem_cons_self).2 q
  clear fin
  conv=>whnf
  refine ze9 [.op 2 pn] (yd2 rfl ⟨Nat.zero_le _,hpnl⟩ ?_)
  conv=>whnf
  repeat' first
   |(refine za (by kernel_rfl) ?_;conv=>whnf)
   |(refine zm ?_ ?_;(focus ((try simp only[qA])<;>(try simp only[wA])<;>omega));conv=>whnf)
   |(refine za (by(try simp only[wA,wL])<;>omega) ?_;conv=>whnf)
   |(refine zk (fun h=>?_) (fun h=>?_)<;>(try simp only[qA]at h)<;>(try simp only[wA]at h)<;>conv=>whnf)
   |(refine zl (by first|rfl|omega) ?_;conv=>whnf)
  all_goals
   refine ze9 [.kp [2,4,7,11],.cl 2] ?_
   conv=>whnf
   skip
   conv=>arg 2;simp only[ydy,Nat.reduceAdd,C.stride]
   refine ze9 [.op 2 root.toNat] (yd2 rfl ⟨Nat.zero_le _,hrl⟩ ?_)
   conv=>whnf
   by_cases h1:(qs.getD root.toNat ⟨[],[],[]⟩).kids.length=1
   ·rw[if_pos h1]at hZ
    have f2:=fin2 h1 hZ
    repeat' first
     |(refine zn ?_ ?_;(focus ((try simp only[qA])<;>(try simp only[wA])<;>omega));conv=>whnf)
     |(refine za (by(try simp only[wA,wL])<;>omega) ?_;conv=>whnf)
     |(refine zl (by first|rfl|omega) ?_;conv=>whnf)
    conv=>arg 2;simp only[Nat.reduceAdd,C.stride]
    refine ze9 [.kp [2,4,11,13]] ?_
    conv=>whnf
    repeat' (refine za (by(try simp only[wA,wL])<;>omega) ?_;conv=>whnf)
    conv=>arg 2;simp only[hg2,Nat.reduceAdd,C.stride]
    refine ze ?_
    conv=>whnf
    repeat' first|(refine za (by(try simp only[wA,wL])<;>omega) ?_;conv=>whnf)|(refine zl (by first|rfl|omega) ?_;conv=>whnf)
    conv=>arg 2;simp only[Nat.reduceAdd,C.stride]
    refine ze9 [.kp [2,4,11,13],.cl 2] (vkp (yd3 (x':=.pgs qs) rfl rfl rfl (congrArg (fun z=>some (C.pgs z)) (ydy qs root.toNat)) rfl ?_))
    conv=>whnf
    repeat' first
     |(refine za (by kernel_rfl) ?_;conv=>whnf)
     |(refine yep [3,2] f2 (.box [.slc 1] (tab g2) [.c (.int .i64 (G.length:Nat))]) [.deep true 0 (.pgs qs) []] [.deep true qs.length (.pgs qs) []] [.arr (.pgs Z.2)] (.agg [.c (.int .i64 Z.1),.slc 0]) rfl rfl rfl rfl rfl rfl ⟨rfl,rfl,rfl,rfl,rfl,rfl,rfl,rfl,rfl⟩ rfl ⟨rfl,rfl,trivial⟩ ?_;conv=>whnf)
     |(refine ze ?_;conv=>whnf)
    exact(zu [] [111])
   ·rw[if_neg h1]at hZ
    have f0:=fin0 hZ
    repeat' first
     |(refine zm ?_ ?_;(focus ((try simp only[qA])<;>(try simp only[wA])<;>omega));conv=>whnf)
     |(refine za (by(try simp only[wA,wL])<;>omega) ?_;conv=>whnf)
     |(refine zk (fun h=>?_) (fun h=>?_)<;>(try simp only[qA]at h)<;>(try simp only[wA]at h)<;>conv=>whnf)
     |(refine zl (by first|rfl|omega) ?_;conv=>whnf)
    all_goals
     conv=>arg 2;simp only[hg0,Nat.reduceAdd,C.stride]
     refine ze9 [.kp [2,4,11,13],.cl 2] (vkp (yd3 (x':=.pgs qs) rfl rfl rfl (congrArg (fun z=>some (C.pgs z)) (ydy qs root.toNat)) rfl ?_))
     conv=>whnf
     repeat' first
      |(refine za (by kernel_rfl) ?_;conv=>whnf)
      |(refine yep [3,2] f0 (.box [.slc 1] (tab g0) [.c (.int .i64 (G.length:Nat))]) [.deep true 0 (.pgs qs) []] [.deep true qs.length (.pgs qs) []] [.arr (.pgs Z.2)] (.agg [.c (.int .i64 Z.1),.slc 0]) rfl rfl rfl rfl rfl rfl ⟨rfl,rfl,rfl,rfl,rfl,rfl,rfl,rfl,rfl⟩ rfl ⟨rfl,rfl,trivial⟩ ?_;conv=>whnf)
      |(refine ze ?_;conv=>whnf)
     exact(zu [] [111])
 ·skip
  have hx2:(qs.getD pn ⟨[],[],[]⟩).keys.length<2:=by omega
  have hx1:z≠0:=by omega
  obtain⟨i,hi⟩:∃i,z.toNat=i+1:=⟨z.toNat-1,by omega⟩
  have ez:(z-1).toNat=i:=by omega
  clear hrng hst' hx
  rw[hi]at hq
  have hup':=hup i (by omega) _ hq
  have L:=(hlev i (by omega)).2
  rw[hq]at L
  have M:=L.pre
  have hr3:=hro i (by omega)
  rw[hq]at hr3
  have lpg:=L.pg
  dsimp only at lpg hr3
  rw[←lpg]at hr3
  clear hlev hup L hcu hZ hok hro hkid
  have hx3:(zb qs (P.getD (i+1) 0)).keys.length<2:=by rw[←hi,hpn];exact hx2
  rw[if_pos hx3]at hup'
  dsimp only at M hup'
  generalize hfi:plN (zb qs (P.getD i 0)).kids (P.getD (i+1) 0)-1=first at *
  have hme:=yfr qs (P.getD i 0) (P.getD (i+1) 0) first M hpq (by omega) (fun hl=>hr3 first M.hkl hl) (z6j G) (yc1 G) (G.length:Nat) (by omega) (by omega)
  have htw:=zym qs (P.getD i 0) first
  clear M hfi hr3
  obtain⟨⟨M1,M2⟩,hM⟩:∃M,zcd qs (P.getD i 0) first=M:=⟨_,rfl⟩
  rw[hM]at hup' hme htw
  have hl2:M2.length≤1:=by rcases htw with e|e<;>(dsimp only at e;rw[e];simp)
  dsimp only at hup' hme
  rw[yfb,show((G.length:Nat):Int)+((M2.length:Nat):Int)=((G++M2).length:Nat) by rw[List.length_append];rfl]at hme
  rw[←hi,←ez]at hme
  conv=>whnf
  refine ze9 [.op 2 pn] (yd2 rfl ⟨Nat.zero_le _,hpnl⟩ ?_)
  conv=>whnf
  repeat' first
   |(refine za (by kernel_rfl) ?_;conv=>whnf)
   |(refine zn ?_ ?_;(focus ((try simp only[qA])<;>(try simp only[wA])<;>omega));conv=>whnf)
   |(refine za (by(try simp only[wA,wL])<;>omega) ?_;conv=>whnf)
   |(refine zl (by first|rfl|omega) ?_;conv=>whnf)
  conv=>arg 2;simp only[Nat.reduceAdd,C.stride]
  refine ze9 [.kp [2,4,7,11,12],.cl 2] (vkp (yd3 (x':=.pgs qs) rfl rfl rfl (congrArg (fun z=>some (C.pgs z)) (ydy qs pn)) rfl ?_))
  conv=>whnf
  repeat' first
   |(refine za (by kernel_rfl) ?_;conv=>whnf)
   |(refine za (by(try simp only[wA,wL])<;>omega) ?_;conv=>whnf)
   |(refine zg (by(try simp only[wA,wL])<;>omega) (by(try simp only[wA,wL])<;>omega) ?_;conv=>whnf)
   |(refine yfk [3,2] hme [.box [.slc 1] (z6j G) [.c (.int .i64 (G.length:Nat))],.deep true 0 (.pgs qs) []] [.box [.slc 1] (z6j (G++M2)) [.c (.int .i64 ((G++M2).length:Nat))],.deep true 0 (.pgs M1) []] [] (.tup []) rfl rfl rfl rfl rfl rfl ⟨rfl,rfl,rfl,rfl,rfl,rfl,rfl,rfl,rfl⟩ rfl ⟨rfl,rfl,trivial⟩ ?_;conv=>whnf)
   |(refine ze ?_;conv=>whnf)
  refine⟨⟨(M1,G++M2,z-1),?_⟩,(ydn [] [0,1,2,3]),by dsimp only;omega⟩
  dsimp only
  refine⟨by omega,by omega,?_,by rw[List.length_append];omega⟩
  rw[ez];exact hup'
end Go.VL
namespace Go.VL
open Go.Proofs
set_option maxRecDepth 10000
set_option linter.unusedSimpArgs false
set_option linter.unusedVariables false
def dmV (root:Int) (ps:List Pg) (key:Int):V:=match z4o root ps key with
 |none=>.tup [ztV,.c (.int .i64 0),.ff]
 |some r=>.tup [trV r.1 r.2,.c (.int .i64 (jnF root ps key:Nat)),.tt]
theorem yet (root:Int) (ps:List Pg) (key:Int) (hp:pB ps):zr Try.prog 22 0 [trV root ps,.c (.int .i64 key)] [] 0 (dmV root ps key) []:=by
 unfold dmV
 cases h1:vTree root ps with
 |false =>
  have e:z4o root ps key=none:=by unfold z4o;rw[if_neg (fun q=>by rw[h1]at q;cases q.1)]
  have hvt:=zbi root ps hp
  rw[h1]at hvt
  rw[e]
  dsimp only
  refine spi (fn:=Try.f22) _ ?_
  conv=>whnf
  repeat' first
   |(refine zn ?_ ?_;(focus (first|rfl|exact beq_self_eq_true _));conv=>whnf)
   |(refine zp (hvt) rfl rfl ?_;conv=>whnf)
  exact(zu [] [])
 |true =>
  have v:=za0 h1
  obtain⟨d,hd⟩:∃d,htF root ps=d+1:=⟨htF root ps-1,by have:=v.h1;omega⟩
  cases h2:((psF root ps).map Pr.key).contains key with
  |true =>
   have e:z4o root ps key=some (zf4 root ps (htF root ps) key):=by unfold z4o;rw[if_pos ⟨h1,h2⟩]
   rw[e]
   dsimp only
   unfold jnF
   rw[hd]at v⊢
   have hk:key∈(prF ps (d+1) (zb ps root)).map Pr.key:=by
    have:=List.contains_iff_mem.1 h2
    unfold psF at this
    rwa [hd]at this
   exact zdn (yes root key ps hp d v h1 hd hk) rfl
  |false =>
   have e:z4o root ps key=none:=by unfold z4o;rw[if_neg (fun q=>by rw[h2]at q;cases q.2)]
   have hvt:=zbi root ps hp
   rw[h1]at hvt
   have hpt:=zdn (zjo root key ps hp h1) rfl
   change zr _ _ _ _ _ _ (.c (.nums .i64 (ptF ps key (htF root ps) root))) _ at hpt
   obtain⟨d',q1,q2,q3,q4,q5,q6,q7,q8,q9,q10,q11,q12⟩:=lf_f (key:=key) h1
   rw[q2]at hpt
   rw[e]
   dsimp only
   rw[←q12]at q3 q4 q5 q6 q8 q10
   rw[h2]at q10
   clear q7 q9 q12
   generalize ptF ps key (d'+1) root=P at *
   have hD:d'=((P.length:Int)-1).toNat:=by omega
   rw[hD]at q3 q4 q5 q6 q8 q10
   have hrl:=zby _ q6
   have hpol:=zdn (zmb (zb ps (P.getD ((P.length:Int)-1).toNat 0)) q6 (by omega)) rfl
   change zr _ _ _ _ _ _ (.c (.prs (zab (zb ps (P.getD ((P.length:Int)-1).toNat 0))))) _ at hpol
   have hdp:=yci (zab (zb ps (P.getD ((P.length:Int)-1).toNat 0))) key (by omega) q8 (fun hm=>by rw[List.contains_iff_mem.2 hm]at q10;cases q10)
   dsimp only[zb]at q5 q6 hrl hpol hdp
   clear q8 q10
   generalize zab (ps.getD (P.getD ((P.length:Int)-1).toNat 0).toNat ⟨[],[],[]⟩)=row at *
   refine spi (fn:=Try.f22) _ ?_
   conv=>whnf
   repeat' first
    |(refine zm ?_ ?_;(focus (first|rfl|exact bne_self_eq_false _));conv=>whnf)
    |(refine za (by(try simp only[wA,wL])<;>omega) ?_;conv=>whnf)
    |(refine zg (by(try simp only[wA,wL])<;>omega) (by(try simp only[wA,wL])<;>omega) ?_;conv=>whnf)
    |(refine zp (hvt) rfl rfl ?_;conv=>whnf)
    |(refine zp (hpt) rfl rfl ?_;conv=>whnf)
    |(refine zp (hpol) rfl rfl ?_;conv=>whnf)
    |(refine zp (hdp) rfl rfl ?_;conv=>whnf)
   exact(zu [] [])
end Go.VL
namespace Go.VL
open Go.Proofs
set_option maxRecDepth 10000
set_option linter.unusedSimpArgs false
set_option linter.unusedVariables false
theorem yew {root:Int} {ps:List Pg} {key:Int}:zql root ps key=true↔vTree root ps=true∧((psF root ps).map Pr.key).contains key=true:=by
 unfold zql;rw[Bool.and_eq_true]
theorem yen (root:Int) (ps:List Pg) (key:Int) (hp:pB ps):zr Try.prog 13 0 [trV root ps,.c (.int .i64 key)] [] 0 (.tup (unR (z4o root ps key))) []:=by
 have h:=yet root ps key hp
 unfold dmV at h
 cases g:z4o root ps key with
 |none =>
  rw[g]at h
  dsimp only at h
  refine spi (fn:=Try.f13) _ ?_
  conv=>whnf
  repeat' (refine zp (h) rfl rfl ?_;conv=>whnf)
  exact(zu [] [])
 |some r =>
  rw[g]at h
  dsimp only at h
  refine spi (fn:=Try.f13) _ ?_
  conv=>whnf
  repeat' (refine zp (h) rfl rfl ?_;conv=>whnf)
  exact(zu [] [])
theorem yhl (root:Int) (ps:List Pg) (key:Int) (hp:pB ps):zr Try.prog 9 0 [trV root ps,.c (.int .i64 key)] [] 0 (.c (.int .i64 (match z4o root ps key with|none=>-1|some _=>(jnF root ps key:Nat)))) []:=by
 have h:=yet root ps key hp
 unfold dmV at h
 cases g:z4o root ps key with
 |none =>
  rw[g]at h
  dsimp only at h
  refine spi (fn:=Try.f9) _ ?_
  conv=>whnf
  repeat' first|refine zi ?_|(refine zp (h) rfl rfl ?_;conv=>whnf)
  all_goals rfl
 |some r =>
  rw[g]at h
  dsimp only at h
  refine spi (fn:=Try.f9) _ ?_
  conv=>whnf
  repeat' first|refine zi ?_|(refine zp (h) rfl rfl ?_;conv=>whnf)
  all_goals rfl
theorem yem (root:Int) (ps:List Pg) (key:Int) (hp:pB ps):zr Try.prog 14 0 [trV root ps,.c (.int .i64 key)] [] 0 (.tup (unR (z4o root ps key))) []:=by
 unfold z4o
 by_cases c:vTree root ps=true∧((psF root ps).map Pr.key).contains key=true
 ·rw[if_pos c]
  exact zdn (zps root key ps hp (yew.2 c)) rfl
 ·rw[if_neg c]
  refine z33 root key ps hp ?_
  cases q:zql root ps key with
  |false=>rfl
  |true=>exact(c (yew.1 q)).elim
end Go.VL
namespace Go.VL
open Go.Proofs
set_option maxRecDepth 10000
set_option linter.unusedSimpArgs false
set_option linter.unusedVariables false
theorem ybm {ps:List Pg} {d mn mx:Nat} {a lo hi:Int} (h:Fit ps (d+2) mn mx a lo hi):0<(zb ps a).kids.length∧∃l r,Fit ps (d+1) 2 4 ((zb ps a).kids.getD 0 0) l r:=by
 have hl:=zaa.kidsLen h.2.2.2.2
 refine⟨by omega,Seg.mem h.2.2.2.2.2 ((zb ps a).kids.getD 0 0) ?_⟩
 exact zaq 0 (by omega)
theorem z56 (root:Int) (ps:List Pg) (hp:pB ps) (g:vTree root ps=true):zr Try.prog 16 0 [trV root ps] [] 0 (.c (.int .i64 (htF root ps))) []:=by
 have V:=za0 g
 have h3:=V.h3
 have h1:=V.h1
 obtain⟨H,hH⟩:∃H,htF root ps=H:=⟨_,rfl⟩
 have hf:=V.fit
 rw[hH]at h3 h1 hf⊢
 have hvt:=zbi root ps hp
 rw[g]at hvt
 have k4:=hp.len
 refine spi (fn:=Try.f16) _ ?_
 conv=>whnf
 repeat' first
  |(refine zm ?_ ?_;(focus (first|rfl|exact bne_self_eq_false _));conv=>whnf)
  |(refine zp (hvt) rfl rfl ?_;conv=>whnf)
 refine zk5 (fun(f:Nat) (at_ n:Int)=>n+f=H∧1≤n∧∃mn mx lo hi,Fit ps (f+1) mn mx at_ lo hi)
  (fun f at_ n=>⟨29,1,[(1,.ptr 0 0 0 0),(3,.c (.int .i64 n)),(4,.c (.int .i64 at_))],[(0,.box [.c (.int .i64 root),.c (.pgs ps)] [] [])]⟩) (fun f at_ n=>f) (H-1) root 1 ⟨by omega,by omega,by rw[show H-1+1=H by omega];exact⟨_,_,_,_,hf⟩⟩ (fun _ _ _=>Nat.zero_le _) (ydn [] [0]) (fun f at_ n hi=>?_)
 obtain⟨e,hn,mn,mx,lo,hi,hF⟩:=hi
 have k2:=hp.kids at_
 dsimp only[zb]at k2
 have b0:=hF.1
 have b1:=hF.2.1
 cases f with
 |zero =>
  have hk:(zb ps at_).kids=[]:=LeafOk.kids hF.2.2.2.2
  dsimp only[zb]at hk
  have hk2:(ps.getD at_.toNat ⟨[],[],[]⟩).kids.length=0:=by rw[hk];rfl
  conv=>whnf
  repeat' first|(refine zm ?_ ?_;(focus ((try simp only[qA])<;>(try simp only[wA])<;>omega));conv=>whnf)|(refine za (by(try simp only[wA,wL])<;>omega) ?_;conv=>whnf)|refine zi ?_
  ·rw[show n=(H:Int) by omega]
 |succ f =>
  obtain⟨q1,l,r,q2⟩:=ybm hF
  dsimp only[zb]at q1 q2
  conv=>whnf
  repeat' first
   |(refine zn ?_ ?_;(focus ((try simp only[qA])<;>(try simp only[wA])<;>omega));conv=>whnf)
   |(refine za (by(try simp only[wA,wL])<;>omega) ?_;conv=>whnf)
   |(refine zg (by(try simp only[wA,wL])<;>omega) (by(try simp only[wA,wL])<;>omega) ?_;conv=>whnf)
  refine⟨⟨(f,(ps.getD at_.toNat ⟨[],[],[]⟩).kids.getD 0 0,n+1),?_⟩,(ydn [] [0]),by dsimp only;omega⟩;(try dsimp only)
  exact⟨by omega,by omega,_,_,_,_,q2⟩
end Go.VL
namespace Go.VL
open Go.Proofs
set_option maxRecDepth 10000
set_option linter.unusedSimpArgs false
set_option linter.unusedVariables false
end Go.VL
namespace Go.VL
open Go.Proofs
set_option maxRecDepth 10000
set_option linter.unusedSimpArgs false
set_option linter.unusedVariables false
end Go.VL
namespace Go.VL
open Go.Proofs
set_option maxRecDepth 10000
set_option linter.unusedSimpArgs false
set_option linter.unusedVariables false
theorem FnDropKeyPages_v (code:List Int) (hl0:code.length≤9223372036854775807) (hb:∀x∈code,0≤x∧x≤255):zr Try.prog 5 0 [.c (.nums .u8 code)] [] 0 (.c (.bool true)) []:=by
 refine spi (fn:=Try.f5) _ ?_
 conv=>whnf
 repeat' first|(refine zk (fun h=>?_) (fun h=>?_)<;>(try simp only[qA]at h)<;>(try simp only[wA]at h)<;>conv=>whnf)|refine zc ?_
 ·rfl
 refine zbw [] [] (yca code (by omega) (zie hb)) ⟨rfl,rfl,rfl,(by repeat first|exact trivial|refine⟨rfl,?_⟩),⟨rfl,rfl,rfl⟩,?_⟩
 rintro m res hout ⟨root,ps,key,hp,hps,hkb,rfl,rfl,rfl⟩
 refine⟨⟨rfl,rfl,rfl⟩,?_⟩
 have h1:=yen root ps key hp
 have h2:=yem root ps key hp
 cases g:z4o root ps key with
 |none =>
  rw[g]at h1 h2
  change zr _ _ _ _ _ _ (.tup [ztV,.ff]) _ at h1 h2
  have h3:=z3a
  conv=>whnf
  repeat' first
   |(refine zn ?_ ?_;(focus (first|rfl|exact beq_self_eq_true _));conv=>whnf)
   |(refine zm ?_ ?_;(focus (first|rfl|exact bne_self_eq_false _));conv=>whnf)
   |refine zh ?_
   |(refine zp (h1) rfl rfl ?_;conv=>whnf)
   |(refine zp (h2) rfl rfl ?_;conv=>whnf)
   |(refine zp (h3) rfl rfl ?_;conv=>whnf)
  all_goals rfl
 |some r =>
  rw[g]at h1 h2
  obtain⟨r1,r2⟩:=r
  change zr _ _ _ _ _ _ (.tup [trV r1 r2,.tt]) _ at h1 h2
  have F:=z7g g
  have hq:pB r2:=(zdx F.vt).pb
  have h3:=z2b r1 r2 hq
  have hasc:Asc ((psF root ps).map Pr.key):=ybt F.v0
  have hprs:=F.prs
  dsimp only at hprs
  have h4:=z56 r1 r2 hq F.vt
  have h5:=z56 root ps hp F.v0
  have h6:=yhl root ps key hp
  rw[g]at h6
  change zr _ _ _ _ _ _ (.c (.int .i64 (jnF root ps key:Nat))) _ at h6
  have hht:=F.ht
  have hlen:=F.len
  have hc1:=F.c1
  have hjl:=F.jl
  have k4:=hp.len
  have k5:=hq.len
  have hb3:=(za0 F.v0).h3
  have hb4:=(za0 F.vt).h3
  dsimp only at hht hlen
  generalize z1x root ps (htF root ps) key=C at *
  generalize jnF root ps key=J at *
  generalize htF root ps=H at *
  generalize htF r1 r2=H2 at *
  conv=>whnf
  repeat' first
   |(refine za (by kernel_rfl) ?_;conv=>whnf)
   |(refine zm ?_ ?_;(focus (first|rfl|exact bne_self_eq_false _));conv=>whnf)
   |(refine zn ?_ ?_;(focus ((try simp only[qA])<;>(try simp only[wA])<;>omega));conv=>whnf)
   |(refine zk (fun h=>?_) (fun h=>?_)<;>(try simp only[qA]at h)<;>(try simp only[wA]at h)<;>conv=>whnf)
   |refine zc ?_
   |(refine zg (by(try simp only[wA,wL])<;>omega) (by(try simp only[wA,wL])<;>omega) ?_;conv=>whnf)
   |(refine zp (h1) rfl rfl ?_;conv=>whnf)
   |(refine zp (h2) rfl rfl ?_;conv=>whnf)
   |(refine zp (h3) rfl rfl ?_;conv=>whnf)
   |(refine zw (h4) rfl rfl ?_;conv=>whnf)
   |(refine zw (h5) rfl rfl ?_;conv=>whnf)
   |(refine zw (h6) rfl rfl ?_;conv=>whnf)
   |(refine ze ?_;conv=>whnf)
  all_goals first|rfl|(exact decide_eq_true (by omega))|(rw[beq_iff_eq];omega)|(exfalso;omega)
end Go.VL
