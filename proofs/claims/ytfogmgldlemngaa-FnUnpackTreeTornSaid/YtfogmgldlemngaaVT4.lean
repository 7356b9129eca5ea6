/- V-logic: TrM -/
import Derived.Test.YtfogmgldlemngaaVPD
import Derived.Test.YtfogmgldlemngaaVT3
namespace Go.VL
open Go.Proofs
set_option maxRecDepth 10000
set_option linter.unusedSimpArgs false
set_option linter.unusedVariables false
theorem zxw (root:Int) (ps:List Pg) (hp:pB ps) (u:Nat) (hu:u<ps.length):zr Try.prog 62 0 [trV root ps] [] 2 (.agg [.c (.int .i64 root),.slc 0]) [(0,.hol (.pgs (ps.set u ⟨[],[],[]⟩)) u [.slc 1,.c (.nums .i64 (ps.getD u ⟨[],[],[]⟩).kids),.c (.nums .i64 (ps.getD u ⟨[],[],[]⟩).vals)]),(1,.arr (.nums .i64 (ps.getD u ⟨[],[],[]⟩).keys))]:=by
 have k4:=hp.len
 refine spi (fn:=Try.f62) _ ?_
 conv=>whnf
 repeat' (refine zo ?_;conv=>whnf)
 refine zd0 (fun(b:Bool) (i:Nat)=>i≤ps.length∧(b=true↔u<i)) (fun b i=>match b with
  |false=>⟨28,4,[(1,.ptr 0 0 0 0),(2,.ptr 1 0 0 0),(3,.ptr 2 0 0 0),(4,.c (.int .i64 i))],[(0,.box [.c (.int .i64 root),.c (.pgs ps)] [] []),(1,.box [.c (.int .i64 0),.nil] [] []),(2,.box [.c (.int .i64 root),.slc 3] [] []),(3,.arr (.pgs (ps.take i)))]⟩
  |true=>⟨28,5,[(1,.ptr 0 0 0 0),(2,.ptr 1 0 0 0),(3,.ptr 2 0 0 0),(4,.c (.int .i64 i))],[(0,.box [.c (.int .i64 root),.c (.pgs ps)] [] []),(1,.box [.c (.int .i64 0),.nil] [] []),(2,.box [.c (.int .i64 root),.slc 3] [] []),(3,.hol (.pgs ((ps.set u ⟨[],[],[]⟩).take i)) u [.slc 4,.c (.nums .i64 (ps.getD u ⟨[],[],[]⟩).kids),.c (.nums .i64 (ps.getD u ⟨[],[],[]⟩).vals)]),(4,.arr (.nums .i64 (ps.getD u ⟨[],[],[]⟩).keys))]⟩) (fun b i=>ps.length-i) false 0 ⟨Nat.zero_le _,by simp⟩ (fun b _=>by cases b<;>exact Nat.zero_le _) (ydn [] [0,1,3,2]) (fun b i hi=>?_)
 obtain⟨hi,hb⟩:=hi
 have k1:=hp.keys i
 have k2:=hp.kids i
 have k3:=hp.vals i
 dsimp only[zb,Int.toNat_natCast]at k1 k2 k3
 cases b with
 |false =>
  have hui:i≤u:=by
   apply Classical.byContradiction;intro h;have:=hb.2 (by omega);cases this
  by_cases hiu:i=u
  ·subst hiu
   conv=>whnf
   repeat' first
    |(refine za (by kernel_rfl) ?_;conv=>whnf)
    |(refine zn ?_ ?_;(focus ((try simp only[qA])<;>(try simp only[wA])<;>omega));conv=>whnf)
    |(refine za (by(try simp only[wA,wL])<;>omega) ?_;conv=>whnf)
    |(refine zg (by(try simp only[wA,wL])<;>omega) (by(try simp only[wA,wL])<;>omega) ?_;conv=>whnf)
    |(refine zar (zxy (ps.getD i ⟨[],[],[]⟩) k1 k2 k3) rfl rfl ?_;conv=>whnf)
    |(refine zo ?_;conv=>whnf)
    |(refine ze ?_;conv=>whnf)
   refine⟨⟨(true,i+1),?_⟩,(zbd [] [0,1,2,3,11] ⟨by repeat first|exact trivial|refine⟨rfl,?_⟩,?_,rfl,rfl,rfl,rfl,rfl,rfl,rfl⟩),by dsimp only;omega⟩;(try dsimp only)
   ·exact⟨by omega,by simp⟩
   ·refine⟨rfl,rfl,rfl,?_,rfl,trivial⟩
    have e:(ps.set i ⟨[],[],[]⟩).take (i+1)=ps.take i++[⟨[],[],[]⟩]:=by
     rw[zat ⟨[],[],[]⟩ (by rw[List.length_set];omega),List.take_set_of_le (Nat.le_refl _),z7 _ _ _ _ _ hu,if_pos rfl]
    have e2:(ps.take i).length+0=i:=by rw[List.length_take];omega
    show some (O.hol (C.pgs (ps.take i++[⟨[],[],[]⟩])) ((ps.take i).length+0) [.slc 11,.c (.nums .i64 (ps.getD i ⟨[],[],[]⟩).kids),.c (.nums .i64 (ps.getD i ⟨[],[],[]⟩).vals)])=some (O.hol (C.pgs ((ps.set i ⟨[],[],[]⟩).take (i+1))) i [.slc 11,.c (.nums .i64 (ps.getD i ⟨[],[],[]⟩).kids),.c (.nums .i64 (ps.getD i ⟨[],[],[]⟩).vals)])
    rw[e,e2]
  ·conv=>whnf
   repeat' first
    |(refine za (by kernel_rfl) ?_;conv=>whnf)
    |(refine zn ?_ ?_;(focus ((try simp only[qA])<;>(try simp only[wA])<;>omega));conv=>whnf)
    |(refine za (by(try simp only[wA,wL])<;>omega) ?_;conv=>whnf)
    |(refine zg (by(try simp only[wA,wL])<;>omega) (by(try simp only[wA,wL])<;>omega) ?_;conv=>whnf)
    |(refine zw (zll (ps.getD i ⟨[],[],[]⟩) k1 k2 k3) rfl rfl ?_;conv=>whnf)
    |(refine zo ?_;conv=>whnf)
    |(refine ze ?_;conv=>whnf)
   refine⟨⟨(false,i+1),?_⟩,(zbd [] [0,1,2,3] ⟨by repeat first|exact trivial|refine⟨rfl,?_⟩,?_,rfl,rfl,rfl,rfl,rfl,rfl,rfl⟩),by dsimp only;omega⟩;(try dsimp only)
   ·exact⟨by omega,⟨fun h=>(by cases h),fun h=>(by omega)⟩⟩
   ·exact⟨rfl,rfl,rfl,congrArg (fun z=>some (O.arr (C.pgs z))) (zat (⟨[],[],[]⟩:Pg) (by omega)).symm,trivial⟩
 |true =>
  have hui:u<i:=hb.1 rfl
  conv=>whnf
  repeat' first
   |(refine za (by kernel_rfl) ?_;conv=>whnf)
   |(refine za (by(try simp only[wA,wL])<;>omega) ?_;conv=>whnf)
   |(refine zk (fun h=>?_) (fun h=>?_)<;>(try simp only[qA]at h)<;>(try simp only[wA]at h)<;>conv=>whnf)
   |(refine zg (by(try simp only[wA,wL])<;>omega) (by(try simp only[wA,wL])<;>omega) ?_;conv=>whnf)
   |(refine zw (zll (ps.getD i ⟨[],[],[]⟩) k1 k2 k3) rfl rfl ?_;conv=>whnf)
   |(refine zo ?_;conv=>whnf)
   |(refine ze ?_;conv=>whnf)
  ·refine⟨⟨(true,i+1),?_⟩,(zbd [] [0,1,2,3,4] ⟨by repeat first|exact trivial|refine⟨rfl,?_⟩,?_,rfl,rfl,rfl,rfl,rfl,rfl,rfl⟩),by dsimp only;omega⟩;(try dsimp only)
   ·exact⟨by omega,⟨fun _=>by omega,fun _=>rfl⟩⟩
   ·refine⟨rfl,rfl,rfl,congrArg (fun z=>some (O.hol (C.pgs z) u [.slc 4,.c (.nums .i64 (ps.getD u ⟨[],[],[]⟩).kids),.c (.nums .i64 (ps.getD u ⟨[],[],[]⟩).vals)])) ?_,rfl,trivial⟩
    rw[zat ⟨[],[],[]⟩ (by rw[List.length_set];omega),z7 _ _ _ _ _ hu,if_neg (by omega)];rfl
  ·rw[List.take_of_length_le (by rw[List.length_set];omega)]
   exact(zu [] [3,4])
theorem zss {ps:List Pg} {u a:Nat} {x y z:Pg} (h:a≠u):((ps.set u z).set a x).set u y=(ps.set a x).set u y:=by
 rw[List.set_comm _ _ (Ne.symm h),List.set_set]
theorem zre {ps:List Pg} {u a b:Nat} {x w y z:Pg} (h:a≠u) (h2:b≠u):(((ps.set u z).set a x).set b w).set u y=((ps.set a x).set b w).set u y:=by
 rw[List.set_comm _ _ (Ne.symm h),List.set_comm _ _ (Ne.symm h2),List.set_set]
set_option maxHeartbeats 4000000 in
theorem z3v (root up place:Int) (ps:List Pg) (hp:pB ps) (hpl:ps.length≤1000) (first:Nat) (hz:place=first+1∨place=0∧first=0) (u0:0≤up) (u1:up<ps.length)
  (hkl:first<(zb ps up).keys.length) (hcl:(zb ps up).kids.length=(zb ps up).keys.length+1) (hk9:(zb ps up).keys.length≤100) (hvs:(zb ps up).vals=[]) (a b k:Int) (ha:(zb ps up).kids.getD first 0=a) (hb:(zb ps up).kids.getD (first+1) 0=b) (hk:(zb ps up).keys.getD first 0=k)
  (a0:0≤a∧a<ps.length) (b0:0≤b∧b<ps.length) (au:a≠up) (bu:b≠up) (ab:a≠b) (ka:(zb ps a).keys.length≤100) (kb:(zb ps b).keys.length≤100)
  (hlf:(zb ps a).kids.length=0→(zb ps a).vals.length=(zb ps a).keys.length∧(zb ps b).vals.length=(zb ps b).keys.length)
  (hin:(zb ps a).kids.length≠0→(zb ps a).kids.length=(zb ps a).keys.length+1∧(zb ps b).kids.length=(zb ps b).keys.length+1) :
  zr Try.prog 70 0 [trV root ps,.c (.int .i64 up),.c (.int .i64 place)] [] 1 (.tup [.agg [.c (.int .i64 root),.slc 0],.c (.int .i64 ((zcd ps up first).2.getD 0 (-1)))]) [(0,.arr (.pgs (zcd ps up first).1))]:=by
 have k4:=hp.len
 obtain⟨u,rfl⟩:∃u:Nat,up=u:=⟨up.toNat,by omega⟩
 have hct:=zxw root ps hp u (by omega)
 have hmx:max 0 (place-1)=(first:Int):=by omega
 obtain⟨R,hR⟩:∃R,zcd ps u first=R:=⟨_,rfl⟩
 rw[hR]
 unfold zcd at hR
 rw[ha,hb,hk]at hR
 obtain⟨pu,hpu⟩:∃pu,zb ps u=pu:=⟨_,rfl⟩
 obtain⟨pa,hpa⟩:∃pa,zb ps a=pa:=⟨_,rfl⟩
 obtain⟨pb,hpb⟩:∃pb,zb ps b=pb:=⟨_,rfl⟩
 have ha':(ps.getD ((u:Nat):Int).toNat ⟨[],[],[]⟩).kids.getD ((first:Nat):Int).toNat 0=a:=ha
 have hb':(ps.getD ((u:Nat):Int).toNat ⟨[],[],[]⟩).kids.getD (((first:Nat):Int)+1).toNat 0=b:=hb
 have hk':(ps.getD ((u:Nat):Int).toNat ⟨[],[],[]⟩).keys.getD ((first:Nat):Int).toNat 0=k:=hk
 rw[hpu]at ha hb hk hkl hcl hk9 hvs hR
 rw[hpa,hpb]at hR
 rw[hpa]at hlf hin ka
 rw[hpb]at hlf hin kb
 have hpu':ps.getD u ⟨[],[],[]⟩=pu:=hpu
 have hpa':ps.getD a.toNat ⟨[],[],[]⟩=pa:=hpa
 have hpb':ps.getD b.toNat ⟨[],[],[]⟩=pb:=hpb
 rw[hpu']at hct
 have w1:first<(ps.getD u ⟨[],[],[]⟩).keys.length:=by rw[hpu'];exact hkl
 have w2:(ps.getD u ⟨[],[],[]⟩).kids.length=(ps.getD u ⟨[],[],[]⟩).keys.length+1:=by rw[hpu'];exact hcl
 have w3:(ps.getD u ⟨[],[],[]⟩).keys.length≤100:=by rw[hpu'];exact hk9
 have hmx:(if place-1>0 then place-1 else 0)=(first:Int):=by split<;>omega
 by_cases hl:pa.kids.length=0
 ·have hl':(ps.getD a.toNat ⟨[],[],[]⟩).kids.length=0:=by rw[hpa'];exact hl
  obtain⟨e1,e2⟩:=hlf hl
  clear hlf hin
  have hra:=zg4 pa (by omega) (by omega)
  have hrb:=zg4 pb (by omega) (by omega)
  have ela:=zby pa (by omega)
  have elb:=zby pb (by omega)
  unfold zcr at hR
  rw[if_pos hl]at hR
  generalize zab pa=ra at *
  generalize zab pb=rb at *
  rw[←hpa']at hra
  rw[←hpb']at hrb
  obtain⟨row,hrow⟩:∃row,ra++rb=row:=⟨_,rfl⟩
  have hlen:row.length=ra.length+rb.length:=by rw[←hrow,List.length_append]
  rw[hrow]at hR
  have hlo:=zfz row (by omega)
  have hio:=ze2 (ps.getD u ⟨[],[],[]⟩)
  have hck:zr Try.prog 74 0 [inV (ps.getD u ⟨[],[],[]⟩),.c (.int .i64 ((first:Int)+1))] [] 0 (inV (zf9 (ps.getD u ⟨[],[],[]⟩) (first+1))) []:=zsj (ps.getD u ⟨[],[],[]⟩) (first+1) (by omega) (by omega) (by omega) (by omega) (by omega)
  have hin:=zb6 (zf9 (ps.getD u ⟨[],[],[]⟩) (first+1))
  rw[show(⟨(zf9 (ps.getD u ⟨[],[],[]⟩) (first+1)).keys,(zf9 (ps.getD u ⟨[],[],[]⟩) (first+1)).kids,[]⟩:Pg)=zf9 pu (first+1) by rw[hpu'];rfl]at hin
  rw[show(zae row).keys.length=row.length by simp[zae]]at hR
  have hsp:zam (zae row)=(zae (row.take ((row.length+1) / 2)),(row.getD ((row.length+1) / 2) ⟨0,0⟩).key,zae (row.drop ((row.length+1) / 2))):=by
   unfold zam
   rw[if_pos (show(zae row).kids.length=0 from rfl),ze3]
  rw[hsp]at hR
  have hn2:4<row.length→(row.length+1) / 2<row.length:=fun _=>by omega
  have hdiv:(((C.prs row).len:Int)+1).tdiv 2=(((row.length+1) / 2:Nat):Int):=rfl
  have hdiv':((row.length:Int)+1).tdiv 2=(((row.length+1) / 2:Nat):Int):=rfl
  generalize (row.length+1) / 2=n at *
  have hla:=zfz (row.take n) (by rw[List.length_take];omega)
  have hlb:=zfz (row.drop n) (by rw[List.length_drop];omega)
  rw[show((u:Nat):Int).toNat=u from rfl]at hR
  clear hsp
  refine spi (fn:=Try.f70) _ ?_
  conv=>whnf
  repeat' (refine zal [] [2,3] (hct) ⟨rfl,rfl,rfl,(by repeat first|exact trivial|refine⟨rfl,?_⟩),⟨rfl,rfl,rfl,rfl,rfl,rfl⟩,?_⟩;conv=>whnf)
  refine ze ?_
  conv=>whnf
  repeat' (refine zg (by(try simp only[wA,wN,wL])<;>omega) (by(try simp only[wA,wN,wL])<;>omega) ?_;conv=>whnf)
  rw[hmx]
  refine ze ?_
  conv=>whnf
  repeat' (refine za (by(try simp only[wA,wN,wL])<;>omega) ?_;conv=>whnf)
  refine ze ?_
  conv=>whnf
  repeat' first|(refine za (by(try simp only[wA,wN,wL])<;>omega) ?_;conv=>whnf)|(refine zg (by(try simp only[wA,wN,wL])<;>omega) (by(try simp only[wA,wN,wL])<;>omega) ?_;conv=>whnf)
  rw[ha',hb']
  refine ze9 [.kp [1,3,6,7,8,9,10,11]] ?_
  conv=>whnf
  repeat' first|(refine zn ?_ ?_;(focus ((try simp only[qA])<;>(try simp only[wA])<;>omega));conv=>whnf)|(refine za (by(try simp only[wA,wL])<;>omega) ?_;conv=>whnf)
  refine ze ?_
  conv=>whnf
  repeat' first
   |(refine za (by kernel_rfl) ?_;conv=>whnf)
   |(refine za (by(try simp only[wA,wL])<;>omega) ?_;conv=>whnf)
   |(refine zar (hra) rfl rfl ?_;conv=>whnf)
   |(refine zar (hrb) rfl rfl ?_;conv=>whnf)
   |(refine zlj ?_;conv=>whnf)
  rw[hrow]
  refine ze9 [.fz [17],.kp [1,3,6,7,8,9,10,11,12]] ?_
  conv=>whnf
  clear hra hrb
  by_cases h4:row.length≤4
  ·rw[if_pos h4]at hR
   subst hR
   repeat' first
    |(refine za (by kernel_rfl) ?_;conv=>whnf)
    |(refine zn ?_ ?_;(focus ((try simp only[qA])<;>(try simp only[wA])<;>omega));conv=>whnf)
    |(refine za (by(try simp only[wA,wL])<;>omega) ?_;conv=>whnf)
    |(refine zg (by(try simp only[wA,wL])<;>omega) (by(try simp only[wA,wL])<;>omega) ?_;conv=>whnf)
    |(refine zw (hlo) rfl rfl ?_;conv=>whnf)
    |(refine zw (hio) rfl rfl ?_;conv=>whnf)
    |(refine zw (hck) rfl rfl ?_;conv=>whnf)
    |(refine zw (hin) rfl rfl ?_;conv=>whnf)
    |(refine zj (by omega) ?_;conv=>whnf)
    |(refine zl (by first|rfl|omega) ?_;conv=>whnf)
    |(refine ze ?_;conv=>whnf)
   refine zbg [] [2] ⟨rfl,⟨congrArg (fun z=>some (O.arr (C.pgs z))) ?_,trivial⟩,rfl,rfl,rfl,rfl,rfl,rfl⟩
   exact zss (by omega)
  ·rw[if_neg h4]at hR
   subst hR
   have hn2:=hn2 (by omega)
   repeat' (refine zm ?_ ?_;(focus ((try simp only[qA])<;>(try simp only[wA])<;>omega));conv=>whnf)
   refine ze ?_
   conv=>whnf
   repeat' first|(refine za (by(try simp only[wA,wL])<;>omega) ?_;conv=>whnf)|(refine zg (by(try simp only[wA,wL])<;>omega) (by(try simp only[wA,wL])<;>omega) ?_;conv=>whnf)
   rw[hdiv]
   repeat' first
    |(refine za (by kernel_rfl) ?_;conv=>whnf)
    |(refine za (by(try simp only[wA,wL])<;>omega) ?_;conv=>whnf)
    |(refine zw (hla) rfl rfl ?_;conv=>whnf)
    |(refine zw (hlb) rfl rfl ?_;conv=>whnf)
    |(refine zj (by omega) ?_;conv=>whnf)
    |(refine zl (by first|rfl|omega) ?_;conv=>whnf)
    |(refine ze ?_;conv=>whnf)
   refine zbg [3] [2] ?_
   conv=>whnf
   refine⟨rfl,⟨congrArg (fun z=>some (O.arr (C.pgs z))) ?_,trivial⟩,rfl,rfl,rfl,rfl,rfl,rfl⟩
   exact zre (by omega) (by omega)
 ·have hl':¬(ps.getD a.toNat ⟨[],[],[]⟩).kids.length=0:=by rw[hpa'];exact hl
  obtain⟨e1,e2⟩:=hin hl
  clear hlf hin
  unfold zcr at hR
  rw[if_neg hl]at hR
  have hio:=ze2 (ps.getD u ⟨[],[],[]⟩)
  have hia:=ze2 (ps.getD a.toNat ⟨[],[],[]⟩)
  have hib:=ze2 (ps.getD b.toNat ⟨[],[],[]⟩)
  have hck:zr Try.prog 74 0 [inV (ps.getD u ⟨[],[],[]⟩),.c (.int .i64 ((first:Int)+1))] [] 0 (inV (zf9 (ps.getD u ⟨[],[],[]⟩) (first+1))) []:=zsj (ps.getD u ⟨[],[],[]⟩) (first+1) (by omega) (by omega) (by omega) (by omega) (by omega)
  have hin:=zb6 (zf9 (ps.getD u ⟨[],[],[]⟩) (first+1))
  rw[show(⟨(zf9 (ps.getD u ⟨[],[],[]⟩) (first+1)).keys,(zf9 (ps.getD u ⟨[],[],[]⟩) (first+1)).kids,[]⟩:Pg)=zf9 pu (first+1) by rw[hpu'];rfl]at hin
  have f1:(ps.getD a.toNat ⟨[],[],[]⟩).keys.length≤100:=by rw[hpa'];exact ka
  have f2:(ps.getD a.toNat ⟨[],[],[]⟩).kids.length≤101:=by rw[hpa'];omega
  have f3:(ps.getD b.toNat ⟨[],[],[]⟩).keys.length≤100:=by rw[hpb'];exact kb
  have f4:(ps.getD b.toNat ⟨[],[],[]⟩).kids.length≤101:=by rw[hpb'];omega
  refine spi (fn:=Try.f70) _ ?_
  conv=>whnf
  repeat' (refine zal [] [2,3] (hct) ⟨rfl,rfl,rfl,(by repeat first|exact trivial|refine⟨rfl,?_⟩),⟨rfl,rfl,rfl,rfl,rfl,rfl⟩,?_⟩;conv=>whnf)
  refine ze ?_
  conv=>whnf
  repeat' (refine zg (by(try simp only[wA,wN,wL])<;>omega) (by(try simp only[wA,wN,wL])<;>omega) ?_;conv=>whnf)
  rw[hmx]
  refine ze ?_
  conv=>whnf
  repeat' (refine za (by(try simp only[wA,wN,wL])<;>omega) ?_;conv=>whnf)
  refine ze ?_
  conv=>whnf
  repeat' first|(refine za (by(try simp only[wA,wN,wL])<;>omega) ?_;conv=>whnf)|(refine zg (by(try simp only[wA,wN,wL])<;>omega) (by(try simp only[wA,wN,wL])<;>omega) ?_;conv=>whnf)
  rw[ha',hb']
  refine ze9 [.kp [1,3,6,7,8,9,10,11]] ?_
  conv=>whnf
  repeat' first|(refine zm ?_ ?_;(focus ((try simp only[qA])<;>(try simp only[wA])<;>omega));conv=>whnf)|(refine za (by(try simp only[wA,wL])<;>omega) ?_;conv=>whnf)
  refine ze ?_
  conv=>whnf
  repeat' first|(refine za (by(try simp only[wA,wL])<;>omega) ?_;conv=>whnf)|(refine yhk (hia) rfl rfl ?_;conv=>whnf)
  refine ze ?_
  conv=>whnf
  repeat' first|(refine za (by(try simp only[wA,wL])<;>omega) ?_;conv=>whnf)|(refine yhk (hib) rfl rfl ?_;conv=>whnf)
  refine ze ?_
  conv=>whnf
  repeat' first
   |(refine za (by kernel_rfl) ?_;conv=>whnf)
   |(refine za (by(try simp only[wA,wL])<;>omega) ?_;conv=>whnf)
   |(refine zlj ?_;conv=>whnf)
   |(refine zar (zcn _ (by omega)) rfl rfl ?_;conv=>whnf)
  refine ze ?_
  conv=>whnf
  repeat' first
   |(refine za (by kernel_rfl) ?_;conv=>whnf)
   |(refine za (by(try simp only[wA,wL])<;>omega) ?_;conv=>whnf)
   |(refine zlj ?_;conv=>whnf)
   |(refine zar (zcn _ (by omega)) rfl rfl ?_;conv=>whnf)
  obtain⟨K,hK⟩:∃K,pa.keys++k::pb.keys=K:=⟨_,rfl⟩
  obtain⟨D,hD⟩:∃D,pa.kids++pb.kids=D:=⟨_,rfl⟩
  have hKl:K.length=pa.keys.length+pb.keys.length+1:=by rw[←hK,List.length_append,List.length_cons];omega
  have hDl:D.length=pa.kids.length+pb.kids.length:=by rw[←hD,List.length_append]
  have hKr:(ps.getD a.toNat ⟨[],[],[]⟩).keys++([]++[(ps.getD ((u:Nat):Int).toNat ⟨[],[],[]⟩).keys.getD ((first:Nat):Int).toNat 0])++(ps.getD b.toNat ⟨[],[],[]⟩).keys=K:=by
   rw[hk',hpa',hpb',←hK];simp
  have hDr:(ps.getD a.toNat ⟨[],[],[]⟩).kids++(ps.getD b.toNat ⟨[],[],[]⟩).kids=D:=by rw[hpa',hpb',←hD]
  rw[hK,hD]at hR
  rw[hKr,hDr]
  refine ze9 [.fz [23,113],.kp [1,3,6,7,8,9,10,11,16,17]] ?_
  conv=>whnf
  clear hKr hDr hia hib
  rw[show((u:Nat):Int).toNat=u from rfl]at hR
  have hiK:=zb6 ⟨K,D,[]⟩
  by_cases h4:K.length≤4
  ·rw[if_pos h4]at hR
   subst hR
   repeat' first
    |(refine za (by kernel_rfl) ?_;conv=>whnf)
    |(refine zn ?_ ?_;(focus ((try simp only[qA])<;>(try simp only[wA])<;>omega));conv=>whnf)
    |(refine za (by(try simp only[wA,wL])<;>omega) ?_;conv=>whnf)
    |(refine zg (by(try simp only[wA,wL])<;>omega) (by(try simp only[wA,wL])<;>omega) ?_;conv=>whnf)
    |(refine zw (hiK) rfl rfl ?_;conv=>whnf)
    |(refine zw (hio) rfl rfl ?_;conv=>whnf)
    |(refine zw (hck) rfl rfl ?_;conv=>whnf)
    |(refine zw (hin) rfl rfl ?_;conv=>whnf)
    |(refine zj (by omega) ?_;conv=>whnf)
    |(refine zl (by first|rfl|omega) ?_;conv=>whnf)
    |(refine ze ?_;conv=>whnf)
   refine zbg [] [2] ⟨rfl,⟨congrArg (fun z=>some (O.arr (C.pgs z))) ?_,trivial⟩,rfl,rfl,rfl,rfl,rfl,rfl⟩
   exact zss (by omega)
  ·rw[if_neg h4]at hR
   have hspl:zam ⟨K,D,[]⟩=(⟨K.take (K.length / 2),D.take (K.length / 2+1),[]⟩,K.getD (K.length / 2) 0,⟨K.drop (K.length / 2+1),D.drop (K.length / 2+1),[]⟩):=by
    unfold zam
    rw[if_neg (show ¬D.length=0 by omega)]
   rw[hspl]at hR
   have hsi:=zmh ⟨K,D,[]⟩ (by show 1≤K.length;omega) (by show D.length=K.length+1;omega) (by show K.length≤1000;omega)
   dsimp only at hsi
   have hi1:=zb6 ⟨K.take (K.length / 2),D.take (K.length / 2+1),[]⟩
   have hi2:=zb6 ⟨K.drop (K.length / 2+1),D.drop (K.length / 2+1),[]⟩
   dsimp only at hi1 hi2
   generalize K.length / 2=n at *
   subst hR
   repeat' first
    |(refine za (by kernel_rfl) ?_;conv=>whnf)
    |(refine zm ?_ ?_;(focus ((try simp only[qA])<;>(try simp only[wA])<;>omega));conv=>whnf)
    |(refine za (by(try simp only[wA,wL])<;>omega) ?_;conv=>whnf)
    |(refine yhk (hsi) rfl rfl ?_;conv=>whnf)
    |(refine zw (hi1) rfl rfl ?_;conv=>whnf)
    |(refine zw (hi2) rfl rfl ?_;conv=>whnf)
    |(refine zj (by omega) ?_;conv=>whnf)
    |(refine zl (by first|rfl|omega) ?_;conv=>whnf)
    |(refine ze ?_;conv=>whnf)
   refine zbg [3] [2] ?_
   conv=>whnf
   refine⟨rfl,⟨congrArg (fun z=>some (O.arr (C.pgs z))) ?_,trivial⟩,rfl,rfl,rfl,rfl,rfl,rfl⟩
   exact zre (by omega) (by omega)
end Go.VL
