/- V-logic: TrQt -/
import Derived.Test.YtobcecpdafbbeaaGreatVW8
import Derived.Test.YtobcecpdafbbeaaGreatVT5
import Derived.Test.YtobcecpdafbbeaaGreatVW4
namespace Go.VL
open Go.Proofs
set_option maxRecDepth 10000
set_option linter.unusedSimpArgs false
set_option linter.unusedVariables false
theorem ycl {path:List Int} (hn:path.Nodup) {x:Int} {p k:Nat} (hp:p<path.length) (hx:path.getD p 0=x) (hk:k<path.length):path.getD k 0=x↔k=p :=
 ⟨fun h=>zt2 hn hk hp (by rw[h,hx]),fun h=>by rw[h,hx]⟩
theorem FnRunHeldPath_v (code:List Int) (hl0:code.length≤9223372036854775807) (hb:∀x∈code,0≤x∧x≤255):zr Tryz.prog 3 0 [.c (.nums .u8 code)] [] 0 (.c (.bool true)) []:=by
 refine spi (fn:=Tryz.f3) _ ?_
 conv=>whnf
 repeat' first|(refine zk (fun h=>?_) (fun h=>?_)<;>(try simp only[qA]at h)<;>(try simp only[wA]at h)<;>conv=>whnf)|refine zc ?_
 ·rfl
 refine zbw [] [] (z5i code (by omega) (zie hb)) ⟨rfl,rfl,rfl,(by repeat first|exact trivial|refine⟨rfl,?_⟩),⟨rfl,rfl,rfl⟩,?_⟩
 rintro m res hout ⟨root,ps,ops,picks,hp,hps,ho5,hk18,rfl,rfl,rfl⟩
 refine⟨⟨rfl,rfl,rfl⟩,?_⟩
 cases hR:z4i root ps ops picks with
 |false =>
  have h1:=z52 root ps ops picks hp (by omega) (by omega) hR
  have h2:=z5a root ps ops picks hp (by omega) (by omega) hR
  have h3:=z5x root ps ops picks hp (by omega) (by omega) hR
  have h4:=zf7
  by_cases c:ops.length=0
  ·conv=>whnf
   repeat' first
    |(refine zn ?_ ?_;(focus (first|rfl|exact beq_self_eq_true _));conv=>whnf)
    |(refine zm ?_ ?_;(focus (first|rfl|exact bne_self_eq_false _));conv=>whnf)
    |(refine zm ?_ ?_;(focus ((try simp only[qA])<;>(try simp only[wA])<;>omega));conv=>whnf)
    |refine zh ?_
    |(refine zp (h1) rfl rfl ?_;conv=>whnf)
    |(refine zp (h2) rfl rfl ?_;conv=>whnf)
    |(refine zp (h3) rfl rfl ?_;conv=>whnf)
    |(refine zp (h4) rfl rfl ?_;conv=>whnf)
   all_goals rfl
  ·conv=>whnf
   repeat' first
    |(refine zm ?_ ?_;(focus (first|rfl|exact bne_self_eq_false _));conv=>whnf)
    |(refine zn ?_ ?_;(focus ((try simp only[qA])<;>(try simp only[wA])<;>omega));conv=>whnf)
    |refine zh ?_
    |(refine zp (h1) rfl rfl ?_;conv=>whnf)
    |(refine zp (h2) rfl rfl ?_;conv=>whnf)
    |(refine zp (h3) rfl rfl ?_;conv=>whnf)
    |(refine zp (h4) rfl rfl ?_;conv=>whnf)
   all_goals rfl
 |true =>
  have hR:=z4g.1 hR
  obtain⟨A1,A2,A3⟩:=hR.all
  have h1:=z5s root ps ops picks hR
  have h2:=z4z root ps ops picks hR
  have h3:=z7i hp (by omega) (by omega) hR
  have hk:=hR.hk
  have hol:=hR.ol
  have hvo:=hR.vo
  generalize ruF root ps ops picks=S at *
  have hl:=A1.hl
  have hop:=A2.op
  have hdn:=A1.dn
  have hvS:=A1.vt
  have hpS:=(zdx hvS).pb
  have V:=za0 hvS
  have h4:=zfm S.held (by omega) (fun i=>by have:=hk i;omega)
  by_cases c0:S.ps.length=0
  ·conv=>whnf
   repeat' first
    |(refine zm ?_ ?_;(focus (first|rfl|exact bne_self_eq_false _));conv=>whnf)
    |(refine zn ?_ ?_;(focus ((try simp only[qA])<;>(try simp only[wA])<;>omega));conv=>whnf)
    |(refine zm ?_ ?_;(focus ((try simp only[qA])<;>(try simp only[wA])<;>omega));conv=>whnf)
    |refine zh ?_
    |(refine zp (h1) rfl rfl ?_;conv=>whnf)
    |(refine zp (h2) rfl rfl ?_;conv=>whnf)
    |(refine zp (h3) rfl rfl ?_;conv=>whnf)
    |(refine zp (h4) rfl rfl ?_;conv=>whnf)
   all_goals rfl
  conv=>whnf
  repeat' first
   |(refine zm ?_ ?_;(focus (first|rfl|exact bne_self_eq_false _));conv=>whnf)
   |(refine zm ?_ ?_;(focus ((try simp only[qA])<;>(try simp only[wA])<;>omega));conv=>whnf)
   |(refine zp (h1) rfl rfl ?_;conv=>whnf)
   |(refine zp (h2) rfl rfl ?_;conv=>whnf)
   |(refine zp (h3) rfl rfl ?_;conv=>whnf)
   |(refine zp (h4) rfl rfl ?_;conv=>whnf)
  refine zau (fun i:Nat=>i≤ops.length) (fun i=>⟨120,1,[(4,.c (.ops ops)),(6,.c (.numss S.held)),(7,.ptr 0 0 0 0),(8,.c (.int .i64 i))],[(0,.box [.c (.int .i64 S.root),.c (.pgs S.ps)] [] [])]⟩) (fun i=>ops.length-i) 0 (Nat.zero_le _) (fun _=>Nat.zero_le _) (ydn [] [1]) (fun i hi=>?_)
  by_cases ci:i<ops.length
  ·have hki:=hk i
   obtain⟨o1,o2,o3,o4⟩:=z5c hvo ci
   have hpt:zr Tryz.prog 29 0 [trV S.root S.ps,.c (.int .i64 (ops.getD i ⟨0,0,0⟩).key)] [] 0 (.c (.nums .i64 (ptF S.ps (ops.getD i ⟨0,0,0⟩).key (htF S.root S.ps) S.root))) []:=zdn (zjo S.root (ops.getD i ⟨0,0,0⟩).key S.ps hpS hvS) rfl
   have hpl:(ptF S.ps (ops.getD i ⟨0,0,0⟩).key (htF S.root S.ps) S.root).length=htF S.root S.ps:=zg1
   have hpn:(ptF S.ps (ops.getD i ⟨0,0,0⟩).key (htF S.root S.ps) S.root).Nodup:=by
    obtain⟨d,hd⟩:∃d,htF S.root S.ps=d+1:=⟨htF S.root S.ps-1,by have:=V.h1;omega⟩
    have v:=V.v0
    rw[hd]at v⊢
    exact z7q (v.at o2.1 o2.2)
   have hwy:∃p:Nat,p+(S.held.getD i []).length≤htF S.root S.ps∧∀t,t<(S.held.getD i []).length→(S.held.getD i []).getD t 0=(ptF S.ps (ops.getD i ⟨0,0,0⟩).key (htF S.root S.ps) S.root).getD (p+t) 0:=by
    by_cases q:(i:Int)∈S.done
    ·obtain⟨_,_,d2⟩:=hdn _ q
     rw[Int.toNat_natCast]at d2
     exact⟨0,by rw[d2];exact Nat.zero_le _,fun t ht=>by rw[d2]at ht;exact absurd ht (Nat.not_lt_zero _)⟩
    ·obtain⟨j,q1,_⟩:=hop i ci q
     exact⟨j,by have:=q1.le;omega,q1.on⟩
   obtain⟨p,hp1,hp2⟩:=hwy
   have hh3:=V.h3
   generalize ptF S.ps (ops.getD i ⟨0,0,0⟩).key (htF S.root S.ps) S.root=P at *
   conv=>whnf
   repeat' first
    |(refine za (by kernel_rfl) ?_;conv=>whnf)
    |(refine zn ?_ ?_;(focus ((try simp only[qA])<;>(try simp only[wA])<;>omega));conv=>whnf)
    |(refine za (by(try simp only[wA,wL])<;>omega) ?_;conv=>whnf)
    |(refine zw (hpt) rfl rfl ?_;conv=>whnf)
    |(refine ze ?_;conv=>whnf)
   refine zau (fun j:Nat=>j≤(S.held.getD i []).length) (fun j=>⟨120,1,[(4,.c (.ops ops)),(6,.c (.numss S.held)),(7,.ptr 0 0 0 0),(8,.c (.int .i64 i)),(9,.c (.nums .i64 P)),(10,.c (.int .i64 j))],[(0,.box [.c (.int .i64 S.root),.c (.pgs S.ps)] [] [])]⟩) (fun j=>(S.held.getD i []).length-j) 0 (Nat.zero_le _) (fun _=>Nat.zero_le _) (ydn [] [0]) (fun j hj=>?_)
   by_cases cj:j<(S.held.getD i []).length
   ·have hx:=hp2 j cj
    conv=>whnf
    repeat' first|(refine zn ?_ ?_;(focus ((try simp only[qA])<;>(try simp only[wA])<;>omega));conv=>whnf)|(refine za (by(try simp only[wA,wL])<;>omega) ?_;conv=>whnf)
    refine zd0 (fun(k:Nat) (a:Int)=>k≤P.length∧a=if p+j<k then((p+j:Nat):Int)else -1) (fun k a=>⟨120,1,[(4,.c (.ops ops)),(6,.c (.numss S.held)),(7,.ptr 0 0 0 0),(8,.c (.int .i64 i)),(9,.c (.nums .i64 P)),(10,.c (.int .i64 j)),(11,.c (.int .i64 a)),(12,.c (.int .i64 k))],[(0,.box [.c (.int .i64 S.root),.c (.pgs S.ps)] [] [])]⟩) (fun k _=>P.length-k) 0 (-1) ⟨Nat.zero_le _,by rw[if_neg (Nat.not_lt_zero _)]⟩ (fun _ _=>Nat.zero_le _) (ydn [] [0]) (fun k a ha=>?_)
    obtain⟨hkl,ha⟩:=ha
    by_cases c1:k<P.length
    ·have hw:=ycl hpn (show p+j<P.length by omega) hx.symm c1
     by_cases c2:P.getD k 0=(S.held.getD i []).getD j 0
     ·have hw:=hw.1 c2
      conv=>whnf
      repeat' first
       |(refine za (by kernel_rfl) ?_;conv=>whnf)
       |(refine zn ?_ ?_;(focus ((try simp only[qA])<;>(try simp only[wA])<;>omega));conv=>whnf)
       |(refine za (by(try simp only[wA,wL])<;>omega) ?_;conv=>whnf)
       |(refine zg (by(try simp only[wA,wL])<;>omega) (by(try simp only[wA,wL])<;>omega) ?_;conv=>whnf)
       |(refine ze ?_;conv=>whnf)
      refine⟨⟨(k+1,(k:Int)),?_⟩,(ydn [] [0]),by dsimp only;omega⟩;(try dsimp only)
      exact⟨c1,by rw[if_pos (by omega),hw]⟩
     ·have hw:k≠p+j:=fun q=>c2 (hw.2 q)
      conv=>whnf
      repeat' first
       |(refine za (by kernel_rfl) ?_;conv=>whnf)
       |(refine zn ?_ ?_;(focus ((try simp only[qA])<;>(try simp only[wA])<;>omega));conv=>whnf)
       |(refine zm ?_ ?_;(focus ((try simp only[qA])<;>(try simp only[wA])<;>omega));conv=>whnf)
       |(refine za (by(try simp only[wA,wL])<;>omega) ?_;conv=>whnf)
       |(refine zg (by(try simp only[wA,wL])<;>omega) (by(try simp only[wA,wL])<;>omega) ?_;conv=>whnf)
       |(refine ze ?_;conv=>whnf)
      refine⟨⟨(k+1,a),?_⟩,(ydn [] [0]),by dsimp only;omega⟩;(try dsimp only)
      refine⟨c1,?_⟩
      rw[ha]
      by_cases c3:p+j<k
      ·rw[if_pos c3,if_pos (by omega)]
      ·rw[if_neg c3,if_neg (by omega)]
    ·rw[if_pos (by omega)]at ha
     subst ha
     by_cases c4:j=0
     ·conv=>whnf
      repeat' first
       |(refine za (by kernel_rfl) ?_;conv=>whnf)
       |(refine zm ?_ ?_;(focus (first|rfl|exact bne_self_eq_false _));conv=>whnf)
       |(refine zm ?_ ?_;(focus ((try simp only[qA])<;>(try simp only[wA])<;>omega));conv=>whnf)
       |(refine zg (by(try simp only[wA,wL])<;>omega) (by(try simp only[wA,wL])<;>omega) ?_;conv=>whnf)
       |(refine ze ?_;conv=>whnf)
      exact⟨⟨j+1,cj⟩,(ydn [] [0]),by dsimp only;omega⟩
     ·have hx2:=hp2 (j-1) (by omega)
      rw[show p+(j-1)=(if ((p+j:Nat):Int)-1>0 then((p+j:Nat):Int)-1 else 0).toNat by split<;>omega,show j-1=((j:Int)-1).toNat by omega]at hx2
      conv=>whnf
      repeat' first
       |(refine za (by kernel_rfl) ?_;conv=>whnf)
       |(refine zm ?_ ?_;(focus (first|rfl|exact bne_self_eq_false _));conv=>whnf)
       |(refine zn ?_ ?_;(focus ((try simp only[qA])<;>(try simp only[wA])<;>omega));conv=>whnf)
       |(refine zm ?_ ?_;(focus ((try simp only[qA])<;>(try simp only[wA])<;>omega));conv=>whnf)
       |(refine za (by(try simp only[wA,wL])<;>omega) ?_;conv=>whnf)
       |(refine zg (by(try simp only[wA,wL])<;>omega) (by(try simp only[wA,wL])<;>omega) ?_;conv=>whnf)
       |(refine ze ?_;conv=>whnf)
      exact⟨⟨j+1,cj⟩,(ydn [] [0]),by dsimp only;omega⟩
   ·conv=>whnf
    repeat' first
     |(refine zm ?_ ?_;(focus ((try simp only[qA])<;>(try simp only[wA])<;>omega));conv=>whnf)
     |(refine za (by(try simp only[wA,wL])<;>omega) ?_;conv=>whnf)
     |(refine zg (by(try simp only[wA,wL])<;>omega) (by(try simp only[wA,wL])<;>omega) ?_;conv=>whnf)
    exact⟨⟨i+1,ci⟩,(ydn [] [0]),by dsimp only;omega⟩
  ·conv=>whnf
   repeat' first|(refine zm ?_ ?_;(focus ((try simp only[qA])<;>(try simp only[wA])<;>omega));conv=>whnf)|refine zc ?_
   all_goals rfl
end Go.VL
