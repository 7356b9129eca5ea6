/- V-logic -/
import Derived.Test.YtdbhfajlffaneaaGreatVW10
import Derived.Test.YtdbhfajlffaneaaGreatVW8
import Derived.Test.YtdbhfajlffaneaaGreatVW9
namespace Go.VL
open Go.Proofs
set_option maxRecDepth 10000
set_option linter.unusedSimpArgs false
set_option linter.unusedVariables false
set_option maxHeartbeats 4000000 in
theorem yhb (ops:List Opn) (root:Int) (ps:List Pg) (held:List (List Int)) (got done:List Int) (w k:Nat) (hI:RunI ops k ⟨root,ps,held,done,got⟩) (hk:k≤100) (ho:z4m ops=true) (hw:w<ops.length) (F:RS) (hF:piF ops ⟨root,ps,held,done,got⟩ w=F) :
  zr Tryz.prog 109 5 [.ptr 0 0 0 0,.c (.int .i64 w)] (rdH ops root ps held got done) 5 (.tup []) (rdH ops F.root F.ps F.held F.got F.done):=by
 have hvt:=hI.vt
 have hhl:=hI.hl
 have hgl:=hI.gl
 have hin:=hI.hin w
 have hkl:=hI.hk
 have hdl:=hI.dl
 dsimp only at hvt hhl hgl hin hkl hdl
 have hp:pB ps:=(zdx hvt).pb
 have hn:=z5d ho
 have hop:=z5c ho hw
 have hcn:=z61 done w (by omega)
 unfold piF at hF
 dsimp only at hF
 by_cases c1:(w:Int)∈done
 ·rw[if_pos c1]at hF
  rw[List.contains_iff_mem.2 c1]at hcn
  subst hF
  refine spi (fn:=Tryz.f109) _ ?_
  conv=>whnf
  repeat' first
   |(refine zn ?_ ?_;(focus (first|rfl|exact beq_self_eq_true _));conv=>whnf)
   |(refine zbo (hcn) rfl rfl rfl ?_;conv=>whnf)
   |(refine ze ?_;conv=>whnf)
  exact(zu [] [0,1,2,3,4])
 ·rw[if_neg c1]at hF
  have c1':done.contains (w:Int)=false:=by
   cases q:done.contains (w:Int)with
   |false=>rfl
   |true=>exact(c1 (List.contains_iff_mem.1 q)).elim
  rw[c1']at hcn
  have hpr:=z8h hvt hin (z4e ops w).key
  have hnp:=yg7 ops root ps held got done w hvt hin hw hhl (λi=>by have:=hkl i;omega) (by omega)
  have hbl:=yg6 ops root ps held got done w (nxF root ps (held.getD w []) (z4e ops w).key) hw hhl (λi=>by have:=hkl i;omega) (by omega)
  have hsf:=zug root (nxF root ps (held.getD w []) (z4e ops w).key) (z4e ops w).kind ps hp hvt hpr.1 hpr.2 (by omega) (by omega)
  have hpe:=λH (hH:H.length=held.length) G hG=>yg8 ops root ps H got done w hvt (by omega) hw (by omega) hgl (by omega) (by omega) G hG
  have hkk:=hp.kids (nxF root ps (held.getD w []) (z4e ops w).key)
  have hkw:=hkl w
  unfold h2F at hF
  generalize nxF root ps (held.getD w []) (z4e ops w).key=PG at *
  dsimp only[zb]at hF hkk
  cases hB:z4j ops held w PG with
  |true =>
   rw[hB]at hF hbl
   rw[if_pos rfl]at hF
   subst hF
   refine spi (fn:=Tryz.f109) _ ?_
   conv=>whnf
   repeat' first
    |(refine zn ?_ ?_;(focus (first|rfl|exact beq_self_eq_true _));conv=>whnf)
    |(refine zm ?_ ?_;(focus (first|rfl|exact bne_self_eq_false _));conv=>whnf)
    |(refine zbo (hcn) rfl rfl rfl ?_;conv=>whnf)
    |(refine zal [] [0,1,2,3,4] (hnp) ⟨rfl,rfl,rfl,(by repeat first|exact trivial|refine⟨rfl,?_⟩),⟨rfl,rfl,rfl,rfl,rfl,rfl⟩,?_⟩;conv=>whnf)
    |(refine zal [] [0,1,2,3,4] (hbl) ⟨rfl,rfl,rfl,(by repeat first|exact trivial|refine⟨rfl,?_⟩),⟨rfl,rfl,rfl,rfl,rfl,rfl⟩,?_⟩;conv=>whnf)
    |(refine ze ?_;conv=>whnf)
   exact(zu [] [0,1,2,3,4])
  |false =>
   rw[hB]at hF hbl
   rw[if_neg (by decide)]at hF
   cases hS:sfF root ps (z4e ops w).kind PG with
   |true =>
    rw[hS]at hF hsf
    by_cases hl0:(ps.getD PG.toNat ⟨[],[],[]⟩).kids.length=0
    ·rw[if_pos hl0]at hF
     have hpe:=hpe (held.set w ([PG])) (by rw[List.length_set]) F (by rw[z7b];exact hF)
     refine spi (fn:=Tryz.f109) _ ?_
     conv=>whnf
     refine ze ?_
     conv=>whnf
     repeat' first
      |(refine zm ?_ ?_;(focus (first|rfl|exact bne_self_eq_false _));conv=>whnf)
      |(refine zbo (hcn) rfl rfl rfl ?_;conv=>whnf)
     refine ze ?_
     conv=>whnf
     repeat' (refine zal [] [0,1,2,3,4] (hnp) ⟨rfl,rfl,rfl,(by repeat first|exact trivial|refine⟨rfl,?_⟩),⟨rfl,rfl,rfl,rfl,rfl,rfl⟩,?_⟩;conv=>whnf)
     refine ze ?_
     conv=>whnf
     repeat' first
      |(refine zm ?_ ?_;(focus (first|rfl|exact bne_self_eq_false _));conv=>whnf)
      |(refine zal [] [0,1,2,3,4] (hbl) ⟨rfl,rfl,rfl,(by repeat first|exact trivial|refine⟨rfl,?_⟩),⟨rfl,rfl,rfl,rfl,rfl,rfl⟩,?_⟩;conv=>whnf)
     refine ze ?_
     conv=>whnf
     repeat' first
      |(refine za (by kernel_rfl) ?_;conv=>whnf)
      |(refine zn ?_ ?_;(focus (first|rfl|exact beq_self_eq_true _));conv=>whnf)
      |(refine za (by(try simp only[wA,wL])<;>omega) ?_;conv=>whnf)
      |(refine zly (hsf) rfl rfl rfl ?_;conv=>whnf)
     refine ze ?_
     conv=>whnf
     repeat' (refine za (by(try simp only[wA,wL])<;>omega) ?_;conv=>whnf)
     refine ze ?_
     conv=>whnf
     repeat' first
      |(refine za (by kernel_rfl) ?_;conv=>whnf)
      |(refine za (by(try simp only[wA,wL])<;>omega) ?_;conv=>whnf)
      |(refine zl (by first|rfl|omega) ?_;conv=>whnf)
     refine ze9 [.kp [0,1,4],.cl 1,.op 4 PG.toNat] ?_
     conv=>whnf
     repeat' first
      |(refine zn ?_ ?_;(focus ((try simp only[qA])<;>(try simp only[wA])<;>omega));conv=>whnf)
      |(refine za (by(try simp only[wA,wL])<;>omega) ?_;conv=>whnf)
      |(refine zl (by first|rfl|omega) ?_;conv=>whnf)
     conv=>arg 2;simp only[Nat.reduceAdd,C.stride]
     refine ze9 [.kp [0,1,4],.cl 4,.kp [0,1,4]] ?_
     refine vkp ?_
     refine yd3 (x':=.pgs ps) rfl rfl rfl (congrArg (λz=>some (C.pgs z)) (ydy ps _)) rfl ?_
     conv=>whnf
     repeat' first
      |(refine zal [] [0,1,2,3,4] (hpe) ⟨rfl,rfl,rfl,(by repeat first|exact trivial|refine⟨rfl,?_⟩),⟨rfl,rfl,rfl,rfl,rfl,rfl⟩,?_⟩;conv=>whnf)
      |(refine ze ?_;conv=>whnf)
     exact(zu [] [0,1,2,3,4])
    ·rw[if_neg hl0]at hF
     rw[if_pos rfl]at hF
     subst hF
     refine spi (fn:=Tryz.f109) _ ?_
     conv=>whnf
     refine ze ?_
     conv=>whnf
     repeat' first
      |(refine zm ?_ ?_;(focus (first|rfl|exact bne_self_eq_false _));conv=>whnf)
      |(refine zbo (hcn) rfl rfl rfl ?_;conv=>whnf)
     refine ze ?_
     conv=>whnf
     repeat' (refine zal [] [0,1,2,3,4] (hnp) ⟨rfl,rfl,rfl,(by repeat first|exact trivial|refine⟨rfl,?_⟩),⟨rfl,rfl,rfl,rfl,rfl,rfl⟩,?_⟩;conv=>whnf)
     refine ze ?_
     conv=>whnf
     repeat' first
      |(refine zm ?_ ?_;(focus (first|rfl|exact bne_self_eq_false _));conv=>whnf)
      |(refine zal [] [0,1,2,3,4] (hbl) ⟨rfl,rfl,rfl,(by repeat first|exact trivial|refine⟨rfl,?_⟩),⟨rfl,rfl,rfl,rfl,rfl,rfl⟩,?_⟩;conv=>whnf)
     refine ze ?_
     conv=>whnf
     repeat' first
      |(refine za (by kernel_rfl) ?_;conv=>whnf)
      |(refine zn ?_ ?_;(focus (first|rfl|exact beq_self_eq_true _));conv=>whnf)
      |(refine za (by(try simp only[wA,wL])<;>omega) ?_;conv=>whnf)
      |(refine zly (hsf) rfl rfl rfl ?_;conv=>whnf)
     refine ze ?_
     conv=>whnf
     repeat' (refine za (by(try simp only[wA,wL])<;>omega) ?_;conv=>whnf)
     refine ze ?_
     conv=>whnf
     repeat' first
      |(refine za (by kernel_rfl) ?_;conv=>whnf)
      |(refine za (by(try simp only[wA,wL])<;>omega) ?_;conv=>whnf)
      |(refine zl (by first|rfl|omega) ?_;conv=>whnf)
     refine ze9 [.kp [0,1,4],.cl 1,.op 4 PG.toNat] ?_
     conv=>whnf
     repeat' first
      |(refine zm ?_ ?_;(focus ((try simp only[qA])<;>(try simp only[wA])<;>omega));conv=>whnf)
      |(refine za (by(try simp only[wA,wL])<;>omega) ?_;conv=>whnf)
      |(refine zl (by first|rfl|omega) ?_;conv=>whnf)
     conv=>arg 2;simp only[Nat.reduceAdd,C.stride]
     refine ze9 [.kp [0,1,4],.cl 4,.kp [0,1,4]] ?_
     refine vkp ?_
     refine yd3 (x':=.pgs ps) rfl rfl rfl (congrArg (λz=>some (C.pgs z)) (ydy ps _)) rfl ?_
     conv=>whnf
     exact(zu [] [0,1,2,3,4])
   |false =>
    rw[hS]at hF hsf
    by_cases hl0:(ps.getD PG.toNat ⟨[],[],[]⟩).kids.length=0
    ·rw[if_pos hl0]at hF
     have hpe:=hpe (held.set w (held.getD w []++([]++[PG]))) (by rw[List.length_set]) F (by rw[z7b];exact hF)
     refine spi (fn:=Tryz.f109) _ ?_
     conv=>whnf
     refine ze ?_
     conv=>whnf
     repeat' first
      |(refine zm ?_ ?_;(focus (first|rfl|exact bne_self_eq_false _));conv=>whnf)
      |(refine zbo (hcn) rfl rfl rfl ?_;conv=>whnf)
     refine ze ?_
     conv=>whnf
     repeat' (refine zal [] [0,1,2,3,4] (hnp) ⟨rfl,rfl,rfl,(by repeat first|exact trivial|refine⟨rfl,?_⟩),⟨rfl,rfl,rfl,rfl,rfl,rfl⟩,?_⟩;conv=>whnf)
     refine ze ?_
     conv=>whnf
     repeat' first
      |(refine zm ?_ ?_;(focus (first|rfl|exact bne_self_eq_false _));conv=>whnf)
      |(refine zal [] [0,1,2,3,4] (hbl) ⟨rfl,rfl,rfl,(by repeat first|exact trivial|refine⟨rfl,?_⟩),⟨rfl,rfl,rfl,rfl,rfl,rfl⟩,?_⟩;conv=>whnf)
     refine ze ?_
     conv=>whnf
     repeat' first
      |(refine za (by kernel_rfl) ?_;conv=>whnf)
      |(refine zm ?_ ?_;(focus (first|rfl|exact bne_self_eq_false _));conv=>whnf)
      |(refine za (by(try simp only[wA,wL])<;>omega) ?_;conv=>whnf)
      |(refine zly (hsf) rfl rfl rfl ?_;conv=>whnf)
     refine ze9 [.op 1 w] ?_
     conv=>whnf
     repeat' first
      |(refine za (by kernel_rfl) ?_;conv=>whnf)
      |(refine za (by(try simp only[wA,wL])<;>omega) ?_;conv=>whnf)
      |(refine zlj ?_;conv=>whnf)
      |(refine zl (by first|rfl|omega) ?_;conv=>whnf)
     refine ze9 [.kp [0,1,4],.cl 1,.op 4 PG.toNat] ?_
     conv=>whnf
     repeat' first
      |(refine zn ?_ ?_;(focus ((try simp only[qA])<;>(try simp only[wA])<;>omega));conv=>whnf)
      |(refine za (by(try simp only[wA,wL])<;>omega) ?_;conv=>whnf)
      |(refine zl (by first|rfl|omega) ?_;conv=>whnf)
     conv=>arg 2;simp only[Nat.reduceAdd,C.stride]
     refine ze9 [.kp [0,1,4],.cl 4,.kp [0,1,4]] ?_
     refine vkp ?_
     refine yd3 (x':=.pgs ps) rfl rfl rfl (congrArg (λz=>some (C.pgs z)) (ydy ps _)) rfl ?_
     conv=>whnf
     repeat' first
      |(refine zal [] [0,1,2,3,4] (hpe) ⟨rfl,rfl,rfl,(by repeat first|exact trivial|refine⟨rfl,?_⟩),⟨rfl,rfl,rfl,rfl,rfl,rfl⟩,?_⟩;conv=>whnf)
      |(refine ze ?_;conv=>whnf)
     exact(zu [] [0,1,2,3,4])
    ·rw[if_neg hl0]at hF
     rw[if_neg (by decide)]at hF
     subst hF
     refine spi (fn:=Tryz.f109) _ ?_
     conv=>whnf
     refine ze ?_
     conv=>whnf
     repeat' first
      |(refine zm ?_ ?_;(focus (first|rfl|exact bne_self_eq_false _));conv=>whnf)
      |(refine zbo (hcn) rfl rfl rfl ?_;conv=>whnf)
     refine ze ?_
     conv=>whnf
     repeat' (refine zal [] [0,1,2,3,4] (hnp) ⟨rfl,rfl,rfl,(by repeat first|exact trivial|refine⟨rfl,?_⟩),⟨rfl,rfl,rfl,rfl,rfl,rfl⟩,?_⟩;conv=>whnf)
     refine ze ?_
     conv=>whnf
     repeat' first
      |(refine zm ?_ ?_;(focus (first|rfl|exact bne_self_eq_false _));conv=>whnf)
      |(refine zal [] [0,1,2,3,4] (hbl) ⟨rfl,rfl,rfl,(by repeat first|exact trivial|refine⟨rfl,?_⟩),⟨rfl,rfl,rfl,rfl,rfl,rfl⟩,?_⟩;conv=>whnf)
     refine ze ?_
     conv=>whnf
     repeat' first
      |(refine za (by kernel_rfl) ?_;conv=>whnf)
      |(refine zm ?_ ?_;(focus (first|rfl|exact bne_self_eq_false _));conv=>whnf)
      |(refine za (by(try simp only[wA,wL])<;>omega) ?_;conv=>whnf)
      |(refine zly (hsf) rfl rfl rfl ?_;conv=>whnf)
     refine ze9 [.op 1 w] ?_
     conv=>whnf
     repeat' first
      |(refine za (by kernel_rfl) ?_;conv=>whnf)
      |(refine za (by(try simp only[wA,wL])<;>omega) ?_;conv=>whnf)
      |(refine zlj ?_;conv=>whnf)
      |(refine zl (by first|rfl|omega) ?_;conv=>whnf)
     refine ze9 [.kp [0,1,4],.cl 1,.op 4 PG.toNat] ?_
     conv=>whnf
     repeat' first
      |(refine zm ?_ ?_;(focus ((try simp only[qA])<;>(try simp only[wA])<;>omega));conv=>whnf)
      |(refine za (by(try simp only[wA,wL])<;>omega) ?_;conv=>whnf)
      |(refine zl (by first|rfl|omega) ?_;conv=>whnf)
     conv=>arg 2;simp only[Nat.reduceAdd,C.stride]
     refine ze9 [.kp [0,1,4],.cl 4,.kp [0,1,4]] ?_
     refine vkp ?_
     refine yd3 (x':=.pgs ps) rfl rfl rfl (congrArg (λz=>some (C.pgs z)) (ydy ps _)) rfl ?_
     conv=>whnf
     exact(zu [] [0,1,2,3,4])
end Go.VL
namespace Go.VL
open Go.Proofs
set_option maxRecDepth 10000
set_option linter.unusedSimpArgs false
set_option linter.unusedVariables false
theorem yg9 (root:Int) (ps:List Pg) (ops:List Opn) (picks:List Int) (hR:RunV root ps ops picks) (S:RS) (hS:ruF root ps ops picks=S):zr Tryz.prog 69 0 [trV root ps,.c (.ops ops),.c (.nums .i64 picks)] [] 4 (.tup [.agg [.c (.int .i64 S.root),.slc 3,.c (.ops ops),.slc 0,.slc 1,.slc 2],.tt]) [(0,.deep false 0 (.numss S.held) []),(1,.arr (.nums .i64 S.got)),(2,.arr (.nums .i64 S.done)),(3,.deep false 0 (.pgs S.ps) [])]:=by
 have hn:=z5d hR.vo
 have hpl:=hR.pl
 have hp:pB ps:=(zdx hR.vt).pb
 have hvt:=zbi root ps hp
 have hvo:=z55 ops (by omega)
 have hct:=yct root ps hp (by have:=(za0 hR.vt).l16;omega)
 rw[hR.vt]at hvt
 rw[hR.vo]at hvo
 refine spi (fn:=Tryz.f69) _ ?_
 conv=>whnf
 repeat' first
  |(refine zm ?_ ?_;(focus (first|rfl|exact bne_self_eq_false _));conv=>whnf)
  |(refine zm ?_ ?_;(focus ((try simp only[qA])<;>(try simp only[wA])<;>omega));conv=>whnf)
  |(refine zp (hvt) rfl rfl ?_;conv=>whnf)
  |(refine zp (hvo) rfl rfl ?_;conv=>whnf)
 refine zau (λi:Nat=>i≤picks.length) (λi=>⟨63,2,[(1,.c (.ops ops)),(2,.c (.nums .i64 picks)),(3,.ptr 0 0 0 0),(6,.ptr 1 0 0 0),(27,.c (.nums .i64 picks)),(28,.c (.int .i64 picks.length)),(29,.c (.int .i64 i))],[(0,.box [.c (.int .i64 root),.c (.pgs ps)] [] []),(1,.box [.c (.int .i64 0),.nil,.nil,.nil,.nil,.nil] [] [])]⟩) (λi=>picks.length-i) 0 (Nat.zero_le _) (λ_=>Nat.zero_le _) (ydn [] [0,1]) (λi hi=>?_)
 by_cases c:i<picks.length
 ·obtain⟨x0,x1⟩:=hR.pk _ (zaq 0 c)
  conv=>whnf
  repeat' first
   |(refine zn ?_ ?_;(focus ((try simp only[qA])<;>(try simp only[wA])<;>omega));conv=>whnf)
   |(refine zm ?_ ?_;(focus ((try simp only[qA])<;>(try simp only[wA])<;>omega));conv=>whnf)
   |(refine za (by(try simp only[wA,wL])<;>omega) ?_;conv=>whnf)
   |(refine zg (by(try simp only[wA,wL])<;>omega) (by(try simp only[wA,wL])<;>omega) ?_;conv=>whnf)
  refine⟨⟨i+1,?_⟩,(ydn [] [0,1]),by dsimp only;omega⟩;(try dsimp only)
  exact c
 ·conv=>whnf
  repeat' first
   |(refine za (by kernel_rfl) ?_;conv=>whnf)
   |(refine zm ?_ ?_;(focus ((try simp only[qA])<;>(try simp only[wA])<;>omega));conv=>whnf)
   |(refine za (by(try simp only[wA,wL])<;>omega) ?_;conv=>whnf)
   |(refine zlg [.deep false 0 (.pgs ps) []] (hct) rfl rfl rfl rfl rfl rfl rfl ?_;conv=>whnf)
   |(refine zlj ?_;conv=>whnf)
   |(refine ze ?_;conv=>whnf)
  refine zd0 (λ(i:Nat) (Z:RS)=>i≤picks.length∧Z=ruF root ps ops (picks.take i)) (λi Z=>⟨63,6,[(6,.ptr 0 0 0 0),(10,.ptr 1 0 0 0),(53,.c (.nums .i64 picks)),(54,.c (.int .i64 picks.length)),(55,.c (.int .i64 i))],[(0,.box [.c (.int .i64 0),.nil,.nil,.nil,.nil,.nil] [] []),(1,.box [.c (.int .i64 Z.root),.slc 5,.c (.ops ops),.slc 2,.slc 3,.slc 4] [] []),(2,.deep false 0 (.numss Z.held) []),(3,.arr (.nums .i64 Z.got)),(4,.arr (.nums .i64 Z.done)),(5,.deep false 0 (.pgs Z.ps) [])]⟩) (λi _=>picks.length-i) 0 (r0F root ps ops.length) ⟨Nat.zero_le _,rfl⟩ (λ_ _=>Nat.zero_le _) (zsg [.nb 12 5 false (.nums .i64 [])] [] [1,12,7,10,102,3] ?_) ?_
  ·conv=>whnf
   exact⟨by repeat first|exact trivial|refine⟨rfl,?_⟩,by repeat first|exact trivial|refine⟨rfl,?_⟩,rfl,rfl,rfl,rfl,rfl,rfl,rfl⟩
  intro i Z hi
  obtain⟨hi,hZ⟩:=hi
  by_cases c2:i<picks.length
  ·have A:=(hR.at i).i
   have hst:=z6z root ps ops picks c2
   rw[←hZ]at hst A
   obtain⟨x0,x1⟩:=hR.pk _ (zaq 0 c2)
   obtain⟨z1,z2,z3,z4,z5⟩:=Z
   obtain⟨F,hF⟩:∃F,piF ops ⟨z1,z2,z3,z4,z5⟩ (picks.getD i 0).toNat=F:=⟨_,rfl⟩
   have hmp:=yhb ops z1 z2 z3 z5 z4 (picks.getD i 0).toNat _ A (by rw[List.length_take];omega) hR.vo (by omega) F hF
   rw[show(((picks.getD i 0).toNat:Nat):Int)=picks.getD i 0 by omega]at hmp
   rw[hF]at hst
   conv=>whnf
   repeat' first
    |(refine zn ?_ ?_;(focus ((try simp only[qA])<;>(try simp only[wA])<;>omega));conv=>whnf)
    |(refine za (by(try simp only[wA,wL])<;>omega) ?_;conv=>whnf)
    |(refine zg (by(try simp only[wA,wL])<;>omega) (by(try simp only[wA,wL])<;>omega) ?_;conv=>whnf)
    |(refine zal [] [1,2,3,4,5] (hmp) ⟨rfl,rfl,rfl,(by repeat first|exact trivial|refine⟨rfl,?_⟩),⟨rfl,rfl,rfl,rfl,rfl,rfl⟩,?_⟩;conv=>whnf)
    |(refine ze ?_;conv=>whnf)
   refine⟨⟨(i+1,F),?_⟩,(ydn [] [0,1,2,3,4,5]),by dsimp only;omega⟩;(try dsimp only)
   exact⟨c2,hst.symm⟩
  ·rw[List.take_of_length_le (by omega),hS]at hZ
   subst hZ
   conv=>whnf
   repeat' first|(refine zm ?_ ?_;(focus ((try simp only[qA])<;>(try simp only[wA])<;>omega));conv=>whnf)|(refine ze ?_;conv=>whnf)
   exact(zu [] [2,3,4,5])
theorem yhc (root:Int) (ps:List Pg) (ops:List Opn) (picks:List Int) (hR:RunV root ps ops picks):zr Tryz.prog 37 0 [trV root ps,.c (.ops ops),.c (.nums .i64 picks)] [] 1 (.agg [.c (.int .i64 (ruF root ps ops picks).root),.slc 0]) [(0,.deep false 0 (.pgs (ruF root ps ops picks).ps) [])]:=by
 have h:=yg9 root ps ops picks hR _ rfl
 generalize ruF root ps ops picks=S at *
 refine spi (fn:=Tryz.f37) _ ?_
 conv=>whnf
 repeat' first
  |(refine zal [] [2,3,4,5] (h) ⟨rfl,rfl,rfl,(by repeat first|exact trivial|refine⟨rfl,?_⟩),⟨rfl,rfl,rfl,rfl,rfl,rfl⟩,?_⟩;conv=>whnf)
  |(refine ze ?_;conv=>whnf)
 exact(zu [] [5])
end Go.VL
namespace Go.VL
open Go.Proofs
set_option maxRecDepth 10000
set_option linter.unusedSimpArgs false
set_option linter.unusedVariables false
theorem yhd:zr Tryz.prog 70 0 [.nil,.nil] [] 0 (.c (.bool true)) []:=by
 refine spi (fn:=Tryz.f70) _ ?_
 conv=>whnf
 repeat' first|(refine zk (λh=>?_) (λh=>?_)<;>(try simp only[qA]at h)<;>(try simp only[wA,wN]at h)<;>conv=>whnf)|refine zd ?_
 ·exact absurd trivial h
 refine zau (λ(_:Nat)=>True) (λ_=>⟨27,0,[(0,.nil),(1,.nil),(5,.c (.int .i64 0))],[]⟩) (λ_=>0) 0 trivial (λ_=>Nat.le_refl _) (ydn [] []) (λi _=>?_)
 conv=>whnf
 repeat' first|(refine zk (λh=>?_) (λh=>?_)<;>(try simp only[qA]at h)<;>(try simp only[wA,wN]at h)<;>conv=>whnf)|refine zc ?_|(refine ze ?_;conv=>whnf)
 all_goals first|rfl|(exfalso;omega)
theorem yhf (k:Int):zr Tryz.prog 72 0 [.nil,.c (.int .i64 k)] [] 0 (.c (.int .i64 k)) []:=by
 refine spi (fn:=Tryz.f72) _ ?_
 conv=>whnf
 skip
 refine zau (λ(_:Nat)=>True) (λ_=>⟨34,0,[(0,.nil),(1,.c (.int .i64 k)),(5,.c (.int .i64 0))],[]⟩) (λ_=>0) 0 trivial (λ_=>Nat.le_refl _) (ydn [] []) (λi _=>?_)
 conv=>whnf
 repeat' first|(refine zk (λh=>?_) (λh=>?_)<;>(try simp only[qA]at h)<;>(try simp only[wA,wN]at h)<;>conv=>whnf)|refine zi ?_
 all_goals first|rfl|(exfalso;omega)
theorem yhe (k:Int):zr Tryz.prog 73 0 [.nil,.c (.int .i64 k)] [] 0 (.c (.int .i64 k)) []:=by
 refine spi (fn:=Tryz.f73) _ ?_
 conv=>whnf
 skip
 refine zau (λ(_:Nat)=>True) (λ_=>⟨40,0,[(0,.nil),(1,.c (.int .i64 k)),(5,.c (.int .i64 0))],[]⟩) (λ_=>0) 0 trivial (λ_=>Nat.le_refl _) (ydn [] []) (λi _=>?_)
 conv=>whnf
 repeat' first|(refine zk (λh=>?_) (λh=>?_)<;>(try simp only[qA]at h)<;>(try simp only[wA,wN]at h)<;>conv=>whnf)|refine zi ?_
 all_goals first|rfl|(exfalso;omega)
theorem yhi:zr Tryz.prog 28 0 [ztV,ztV] [] 0 (.c (.bool true)) []:=by
 refine spi (fn:=Tryz.f28) _ ?_
 conv=>whnf
 repeat' first
  |(refine zm ?_ ?_;(focus (first|rfl|exact bne_self_eq_false _));conv=>whnf)
  |refine zc ?_
  |(refine zp (yhd) rfl rfl ?_;conv=>whnf)
 all_goals rfl
theorem yhh (k:Int):zr Tryz.prog 30 0 [ztV,.c (.int .i64 k)] [] 0 (.c (.int .i64 k)) []:=by
 refine spi (fn:=Tryz.f30) _ ?_
 conv=>whnf
 repeat' first|refine zi ?_|(refine zp (yhf k) rfl rfl ?_;conv=>whnf)
 all_goals rfl
theorem yhg (k:Int) (hk:0≤k):zr Tryz.prog 38 0 [ztV,.c (.int .i64 k)] [] 0 (.c (.int .i64 k)) []:=by
 refine spi (fn:=Tryz.f38) _ ?_
 conv=>whnf
 repeat' first|(refine zm ?_ ?_;(focus ((try simp only[qA])<;>(try simp only[wA])<;>omega));conv=>whnf)|refine zi ?_|(refine zp (yhe k) rfl rfl ?_;conv=>whnf)
 all_goals rfl
theorem FnExactRunTree_v (root:Int) (ps:List Pg) (ops:List Opn) (picks:List Int) (hc:ps.length≤9223372036854775807) (hl:∀p∈ps,p.keys.length≤9223372036854775807∧p.kids.length≤9223372036854775807∧p.vals.length≤9223372036854775807) (h1:ops.length≤9223372036854775807) (h2:picks.length≤9223372036854775807):zr Tryz.prog 7 0 [trV root ps,.c (.ops ops),.c (.nums .i64 picks)] [] 0 (.c (.bool true)) []:=by
 have hsz:=ygp root ps 1048576 hc hl (by decide) (by decide)
 refine spi (fn:=Tryz.f7) _ ?_
 conv=>whnf
 by_cases g0:1048576<picks.length
 ·skip
  repeat' first|(refine zn ?_ ?_;(focus ((try simp only[qA])<;>(try simp only[wA])<;>omega));conv=>whnf)|refine zc ?_
  all_goals rfl
 by_cases g1:yd8 ps 1048576<0
 ·skip
  repeat' first
   |(refine zn ?_ ?_;(focus ((try simp only[qA])<;>(try simp only[wA])<;>omega));conv=>whnf)
   |(refine zm ?_ ?_;(focus ((try simp only[qA])<;>(try simp only[wA])<;>omega));conv=>whnf)
   |refine zc ?_
   |(refine zp (hsz) rfl rfl ?_;conv=>whnf)
  all_goals rfl
 have b0:=ygx g1 (by decide)
 have b1:=ygs g1
 generalize yd8 ps 1048576=L1 at *
 have hso:=ygv ops L1 h1 (by omega) (by omega)
 have e:szI ops.length L1=if L1-ops.length<0 then -1 else L1-ops.length:=rfl
 by_cases g2:L1-ops.length<0
 ·rw[if_pos g2]at e
  rw[e]at hso
  repeat' first
   |(refine zn ?_ ?_;(focus (first|rfl|exact beq_self_eq_true _));conv=>whnf)
   |(refine zm ?_ ?_;(focus ((try simp only[qA])<;>(try simp only[wA])<;>omega));conv=>whnf)
   |refine zc ?_
   |(refine zp (hsz) rfl rfl ?_;conv=>whnf)
   |(refine zp (hso) rfl rfl ?_;conv=>whnf)
  all_goals rfl
 rw[if_neg g2]at e
 rw[e]at hso
 clear e
 have hp:=ygy b0.1 b0.2
 have ht:=ygn root ps hp
 have htd:=ygr root ps hp
 have ho:=yfs ops (by omega)
 have hof:=ygu ops (by omega)
 have hi:=yd7 picks (by omega)
 have hif:=ygo picks (by omega)
 have et:=ygq root ps hp
 have eo:=ygt ops (by omega)
 have ei:=yed picks (by omega)
 have mt:=ygj root ps 1 b0.1 b0.2 (by decide) (by decide)
 have ms:=ygw ps.length 0 ps 1 (λj _=>ye2 b0.2 j) (by omega)
 obtain⟨MM,hMM⟩:∃MM,mpN ps.length 0 ps 1=MM:=⟨_,rfl⟩
 rw[hMM]at mt ms
 obtain⟨M,K⟩:=MM
 dsimp only at mt ms
 clear hMM
 have mo:=ygm ops K (by omega) (by omega) (by omega)
 cases hR:z4i root ps ops picks with
 |false =>
  have r1:=z5a root ps ops picks hp (by omega) (by omega) hR
  have r2:=z6q root ps ops picks hp (by omega) (by omega) hR
  have ez:=yhi
  have mz:=yhh 1
  have hz:=yhg 1 (by decide)
  repeat' first
   |(refine za (by kernel_rfl) ?_;conv=>whnf)
   |(refine zn ?_ ?_;(focus (first|rfl|exact beq_self_eq_true _));conv=>whnf)
   |(refine zm ?_ ?_;(focus (first|rfl|exact bne_self_eq_false _));conv=>whnf)
   |(refine zm ?_ ?_;(focus ((try simp only[qA])<;>(try simp only[wA])<;>omega));conv=>whnf)
   |(refine zp (hsz) rfl rfl ?_;conv=>whnf)
   |(refine zp (hso) rfl rfl ?_;conv=>whnf)
   |(refine zp (dst:=some 31) ht rfl rfl ?_;conv=>whnf)
   |(refine zp (dst:=some 33) hof rfl rfl ?_;conv=>whnf)
   |(refine zp (dst:=some 35) hif rfl rfl ?_;conv=>whnf)
   |(refine zp (r2) rfl rfl ?_;conv=>whnf)
   |(refine zbe (htd) rfl rfl rfl rfl ?_;conv=>whnf)
   |(refine zbe (ho) rfl rfl rfl rfl ?_;conv=>whnf)
   |(refine zbe (hi) rfl rfl rfl rfl ?_;conv=>whnf)
   |(refine zbe (r1) rfl rfl rfl rfl ?_;conv=>whnf)
   |(refine zp (ez) rfl rfl ?_;conv=>whnf)
   |(refine zw (ht) rfl rfl ?_;conv=>whnf)
   |(refine zly (et) rfl rfl rfl ?_;conv=>whnf)
   |(refine zbo (eo) rfl rfl rfl ?_;conv=>whnf)
   |(refine zbo (ei) rfl rfl rfl ?_;conv=>whnf)
   |((refine ze9 [.pin 2] ?_;(conv=>whnf);fail_if_success (guard_target =~ False));conv=>whnf)
   |(refine zal [] [2] (mt) ⟨rfl,rfl,rfl,(by repeat first|exact trivial|refine⟨rfl,?_⟩),⟨rfl,rfl,rfl,rfl,rfl,rfl⟩,?_⟩;conv=>whnf)
   |(refine ze ?_;conv=>whnf)
  refine zbw [] [4] mo ⟨rfl,rfl,rfl,(by repeat first|exact trivial|refine⟨rfl,?_⟩),⟨rfl,rfl,rfl⟩,?_⟩
  rintro m res hout ⟨ys,q,q1,q2,rfl,rfl,rfl⟩
  refine⟨⟨rfl,rfl,rfl⟩,?_⟩
  have mi:=yec picks q (by omega) (by omega) (by omega)
  conv=>whnf
  repeat' first
   |(refine zm ?_ ?_;(focus (first|rfl|exact bne_self_eq_false _));conv=>whnf)
   |(refine zm ?_ ?_;(focus ((try simp only[qA])<;>(try simp only[wA])<;>omega));conv=>whnf)
   |refine zc ?_
   |(refine zp (ht) rfl rfl ?_;conv=>whnf)
   |(refine zp (hof) rfl rfl ?_;conv=>whnf)
   |(refine zp (hif) rfl rfl ?_;conv=>whnf)
   |(refine zp (r1) rfl rfl ?_;conv=>whnf)
   |(refine zp (ez) rfl rfl ?_;conv=>whnf)
   |(refine zp (mz) rfl rfl ?_;conv=>whnf)
   |(refine zp (hz) rfl rfl ?_;conv=>whnf)
   |((refine ze9 [.dp 5,.pin 5] ?_;(conv=>whnf);fail_if_success (guard_target =~ False));conv=>whnf)
   |(refine zal [] [5] (mi) ⟨rfl,rfl,rfl,(by repeat first|exact trivial|refine⟨rfl,?_⟩),⟨rfl,rfl,rfl,rfl,rfl,rfl⟩,?_⟩;conv=>whnf)
   |(refine ze ?_;conv=>whnf)
  all_goals rfl
 |true =>
  have hR:=z4g.1 hR
  have r1:=yhc root ps ops picks hR
  have r2:=z89 hp (by omega) (by omega) hR
  have r3:=z4z root ps ops picks hR
  have V:=za0 hR.all.i.vt
  have l16:=V.l16
  have pS:=(zdx hR.all.i.vt).pb
  have sz:=V.v0.sizes
  clear V
  generalize (ruF root ps ops picks).root=SR at *
  generalize (ruF root ps ops picks).ps=SP at *
  have hn:∀j,pgN (SP.getD j ⟨[],[],[]⟩)≤1048576:=λj=>by
   have:=sz (j:Int)
   unfold zb at this
   rw[Int.toNat_natCast]at this
   unfold pgN
   omega
  have hn2:∀p∈SP,pgN p≤1048576:=λp hp=>by
   obtain⟨j,hj,rfl⟩:=List.getElem_of_mem hp
   have:=hn j
   rwa [List.getD_eq_getElem?_getD,List.getElem?_eq_getElem hj]at this
  have eS:=ygq SR SP pS
  have mS:=ygj SR SP 1 (by omega) hn2 (by decide) (by decide)
  obtain⟨MM,hMM⟩:∃MM,mpN SP.length 0 SP 1=MM:=⟨_,rfl⟩
  rw[hMM]at mS
  obtain⟨MS,KS⟩:=MM
  obtain⟨k1,k2,k3,hd⟩:=yhj SR SP (by omega) hn MS KS hMM
  dsimp only at mS
  clear hMM sz hn hn2
  repeat' first
   |(refine za (by kernel_rfl) ?_;conv=>whnf)
   |(refine zn ?_ ?_;(focus (first|rfl|exact beq_self_eq_true _));conv=>whnf)
   |(refine zm ?_ ?_;(focus (first|rfl|exact bne_self_eq_false _));conv=>whnf)
   |(refine zm ?_ ?_;(focus ((try simp only[qA])<;>(try simp only[wA])<;>omega));conv=>whnf)
   |(refine zp (hsz) rfl rfl ?_;conv=>whnf)
   |(refine zp (hso) rfl rfl ?_;conv=>whnf)
   |(refine zp (dst:=some 31) ht rfl rfl ?_;conv=>whnf)
   |(refine zp (dst:=some 33) hof rfl rfl ?_;conv=>whnf)
   |(refine zp (dst:=some 35) hif rfl rfl ?_;conv=>whnf)
   |(refine zp (r2) rfl rfl ?_;conv=>whnf)
   |(refine zbe (htd) rfl rfl rfl rfl ?_;conv=>whnf)
   |(refine zbe (ho) rfl rfl rfl rfl ?_;conv=>whnf)
   |(refine zbe (hi) rfl rfl rfl rfl ?_;conv=>whnf)
   |(refine zbe (r1) rfl rfl rfl rfl ?_;conv=>whnf)
   |(refine zbo (eS) rfl rfl rfl ?_;conv=>whnf)
   |(refine zw (ht) rfl rfl ?_;conv=>whnf)
   |(refine zly (et) rfl rfl rfl ?_;conv=>whnf)
   |(refine zbo (eo) rfl rfl rfl ?_;conv=>whnf)
   |(refine zbo (ei) rfl rfl rfl ?_;conv=>whnf)
   |((refine ze9 [.pin 2] ?_;(conv=>whnf);fail_if_success (guard_target =~ False));conv=>whnf)
   |(refine zal [] [2] (mt) ⟨rfl,rfl,rfl,(by repeat first|exact trivial|refine⟨rfl,?_⟩),⟨rfl,rfl,rfl,rfl,rfl,rfl⟩,?_⟩;conv=>whnf)
   |(refine ze ?_;conv=>whnf)
  refine zbw [] [4] mo ⟨rfl,rfl,rfl,(by repeat first|exact trivial|refine⟨rfl,?_⟩),⟨rfl,rfl,rfl⟩,?_⟩
  rintro m res hout ⟨ys,q,q1,q2,rfl,rfl,rfl⟩
  refine⟨⟨rfl,rfl,rfl⟩,?_⟩
  have mi:=yec picks q (by omega) (by omega) (by omega)
  conv=>whnf
  repeat' first
   |(refine zm ?_ ?_;(focus (first|rfl|exact bne_self_eq_false _));conv=>whnf)
   |(refine zm ?_ ?_;(focus ((try simp only[qA])<;>(try simp only[wA])<;>omega));conv=>whnf)
   |refine zc ?_
   |(refine zp (ht) rfl rfl ?_;conv=>whnf)
   |(refine zp (hof) rfl rfl ?_;conv=>whnf)
   |(refine zp (hif) rfl rfl ?_;conv=>whnf)
   |(refine zp (r3) rfl rfl ?_;conv=>whnf)
   |(refine zp (eS) rfl rfl ?_;conv=>whnf)
   |(refine zbo (eS) rfl rfl rfl ?_;conv=>whnf)
   |((refine ze9 [.dp 5,.pin 5] ?_;(conv=>whnf);fail_if_success (guard_target =~ False));conv=>whnf)
   |((refine ze9 [.pin 6] ?_;(conv=>whnf);fail_if_success (guard_target =~ False));conv=>whnf)
   |(refine zal [] [5] (mi) ⟨rfl,rfl,rfl,(by repeat first|exact trivial|refine⟨rfl,?_⟩),⟨rfl,rfl,rfl,rfl,rfl,rfl⟩,?_⟩;conv=>whnf)
   |(refine zal [] [6] (mS) ⟨rfl,rfl,rfl,(by repeat first|exact trivial|refine⟨rfl,?_⟩),⟨rfl,rfl,rfl,rfl,rfl,rfl⟩,?_⟩;conv=>whnf)
   |(refine zbo (hd) rfl rfl rfl ?_;conv=>whnf)
   |(refine ze ?_;conv=>whnf)
  all_goals rfl
end Go.VL
