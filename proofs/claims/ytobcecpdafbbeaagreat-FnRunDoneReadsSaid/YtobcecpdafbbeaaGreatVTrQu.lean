/- V-logic: TrQu -/
import Derived.Test.YtobcecpdafbbeaaGreatVW8
namespace Go.VL
open Go.Proofs
set_option maxRecDepth 10000
set_option linter.unusedSimpArgs false
set_option linter.unusedVariables false
def rdF (ops:List Opn):List Opn:=ops.map fun o=>⟨0,o.key,0⟩
theorem ycn (ops:List Opn) (w:Nat):(z4e (rdF ops) w).kind=0:=by
 unfold z4e rdF
 rw[List.getD_eq_getElem?_getD,List.getElem?_map]
 cases ops[w]?<;>rfl
theorem ycj {ops:List Opn} (h:z4m ops=true):z4m (rdF ops)=true:=by
 unfold z4m at h⊢
 rw[Bool.and_eq_true,List.all_eq_true,decide_eq_true_iff]at h⊢
 refine⟨fun x hx=>?_,by unfold rdF;rw[List.length_map];exact h.2⟩
 obtain⟨o,ho,rfl⟩:=List.mem_map.1 hx
 have:=h.1 o ho
 unfold vOp at this⊢
 rw[decide_eq_true_iff]at this⊢
 exact⟨by dsimp only;omega,this.2.1,by dsimp only;omega,fun _=>rfl⟩
theorem yav {ops:List Opn} {k:Nat} (h:k<ops.length):rdF (ops.take (k+1))=rdF (ops.take k)++[⟨0,(ops.getD k ⟨0,0,0⟩).key,0⟩]:=by
 rw[zat ⟨0,0,0⟩ h]
 unfold rdF
 rw[List.map_append];rfl
theorem FnRunDoneReads_v (code:List Int) (hl0:code.length≤9223372036854775807) (hb:∀x∈code,0≤x∧x≤255):zr Tryz.prog 5 0 [.c (.nums .u8 code)] [] 0 (.c (.bool true)) []:=by
 refine spi (fn:=Tryz.f5) _ ?_
 conv=>whnf
 repeat' first|(refine zk (fun h=>?_) (fun h=>?_)<;>(try simp only[qA]at h)<;>(try simp only[wA]at h)<;>conv=>whnf)|refine zc ?_
 ·rfl
 refine zbw [] [] (z42 code (by omega) (zie hb)) ⟨rfl,rfl,rfl,(by repeat first|exact trivial|refine⟨rfl,?_⟩),⟨rfl,rfl,rfl⟩,?_⟩
 rintro m res hout ⟨root,ps,ops,picks,hp,hps,ho5,hk18,rfl,rfl,rfl⟩
 refine⟨⟨rfl,rfl,rfl⟩,?_⟩
 cases hR:z4i root ps ops picks with
 |false =>
  have h1:=z4l root ps ops picks hp (by omega) (by omega) hR
  have h2:=z5a root ps ops picks hp (by omega) (by omega) hR
  have h3:=z4x root ps ops picks hp (by omega) (by omega) hR
  have h4:=zmf
  conv=>whnf
  repeat' first
   |(refine zn ?_ ?_;(focus (first|rfl|exact beq_self_eq_true _));conv=>whnf)
   |(refine zm ?_ ?_;(focus (first|rfl|exact bne_self_eq_false _));conv=>whnf)
   |refine zh ?_
   |(refine zp (h1) rfl rfl ?_;conv=>whnf)
   |(refine zp (h2) rfl rfl ?_;conv=>whnf)
   |(refine zp (h3) rfl rfl ?_;conv=>whnf)
   |(refine zp (h4) rfl rfl ?_;conv=>whnf)
  all_goals rfl
 |true =>
  have hR:=z4g.1 hR
  have h1:=z4w hR
  have h2:=z4z root ps ops picks hR
  have h3:=z5j root ps ops picks hp (by omega) (by omega) hR
  have dl:=hR.dl
  have hol:=hR.ol
  have pl:=hR.pl
  have hh:=z56 root ps hp hR.vt
  have V:=za0 hR.vt
  have H1:=V.h1
  have H3:=V.h3
  have hrl:(rdF ops).length=ops.length:=List.length_map _
  have hR2:RunV root ps (rdF ops) picks:=⟨hR.vt,ycj hR.vo,hR.pl,by rw[hrl];exact hR.pk⟩
  have G:=runG hR2.vt (ycn ops) _ picks rfl hR2.pk
  have g1:=z4w hR2
  have g2:=z4z root ps (rdF ops) picks hR2
  have gdl:=hR2.dl
  generalize ruF root ps (rdF ops) picks=U at *
  have hp1:=G.p
  rw[G.t.1,G.t.2]at g2
  rw[hrl]at hp1
  generalize ruF root ps ops picks=S at *
  have h4:=zbh S.done (by omega)
  have h5:=z2b root ps hp
  by_cases c0:S.ps.length=0
  ·conv=>whnf
   repeat' first
    |(refine zm ?_ ?_;(focus (first|rfl|exact bne_self_eq_false _));conv=>whnf)
    |(refine zn ?_ ?_;(focus ((try simp only[qA])<;>(try simp only[wA])<;>omega));conv=>whnf)
    |refine zh ?_
    |(refine zp (h1) rfl rfl ?_;conv=>whnf)
    |(refine zp (h2) rfl rfl ?_;conv=>whnf)
    |(refine zp (h3) rfl rfl ?_;conv=>whnf)
    |(refine zp (h4) rfl rfl ?_;conv=>whnf)
   all_goals rfl
  conv=>whnf
  repeat' first
   |(refine zm ?_ ?_;(focus (first|rfl|exact bne_self_eq_false _));conv=>whnf)
   |(refine zm ?_ ?_;(focus ((try simp only[qA])<;>(try simp only[wA])<;>omega));conv=>whnf)
   |(refine zp (h1) rfl rfl ?_;conv=>whnf)
   |(refine zp (h2) rfl rfl ?_;conv=>whnf)
   |(refine zp (h3) rfl rfl ?_;conv=>whnf)
   |(refine zp (h4) rfl rfl ?_;conv=>whnf)
  refine zd0 (fun(k:Nat) (L:List Opn)=>k≤ops.length∧L=rdF (ops.take k)) (fun k L=>⟨102,2,[(3,.ptr 0 0 0 0),(4,.c (.ops ops)),(5,.c (.nums .i64 picks)),(7,.slc 1),(8,.c (.int .i64 k))],[(0,.box [.c (.int .i64 root),.c (.pgs ps)] [] []),(1,.arr (.ops L))]⟩) (fun k _=>ops.length-k) 0 [] ⟨Nat.zero_le _,rfl⟩ (fun _ _=>Nat.zero_le _) (ydn [] [0,1]) (fun k L hk=>?_)
  obtain⟨hk,hL⟩:=hk
  by_cases c:k<ops.length
  ·have hLl:L.length≤4:=by rw[hL];unfold rdF;rw[List.length_map,List.length_take];omega
   conv=>whnf
   repeat' first
    |(refine zn ?_ ?_;(focus ((try simp only[qA])<;>(try simp only[wA])<;>omega));conv=>whnf)
    |(refine za (by(try simp only[wA,wL])<;>omega) ?_;conv=>whnf)
    |(refine zg (by(try simp only[wA,wL])<;>omega) (by(try simp only[wA,wL])<;>omega) ?_;conv=>whnf)
   refine⟨⟨(k+1,L++([]++[⟨0,(ops.getD k ⟨0,0,0⟩).key,0⟩])),?_⟩,(ydn [] [0,1]),by dsimp only;omega⟩;(try dsimp only)
   exact⟨c,by rw[hL,yav c];rfl⟩
  ·rw[List.take_of_length_le (by omega)]at hL
   subst hL
   conv=>whnf
   repeat' first
    |(refine zm ?_ ?_;(focus ((try simp only[qA])<;>(try simp only[wA])<;>omega));conv=>whnf)
    |(refine zal [1] [] (g1) ?_;(conv=>whnf);refine⟨rfl,rfl,rfl,(by repeat first|exact trivial|refine⟨rfl,?_⟩),⟨rfl,rfl,rfl,rfl,rfl,rfl⟩,?_⟩;conv=>whnf)
   refine zau (fun i:Nat=>i≤ops.length) (fun i=>⟨102,1,[(3,.ptr 0 0 0 0),(4,.c (.ops ops)),(5,.c (.nums .i64 picks)),(7,.c (.ops (rdF ops))),(9,.c (.nums .i64 U.done)),(10,.c (.int .i64 i))],[(0,.box [.c (.int .i64 root),.c (.pgs ps)] [] [])]⟩) (fun i=>ops.length-i) 0 (Nat.zero_le _) (fun _=>Nat.zero_le _) (ydn [] [0]) (fun i hi=>?_)
   by_cases ci:i<ops.length
   ·have hI:=znn U.done i (by omega)
    have hpi:=hp1 i ci
    conv=>whnf
    repeat' (refine zn ?_ ?_;(focus ((try simp only[qA])<;>(try simp only[wA])<;>omega));conv=>whnf)
    refine zd0 (fun(j n:Nat)=>j≤picks.length∧n=(picks.take j).count (i:Int)) (fun j n=>⟨102,1,[(3,.ptr 0 0 0 0),(4,.c (.ops ops)),(5,.c (.nums .i64 picks)),(7,.c (.ops (rdF ops))),(9,.c (.nums .i64 U.done)),(10,.c (.int .i64 i)),(11,.c (.int .i64 n)),(12,.c (.int .i64 j))],[(0,.box [.c (.int .i64 root),.c (.pgs ps)] [] [])]⟩) (fun j _=>picks.length-j) 0 0 ⟨Nat.zero_le _,by simp⟩ (fun _ _=>Nat.zero_le _) (ydn [] [0]) (fun j n hj=>?_)
    obtain⟨hj,hn⟩:=hj
    by_cases c1:j<picks.length
    ·have ec:=z66 c1 (i:Int)
     have nl:n≤picks.length:=by rw[hn];exact Nat.le_trans List.count_le_length (by rw[List.length_take];omega)
     by_cases c2:picks.getD j 0=(i:Int)
     ·rw[if_pos c2]at ec
      conv=>whnf
      repeat' first
       |(refine zn ?_ ?_;(focus ((try simp only[qA])<;>(try simp only[wA])<;>omega));conv=>whnf)
       |(refine za (by(try simp only[wA,wL])<;>omega) ?_;conv=>whnf)
       |(refine zg (by(try simp only[wA,wL])<;>omega) (by(try simp only[wA,wL])<;>omega) ?_;conv=>whnf)
      refine⟨⟨(j+1,n+1),?_⟩,(ydn [] [0]),by dsimp only;omega⟩;(try dsimp only)
      exact⟨c1,by rw[ec,hn]⟩
     ·rw[if_neg c2]at ec
      conv=>whnf
      repeat' first
       |(refine zn ?_ ?_;(focus ((try simp only[qA])<;>(try simp only[wA])<;>omega));conv=>whnf)
       |(refine zm ?_ ?_;(focus ((try simp only[qA])<;>(try simp only[wA])<;>omega));conv=>whnf)
       |(refine za (by(try simp only[wA,wL])<;>omega) ?_;conv=>whnf)
       |(refine zg (by(try simp only[wA,wL])<;>omega) (by(try simp only[wA,wL])<;>omega) ?_;conv=>whnf)
      refine⟨⟨(j+1,n),?_⟩,(ydn [] [0]),by dsimp only;omega⟩;(try dsimp only)
      exact⟨c1,by rw[ec,hn];rfl⟩
    ·rw[List.take_of_length_le (by omega)]at hn
     rw[←hn]at hpi
     rcases hpi with ⟨q1,q2⟩|⟨q1,q2,_⟩
     ·rw[List.contains_iff_mem.2 q1]at hI
      conv=>whnf
      repeat' first
       |(refine za (by kernel_rfl) ?_;conv=>whnf)
       |(refine zn ?_ ?_;(focus (first|rfl|exact beq_self_eq_true _));conv=>whnf)
       |(refine zm ?_ ?_;(focus (first|rfl|exact bne_self_eq_false _));conv=>whnf)
       |(refine zn ?_ ?_;(focus ((try simp only[qA])<;>(try simp only[wA])<;>omega));conv=>whnf)
       |(refine zm ?_ ?_;(focus ((try simp only[qA])<;>(try simp only[wA])<;>omega));conv=>whnf)
       |(refine zg (by(try simp only[wA,wL])<;>omega) (by(try simp only[wA,wL])<;>omega) ?_;conv=>whnf)
       |(refine zw (hI) rfl rfl ?_;conv=>whnf)
       |(refine zw (hh) rfl rfl ?_;conv=>whnf)
       |(refine ze ?_;conv=>whnf)
      exact⟨⟨i+1,ci⟩,(ydn [] [0]),by dsimp only;omega⟩
     ·rw[show U.done.contains (i:Int)=false by rw[Bool.eq_false_iff];exact fun q=>q1 (List.contains_iff_mem.1 q)]at hI
      conv=>whnf
      repeat' first
       |(refine za (by kernel_rfl) ?_;conv=>whnf)
       |(refine zm ?_ ?_;(focus (first|rfl|exact bne_self_eq_false _));conv=>whnf)
       |(refine zm ?_ ?_;(focus ((try simp only[qA])<;>(try simp only[wA])<;>omega));conv=>whnf)
       |(refine zg (by(try simp only[wA,wL])<;>omega) (by(try simp only[wA,wL])<;>omega) ?_;conv=>whnf)
       |(refine zw (hI) rfl rfl ?_;conv=>whnf)
       |(refine zw (hh) rfl rfl ?_;conv=>whnf)
       |(refine ze ?_;conv=>whnf)
      exact⟨⟨i+1,ci⟩,(ydn [] [0]),by dsimp only;omega⟩
   ·conv=>whnf
    repeat' first
     |(refine za (by kernel_rfl) ?_;conv=>whnf)
     |(refine zn ?_ ?_;(focus (first|rfl|exact beq_self_eq_true _));conv=>whnf)
     |(refine zm ?_ ?_;(focus ((try simp only[qA])<;>(try simp only[wA])<;>omega));conv=>whnf)
     |refine zc ?_
     |(refine zw (g2) rfl rfl ?_;conv=>whnf)
     |(refine zw (h5) rfl rfl ?_;conv=>whnf)
     |(refine ze ?_;conv=>whnf)
    all_goals rfl
end Go.VL
