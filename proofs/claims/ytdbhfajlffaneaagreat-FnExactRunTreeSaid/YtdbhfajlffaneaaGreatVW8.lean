/- V-logic -/
import Derived.Test.YtdbhfajlffaneaaGreatVW7
import Derived.Test.YtdbhfajlffaneaaGreatVW4
import Derived.Test.YtdbhfajlffaneaaGreatVW6
import Derived.Test.YtdbhfajlffaneaaGreatVT7
import Derived.Test.YtdbhfajlffaneaaGreatVW1
namespace Go.VL
open Go.Proofs
set_option maxRecDepth 10000
set_option linter.unusedSimpArgs false
set_option linter.unusedVariables false
theorem z45 {n0 m:Nat} {res:V} {hout:List (Nat×O)} {s:S} {v:V} (h:vend n0 m res hout s v):vend n0 m res hout s v:=h
theorem z6g (l:List (List Int)) (w:Nat):l.set w (l.getD w [])=l:=by
 by_cases c:w<l.length
 ·rw[List.getD_eq_getElem?_getD,List.getElem?_eq_getElem c]
  exact List.set_getElem_self c
 ·exact List.set_eq_of_length_le (by omega)
theorem z9o (ops:List Opn) (root:Int) (ps:List Pg) (held:List (List Int)) (got done:List Int) (w:Nat) (hvt:vTree root ps=true) (hin:InP ps (held.getD w [])) (hw:w<ops.length) (hhl:held.length=ops.length) (hkl:∀i,(held.getD i []).length≤1000) (hn:ops.length≤1000) :
  zr Tryz.prog 148 4 [.ptr 0 0 0 0,.c (.int .i64 w)] [(0,.box [.c (.int .i64 root),.c (.pgs ps),.c (.ops ops),.slc 1,.slc 2,.slc 3] [] []),(1,.deep false 0 (.numss held) []),(2,.arr (.nums .i64 got)),(3,.arr (.nums .i64 done))] 4 (.c (.int .i64 (nxF root ps (held.getD w []) (z4e ops w).key))) [(0,.box [.c (.int .i64 root),.c (.pgs ps),.c (.ops ops),.slc 1,.slc 2,.slc 3] [] []),(1,.deep false 0 (.numss held) []),(2,.arr (.nums .i64 got)),(3,.arr (.nums .i64 done))]:=by
 have hp:pB ps:=(zdx hvt).pb
 have hkw:=hkl w
 by_cases hz:(held.getD w []).length=0
 ·have e:nxF root ps (held.getD w []) (z4e ops w).key=root:=by unfold nxF;rw[if_pos hz]
  rw[e]
  refine spi (fn:=Tryz.f148) _ ?_
  conv=>whnf
  refine ze9 [.op 1 w] ?_
  conv=>whnf
  repeat' first
   |(refine zn ?_ ?_;(focus ((try simp only[qA])<;>(try simp only[wA])<;>omega));conv=>whnf)
   |(refine za (by(try simp only[wA,wL])<;>omega) ?_;conv=>whnf)
   |((refine ze9 [.cl 1] ?_;(conv=>whnf);refine z45 ?_);conv=>whnf)
   |(refine zl (by first|rfl|omega) ?_;conv=>whnf)
   |(refine ze ?_;conv=>whnf)
  (refine zbg [] [0,1,2,3] ⟨rfl,⟨rfl,congrArg (λz=>some (O.deep false 0 (C.numss z) [])) ?_,rfl,rfl,trivial⟩,rfl,rfl,rfl,rfl,rfl,rfl⟩;exact z6g _ _)
 ·have e:nxF root ps (held.getD w []) (z4e ops w).key=(zb ps (laF (held.getD w []))).kids.getD (upF (zb ps (laF (held.getD w []))).keys (z4e ops w).key) 0:=by unfold nxF;rw[if_neg hz]
  obtain⟨l0,l1,l2⟩:=hin _ (z7d hz)
  have hir:=(zl6 hvt l0 l1).inr (za0 hvt).l16 (λq=>l2 (by rw[q];rfl))
  have hio:=zxh (zb ps (laF (held.getD w [])))
  have hrk:=zxe (zb ps (laF (held.getD w []))) (z4e ops w).key hir
  have hla:laF (held.getD w [])=(held.getD w []).getD (((held.getD w []).length:Int)-1).toNat 0:=by unfold laF;congr 1;omega
  rw[e]
  rw[hla]at hio hrk l0 l1⊢
  dsimp only[zb]at hio hrk⊢
  refine spi (fn:=Tryz.f148) _ ?_
  conv=>whnf
  refine ze9 [.op 1 w] ?_
  conv=>whnf
  repeat' first
   |(refine za (by kernel_rfl) ?_;conv=>whnf)
   |(refine zm ?_ ?_;(focus ((try simp only[qA])<;>(try simp only[wA])<;>omega));conv=>whnf)
   |(refine za (by(try simp only[wA,wL])<;>omega) ?_;conv=>whnf)
   |(refine zg (by(try simp only[wA,wL])<;>omega) (by(try simp only[wA,wL])<;>omega) ?_;conv=>whnf)
   |((refine ze9 [.cl 1] ?_;(conv=>whnf);refine z45 ?_);conv=>whnf)
   |(refine zw (hio) rfl rfl ?_;conv=>whnf)
   |(refine zw (hrk) rfl rfl ?_;conv=>whnf)
   |(refine zl (by first|rfl|omega) ?_;conv=>whnf)
   |(refine ze ?_;conv=>whnf)
  (refine zbg [] [0,1,2,3] ⟨rfl,⟨rfl,congrArg (λz=>some (O.deep false 0 (C.numss z) [])) ?_,rfl,rfl,trivial⟩,rfl,rfl,rfl,rfl,rfl,rfl⟩;exact z6g _ _)
theorem z8x (ops:List Opn) (root:Int) (ps:List Pg) (held:List (List Int)) (got done:List Int) (w:Nat) (page:Int) (hw:w<ops.length) (hhl:held.length=ops.length) (hkl:∀i,(held.getD i []).length≤1000) (hn:ops.length≤1000) :
  zr Tryz.prog 149 4 [.ptr 0 0 0 0,.c (.int .i64 w),.c (.int .i64 page)] [(0,.box [.c (.int .i64 root),.c (.pgs ps),.c (.ops ops),.slc 1,.slc 2,.slc 3] [] []),(1,.deep false 0 (.numss held) []),(2,.arr (.nums .i64 got)),(3,.arr (.nums .i64 done))] 4 (.c (.bool (z4j ops held w page))) [(0,.box [.c (.int .i64 root),.c (.pgs ps),.c (.ops ops),.slc 1,.slc 2,.slc 3] [] []),(1,.deep false 0 (.numss held) []),(2,.arr (.nums .i64 got)),(3,.arr (.nums .i64 done))]:=by
 refine spi (fn:=Tryz.f149) _ ?_
 conv=>whnf
 repeat' (refine ze ?_;conv=>whnf)
 refine zau (λi:Nat=>i≤held.length∧∀j,j<i→z48 ops held w page j=false) (λi=>⟨49,4,[(0,.ptr 0 0 0 0),(1,.c (.int .i64 w)),(2,.c (.int .i64 page)),(12,.slc 1),(13,.c (.int .i64 held.length)),(14,.c (.int .i64 i))],[(0,.box [.c (.int .i64 root),.c (.pgs ps),.c (.ops ops),.slc 1,.slc 2,.slc 3] [] []),(1,.deep false 0 (.numss held) []),(2,.arr (.nums .i64 got)),(3,.arr (.nums .i64 done))]⟩) (λi=>held.length-i) 0 ⟨Nat.zero_le _,λj hj=>absurd hj (Nat.not_lt_zero _)⟩ (λ_=>Nat.le_refl _) (ydn [] [0,1,2,3]) (λi hi=>?_)
 obtain⟨hi,hb⟩:=hi
 by_cases c:i<held.length
 ·have hcn:=z61 (held.getD i []) page (by have:=hkl i;omega)
  have hy:=λB (hB:(held.getD i []).contains page=B) q=>z8q (show i<ops.length by omega) (z86 (ops:=ops) (w:=w) hB q)
  have hno:∀B,(held.getD i []).contains page=B→¬(i≠w∧B=true∧((z4e ops i).kind=1∨(z4e ops w).kind=1))→i+1≤held.length∧∀j,j<i+1→z48 ops held w page j=false:=λB hB q=>⟨c,λj hj=>by
   by_cases e:j=i
   ·subst e;exact z8a hB q
   ·exact hb j (by omega)⟩
  have hy:=hy _ rfl
  have hno:=hno _ rfl
  generalize (held.getD i []).contains page=B at *
  dsimp only[z4e]at hy hno
  generalize z4j ops held w page=BF at *
  cases B with
  |true =>
   have hy:(i≠w∧((ops.getD i ⟨0,0,0⟩).kind=1∨(ops.getD w ⟨0,0,0⟩).kind=1))→BF=true:=λq=>hy ⟨q.1,rfl,q.2⟩
   have hno:¬(i≠w∧((ops.getD i ⟨0,0,0⟩).kind=1∨(ops.getD w ⟨0,0,0⟩).kind=1))→i+1≤held.length∧∀j,j<i+1→z48 ops held w page j=false:=λq=>hno λp=>q ⟨p.1,p.2.2⟩
   generalize e1:(ops.getD i ⟨0,0,0⟩).kind=K1 at *
   generalize e2:(ops.getD w ⟨0,0,0⟩).kind=K2 at *
   conv=>whnf
   refine ze9 [.op 1 i] ?_
   conv=>whnf
   repeat' first
    |(refine zm ?_ ?_;(focus (first|rfl|exact bne_self_eq_false _));conv=>whnf)
    |(refine zn ?_ ?_;(focus ((try simp only[qA])<;>(try simp only[wA])<;>omega));conv=>whnf)
    |(refine za (by(try simp only[wA,wL])<;>omega) ?_;conv=>whnf)
    |(refine zk (λh=>?_) (λh=>?_)<;>(try simp only[qA]at h)<;>(try simp only[wA]at h)<;>conv=>whnf)
    |(refine zg (by(try simp only[wA,wL])<;>omega) (by(try simp only[wA,wL])<;>omega) ?_;conv=>whnf)
    |((refine ze9 [.cl 1] ?_;(conv=>whnf);refine z45 ?_);conv=>whnf)
    |(refine zbo (hcn) rfl rfl rfl ?_;conv=>whnf)
    |(refine zl (by first|rfl|omega) ?_;conv=>whnf)
    |(refine ze ?_;conv=>whnf)
   all_goals first
    |(have hy:=hy (by omega);subst hy;(refine zbg [] [0,1,2,3] ⟨rfl,⟨rfl,congrArg (λz=>some (O.deep false 0 (C.numss z) [])) ?_,rfl,rfl,trivial⟩,rfl,rfl,rfl,rfl,rfl,rfl⟩;exact z6g _ _))
    |(refine⟨⟨i+1,hno (by omega)⟩,(zsg [.cl 1] [] [0,1,2,3] ?_),by dsimp only;omega⟩
      conv=>whnf
      refine⟨by repeat first|exact trivial|refine⟨rfl,?_⟩,⟨rfl,congrArg (λz=>some (O.deep false 0 (C.numss z) [])) ?_,rfl,rfl,trivial⟩,rfl,rfl,rfl,rfl,rfl,rfl,rfl⟩
      exact z6g _ _)
  |false =>
   have hno:=hno λp=>by cases p.2.1
   conv=>whnf
   refine ze9 [.op 1 i] ?_
   conv=>whnf
   repeat' first
    |(refine zn ?_ ?_;(focus (first|rfl|exact beq_self_eq_true _));conv=>whnf)
    |(refine zn ?_ ?_;(focus ((try simp only[qA])<;>(try simp only[wA])<;>omega));conv=>whnf)
    |(refine za (by(try simp only[wA,wL])<;>omega) ?_;conv=>whnf)
    |(refine zk (λh=>?_) (λh=>?_)<;>(try simp only[qA]at h)<;>(try simp only[wA]at h)<;>conv=>whnf)
    |(refine zg (by(try simp only[wA,wL])<;>omega) (by(try simp only[wA,wL])<;>omega) ?_;conv=>whnf)
    |(refine zbo (hcn) rfl rfl rfl ?_;conv=>whnf)
    |(refine zl (by first|rfl|omega) ?_;conv=>whnf)
    |(refine ze ?_;conv=>whnf)
   all_goals
    refine⟨⟨i+1,hno⟩,(zsg [.cl 1] [] [0,1,2,3] ?_),by dsimp only;omega⟩
    conv=>whnf
    refine⟨by repeat first|exact trivial|refine⟨rfl,?_⟩,⟨rfl,congrArg (λz=>some (O.deep false 0 (C.numss z) [])) ?_,rfl,rfl,trivial⟩,rfl,rfl,rfl,rfl,rfl,rfl,rfl⟩
    exact z6g _ _
 ·have:=z7t (ops:=ops) (held:=held) (w:=w) (page:=page) λj hj=>hb j (by omega)
  rw[this]
  conv=>whnf
  repeat' first|(refine zm ?_ ?_;(focus ((try simp only[qA])<;>(try simp only[wA])<;>omega));conv=>whnf)|(refine ze ?_;conv=>whnf)
  exact(zu [] [0,1,2,3])
theorem z95 (ops:List Opn) (root:Int) (ps:List Pg) (held:List (List Int)) (got done:List Int) (w:Nat) (hvt:vTree root ps=true) (hk:(z4e ops w).kind=0∨(z4e ops w).kind=1) (hw:w<ops.length) (hhl:held.length=ops.length) (hgl:got.length=ops.length) (hdl:done.length≤1000) (hn:ops.length≤1000) (F:RS) (hF:fiF ops ⟨root,ps,held,done,got⟩ w=F) :
  zr Tryz.prog 151 4 [.ptr 0 0 0 0,.c (.int .i64 w)] [(0,.box [.c (.int .i64 root),.c (.pgs ps),.c (.ops ops),.slc 1,.slc 2,.slc 3] [] []),(1,.deep false 0 (.numss held) []),(2,.arr (.nums .i64 got)),(3,.arr (.nums .i64 done))] 4 (.tup []) [(0,.box [.c (.int .i64 F.root),.c (.pgs F.ps),.c (.ops ops),.slc 1,.slc 2,.slc 3] [] []),(1,.deep false 0 (.numss F.held) []),(2,.arr (.nums .i64 F.got)),(3,.arr (.nums .i64 F.done))]:=by
 have hp:pB ps:=(zdx hvt).pb
 have hgk:=zom root (z4e ops w).key ps hp hvt
 have hpk:=z60 root ps ⟨(z4e ops w).key,(z4e ops w).value⟩ hp
 unfold gkV at hgk
 have hck:((psF root ps).map Pr.key).contains (z4e ops w).key=true↔(z4e ops w).key∈(psF root ps).map Pr.key:=List.contains_iff_mem
 unfold fiF at hF
 dsimp only[z4e]at *
 rcases hk with hk|hk
 ·rw[if_pos hk]at hF
  generalize zei (psF root ps) (ops.getD w ⟨0,0,0⟩).key=VV at *
  cases c:((psF root ps).map Pr.key).contains (ops.getD w ⟨0,0,0⟩).key with
  |true =>
   rw[if_pos (hck.1 c)]at hF
   rw[c]at hgk
   subst hF
   refine spi (fn:=Tryz.f151) _ ?_
   conv=>whnf
   repeat' first
    |(refine za (by kernel_rfl) ?_;conv=>whnf)
    |(refine zn ?_ ?_;(focus (first|rfl|exact beq_self_eq_true _));conv=>whnf)
    |(refine zn ?_ ?_;(focus ((try simp only[qA])<;>(try simp only[wA])<;>omega));conv=>whnf)
    |(refine za (by(try simp only[wA,wL])<;>omega) ?_;conv=>whnf)
    |((refine ze9 [.cl 1] ?_;(conv=>whnf);refine z45 ?_);conv=>whnf)
    |(refine zw (hgk) rfl rfl ?_;conv=>whnf)
    |(refine ze ?_;conv=>whnf)
   exact(zu [] [0,1,2,3])
  |false =>
   rw[if_neg (λq=>by rw[hck.2 q]at c;cases c)]at hF
   rw[c]at hgk
   subst hF
   refine spi (fn:=Tryz.f151) _ ?_
   conv=>whnf
   repeat' first
    |(refine za (by kernel_rfl) ?_;conv=>whnf)
    |(refine zm ?_ ?_;(focus (first|rfl|exact bne_self_eq_false _));conv=>whnf)
    |(refine zn ?_ ?_;(focus ((try simp only[qA])<;>(try simp only[wA])<;>omega));conv=>whnf)
    |(refine za (by(try simp only[wA,wL])<;>omega) ?_;conv=>whnf)
    |((refine ze9 [.cl 1] ?_;(conv=>whnf);refine z45 ?_);conv=>whnf)
    |(refine zw (hgk) rfl rfl ?_;conv=>whnf)
    |(refine ze ?_;conv=>whnf)
   exact(zu [] [0,1,2,3])
 ·rw[if_neg (by rw[hk];decide)]at hF
  cases g:zqc root ps ⟨(ops.getD w ⟨0,0,0⟩).key,(ops.getD w ⟨0,0,0⟩).value⟩with
  |none =>
   rw[g]at hF hpk
   change zr _ _ _ _ _ _ (.tup [ztV,.ff]) _ at hpk
   subst hF
   refine spi (fn:=Tryz.f151) _ ?_
   conv=>whnf
   repeat' first
    |(refine za (by kernel_rfl) ?_;conv=>whnf)
    |(refine zm ?_ ?_;(focus ((try simp only[qA])<;>(try simp only[wA])<;>omega));conv=>whnf)
    |(refine za (by(try simp only[wA,wL])<;>omega) ?_;conv=>whnf)
    |((refine ze9 [.cl 1] ?_;(conv=>whnf);refine z45 ?_);conv=>whnf)
    |(refine zw (hpk) rfl rfl ?_;conv=>whnf)
    |(refine ze ?_;conv=>whnf)
   exact(zu [] [0,1,2,3])
  |some r =>
   obtain⟨r1,r2⟩:=r
   rw[g]at hF hpk
   change zr _ _ _ _ _ _ (.tup [trV r1 r2,.tt]) _ at hpk
   subst hF
   refine spi (fn:=Tryz.f151) _ ?_
   conv=>whnf
   repeat' first
    |(refine za (by kernel_rfl) ?_;conv=>whnf)
    |(refine zm ?_ ?_;(focus ((try simp only[qA])<;>(try simp only[wA])<;>omega));conv=>whnf)
    |(refine za (by(try simp only[wA,wL])<;>omega) ?_;conv=>whnf)
    |((refine ze9 [.cl 1] ?_;(conv=>whnf);refine z45 ?_);conv=>whnf)
    |(refine zw (hpk) rfl rfl ?_;conv=>whnf)
    |(refine ze ?_;conv=>whnf)
   exact(zu [] [0,1,2,3])
end Go.VL
namespace Go.VL
open Go.Proofs
set_option maxRecDepth 10000
set_option linter.unusedSimpArgs false
set_option linter.unusedVariables false
set_option maxHeartbeats 4000000 in
theorem ybw (ops:List Opn) (root:Int) (ps:List Pg) (held:List (List Int)) (got done:List Int) (w k:Nat) (hI:RunI ops k ⟨root,ps,held,done,got⟩) (hk:k≤100) (ho:z4m ops=true) (hw:w<ops.length) (F:RS) (hF:piF ops ⟨root,ps,held,done,got⟩ w=F) :
  zr Tryz.prog 109 4 [.ptr 0 0 0 0,.c (.int .i64 w)] [(0,.box [.c (.int .i64 root),.c (.pgs ps),.c (.ops ops),.slc 1,.slc 2,.slc 3] [] []),(1,.deep false 0 (.numss held) []),(2,.arr (.nums .i64 got)),(3,.arr (.nums .i64 done))] 4 (.tup []) [(0,.box [.c (.int .i64 F.root),.c (.pgs F.ps),.c (.ops ops),.slc 1,.slc 2,.slc 3] [] []),(1,.deep false 0 (.numss F.held) []),(2,.arr (.nums .i64 F.got)),(3,.arr (.nums .i64 F.done))]:=by
 have hvt:=hI.vt
 have hhl:=hI.hl
 have hgl:=hI.gl
 have hin:=hI.hin w
 have hkl:=hI.hk
 have hdl:=hI.dl
 dsimp only at hvt hhl hgl hin hkl hdl
 have hp:pB ps:=(zdx hvt).pb
 have hn:=z5d ho
 have hop:=z5c ho hw
 have hcn:=z61 done w (by omega)
 unfold piF at hF
 dsimp only at hF
 by_cases c1:(w:Int)∈done
 ·rw[if_pos c1]at hF
  rw[List.contains_iff_mem.2 c1]at hcn
  subst hF
  refine spi (fn:=Tryz.f109) _ ?_
  conv=>whnf
  repeat' first
   |(refine zn ?_ ?_;(focus (first|rfl|exact beq_self_eq_true _));conv=>whnf)
   |(refine zbo (hcn) rfl rfl rfl ?_;conv=>whnf)
   |(refine ze ?_;conv=>whnf)
  exact(zu [] [0,1,2,3])
 ·rw[if_neg c1]at hF
  have c1':done.contains (w:Int)=false:=by
   cases q:done.contains (w:Int)with
   |false=>rfl
   |true=>exact(c1 (List.contains_iff_mem.1 q)).elim
  rw[c1']at hcn
  have hpr:=z8h hvt hin (z4e ops w).key
  have hnp:=z9o ops root ps held got done w hvt hin hw hhl (λi=>by have:=hkl i;omega) (by omega)
  have hbl:=z8x ops root ps held got done w (nxF root ps (held.getD w []) (z4e ops w).key) hw hhl (λi=>by have:=hkl i;omega) (by omega)
  have hsf:=zug root (nxF root ps (held.getD w []) (z4e ops w).key) (z4e ops w).kind ps hp hvt hpr.1 hpr.2 (by omega) (by omega)
  have hpe:=λH (hH:H.length=held.length) G hG=>z95 ops root ps H got done w hvt (by omega) hw (by omega) hgl (by omega) (by omega) G hG
  have hkk:=hp.kids (nxF root ps (held.getD w []) (z4e ops w).key)
  have hkw:=hkl w
  unfold h2F at hF
  generalize nxF root ps (held.getD w []) (z4e ops w).key=PG at *
  dsimp only[zb]at hF hkk
  cases hB:z4j ops held w PG with
  |true =>
   rw[hB]at hF hbl
   rw[if_pos rfl]at hF
   subst hF
   refine spi (fn:=Tryz.f109) _ ?_
   conv=>whnf
   repeat' first
    |(refine zn ?_ ?_;(focus (first|rfl|exact beq_self_eq_true _));conv=>whnf)
    |(refine zm ?_ ?_;(focus (first|rfl|exact bne_self_eq_false _));conv=>whnf)
    |(refine zbo (hcn) rfl rfl rfl ?_;conv=>whnf)
    |(refine zal [] [0,1,2,3] (hnp) ⟨rfl,rfl,rfl,(by repeat first|exact trivial|refine⟨rfl,?_⟩),⟨rfl,rfl,rfl,rfl,rfl,rfl⟩,?_⟩;conv=>whnf)
    |(refine zal [] [0,1,2,3] (hbl) ⟨rfl,rfl,rfl,(by repeat first|exact trivial|refine⟨rfl,?_⟩),⟨rfl,rfl,rfl,rfl,rfl,rfl⟩,?_⟩;conv=>whnf)
    |(refine ze ?_;conv=>whnf)
   exact(zu [] [0,1,2,3])
  |false =>
   rw[hB]at hF hbl
   rw[if_neg (by decide)]at hF
   cases hS:sfF root ps (z4e ops w).kind PG with
   |true =>
    rw[hS]at hF hsf
    by_cases hl0:(ps.getD PG.toNat ⟨[],[],[]⟩).kids.length=0
    ·rw[if_pos hl0]at hF
     have hpe:=hpe (held.set w ([PG])) (by rw[List.length_set]) F (by rw[z7b];exact hF)
     refine spi (fn:=Tryz.f109) _ ?_
     conv=>whnf
     refine ze ?_
     conv=>whnf
     repeat' first
      |(refine zm ?_ ?_;(focus (first|rfl|exact bne_self_eq_false _));conv=>whnf)
      |(refine zbo (hcn) rfl rfl rfl ?_;conv=>whnf)
     refine ze ?_
     conv=>whnf
     repeat' (refine zal [] [0,1,2,3] (hnp) ⟨rfl,rfl,rfl,(by repeat first|exact trivial|refine⟨rfl,?_⟩),⟨rfl,rfl,rfl,rfl,rfl,rfl⟩,?_⟩;conv=>whnf)
     refine ze ?_
     conv=>whnf
     repeat' first
      |(refine zm ?_ ?_;(focus (first|rfl|exact bne_self_eq_false _));conv=>whnf)
      |(refine zal [] [0,1,2,3] (hbl) ⟨rfl,rfl,rfl,(by repeat first|exact trivial|refine⟨rfl,?_⟩),⟨rfl,rfl,rfl,rfl,rfl,rfl⟩,?_⟩;conv=>whnf)
     refine ze ?_
     conv=>whnf
     repeat' first
      |(refine za (by kernel_rfl) ?_;conv=>whnf)
      |(refine zn ?_ ?_;(focus (first|rfl|exact beq_self_eq_true _));conv=>whnf)
      |(refine za (by(try simp only[wA,wL])<;>omega) ?_;conv=>whnf)
      |(refine zw (hsf) rfl rfl ?_;conv=>whnf)
     refine ze ?_
     conv=>whnf
     repeat' (refine za (by(try simp only[wA,wL])<;>omega) ?_;conv=>whnf)
     refine ze ?_
     conv=>whnf
     repeat' first
      |(refine za (by kernel_rfl) ?_;conv=>whnf)
      |(refine za (by(try simp only[wA,wL])<;>omega) ?_;conv=>whnf)
      |(refine zl (by first|rfl|omega) ?_;conv=>whnf)
     refine ze9 [.cl 1] ?_
     conv=>whnf
     repeat' first
      |(refine zn ?_ ?_;(focus ((try simp only[qA])<;>(try simp only[wA])<;>omega));conv=>whnf)
      |(refine za (by(try simp only[wA,wL])<;>omega) ?_;conv=>whnf)
      |(refine zal [] [0,1,2,3] (hpe) ⟨rfl,rfl,rfl,(by repeat first|exact trivial|refine⟨rfl,?_⟩),⟨rfl,rfl,rfl,rfl,rfl,rfl⟩,?_⟩;conv=>whnf)
      |(refine ze ?_;conv=>whnf)
     exact(zu [] [0,1,2,3])
    ·rw[if_neg hl0]at hF
     rw[if_pos rfl]at hF
     subst hF
     refine spi (fn:=Tryz.f109) _ ?_
     conv=>whnf
     refine ze ?_
     conv=>whnf
     repeat' first
      |(refine zm ?_ ?_;(focus (first|rfl|exact bne_self_eq_false _));conv=>whnf)
      |(refine zbo (hcn) rfl rfl rfl ?_;conv=>whnf)
     refine ze ?_
     conv=>whnf
     repeat' (refine zal [] [0,1,2,3] (hnp) ⟨rfl,rfl,rfl,(by repeat first|exact trivial|refine⟨rfl,?_⟩),⟨rfl,rfl,rfl,rfl,rfl,rfl⟩,?_⟩;conv=>whnf)
     refine ze ?_
     conv=>whnf
     repeat' first
      |(refine zm ?_ ?_;(focus (first|rfl|exact bne_self_eq_false _));conv=>whnf)
      |(refine zal [] [0,1,2,3] (hbl) ⟨rfl,rfl,rfl,(by repeat first|exact trivial|refine⟨rfl,?_⟩),⟨rfl,rfl,rfl,rfl,rfl,rfl⟩,?_⟩;conv=>whnf)
     refine ze ?_
     conv=>whnf
     repeat' first
      |(refine za (by kernel_rfl) ?_;conv=>whnf)
      |(refine zn ?_ ?_;(focus (first|rfl|exact beq_self_eq_true _));conv=>whnf)
      |(refine za (by(try simp only[wA,wL])<;>omega) ?_;conv=>whnf)
      |(refine zw (hsf) rfl rfl ?_;conv=>whnf)
     refine ze ?_
     conv=>whnf
     repeat' (refine za (by(try simp only[wA,wL])<;>omega) ?_;conv=>whnf)
     refine ze ?_
     conv=>whnf
     repeat' first
      |(refine za (by kernel_rfl) ?_;conv=>whnf)
      |(refine za (by(try simp only[wA,wL])<;>omega) ?_;conv=>whnf)
      |(refine zl (by first|rfl|omega) ?_;conv=>whnf)
     refine ze9 [.cl 1] ?_
     conv=>whnf
     repeat' first|(refine zm ?_ ?_;(focus ((try simp only[qA])<;>(try simp only[wA])<;>omega));conv=>whnf)|(refine za (by(try simp only[wA,wL])<;>omega) ?_;conv=>whnf)|(refine ze ?_;conv=>whnf)
     exact(zu [] [0,1,2,3])
   |false =>
    rw[hS]at hF hsf
    by_cases hl0:(ps.getD PG.toNat ⟨[],[],[]⟩).kids.length=0
    ·rw[if_pos hl0]at hF
     have hpe:=hpe (held.set w (held.getD w []++([]++[PG]))) (by rw[List.length_set]) F (by rw[z7b];exact hF)
     refine spi (fn:=Tryz.f109) _ ?_
     conv=>whnf
     refine ze ?_
     conv=>whnf
     repeat' first
      |(refine zm ?_ ?_;(focus (first|rfl|exact bne_self_eq_false _));conv=>whnf)
      |(refine zbo (hcn) rfl rfl rfl ?_;conv=>whnf)
     refine ze ?_
     conv=>whnf
     repeat' (refine zal [] [0,1,2,3] (hnp) ⟨rfl,rfl,rfl,(by repeat first|exact trivial|refine⟨rfl,?_⟩),⟨rfl,rfl,rfl,rfl,rfl,rfl⟩,?_⟩;conv=>whnf)
     refine ze ?_
     conv=>whnf
     repeat' first
      |(refine zm ?_ ?_;(focus (first|rfl|exact bne_self_eq_false _));conv=>whnf)
      |(refine zal [] [0,1,2,3] (hbl) ⟨rfl,rfl,rfl,(by repeat first|exact trivial|refine⟨rfl,?_⟩),⟨rfl,rfl,rfl,rfl,rfl,rfl⟩,?_⟩;conv=>whnf)
     refine ze ?_
     conv=>whnf
     repeat' first
      |(refine za (by kernel_rfl) ?_;conv=>whnf)
      |(refine zm ?_ ?_;(focus (first|rfl|exact bne_self_eq_false _));conv=>whnf)
      |(refine za (by(try simp only[wA,wL])<;>omega) ?_;conv=>whnf)
      |(refine zw (hsf) rfl rfl ?_;conv=>whnf)
     refine ze9 [.op 1 w] ?_
     conv=>whnf
     repeat' first
      |(refine za (by kernel_rfl) ?_;conv=>whnf)
      |(refine za (by(try simp only[wA,wL])<;>omega) ?_;conv=>whnf)
      |(refine zlj ?_;conv=>whnf)
      |(refine zl (by first|rfl|omega) ?_;conv=>whnf)
     refine ze9 [.cl 1] ?_
     conv=>whnf
     repeat' first
      |(refine zn ?_ ?_;(focus ((try simp only[qA])<;>(try simp only[wA])<;>omega));conv=>whnf)
      |(refine za (by(try simp only[wA,wL])<;>omega) ?_;conv=>whnf)
      |(refine zal [] [0,1,2,3] (hpe) ⟨rfl,rfl,rfl,(by repeat first|exact trivial|refine⟨rfl,?_⟩),⟨rfl,rfl,rfl,rfl,rfl,rfl⟩,?_⟩;conv=>whnf)
      |(refine ze ?_;conv=>whnf)
     exact(zu [] [0,1,2,3])
    ·rw[if_neg hl0]at hF
     rw[if_neg (by decide)]at hF
     subst hF
     refine spi (fn:=Tryz.f109) _ ?_
     conv=>whnf
     refine ze ?_
     conv=>whnf
     repeat' first
      |(refine zm ?_ ?_;(focus (first|rfl|exact bne_self_eq_false _));conv=>whnf)
      |(refine zbo (hcn) rfl rfl rfl ?_;conv=>whnf)
     refine ze ?_
     conv=>whnf
     repeat' (refine zal [] [0,1,2,3] (hnp) ⟨rfl,rfl,rfl,(by repeat first|exact trivial|refine⟨rfl,?_⟩),⟨rfl,rfl,rfl,rfl,rfl,rfl⟩,?_⟩;conv=>whnf)
     refine ze ?_
     conv=>whnf
     repeat' first
      |(refine zm ?_ ?_;(focus (first|rfl|exact bne_self_eq_false _));conv=>whnf)
      |(refine zal [] [0,1,2,3] (hbl) ⟨rfl,rfl,rfl,(by repeat first|exact trivial|refine⟨rfl,?_⟩),⟨rfl,rfl,rfl,rfl,rfl,rfl⟩,?_⟩;conv=>whnf)
     refine ze ?_
     conv=>whnf
     repeat' first
      |(refine za (by kernel_rfl) ?_;conv=>whnf)
      |(refine zm ?_ ?_;(focus (first|rfl|exact bne_self_eq_false _));conv=>whnf)
      |(refine za (by(try simp only[wA,wL])<;>omega) ?_;conv=>whnf)
      |(refine zw (hsf) rfl rfl ?_;conv=>whnf)
     refine ze9 [.op 1 w] ?_
     conv=>whnf
     repeat' first
      |(refine za (by kernel_rfl) ?_;conv=>whnf)
      |(refine za (by(try simp only[wA,wL])<;>omega) ?_;conv=>whnf)
      |(refine zlj ?_;conv=>whnf)
      |(refine zl (by first|rfl|omega) ?_;conv=>whnf)
     refine ze9 [.cl 1] ?_
     conv=>whnf
     repeat' first|(refine zm ?_ ?_;(focus ((try simp only[qA])<;>(try simp only[wA])<;>omega));conv=>whnf)|(refine za (by(try simp only[wA,wL])<;>omega) ?_;conv=>whnf)|(refine ze ?_;conv=>whnf)
     exact(zu [] [0,1,2,3])
end Go.VL
namespace Go.VL
open Go.Proofs
set_option maxRecDepth 10000
set_option linter.unusedSimpArgs false
set_option linter.unusedVariables false
theorem z5o (root:Int) (ps:List Pg) (ops:List Opn) (picks:List Int) (hR:RunV root ps ops picks) (S:RS) (hS:ruF root ps ops picks=S):zr Tryz.prog 69 0 [trV root ps,.c (.ops ops),.c (.nums .i64 picks)] [] 3 (.tup [.agg [.c (.int .i64 S.root),.c (.pgs S.ps),.c (.ops ops),.slc 0,.slc 1,.slc 2],.tt]) [(0,.deep false 0 (.numss S.held) []),(1,.arr (.nums .i64 S.got)),(2,.arr (.nums .i64 S.done))]:=by
 have hn:=z5d hR.vo
 have hpl:=hR.pl
 have hp:pB ps:=(zdx hR.vt).pb
 have hvt:=zbi root ps hp
 have hvo:=z55 ops (by omega)
 have hct:=zdn (z68 root ps hp (by have:=(za0 hR.vt).l16;omega)) rfl
 change zr _ _ _ _ _ _ (trV root ps) _ at hct
 rw[hR.vt]at hvt
 rw[hR.vo]at hvo
 refine spi (fn:=Tryz.f69) _ ?_
 conv=>whnf
 repeat' first
  |(refine zm ?_ ?_;(focus (first|rfl|exact bne_self_eq_false _));conv=>whnf)
  |(refine zm ?_ ?_;(focus ((try simp only[qA])<;>(try simp only[wA])<;>omega));conv=>whnf)
  |(refine zp (hvt) rfl rfl ?_;conv=>whnf)
  |(refine zp (hvo) rfl rfl ?_;conv=>whnf)
 refine zau (λi:Nat=>i≤picks.length) (λi=>⟨63,2,[(1,.c (.ops ops)),(2,.c (.nums .i64 picks)),(3,.ptr 0 0 0 0),(6,.ptr 1 0 0 0),(27,.c (.nums .i64 picks)),(28,.c (.int .i64 picks.length)),(29,.c (.int .i64 i))],[(0,.box [.c (.int .i64 root),.c (.pgs ps)] [] []),(1,.box [.c (.int .i64 0),.nil,.nil,.nil,.nil,.nil] [] [])]⟩) (λi=>picks.length-i) 0 (Nat.zero_le _) (λ_=>Nat.zero_le _) (ydn [] [0,1]) (λi hi=>?_)
 by_cases c:i<picks.length
 ·obtain⟨x0,x1⟩:=hR.pk _ (zaq 0 c)
  conv=>whnf
  repeat' first
   |(refine zn ?_ ?_;(focus ((try simp only[qA])<;>(try simp only[wA])<;>omega));conv=>whnf)
   |(refine zm ?_ ?_;(focus ((try simp only[qA])<;>(try simp only[wA])<;>omega));conv=>whnf)
   |(refine za (by(try simp only[wA,wL])<;>omega) ?_;conv=>whnf)
   |(refine zg (by(try simp only[wA,wL])<;>omega) (by(try simp only[wA,wL])<;>omega) ?_;conv=>whnf)
  refine⟨⟨i+1,?_⟩,(ydn [] [0,1]),by dsimp only;omega⟩;(try dsimp only)
  exact c
 ·conv=>whnf
  repeat' first
   |(refine za (by kernel_rfl) ?_;conv=>whnf)
   |(refine zm ?_ ?_;(focus ((try simp only[qA])<;>(try simp only[wA])<;>omega));conv=>whnf)
   |(refine za (by(try simp only[wA,wL])<;>omega) ?_;conv=>whnf)
   |(refine zw (hct) rfl rfl ?_;conv=>whnf)
   |(refine zlj ?_;conv=>whnf)
   |(refine ze ?_;conv=>whnf)
  refine zd0 (λ(i:Nat) (Z:RS)=>i≤picks.length∧Z=ruF root ps ops (picks.take i)) (λi Z=>⟨63,5,[(6,.ptr 0 0 0 0),(10,.ptr 1 0 0 0),(53,.c (.nums .i64 picks)),(54,.c (.int .i64 picks.length)),(55,.c (.int .i64 i))],[(0,.box [.c (.int .i64 0),.nil,.nil,.nil,.nil,.nil] [] []),(1,.box [.c (.int .i64 Z.root),.c (.pgs Z.ps),.c (.ops ops),.slc 2,.slc 3,.slc 4] [] []),(2,.deep false 0 (.numss Z.held) []),(3,.arr (.nums .i64 Z.got)),(4,.arr (.nums .i64 Z.done))]⟩) (λi _=>picks.length-i) 0 (r0F root ps ops.length) ⟨Nat.zero_le _,rfl⟩ (λ_ _=>Nat.zero_le _) (zsg [.nb 12 5 false (.nums .i64 [])] [] [1,12,7,10,102] ?_) ?_
  ·conv=>whnf
   exact⟨by repeat first|exact trivial|refine⟨rfl,?_⟩,by repeat first|exact trivial|refine⟨rfl,?_⟩,rfl,rfl,rfl,rfl,rfl,rfl,rfl⟩
  intro i Z hi
  obtain⟨hi,hZ⟩:=hi
  by_cases c2:i<picks.length
  ·have A:=(hR.at i).i
   have hst:=z6z root ps ops picks c2
   rw[←hZ]at hst A
   obtain⟨x0,x1⟩:=hR.pk _ (zaq 0 c2)
   obtain⟨z1,z2,z3,z4,z5⟩:=Z
   obtain⟨F,hF⟩:∃F,piF ops ⟨z1,z2,z3,z4,z5⟩ (picks.getD i 0).toNat=F:=⟨_,rfl⟩
   have hmp:=ybw ops z1 z2 z3 z5 z4 (picks.getD i 0).toNat _ A (by rw[List.length_take];omega) hR.vo (by omega) F hF
   rw[show(((picks.getD i 0).toNat:Nat):Int)=picks.getD i 0 by omega]at hmp
   rw[hF]at hst
   conv=>whnf
   repeat' first
    |(refine zn ?_ ?_;(focus ((try simp only[qA])<;>(try simp only[wA])<;>omega));conv=>whnf)
    |(refine za (by(try simp only[wA,wL])<;>omega) ?_;conv=>whnf)
    |(refine zg (by(try simp only[wA,wL])<;>omega) (by(try simp only[wA,wL])<;>omega) ?_;conv=>whnf)
    |(refine zal [] [1,2,3,4] (hmp) ⟨rfl,rfl,rfl,(by repeat first|exact trivial|refine⟨rfl,?_⟩),⟨rfl,rfl,rfl,rfl,rfl,rfl⟩,?_⟩;conv=>whnf)
    |(refine ze ?_;conv=>whnf)
   refine⟨⟨(i+1,F),?_⟩,(ydn [] [0,1,2,3,4]),by dsimp only;omega⟩;(try dsimp only)
   exact⟨c2,hst.symm⟩
  ·rw[List.take_of_length_le (by omega),hS]at hZ
   subst hZ
   conv=>whnf
   repeat' first|(refine zm ?_ ?_;(focus ((try simp only[qA])<;>(try simp only[wA])<;>omega));conv=>whnf)|(refine ze ?_;conv=>whnf)
   exact(zu [] [2,3,4])
theorem z5r (root:Int) (ps:List Pg) (ops:List Opn) (picks:List Int) (hp:pB ps) (h1:ops.length≤4294967296) (h2:picks.length≤4294967296) (hR:z4i root ps ops picks=false):zr Tryz.prog 69 0 [trV root ps,.c (.ops ops),.c (.nums .i64 picks)] [] 0 (.tup [.agg [.c (.int .i64 0),.nil,.nil,.nil,.nil,.nil],.ff]) []:=by
 have hvt:=zbi root ps hp
 have hvo:=z55 ops h1
 cases g1:vTree root ps with
 |false =>
  rw[g1]at hvt
  refine spi (fn:=Tryz.f69) _ ?_
  conv=>whnf
  repeat' first
   |(refine zn ?_ ?_;(focus (first|rfl|exact beq_self_eq_true _));conv=>whnf)
   |(refine zp (hvt) rfl rfl ?_;conv=>whnf)
  exact(zu [] [])
 |true =>
  rw[g1]at hvt
  cases g2:z4m ops with
  |false =>
   rw[g2]at hvo
   refine spi (fn:=Tryz.f69) _ ?_
   conv=>whnf
   repeat' first
    |(refine zn ?_ ?_;(focus (first|rfl|exact beq_self_eq_true _));conv=>whnf)
    |(refine zm ?_ ?_;(focus (first|rfl|exact bne_self_eq_false _));conv=>whnf)
    |(refine zp (hvt) rfl rfl ?_;conv=>whnf)
    |(refine zp (hvo) rfl rfl ?_;conv=>whnf)
   exact(zu [] [])
  |true =>
   rw[g2]at hvo
   by_cases g3:picks.length≤16
   ·have hbad:¬z6b ops.length picks:=λq=>by
     have:=z4g.2 ⟨g1,g2,g3,q⟩
     rw[hR]at this;cases this
    refine spi (fn:=Tryz.f69) _ ?_
    conv=>whnf
    repeat' first
     |(refine zm ?_ ?_;(focus (first|rfl|exact bne_self_eq_false _));conv=>whnf)
     |(refine zm ?_ ?_;(focus ((try simp only[qA])<;>(try simp only[wA])<;>omega));conv=>whnf)
     |(refine zp (hvt) rfl rfl ?_;conv=>whnf)
     |(refine zp (hvo) rfl rfl ?_;conv=>whnf)
    refine zau (λi:Nat=>i≤picks.length∧z6b ops.length (picks.take i)) (λi=>⟨63,2,[(1,.c (.ops ops)),(2,.c (.nums .i64 picks)),(3,.ptr 0 0 0 0),(6,.ptr 1 0 0 0),(27,.c (.nums .i64 picks)),(28,.c (.int .i64 picks.length)),(29,.c (.int .i64 i))],[(0,.box [.c (.int .i64 root),.c (.pgs ps)] [] []),(1,.box [.c (.int .i64 0),.nil,.nil,.nil,.nil,.nil] [] [])]⟩) (λi=>picks.length-i) 0 ⟨Nat.zero_le _,λx hx=>by cases hx⟩ (λ_=>Nat.zero_le _) (ydn [] [0,1]) (λi hi=>?_)
    obtain⟨hi,hk⟩:=hi
    by_cases c:i<picks.length
    ·have hnx:0≤picks.getD i 0∧picks.getD i 0<ops.length→i+1≤picks.length∧z6b ops.length (picks.take (i+1)):=λq=>⟨c,λx hx=>by
      rw[zat 0 c,List.mem_append,List.mem_singleton]at hx
      rcases hx with hx|rfl
      ·exact hk x hx
      ·exact q⟩
     rcases(by omega:picks.getD i 0<0∨(0≤picks.getD i 0∧(ops.length:Int)≤picks.getD i 0)∨(0≤picks.getD i 0∧picks.getD i 0<ops.length))with q|q|q
     ·conv=>whnf
      repeat' first|(refine zn ?_ ?_;(focus ((try simp only[qA])<;>(try simp only[wA])<;>omega));conv=>whnf)|(refine za (by(try simp only[wA,wL])<;>omega) ?_;conv=>whnf)
      exact(zu [] [])
     ·conv=>whnf
      repeat' first
       |(refine zn ?_ ?_;(focus ((try simp only[qA])<;>(try simp only[wA])<;>omega));conv=>whnf)
       |(refine zm ?_ ?_;(focus ((try simp only[qA])<;>(try simp only[wA])<;>omega));conv=>whnf)
       |(refine za (by(try simp only[wA,wL])<;>omega) ?_;conv=>whnf)
      exact(zu [] [])
     ·have hnx:=hnx q
      conv=>whnf
      repeat' first
       |(refine zn ?_ ?_;(focus ((try simp only[qA])<;>(try simp only[wA])<;>omega));conv=>whnf)
       |(refine zm ?_ ?_;(focus ((try simp only[qA])<;>(try simp only[wA])<;>omega));conv=>whnf)
       |(refine za (by(try simp only[wA,wL])<;>omega) ?_;conv=>whnf)
       |(refine zg (by(try simp only[wA,wL])<;>omega) (by(try simp only[wA,wL])<;>omega) ?_;conv=>whnf)
      exact⟨⟨i+1,hnx⟩,(ydn [] [0,1]),by dsimp only;omega⟩
    ·rw[List.take_of_length_le (by omega)]at hk
     exact absurd hk hbad
   ·have q16:¬(picks.length:Int)≤16:=by omega
    refine spi (fn:=Tryz.f69) _ ?_
    conv=>whnf
    repeat' first
     |(refine zm ?_ ?_;(focus (first|rfl|exact bne_self_eq_false _));conv=>whnf)
     |(refine zn ?_ ?_;(focus ((try simp only[qA])<;>(try simp only[wA])<;>omega));conv=>whnf)
     |(refine zp (hvt) rfl rfl ?_;conv=>whnf)
     |(refine zp (hvo) rfl rfl ?_;conv=>whnf)
    exact(zu [] [])
theorem z4z (root:Int) (ps:List Pg) (ops:List Opn) (picks:List Int) (hR:RunV root ps ops picks):zr Tryz.prog 37 0 [trV root ps,.c (.ops ops),.c (.nums .i64 picks)] [] 0 (trV (ruF root ps ops picks).root (ruF root ps ops picks).ps) []:=by
 have h:=z5o root ps ops picks hR _ rfl
 generalize ruF root ps ops picks=S at *
 refine spi (fn:=Tryz.f37) _ ?_
 conv=>whnf
 repeat' first
  |(refine zal [] [2,3,4] (h) ⟨rfl,rfl,rfl,(by repeat first|exact trivial|refine⟨rfl,?_⟩),⟨rfl,rfl,rfl,rfl,rfl,rfl⟩,?_⟩;conv=>whnf)
  |(refine ze ?_;conv=>whnf)
 exact(zu [] [])
theorem z5a (root:Int) (ps:List Pg) (ops:List Opn) (picks:List Int) (hp:pB ps) (h1:ops.length≤4294967296) (h2:picks.length≤4294967296) (hR:z4i root ps ops picks=false):zr Tryz.prog 37 0 [trV root ps,.c (.ops ops),.c (.nums .i64 picks)] [] 0 ztV []:=by
 have h:=z5r root ps ops picks hp h1 h2 hR
 refine spi (fn:=Tryz.f37) _ ?_
 conv=>whnf
 repeat' (refine zp (h) rfl rfl ?_;conv=>whnf)
 exact(zu [] [])
end Go.VL
namespace Go.VL
open Go.Proofs
set_option maxRecDepth 10000
set_option linter.unusedSimpArgs false
set_option linter.unusedVariables false
end Go.VL
namespace Go.VL
open Go.Proofs
set_option maxRecDepth 10000
set_option linter.unusedSimpArgs false
set_option linter.unusedVariables false
end Go.VL
namespace Go.VL
open Go.Proofs
set_option maxRecDepth 10000
set_option linter.unusedSimpArgs false
set_option linter.unusedVariables false
section
variable {root : Int} {ps : List Pg} {ops : List Opn} {picks : List Int}
theorem z89 (hp : pB ps) (h1 : ops.length ≤ 4294967296) (h2 : picks.length ≤ 4294967296) (h : RunV root ps ops picks) : zr Tryz.prog 36 0 [trV root ps, .c (.ops ops), .c (.nums .i64 picks)] [] 0 (trV (ruF root ps ops picks).root (ruF root ps ops picks).ps) [] := zdn (z9n root ps ops picks hp h1 h2 h) rfl
theorem RunV.hl (h : RunV root ps ops picks) : (ruF root ps ops picks).held.length = ops.length := h.all.i.hl
theorem RunV.gl (h : RunV root ps ops picks) : (ruF root ps ops picks).got.length = ops.length := h.all.i.gl
theorem RunV.dl (h : RunV root ps ops picks) : (ruF root ps ops picks).done.length ≤ 16 := by
  have := h.all.i.dl; have := h.pl; omega
theorem RunV.hk (h : RunV root ps ops picks) (w : Nat) : ((ruF root ps ops picks).held.getD w []).length ≤ 16 := by
  have := h.all.i.hk w; have := h.pl; omega
end
end Go.VL
