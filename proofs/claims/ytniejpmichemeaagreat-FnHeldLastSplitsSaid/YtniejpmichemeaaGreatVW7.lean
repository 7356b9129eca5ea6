/- V-logic: TrZa TrZb TrPd TrPe TrDp TrYc PT27 TrYd TrYe TrXa TrXg TrXk -/
import Derived.Test.YtniejpmichemeaaGreatVT2
import Derived.Test.YtniejpmichemeaaGreatVEF
import Derived.Test.YtniejpmichemeaaGreatVMA
import Derived.Test.YtniejpmichemeaaGreatVT7
import Derived.Test.YtniejpmichemeaaGreatVW6
import Derived.Test.YtniejpmichemeaaGreatVEG
import Derived.Test.YtniejpmichemeaaGreatVW4
import Derived.Test.YtniejpmichemeaaGreatVW3
namespace Go.VL
open Go.Proofs
set_option maxRecDepth 10000
set_option linter.unusedSimpArgs false
set_option linter.unusedVariables false
theorem zw2 {α:Type} [DecidableEq α] (d:α) {xs ys:List α} (hl:xs.length=ys.length) (h:∀i,i<xs.length→xs.getD i d=ys.getD i d):xs=ys:=by
 apply List.ext_getElem hl
 intro i h1 h2
 have:=h i h1
 rwa [List.getD_eq_getElem?_getD,List.getD_eq_getElem?_getD,List.getElem?_eq_getElem h1,List.getElem?_eq_getElem h2]at this
theorem zn3 (xs ys:List Int) (h1:xs.length≤4294967296) (h2:ys.length≤4294967296):zr Tryz.prog 42 0 [.c (.nums .i64 xs),.c (.nums .i64 ys)] [] 0 (.c (.bool (decide (xs=ys)))) []:=by
 obtain⟨X,hX⟩:∃X,decide (xs=ys)=X:=⟨_,rfl⟩
 rw[hX]
 by_cases hl:xs.length=ys.length
 ·skip
  refine spi (fn:=Tryz.f42) _ ?_
  conv=>whnf
  repeat' (refine zm ?_ ?_;(focus ((try simp only[qA])<;>(try simp only[wA])<;>omega));conv=>whnf)
  refine zau (fun i:Nat=>∀k,k<i→xs.getD k 0=ys.getD k 0) (fun i=>⟨26,0,[(0,.c (.nums .i64 xs)),(1,.c (.nums .i64 ys)),(5,.c (.int .i64 i))],[]⟩) (fun i=>xs.length-i) 0 (fun k hk=>absurd hk (Nat.not_lt_zero _)) (fun _=>Nat.zero_le _) zbn (fun i hi=>?_)
  conv=>whnf
  repeat' first
   |(refine za (by kernel_rfl) ?_;conv=>whnf)
   |(refine za (by(try simp only[wA,wL])<;>omega) ?_;conv=>whnf)
   |(refine zk (fun h=>?_) (fun h=>?_)<;>(try simp only[qA]at h)<;>(try simp only[wA]at h)<;>conv=>whnf)
   |refine zc ?_
   |refine zd ?_
   |(refine zg (by(try simp only[wA,wL])<;>omega) (by(try simp only[wA,wL])<;>omega) ?_;conv=>whnf)
   |(refine ze ?_;conv=>whnf)
  ·rw[←hX]
   exact decide_eq_false fun q=>h (by rw[q])
  ·refine⟨⟨i+1,fun k hk=>?_⟩,zbn,by dsimp only;omega⟩
   rcases Nat.lt_or_ge k i with c|c
   ·exact hi k c
   ·obtain rfl:k=i:=by omega
    exact h
  ·rw[←hX]
   exact decide_eq_true (zw2 0 hl fun k hk=>hi k (by omega))
 ·have:X=false:=by
   rw[←hX]
   exact decide_eq_false fun q=>hl (by rw[q])
  rw[this]
  refine spi (fn:=Tryz.f42) _ ?_
  conv=>whnf
  repeat' first|(refine zn ?_ ?_;(focus ((try simp only[qA])<;>(try simp only[wA])<;>omega));conv=>whnf)|refine zd ?_
  all_goals rfl
theorem zmf:zr Tryz.prog 42 0 [.nil,.nil] [] 0 (.c (.bool true)) [] :=
 zkb (args:=[.c (.nums .i64 []),.c (.nums .i64 [])]) ⟨.inr ⟨rfl,_,rfl,rfl,rfl⟩,.inr ⟨rfl,_,rfl,rfl,rfl⟩,trivial⟩ (zn3 [] [] (by decide) (by decide))
theorem zbh (xs:List Int) (h:xs.length≤4294967296):zr Tryz.prog 42 0 [.c (.nums .i64 xs),.c (.nums .i64 xs)] [] 0 (.c (.bool true)) []:=by
 have:=zn3 xs xs h h
 rwa [decide_eq_true rfl]at this
end Go.VL
namespace Go.VL
open Go.Proofs
set_option maxRecDepth 10000
set_option linter.unusedSimpArgs false
set_option linter.unusedVariables false
end Go.VL
namespace Go.VL
open Go.Proofs
set_option maxRecDepth 10000
set_option linter.unusedSimpArgs false
set_option linter.unusedVariables false
end Go.VL
namespace Go.VL
open Go.Proofs
set_option maxRecDepth 10000
set_option linter.unusedSimpArgs false
set_option linter.unusedVariables false
end Go.VL
namespace Go.VL
open Go.Proofs
set_option maxRecDepth 10000
set_option linter.unusedSimpArgs false
set_option linter.unusedVariables false
def svL (code:List Int) (p:Int):List Int:=[zah code p 100,0-zah code (p+1) 100,0,1000,-1000,zah code (p+1+1) 100,zah code (p+1+1+1) 100,1001,zah code (p+1+1+1+1) 100]
def svF (code:List Int) (p:Int):Int :=
 (svL code p).getD (zah code (p+1+1+1+1+1) (svL code p).length).toNat 0
theorem svF_b {code:List Int} (hc:CodeOk code) {p:Int} (h0:0≤p) (h1:p≤1000000):-1000≤svF code p∧svF code p≤1001:=by
 have b1:=zdl hc (p:=p) (n:=100) h0 (by omega)
 have b2:=zdl hc (p:=p+1) (n:=100) (by omega) (by omega)
 have b3:=zdl hc (p:=p+1+1) (n:=100) (by omega) (by omega)
 have b4:=zdl hc (p:=p+1+1+1) (n:=100) (by omega) (by omega)
 have b5:=zdl hc (p:=p+1+1+1+1) (n:=100) (by omega) (by omega)
 have c1:=b1.2 (by omega)
 have c2:=b2.2 (by omega)
 have c3:=b3.2 (by omega)
 have c4:=b4.2 (by omega)
 have c5:=b5.2 (by omega)
 unfold svF
 refine znu (lo:=-1000) (hi:=1001) ?_ (by decide) (by decide) _
 intro x hx
 unfold svL at hx
 simp only[List.mem_cons,List.not_mem_nil,or_false]at hx
 rcases hx with rfl|rfl|rfl|rfl|rfl|rfl|rfl|rfl|rfl<;>omega
theorem z60 (code:List Int) (hc:CodeOk code) (p:Int) (h0:0≤p) (h1:p≤1000000):zr Tryz.prog 115 1 [.ptr 0 0 0 0] [(0,.box [.c (.nums .u8 code),.c (.int .i64 p)] [] [])] 1 (.c (.int .i64 (svF code p))) [(0,.box [.c (.nums .u8 code),.c (.int .i64 (p+1+1+1+1+1+1))] [] [])]:=by
 have b2:=zdl hc (p:=p+1) (n:=100) (by omega) (by omega)
 have c2:=b2.2 (by omega)
 refine spi (fn:=Tryz.f115) _ ?_
 conv=>whnf
 repeat' first
  |(refine zg (by(try simp only[wA,wL])<;>omega) (by(try simp only[wA,wL])<;>omega) ?_;conv=>whnf)
  |(refine zal [] [0] (zcs code hc _ _ ?_ ?_ ?_) ⟨rfl,rfl,rfl,(by repeat first|exact trivial|refine⟨rfl,?_⟩),⟨rfl,rfl,rfl,rfl,rfl,rfl⟩,?_⟩;(iterate 3 (focus omega));conv=>whnf)
  |(refine zal [1] [0] (zjy code hc (p+1+1+1+1+1) (svL code p) (by omega) (by omega) (by unfold svL;simp) (by unfold svL;simp)) ?_;(conv=>whnf);refine⟨rfl,rfl,rfl,(by repeat first|exact trivial|refine⟨rfl,?_⟩),⟨rfl,rfl,rfl,rfl,rfl,rfl⟩,?_⟩;conv=>whnf)
 exact(zu [] [0])
def z9x (m:Nat) (res:V) (hout:List (Nat×O)):Prop :=
 ∃(root:Int) (ps:List Pg) (x:Pr),pB ps∧ps.length≤16∧-1≤x.key∧x.key≤100∧-1000≤x.value∧x.value≤1001∧m=0∧res=.tup [trV root ps,prV x]∧hout=[]
theorem z9n (code:List Int) (hl:code.length≤1048576) (hc:CodeOk (code.take 2000)):zce Tryz.prog 52 0 [.c (.nums .u8 code)] [] z9x:=by
 refine spx (fn:=Tryz.f52) _ ?_
 conv=>whnf
 repeat' (refine zal [] [2] (zff code hl) ⟨rfl,rfl,rfl,(by repeat first|exact trivial|refine⟨rfl,?_⟩),⟨rfl,rfl,rfl,rfl,rfl,rfl⟩,?_⟩;conv=>whnf)
 refine zbw [] [2] (zgw (code.take 2000) hc 0 (by omega) (by omega)) ⟨rfl,rfl,rfl,(by repeat first|exact trivial|refine⟨rfl,?_⟩),⟨rfl,rfl,rfl⟩,?_⟩
 rintro m res hout ⟨root,ps,p,hp,hps,p0,p1,rfl,rfl,rfl⟩
 refine⟨⟨rfl,rfl,rfl⟩,?_⟩
 have htk:=zlk root ps hp
 have hb:=zww root ps
 generalize tkF root ps=K at *
 have hkn:=zmp (code.take 2000) hc p (by omega) (by omega) K hb.1 hb.2
 have hkb:=zxx hc (p:=p) (by omega) (by omega) hb.2
 have hpb:=yc5 (code.take 2000) p K
 generalize knV (code.take 2000) p K=key at *
 generalize knP (code.take 2000) p K=p' at *
 have hsv:=z60 (code.take 2000) hc p' (by omega) (by omega)
 have hsb:=svF_b hc (p:=p') (by omega) (by omega)
 generalize svF (code.take 2000) p'=v at *
 conv=>whnf
 repeat' first
  |(refine za (by kernel_rfl) ?_;conv=>whnf)
  |(refine zp (htk) rfl rfl ?_;conv=>whnf)
  |(refine zal [] [2] (hkn) ⟨rfl,rfl,rfl,(by repeat first|exact trivial|refine⟨rfl,?_⟩),⟨rfl,rfl,rfl,rfl,rfl,rfl⟩,?_⟩;conv=>whnf)
  |(refine zbr 2 hsv rfl rfl rfl rfl rfl rfl rfl rfl rfl ?_;conv=>whnf)
  |(refine ze ?_;conv=>whnf)
 exact za1 0 (.tup [trV root ps,prV ⟨key,v⟩]) [] ⟨root,ps,⟨key,v⟩,hp,hps,hkb.1,hkb.2,hsb.1,hsb.2,rfl,rfl,rfl⟩ rfl (zu [] [])
end Go.VL
namespace Go.VL
open Go.Proofs
set_option maxRecDepth 10000
set_option linter.unusedSimpArgs false
set_option linter.unusedVariables false
end Go.VL
namespace Go.VL
set_option linter.unusedVariables false
set_option linter.unusedSimpArgs false
end Go.VL
namespace Go.VL
open Go.Proofs
set_option maxRecDepth 10000
set_option linter.unusedSimpArgs false
set_option linter.unusedVariables false
end Go.VL
namespace Go.VL
open Go.Proofs
set_option maxRecDepth 10000
set_option linter.unusedSimpArgs false
set_option linter.unusedVariables false
end Go.VL
namespace Go.VL
open Go.Proofs
set_option maxRecDepth 10000
set_option linter.unusedSimpArgs false
set_option linter.unusedVariables false
end Go.VL
namespace Go.VL
open Go.Proofs
set_option maxRecDepth 10000
set_option linter.unusedSimpArgs false
set_option linter.unusedVariables false
theorem yaq (code:List Int) (hl:code.length≤1048576) (hc:CodeOk (code.take 2000)):zce Tryz.prog 64 0 [.c (.nums .u8 code)] [] z9x:=by
 refine spx (fn:=Tryz.f64) _ ?_
 conv=>whnf
 skip
 refine zbw [] [] (z9n code hl hc) ⟨rfl,rfl,rfl,(by repeat first|exact trivial|refine⟨rfl,?_⟩),⟨rfl,rfl,rfl⟩,?_⟩
 rintro m res hout ⟨root,ps,x,hp,hps,k0,k1,w0,w1,rfl,rfl,rfl⟩
 refine⟨⟨rfl,rfl,rfl⟩,?_⟩
 conv=>whnf
 skip
 exact za1 0 (.tup [trV root ps,prV x]) [] ⟨root,ps,x,hp,hps,k0,k1,w0,w1,rfl,rfl,rfl⟩ rfl (zu [] [])
theorem ybz (p q:Pg) (h1:p.keys.length≤4294967296) (h2:p.kids.length≤4294967296) (h3:p.vals.length≤4294967296) (h4:q.keys.length≤4294967296) (h5:q.kids.length≤4294967296) (h6:q.vals.length≤4294967296):zr Tryz.prog 132 0 [pgV p,pgV q] [] 0 (.c (.bool (pgEq p q))) []:=by
 have e1:=ybe p.keys q.keys h1 h4
 have e2:=ybe p.kids q.kids h2 h5
 have e3:=ybe p.vals q.vals h3 h6
 unfold pgEq
 generalize decide (p.keys=q.keys)=b1 at *
 generalize decide (p.kids=q.kids)=b2 at *
 generalize decide (p.vals=q.vals)=b3 at *
 cases b1<;>cases b2<;>cases b3
 all_goals
  refine spi (fn:=Tryz.f132) _ ?_
  conv=>whnf
  repeat' first
   |(refine zn ?_ ?_;(focus (first|rfl|exact beq_self_eq_true _));conv=>whnf)
   |(refine zm ?_ ?_;(focus (first|rfl|exact bne_self_eq_false _));conv=>whnf)
   |refine zd ?_
   |refine zh ?_
   |(refine zp (e1) rfl rfl ?_;conv=>whnf)
   |(refine zp (e2) rfl rfl ?_;conv=>whnf)
   |(refine zp (e3) rfl rfl ?_;conv=>whnf)
 all_goals rfl
theorem yci {xs ys:List Int} {k:Nat} (hk:k≤xs.length) (hk2:k≤ys.length) (he:xs.take k=ys.take k) (h:¬(k<xs.length∧k<ys.length)):((xs.length:Int)==(ys.length:Int))=decide (xs=ys):=by
 by_cases e:xs.length=ys.length
 ·rw[List.take_of_length_le (by omega),List.take_of_length_le (by omega)]at he
  subst he
  rw[decide_eq_true rfl,beq_self_eq_true]
 ·rw[decide_eq_false (fun q=>e (by rw[q])),beq_eq_false_iff_ne]
  omega
theorem ya6 (xs ys:List Int) (hl:xs.length≤4294967296) (hm:ys.length≤4294967296):zr Tryz.prog 190 0 [.c (.nums .i64 xs),.c (.nums .i64 ys)] [] 0 (.c (.bool (decide (xs=ys)))) []:=by
 refine spi (fn:=Tryz.f190) _ ?_
 conv=>whnf
 refine zau (fun k:Nat=>k≤xs.length∧k≤ys.length∧xs.take k=ys.take k) (fun k=>⟨32,0,[(0,.c (.nums .i64 xs)),(1,.c (.nums .i64 ys)),(5,.c (.int .i64 k))],[]⟩) (fun k=>xs.length-k) 0 ⟨Nat.zero_le _,Nat.zero_le _,rfl⟩ (fun _=>Nat.zero_le _) zbn (fun k hk=>?_)
 obtain⟨hk,hk2,he⟩:=hk
 conv=>whnf
 repeat' first
  |(refine za (by kernel_rfl) ?_;conv=>whnf)
  |(refine za (by(try simp only[wA,wL])<;>omega) ?_;conv=>whnf)
  |(refine zk (fun h=>?_) (fun h=>?_)<;>(try simp only[qA]at h)<;>(try simp only[wA]at h)<;>conv=>whnf)
  |refine zd ?_
  |refine zh ?_
  |(refine zg (by(try simp only[wA,wL])<;>omega) (by(try simp only[wA,wL])<;>omega) ?_;conv=>whnf)
  |(refine ze ?_;conv=>whnf)
 all_goals first
  |exact decide_eq_false (fun q=>by subst q;omega)
  |exact⟨⟨k+1,by omega,by omega,by rw[zat 0 (by omega),zat 0 (by omega),he,(by assumption:xs.getD k 0=ys.getD k 0)]⟩,zbn,by dsimp only;omega⟩
  |exact yci hk hk2 he (by omega)
theorem ybr (p q:Pg) (h1:p.keys.length≤4294967296) (h2:p.kids.length≤4294967296) (h3:p.vals.length≤4294967296) (h4:q.keys.length≤4294967296) (h5:q.kids.length≤4294967296) (h6:q.vals.length≤4294967296):zr Tryz.prog 133 0 [pgV p,pgV q] [] 0 (.c (.bool (pgEq p q))) []:=by
 have e1:=ya6 p.keys q.keys h1 h4
 have e2:=ya6 p.kids q.kids h2 h5
 have e3:=ya6 p.vals q.vals h3 h6
 unfold pgEq
 generalize decide (p.keys=q.keys)=b1 at *
 generalize decide (p.kids=q.kids)=b2 at *
 generalize decide (p.vals=q.vals)=b3 at *
 cases b1<;>cases b2<;>cases b3
 all_goals
  refine spi (fn:=Tryz.f133) _ ?_
  conv=>whnf
  repeat' first
   |(refine zn ?_ ?_;(focus (first|rfl|exact beq_self_eq_true _));conv=>whnf)
   |(refine zm ?_ ?_;(focus (first|rfl|exact bne_self_eq_false _));conv=>whnf)
   |refine zd ?_
   |refine zh ?_
   |(refine zp (e1) rfl rfl ?_;conv=>whnf)
   |(refine zp (e2) rfl rfl ?_;conv=>whnf)
   |(refine zp (e3) rfl rfl ?_;conv=>whnf)
 all_goals rfl
theorem yau (root:Int) (ps:List Pg) (x:Pr) (hp:pB ps) (g:zqc root ps x=none):zr Tryz.prog 65 0 [trV root ps,prV x] [] 0 .nil []:=by
 have h1:=z8q root ps x hp
 rw[g]at h1
 change zr _ _ _ _ _ _ (.tup [ztV,.ff]) _ at h1
 refine spi (fn:=Tryz.f65) _ ?_
 conv=>whnf
 repeat' (refine zp (h1) rfl rfl ?_;conv=>whnf)
 exact(zu [] [])
theorem yas (root:Int) (ps:List Pg) (x:Pr) (hp:pB ps) (g:zqc root ps x=none):zr Tryz.prog 66 0 [trV root ps,prV x] [] 0 .nil []:=by
 have h1:=z7z root ps x hp
 rw[g]at h1
 change zr _ _ _ _ _ _ (.tup [ztV,.ff]) _ at h1
 refine spi (fn:=Tryz.f66) _ ?_
 conv=>whnf
 repeat' (refine zp (h1) rfl rfl ?_;conv=>whnf)
 exact(zu [] [])
theorem yav (root:Int) (ps:List Pg) (x:Pr) (hp:pB ps) (r:Int×List Pg) (g:zqc root ps x=some r):zr Tryz.prog 65 0 [trV root ps,prV x] [] 1 (.slc 0) [(0,.arr (.nums .i64 (chF ps r.2 ps.length)))]:=by
 obtain⟨r1,r2⟩:=r
 have h1:=z8q root ps x hp
 rw[g]at h1
 change zr _ _ _ _ _ _ (.tup [trV r1 r2,.tt]) _ at h1
 have F:=z4h g
 have hlen:=F.len
 dsimp only at hlen
 have hq:pB r2:=(zdx F.vt).pb
 have k4:=hp.len
 have k5:=hq.len
 refine spi (fn:=Tryz.f65) _ ?_
 conv=>whnf
 repeat' (refine zp (h1) rfl rfl ?_;conv=>whnf)
 refine zd0 (fun(i:Nat) (M:List Int)=>i≤ps.length∧M=chF ps r2 i) (fun i M=>⟨40,2,[(5,.ptr 0 0 0 0),(7,.slc 1),(19,.c (.pgs ps)),(20,.c (.int .i64 ps.length)),(21,.c (.int .i64 i))],[(0,.box [.c (.int .i64 r1),.c (.pgs r2)] [] []),(1,.arr (.nums .i64 M))]⟩) (fun i _=>ps.length-i) 0 [] ⟨Nat.zero_le _,rfl⟩ (fun _ _=>Nat.zero_le _) (zsg [.nl 7 false (.nums .i64 [])] [] [2,3] ?_) ?_
 ·conv=>whnf
  exact⟨by repeat first|exact trivial|refine⟨rfl,?_⟩,by repeat first|exact trivial|refine⟨rfl,?_⟩,rfl,rfl,rfl,rfl,rfl,rfl,rfl⟩
 intro i M hi
 obtain⟨hi,hM⟩:=hi
 have hcl:=yaz ps r2 i
 rw[←hM]at hcl
 by_cases c:i<ps.length
 ·have he:=ybz (ps.getD i ⟨[],[],[]⟩) (r2.getD i ⟨[],[],[]⟩) (hp.keys i) (hp.kids i) (hp.vals i) (hq.keys i) (hq.kids i) (hq.vals i)
  have hsu:=ybl ps r2 i
  rw[←hM]at hsu
  cases hd:pgEq (ps.getD i ⟨[],[],[]⟩) (r2.getD i ⟨[],[],[]⟩)with
  |true =>
   rw[hd]at he
   rw[hd,if_pos rfl,List.append_nil]at hsu
   conv=>whnf
   repeat' first
    |(refine za (by kernel_rfl) ?_;conv=>whnf)
    |(refine zn ?_ ?_;(focus (first|rfl|exact beq_self_eq_true _));conv=>whnf)
    |(refine zn ?_ ?_;(focus ((try simp only[qA])<;>(try simp only[wA])<;>omega));conv=>whnf)
    |(refine za (by(try simp only[wA,wL])<;>omega) ?_;conv=>whnf)
    |(refine zg (by(try simp only[wA,wL])<;>omega) (by(try simp only[wA,wL])<;>omega) ?_;conv=>whnf)
    |(refine zw (he) rfl rfl ?_;conv=>whnf)
    |(refine ze ?_;conv=>whnf)
   refine⟨⟨(i+1,M),?_⟩,(z5 [] [0,1]),by dsimp only;omega⟩;(try dsimp only)
   exact⟨c,hsu.symm⟩
  |false =>
   rw[hd]at he
   rw[hd,if_neg (by decide)]at hsu
   conv=>whnf
   repeat' first
    |(refine za (by kernel_rfl) ?_;conv=>whnf)
    |(refine zm ?_ ?_;(focus (first|rfl|exact bne_self_eq_false _));conv=>whnf)
    |(refine zn ?_ ?_;(focus ((try simp only[qA])<;>(try simp only[wA])<;>omega));conv=>whnf)
    |(refine za (by(try simp only[wA,wL])<;>omega) ?_;conv=>whnf)
    |(refine zg (by(try simp only[wA,wL])<;>omega) (by(try simp only[wA,wL])<;>omega) ?_;conv=>whnf)
    |(refine zw (he) rfl rfl ?_;conv=>whnf)
    |(refine ze ?_;conv=>whnf)
   refine⟨⟨(i+1,M++([]++[(i:Int)])),?_⟩,(z5 [] [0,1]),by dsimp only;omega⟩;(try dsimp only)
   exact⟨c,hsu.symm⟩
 ·obtain rfl:i=ps.length:=by omega
  subst hM
  conv=>whnf
  repeat' (refine zm ?_ ?_;(focus ((try simp only[qA])<;>(try simp only[wA])<;>omega));conv=>whnf)
  exact(zu [] [1])
theorem yat (root:Int) (ps:List Pg) (x:Pr) (hp:pB ps) (r:Int×List Pg) (g:zqc root ps x=some r):zr Tryz.prog 66 0 [trV root ps,prV x] [] 1 (.slc 0) [(0,.arr (.nums .i64 (chF ps r.2 ps.length)))]:=by
 obtain⟨r1,r2⟩:=r
 have h1:=z7z root ps x hp
 rw[g]at h1
 change zr _ _ _ _ _ _ (.tup [trV r1 r2,.tt]) _ at h1
 have F:=z4h g
 have hlen:=F.len
 dsimp only at hlen
 have hq:pB r2:=(zdx F.vt).pb
 have k4:=hp.len
 have k5:=hq.len
 refine spi (fn:=Tryz.f66) _ ?_
 conv=>whnf
 repeat' (refine zp (h1) rfl rfl ?_;conv=>whnf)
 refine zd0 (fun(i:Nat) (M:List Int)=>i≤ps.length∧M=chF ps r2 i) (fun i M=>⟨42,3,[(2,.ptr 0 0 0 0),(5,.slc 1),(6,.ptr 2 0 0 0),(8,.c (.int .i64 i))],[(0,.box [.c (.int .i64 root),.c (.pgs ps)] [] []),(1,.arr (.nums .i64 M)),(2,.box [.c (.int .i64 r1),.c (.pgs r2)] [] [])]⟩) (fun i _=>ps.length-i) 0 [] ⟨Nat.zero_le _,rfl⟩ (fun _ _=>Nat.zero_le _) (z5 [] [0,2,3]) (fun i M hi=>?_)
 obtain⟨hi,hM⟩:=hi
 have hcl:=yaz ps r2 i
 rw[←hM]at hcl
 by_cases c:i<ps.length
 ·have he:=ybr (ps.getD i ⟨[],[],[]⟩) (r2.getD i ⟨[],[],[]⟩) (hp.keys i) (hp.kids i) (hp.vals i) (hq.keys i) (hq.kids i) (hq.vals i)
  have hsu:=ybl ps r2 i
  rw[←hM]at hsu
  cases hd:pgEq (ps.getD i ⟨[],[],[]⟩) (r2.getD i ⟨[],[],[]⟩)with
  |true =>
   rw[hd]at he
   rw[hd,if_pos rfl,List.append_nil]at hsu
   conv=>whnf
   repeat' first
    |(refine za (by kernel_rfl) ?_;conv=>whnf)
    |(refine zn ?_ ?_;(focus (first|rfl|exact beq_self_eq_true _));conv=>whnf)
    |(refine zn ?_ ?_;(focus ((try simp only[qA])<;>(try simp only[wA])<;>omega));conv=>whnf)
    |(refine za (by(try simp only[wA,wL])<;>omega) ?_;conv=>whnf)
    |(refine zg (by(try simp only[wA,wL])<;>omega) (by(try simp only[wA,wL])<;>omega) ?_;conv=>whnf)
    |(refine zw (he) rfl rfl ?_;conv=>whnf)
    |(refine ze ?_;conv=>whnf)
   refine⟨⟨(i+1,M),?_⟩,(z5 [] [0,1,2]),by dsimp only;omega⟩;(try dsimp only)
   exact⟨c,hsu.symm⟩
  |false =>
   rw[hd]at he
   rw[hd,if_neg (by decide)]at hsu
   conv=>whnf
   repeat' first
    |(refine za (by kernel_rfl) ?_;conv=>whnf)
    |(refine zm ?_ ?_;(focus (first|rfl|exact bne_self_eq_false _));conv=>whnf)
    |(refine zn ?_ ?_;(focus ((try simp only[qA])<;>(try simp only[wA])<;>omega));conv=>whnf)
    |(refine za (by(try simp only[wA,wL])<;>omega) ?_;conv=>whnf)
    |(refine zg (by(try simp only[wA,wL])<;>omega) (by(try simp only[wA,wL])<;>omega) ?_;conv=>whnf)
    |(refine zw (he) rfl rfl ?_;conv=>whnf)
    |(refine ze ?_;conv=>whnf)
   refine⟨⟨(i+1,M++([]++[(i:Int)])),?_⟩,(z5 [] [0,1,2]),by dsimp only;omega⟩;(try dsimp only)
   exact⟨c,hsu.symm⟩
 ·obtain rfl:i=ps.length:=by omega
  subst hM
  conv=>whnf
  repeat' (refine zm ?_ ?_;(focus ((try simp only[qA])<;>(try simp only[wA])<;>omega));conv=>whnf)
  exact(zu [] [1])
end Go.VL
namespace Go.VL
open Go.Proofs
set_option maxRecDepth 10000
set_option linter.unusedSimpArgs false
set_option linter.unusedVariables false
theorem FnHeldLastSplits_v (code:List Int) (hl0:code.length≤9223372036854775807) (hb:∀x∈code,0≤x∧x≤255):zr Tryz.prog 19 0 [.c (.nums .u8 code)] [] 0 (.c (.bool true)) []:=by
 refine spi (fn:=Tryz.f19) _ ?_
 conv=>whnf
 repeat' first|(refine zk (fun h=>?_) (fun h=>?_)<;>(try simp only[qA]at h)<;>(try simp only[wA]at h)<;>conv=>whnf)|refine zc ?_
 ·rfl
 refine zbw [] [] (yaq code (by omega) (zie hb)) ⟨rfl,rfl,rfl,(by repeat first|exact trivial|refine⟨rfl,?_⟩),⟨rfl,rfl,rfl⟩,?_⟩
 rintro m res hout ⟨root,ps,x,hp,hps,k0,k1,w0,w1,rfl,rfl,rfl⟩
 refine⟨⟨rfl,rfl,rfl⟩,?_⟩
 have h1:=z8q root ps x hp
 cases g:zqc root ps x with
 |none =>
  rw[g]at h1
  change zr _ _ _ _ _ _ (.tup [ztV,.ff]) _ at h1
  have h2:=yau root ps x hp g
  have h3:=yas root ps x hp g
  have h5:=zmf
  cases gv:vTree root ps with
  |false =>
   have h4:=zra root x.key ps hp gv
   conv=>whnf
   repeat' first
    |(refine zm ?_ ?_;(focus (first|rfl|exact bne_self_eq_false _));conv=>whnf)
    |refine zh ?_
    |(refine zp (h1) rfl rfl ?_;conv=>whnf)
    |(refine zp (h2) rfl rfl ?_;conv=>whnf)
    |(refine zp (h3) rfl rfl ?_;conv=>whnf)
    |(refine zp (h4) rfl rfl ?_;conv=>whnf)
    |(refine zp (h5) rfl rfl ?_;conv=>whnf)
   all_goals rfl
  |true =>
   have h4:=zom root x.key ps hp gv
   unfold gkV at h4
   conv=>whnf
   repeat' first
    |(refine zm ?_ ?_;(focus (first|rfl|exact bne_self_eq_false _));conv=>whnf)
    |refine zh ?_
    |(refine zp (h1) rfl rfl ?_;conv=>whnf)
    |(refine zp (h2) rfl rfl ?_;conv=>whnf)
    |(refine zp (h3) rfl rfl ?_;conv=>whnf)
    |(refine zp (h4) rfl rfl ?_;conv=>whnf)
    |(refine zp (h5) rfl rfl ?_;conv=>whnf)
   all_goals rfl
 |some r =>
  have h2:=zdn (yav root ps x hp r g) rfl
  have h3:=zdn (yat root ps x hp r g) rfl
  change zr _ _ _ _ _ _ (.c (.nums .i64 (chF ps r.2 ps.length))) _ at h2 h3
  have hN:=fun d hd hx=>z97 g (d:=d) hd hx
  rw[g]at h1
  obtain⟨r1,r2⟩:=r
  change zr _ _ _ _ _ _ (.tup [trV r1 r2,.tt]) _ at h1
  have F:=z4h g
  have V:=za0 F.v0
  have H1:=V.h1
  have H3:=V.h3
  have h4:=zom root x.key ps hp F.v0
  unfold gkV at h4
  obtain⟨d,hd⟩:∃d,htF root ps=d+1:=⟨htF root ps-1,by omega⟩
  have h6:=zpq root x.key 1 ps hp F.v0 (by decide) (by decide)
  have hN:=hN d hd
  have hle:=F.le
  unfold ptG at h6
  rw[hd]at h6 hle
  have hpl:(ptF ps x.key (d+1) root).length=d+1:=zg1
  rw[show(ptF ps x.key (d+1) root).length-1=d by omega]at h6
  have h9:=z91 root x.key ps hp F.v0 F.rng.1.1 F.rng.1.2
  unfold spK at h9
  rw[hd]at h9
  have hck:((psF root ps).map Pr.key).contains x.key=true↔x.key∈(psF root ps).map Pr.key:=List.contains_iff_mem
  have k4:=hp.len
  have hcl:=yaz ps r2 ps.length
  dsimp only at h2 h3 hN
  have h5:=zbh (chF ps r2 ps.length) (by omega)
  generalize chF ps r2 ps.length=CH at *
  generalize zea ps x.key (d+1) root=K at *
  generalize hlF (sfF root ps 1) (ptF ps x.key (d+1) root) d=HL at *
  generalize zei (psF root ps) x.key=VV at *
  cases c:((psF root ps).map Pr.key).contains x.key with
  |true =>
   rw[c]at h4
   conv=>whnf
   repeat' first
    |(refine zn ?_ ?_;(focus (first|rfl|exact beq_self_eq_true _));conv=>whnf)
    |(refine zm ?_ ?_;(focus (first|rfl|exact bne_self_eq_false _));conv=>whnf)
    |refine zh ?_
    |(refine zp (h1) rfl rfl ?_;conv=>whnf)
    |(refine zp (h2) rfl rfl ?_;conv=>whnf)
    |(refine zp (h3) rfl rfl ?_;conv=>whnf)
    |(refine zp (h4) rfl rfl ?_;conv=>whnf)
    |(refine zp (h5) rfl rfl ?_;conv=>whnf)
   all_goals rfl
  |false =>
   rw[c]at h4
   have hN:=hN (fun q=>by rw[hck.2 q]at c;cases c)
   by_cases e:r1=root
   ·rw[if_neg (fun q=>q e)]at hN
    conv=>whnf
    repeat' first
     |(refine zm ?_ ?_;(focus (first|rfl|exact bne_self_eq_false _));conv=>whnf)
     |(refine zm ?_ ?_;(focus ((try simp only[qA])<;>(try simp only[wA])<;>omega));conv=>whnf)
     |refine zh ?_
     |(refine zg (by(try simp only[wA,wL])<;>omega) (by(try simp only[wA,wL])<;>omega) ?_;conv=>whnf)
     |(refine zp (h1) rfl rfl ?_;conv=>whnf)
     |(refine zp (h2) rfl rfl ?_;conv=>whnf)
     |(refine zp (h3) rfl rfl ?_;conv=>whnf)
     |(refine zp (h4) rfl rfl ?_;conv=>whnf)
     |(refine zp (h5) rfl rfl ?_;conv=>whnf)
     |(refine zp (h6) rfl rfl ?_;conv=>whnf)
     |(refine zp (h9) rfl rfl ?_;conv=>whnf)
    all_goals first|rfl|(show((HL.length:Int)==_)=true;rw[beq_iff_eq];omega)|(exfalso;omega)
   ·rw[if_pos e]at hN
    conv=>whnf
    repeat' first
     |(refine zm ?_ ?_;(focus (first|rfl|exact bne_self_eq_false _));conv=>whnf)
     |(refine zn ?_ ?_;(focus ((try simp only[qA])<;>(try simp only[wA])<;>omega));conv=>whnf)
     |refine zh ?_
     |(refine zp (h1) rfl rfl ?_;conv=>whnf)
     |(refine zp (h2) rfl rfl ?_;conv=>whnf)
     |(refine zp (h3) rfl rfl ?_;conv=>whnf)
     |(refine zp (h4) rfl rfl ?_;conv=>whnf)
     |(refine zp (h5) rfl rfl ?_;conv=>whnf)
     |(refine zp (h6) rfl rfl ?_;conv=>whnf)
     |(refine zp (h9) rfl rfl ?_;conv=>whnf)
    all_goals first|rfl|(show((HL.length:Int)==_)=true;rw[beq_iff_eq];omega)|(exfalso;omega)
end Go.VL
