/- V-logic -/
import Derived.Test.YtdbhfajlffaneaaGreatVT1
import Derived.Test.YtdbhfajlffaneaaGreatVMA
import Derived.Test.YtdbhfajlffaneaaGreatVEG
import Derived.Test.YtdbhfajlffaneaaGreatVW1
import Derived.Test.YtdbhfajlffaneaaGreatVPD
import Derived.Test.YtdbhfajlffaneaaGreatVPE
import Derived.Test.YtdbhfajlffaneaaGreatVW5
import Derived.Handy
namespace Go.VL
open Go.Proofs
set_option maxRecDepth 10000
set_option linter.unusedSimpArgs false
set_option linter.unusedVariables false
def pgN (p:Pg):Nat:=p.keys.length+p.kids.length+p.vals.length
def yd9:List Pg→Int→Int
 |[],k=>k
 |p::t,k=>if szI (pgN p) k<0 then -1 else yd9 t (szI (pgN p) k)
def yd8 (ps:List Pg) (k:Int):Int:=if k-ps.length<0 then -1 else yd9 ps (k-ps.length)
theorem yga {ps:List Pg}:∀{k:Int},¬yd9 ps k<0→k≤1048576→∀p∈ps,pgN p≤1048576:=by
 induction ps with
 |nil=>intro k h hk p hp;cases hp
 |cons q t ih =>
  intro k h hk p hp
  unfold yd9 at h
  split at h
  ·omega
  ·rename_i g
   have hl:=z3d g
   rcases List.mem_cons.1 hp with rfl|hp
   ·omega
   ·exact ih h (yfe hk (by omega)) p hp
theorem yfy {ps:List Pg}:∀{k:Int},yd9 ps k≤k∨yd9 ps k<0:=by
 induction ps with
 |nil=>intro k;exact .inl (Int.le_refl _)
 |cons q t ih =>
  intro k
  unfold yd9
  split
  ·exact .inr (by omega)
  ·rename_i g
   rcases ih (k:=szI (pgN q) k)with h|h
   ·have:szI (pgN q) k≤k:=by unfold szI at g⊢;split at g<;>omega
    exact .inl (by omega)
   ·exact .inr h
theorem ygs {ps:List Pg} {k:Int} (h:¬yd8 ps k<0):yd8 ps k≤k:=by
 unfold yd8 at h⊢
 split
 ·omega
 ·rename_i g
  rw[if_neg g]at h
  rcases yfy (ps:=ps) (k:=k-ps.length)with h1|h1<;>omega
theorem ye2 {ps:List Pg} (h:∀p∈ps,pgN p≤1048576) (i:Nat):pgN (ps.getD i ⟨[],[],[]⟩)≤1048576:=by
 by_cases c:i<ps.length
 ·rw[show ps.getD i ⟨[],[],[]⟩=ps[i] by simp[List.getD,c]];exact h _ (List.getElem_mem c)
 ·rw[show ps.getD i ⟨[],[],[]⟩=⟨[],[],[]⟩ by simp[List.getD,c]];decide
theorem ygx {ps:List Pg} {k:Int} (h:¬yd8 ps k<0) (hk:k≤1048576):ps.length≤1048576∧∀p∈ps,pgN p≤1048576:=by
 unfold yd8 at h
 split at h
 ·omega
 ·exact⟨by omega,yga h (by omega)⟩
theorem ygy {ps:List Pg} (h:ps.length≤1048576) (h2:∀p∈ps,pgN p≤1048576):pB ps:=by
 have k:∀i:Int,pgN (zb ps i)≤1048576:=λi=>ye2 h2 i.toNat
 exact⟨by omega,λi=>by have:=k i;unfold pgN at this;omega,λi=>by have:=k i;unfold pgN at this;omega,λi=>by have:=k i;unfold pgN at this;omega⟩
theorem yee (xs:List Int) (k:Int) (hl:xs.length≤9223372036854775807) (h0:0≤k) (h1:k≤1048576):zr Tryz.prog 142 0 [.c (.nums .i64 xs),.c (.int .i64 k)] [] 0 (.c (.int .i64 (szI xs.length k))) []:=by
 refine spi (fn:=Tryz.f142) _ ?_
 conv=>whnf
 repeat' first
  |(refine zk (λh=>?_) (λh=>?_)<;>(try simp only[qA]at h)<;>(try simp only[wA,wN]at h)<;>conv=>whnf)
  |refine zi ?_
  |(refine zg (by(try simp only[wA,wN,wL])<;>omega) (by(try simp only[wA,wN,wL])<;>omega) ?_;conv=>whnf)
 all_goals unfold szI;(repeat first|rw[if_pos (by assumption)]|rw[if_neg (by assumption)]|rw[if_neg (by rw[Bool.not_eq_true];assumption)]|rw[if_neg (by rw[Bool.not_eq_false];assumption)]|rw[if_pos (by omega)]|rw[if_neg (by omega)]);try rfl
theorem yfj (p:Pg) (k:Int) (g1:p.keys.length≤9223372036854775807) (g2:p.kids.length≤9223372036854775807) (g3:p.vals.length≤9223372036854775807) (h0:0≤k) (h1:k≤1048576):zr Tryz.prog 103 0 [pgV p,.c (.int .i64 k)] [] 0 (.c (.int .i64 (szI (pgN p) k))) []:=by
 have e1:szI p.keys.length k=if k-p.keys.length<0 then -1 else k-p.keys.length:=rfl
 have e0:szI (pgN p) k=if k-(p.keys.length+p.kids.length+p.vals.length:Nat)<0 then -1 else k-(p.keys.length+p.kids.length+p.vals.length:Nat):=rfl
 by_cases c1:k-p.keys.length<0
 ·rw[if_pos c1]at e1
  have s1:=yee p.keys k g1 h0 h1
  rw[e1]at s1
  rw[if_pos (by omega)]at e0
  rw[e0]
  refine spi (fn:=Tryz.f103) _ ?_
  conv=>whnf
  repeat' first
   |(refine zn ?_ ?_;(focus (first|rfl|exact beq_self_eq_true _));conv=>whnf)
   |refine zi ?_
   |(refine zp (s1) rfl rfl ?_;conv=>whnf)
  all_goals rfl
 rw[if_neg c1]at e1
 have s1:=yee p.keys k g1 h0 h1
 rw[e1]at s1
 have e2:szI p.kids.length (k-p.keys.length)=if k-p.keys.length-p.kids.length<0 then -1 else k-p.keys.length-p.kids.length:=rfl
 have s2:=yee p.kids (k-p.keys.length) g2 (by omega) (by omega)
 by_cases c2:k-p.keys.length-p.kids.length<0
 ·rw[if_pos c2]at e2
  rw[e2]at s2
  rw[if_pos (by omega)]at e0
  rw[e0]
  refine spi (fn:=Tryz.f103) _ ?_
  conv=>whnf
  repeat' first
   |(refine zn ?_ ?_;(focus (first|rfl|exact beq_self_eq_true _));conv=>whnf)
   |(refine zm ?_ ?_;(focus ((try simp only[qA])<;>(try simp only[wA])<;>omega));conv=>whnf)
   |refine zi ?_
   |(refine zp (s1) rfl rfl ?_;conv=>whnf)
   |(refine zp (s2) rfl rfl ?_;conv=>whnf)
  all_goals rfl
 rw[if_neg c2]at e2
 rw[e2]at s2
 have e3:szI p.vals.length (k-p.keys.length-p.kids.length)=if k-p.keys.length-p.kids.length-p.vals.length<0 then -1 else k-p.keys.length-p.kids.length-p.vals.length:=rfl
 have s3:=yee p.vals (k-p.keys.length-p.kids.length) g3 (by omega) (by omega)
 by_cases c3:k-p.keys.length-p.kids.length-p.vals.length<0
 ·rw[if_pos c3]at e3
  rw[e3]at s3
  rw[if_pos (by omega)]at e0
  rw[e0]
  refine spi (fn:=Tryz.f103) _ ?_
  conv=>whnf
  repeat' first
   |(refine zn ?_ ?_;(focus (first|rfl|exact beq_self_eq_true _));conv=>whnf)
   |(refine zm ?_ ?_;(focus ((try simp only[qA])<;>(try simp only[wA])<;>omega));conv=>whnf)
   |refine zi ?_
   |(refine zp (s1) rfl rfl ?_;conv=>whnf)
   |(refine zp (s2) rfl rfl ?_;conv=>whnf)
   |(refine zp (s3) rfl rfl ?_;conv=>whnf)
  all_goals rfl
 rw[if_neg c3]at e3
 rw[e3]at s3
 rw[if_neg (by omega)]at e0
 rw[e0,show k-(p.keys.length+p.kids.length+p.vals.length:Nat)=k-p.keys.length-p.kids.length-p.vals.length by omega]
 refine spi (fn:=Tryz.f103) _ ?_
 conv=>whnf
 repeat' first
  |(refine zm ?_ ?_;(focus ((try simp only[qA])<;>(try simp only[wA])<;>omega));conv=>whnf)
  |refine zi ?_
  |(refine zp (s1) rfl rfl ?_;conv=>whnf)
  |(refine zp (s2) rfl rfl ?_;conv=>whnf)
  |(refine zp (s3) rfl rfl ?_;conv=>whnf)
 all_goals rfl
theorem ye8 (ps:List Pg) (k:Int) (hc:ps.length≤9223372036854775807) (hl:∀p∈ps,p.keys.length≤9223372036854775807∧p.kids.length≤9223372036854775807∧p.vals.length≤9223372036854775807) (h0:0≤k) (h1:k≤1048576):zr Tryz.prog 64 0 [.c (.pgs ps),.c (.int .i64 k)] [] 0 (.c (.int .i64 (yd8 ps k))) []:=by
 refine spi (fn:=Tryz.f64) _ ?_
 conv=>whnf
 repeat' first
  |(refine zk (λh=>?_) (λh=>?_)<;>(try simp only[qA]at h)<;>(try simp only[wA,wN]at h)<;>conv=>whnf)
  |refine zi ?_
  |(refine zg (by(try simp only[wA,wN,wL])<;>omega) (by(try simp only[wA,wN,wL])<;>omega) ?_;conv=>whnf)
 ·unfold yd8;(repeat first|rw[if_pos (by assumption)]|rw[if_neg (by assumption)]|rw[if_neg (by rw[Bool.not_eq_true];assumption)]|rw[if_neg (by rw[Bool.not_eq_false];assumption)]|rw[if_pos (by omega)]|rw[if_neg (by omega)])
 have e:yd8 ps k=yd9 ps (k-ps.length):=by unfold yd8;(repeat first|rw[if_pos (by assumption)]|rw[if_neg (by assumption)]|rw[if_neg (by rw[Bool.not_eq_true];assumption)]|rw[if_neg (by rw[Bool.not_eq_false];assumption)]|rw[if_pos (by omega)]|rw[if_neg (by omega)])
 have h2:¬k-(ps.length:Int)<0:=h
 refine zd0 (λ(i:Nat) (k':Int)=>i≤ps.length∧0≤k'∧k'≤1048576∧yd9 (ps.drop i) k'=yd8 ps k)
  (λi k'=>⟨27,0,[(0,.c (.pgs ps)),(1,.c (.int .i64 k')),(5,.c (.int .i64 i))],[]⟩) (λi k'=>ps.length-i) 0 (k-ps.length) ⟨by omega,by omega,by omega,e.symm⟩ (λ_ _=>Nat.zero_le _) zbn (λi k' hi=>?_)
 obtain⟨h3,h4,h5,hs⟩:=hi
 have hli:(ps.getD i ⟨[],[],[]⟩).keys.length≤9223372036854775807∧(ps.getD i ⟨[],[],[]⟩).kids.length≤9223372036854775807∧(ps.getD i ⟨[],[],[]⟩).vals.length≤9223372036854775807:=by
  by_cases hi:i<ps.length
  ·rw[show ps.getD i ⟨[],[],[]⟩=ps[i] by simp[List.getD,hi]];exact hl _ (List.getElem_mem hi)
  ·rw[show ps.getD i ⟨[],[],[]⟩=⟨[],[],[]⟩ by simp[List.getD,hi]];simp
 have hd:i<ps.length→yd9 (ps.drop i) k'=(if szI (pgN (ps.getD i ⟨[],[],[]⟩)) k'<0 then -1 else yd9 (ps.drop (i+1)) (szI (pgN (ps.getD i ⟨[],[],[]⟩)) k')):=λh=>by rw[zg0 ⟨[],[],[]⟩ h];rfl
 have hb:=yfe (n:=pgN (ps.getD i ⟨[],[],[]⟩)) h5 (by omega)
 have hsz:=yfj (ps.getD i ⟨[],[],[]⟩) k' hli.1 hli.2.1 hli.2.2 h4 h5
 conv=>whnf
 repeat' first
  |(refine za (by(try simp only[wA,wN,wL])<;>omega) ?_;conv=>whnf)
  |(refine zk (λh=>?_) (λh=>?_)<;>(try simp only[qA]at h)<;>(try simp only[wA,wN]at h)<;>conv=>whnf)
  |refine zi ?_
  |(refine zg (by(try simp only[wA,wN,wL])<;>omega) (by(try simp only[wA,wN,wL])<;>omega) ?_;conv=>whnf)
  |(refine zp (hsz) rfl rfl ?_;conv=>whnf)
 ·rw[←hs,hd (by omega)];(repeat first|rw[if_pos (by assumption)]|rw[if_neg (by assumption)]|rw[if_neg (by rw[Bool.not_eq_true];assumption)]|rw[if_neg (by rw[Bool.not_eq_false];assumption)]|rw[if_pos (by omega)]|rw[if_neg (by omega)])
 ·refine⟨⟨(i+1,szI (pgN (ps.getD i ⟨[],[],[]⟩)) k'),?_⟩,zbn,by dsimp only;omega⟩;(try dsimp only)
  refine⟨by omega,by omega,hb,?_⟩
  rw[←hs,hd (by omega)];(repeat first|rw[if_pos (by assumption)]|rw[if_neg (by assumption)]|rw[if_neg (by rw[Bool.not_eq_true];assumption)]|rw[if_neg (by rw[Bool.not_eq_false];assumption)]|rw[if_pos (by omega)]|rw[if_neg (by omega)])
 ·rw[←hs,show ps.drop i=[]from List.drop_eq_nil_of_le (by omega)];rfl
theorem ygp (root:Int) (ps:List Pg) (k:Int) (hc:ps.length≤9223372036854775807) (hl:∀p∈ps,p.keys.length≤9223372036854775807∧p.kids.length≤9223372036854775807∧p.vals.length≤9223372036854775807) (h0:0≤k) (h1:k≤1048576):zr Tryz.prog 20 0 [trV root ps,.c (.int .i64 k)] [] 0 (.c (.int .i64 (yd8 ps k))) []:=by
 have h:=ye8 ps k hc hl h0 h1
 have hn:yd8 ps k<0→yd8 ps k=-1:=by
  have key:∀(l:List Pg) (q:Int),0≤q→yd9 l q<0→yd9 l q=-1:=by
   intro l
   induction l with
   |nil=>intro q h0 h1;unfold yd9 at h1;omega
   |cons p t ih =>
    intro q h0 h1
    unfold yd9 at h1⊢
    split
    ·rfl
    ·rename_i g;rw[if_neg g]at h1;exact ih _ (by omega) h1
  unfold yd8
  split
  ·intro _;rfl
  ·exact key _ _ (by omega)
 generalize yd8 ps k=V at *
 refine spi (fn:=Tryz.f20) _ ?_
 conv=>whnf
 repeat' first
  |(refine zk (λh=>?_) (λh=>?_)<;>(try simp only[qA]at h)<;>(try simp only[wA,wN]at h)<;>conv=>whnf)
  |refine zi ?_
  |(refine zp (h) rfl rfl ?_;conv=>whnf)
 ·rw[hn (by assumption)]
 ·rfl
theorem yd7 (xs:List Int) (hl:xs.length≤4294967296):zr Tryz.prog 25 0 [.c (.nums .i64 xs)] [] 1 (.slc 0) [(0,.arr (.nums .i64 xs))]:=by
 refine spi (fn:=Tryz.f25) _ ?_
 conv=>whnf
 repeat' (refine za (by(try simp only[wA,wN,wL])<;>omega) ?_;conv=>whnf)
 refine zau (λ(i:Nat)=>i≤xs.length)
  (λi=>⟨22,1,[(0,.c (.nums .i64 xs)),(3,.slc 0),(4,.c (.int .i64 i))],[(0,.arr (.nums .i64 (xs.take i++List.replicate (xs.length-i) 0)))]⟩) (λi=>xs.length-i) 0 (by omega) (λ_=>Nat.zero_le _) (ydn [] [0]) (λi hi=>?_)
 conv=>whnf
 repeat' first
  |(refine za (by(try simp only[wA,wN,wL])<;>omega) ?_;conv=>whnf)
  |(refine zk (λh=>?_) (λh=>?_)<;>(try simp only[qA]at h)<;>(try simp only[wA,wN]at h)<;>conv=>whnf)
  |(refine zg (by(try simp only[wA,wN,wL])<;>omega) (by(try simp only[wA,wN,wL])<;>omega) ?_;conv=>whnf)
 ·rw[Int.toNat_natCast,yej 0 0 (by omega)]
  refine⟨⟨i+1,?_⟩,(ydn [] [0]),by dsimp only;omega⟩;(try dsimp only)
  omega
 ·rw[z35 0 (by omega)]
  exact(zu [] [0])
theorem yfm (p:Pg) (g1:p.keys.length≤4294967296) (g2:p.kids.length≤4294967296) (g3:p.vals.length≤4294967296):zr Tryz.prog 107 0 [pgV p] [] 3 (.agg [.slc 0,.slc 1,.slc 2]) [(0,.arr (.nums .i64 p.keys)),(1,.arr (.nums .i64 p.kids)),(2,.arr (.nums .i64 p.vals))]:=by
 refine spi (fn:=Tryz.f107) _ ?_
 conv=>whnf
 repeat' first
  |(refine zbe (yd7 _ g1) rfl rfl rfl rfl ?_;conv=>whnf)
  |(refine zbe (yd7 _ g2) rfl rfl rfl rfl ?_;conv=>whnf)
  |(refine zbe (yd7 _ g3) rfl rfl rfl rfl ?_;conv=>whnf)
 all_goals exact(zu [] [3,4,5])
theorem yeo (ps:List Pg) (hp:pB ps):zr Tryz.prog 67 0 [.c (.pgs ps)] [] 1 (.slc 0) [(0,.deep false 0 (.pgs ps) [])]:=by
 have hl:=hp.len
 refine spi (fn:=Tryz.f67) _ ?_
 conv=>whnf
 repeat' (refine za (by(try simp only[wA,wN,wL])<;>omega) ?_;conv=>whnf)
 refine zlj ?_
 conv=>whnf
 repeat' (refine ze ?_;conv=>whnf)
 refine zau (λ(i:Nat)=>i≤ps.length)
  (λi=>⟨23,1,[(0,.c (.pgs ps)),(3,.slc 0),(4,.c (.int .i64 i))],[(0,.deep false 0 (.pgs (ps.take i++List.replicate (ps.length-i) ⟨[],[],[]⟩)) [])]⟩) (λi=>ps.length-i) 0 (by omega) (λ_=>Nat.zero_le _) (ydn [] [0]) (λi hi=>?_)
 have k1:=hp.keys i
 have k2:=hp.kids i
 have k3:=hp.vals i
 dsimp only[zb,Int.toNat_natCast]at k1 k2 k3
 have ht:=yfm (ps.getD i ⟨[],[],[]⟩) k1 k2 k3
 conv=>whnf
 repeat' first
  |(refine za (by(try simp only[wA,wN,wL])<;>omega) ?_;conv=>whnf)
  |(refine zk (λh=>?_) (λh=>?_)<;>(try simp only[qA]at h)<;>(try simp only[wA,wN]at h)<;>conv=>whnf)
  |(refine zg (by(try simp only[wA,wN,wL])<;>omega) (by(try simp only[wA,wN,wL])<;>omega) ?_;conv=>whnf)
  |(refine zbe (ht) rfl rfl rfl rfl ?_;conv=>whnf)
  |(refine ze ?_;conv=>whnf)
 ·have e:=yej (⟨[],[],[]⟩:Pg) ⟨[],[],[]⟩ (xs:=ps) (k:=i) (by omega)
  refine⟨⟨i+1,by omega⟩,(zsg [.cl 0] [] [0] ?_),by dsimp only;omega⟩
  conv=>whnf
  refine⟨by repeat first|exact trivial|refine⟨rfl,?_⟩,⟨?_,trivial⟩,rfl,rfl,rfl,rfl,rfl,rfl,rfl⟩
  exact congrArg (λz=>some (O.deep false 0 (C.pgs z) [])) e
 ·rw[z35 (⟨[],[],[]⟩:Pg) (xs:=ps) (k:=i) (by omega)]
  exact(zu [] [0])
theorem ygr (root:Int) (ps:List Pg) (hp:pB ps):zr Tryz.prog 23 0 [trV root ps] [] 1 (.agg [.c (.int .i64 root),.slc 0]) [(0,.deep false 0 (.pgs ps) [])]:=by
 refine spi (fn:=Tryz.f23) _ ?_
 conv=>whnf
 repeat' first|(refine zbe (yeo _ hp) rfl rfl rfl rfl ?_;conv=>whnf)|(refine ze ?_;conv=>whnf)
 exact(zu [] [3])
theorem yed (xs:List Int) (hl:xs.length≤4294967296):zr Tryz.prog 27 0 [.c (.nums .i64 xs),.c (.nums .i64 xs)] [] 0 (.c (.bool true)) []:=by
 refine spi (fn:=Tryz.f27) _ ?_
 conv=>whnf
 repeat' first|(refine zk (λh=>?_) (λh=>?_)<;>(try simp only[qA]at h)<;>(try simp only[wA,wN]at h)<;>conv=>whnf)|refine zd ?_
 ·exact absurd trivial h
 refine zau (λ(i:Nat)=>True) (λi=>⟨26,0,[(0,.c (.nums .i64 xs)),(1,.c (.nums .i64 xs)),(5,.c (.int .i64 i))],[]⟩) (λi=>xs.length-i) 0 trivial (λ_=>Nat.zero_le _) zbn (λi hi=>?_)
 conv=>whnf
 repeat' first
  |(refine za (by kernel_rfl) ?_;conv=>whnf)
  |(refine za (by(try simp only[wA,wN,wL])<;>omega) ?_;conv=>whnf)
  |(refine zk (λh=>?_) (λh=>?_)<;>(try simp only[qA]at h)<;>(try simp only[wA,wN]at h)<;>conv=>whnf)
  |refine zc ?_
  |refine zd ?_
  |(refine zg (by(try simp only[wA,wN,wL])<;>omega) (by(try simp only[wA,wN,wL])<;>omega) ?_;conv=>whnf)
  |(refine ze ?_;conv=>whnf)
 ·exact absurd trivial h
 ·refine⟨⟨i+1,?_⟩,zbn,by dsimp only;omega⟩;(try dsimp only)
 ·rfl
theorem yfo (p:Pg) (g1:p.keys.length≤4294967296) (g2:p.kids.length≤4294967296) (g3:p.vals.length≤4294967296):zr Tryz.prog 110 0 [pgV p,pgV p] [] 0 (.c (.bool true)) []:=by
 refine spi (fn:=Tryz.f110) _ ?_
 conv=>whnf
 repeat' first
  |(refine zm ?_ ?_;(focus (first|rfl|exact bne_self_eq_false _));conv=>whnf)
  |refine zc ?_
  |(refine zp (yed _ g1) rfl rfl ?_;conv=>whnf)
  |(refine zp (yed _ g2) rfl rfl ?_;conv=>whnf)
  |(refine zp (yed _ g3) rfl rfl ?_;conv=>whnf)
 all_goals rfl
theorem yeq (ps:List Pg) (hp:pB ps):zr Tryz.prog 70 0 [.c (.pgs ps),.c (.pgs ps)] [] 0 (.c (.bool true)) []:=by
 have hl:=hp.len
 refine spi (fn:=Tryz.f70) _ ?_
 conv=>whnf
 repeat' first|(refine zk (λh=>?_) (λh=>?_)<;>(try simp only[qA]at h)<;>(try simp only[wA,wN]at h)<;>conv=>whnf)|refine zd ?_
 ·exact absurd trivial h
 refine zau (λ(i:Nat)=>True) (λi=>⟨27,0,[(0,.c (.pgs ps)),(1,.c (.pgs ps)),(5,.c (.int .i64 i))],[]⟩) (λi=>ps.length-i) 0 trivial (λ_=>Nat.zero_le _) zbn (λi hi=>?_)
 have k1:=hp.keys i
 have k2:=hp.kids i
 have k3:=hp.vals i
 dsimp only[zb,Int.toNat_natCast]at k1 k2 k3
 have ht:=yfo (ps.getD i ⟨[],[],[]⟩) k1 k2 k3
 conv=>whnf
 repeat' first
  |(refine za (by kernel_rfl) ?_;conv=>whnf)
  |(refine za (by(try simp only[wA,wN,wL])<;>omega) ?_;conv=>whnf)
  |(refine zk (λh=>?_) (λh=>?_)<;>(try simp only[qA]at h)<;>(try simp only[wA,wN]at h)<;>conv=>whnf)
  |refine zc ?_
  |refine zd ?_
  |(refine zg (by(try simp only[wA,wN,wL])<;>omega) (by(try simp only[wA,wN,wL])<;>omega) ?_;conv=>whnf)
  |(refine zw (ht) rfl rfl ?_;conv=>whnf)
  |(refine ze ?_;conv=>whnf)
 ·refine⟨⟨i+1,?_⟩,zbn,by dsimp only;omega⟩;(try dsimp only)
 ·cases h
 ·rfl
theorem ygq (root:Int) (ps:List Pg) (hp:pB ps):zr Tryz.prog 28 0 [trV root ps,trV root ps] [] 0 (.c (.bool true)) []:=by
 refine spi (fn:=Tryz.f28) _ ?_
 conv=>whnf
 repeat' first
  |(refine zm ?_ ?_;(focus (first|rfl|exact bne_self_eq_false _));conv=>whnf)
  |refine zc ?_
  |(refine zp (yeq ps hp) rfl rfl ?_;conv=>whnf)
 all_goals rfl
def mkN:Nat→Nat→List Int→Int→List Int×Int
 |0,_,xs,k=>(xs,k)
 |n+1,i,xs,k=>mkN n (i+1) (xs.set i k) (k+1)
theorem ye1 (n:Nat):∀(i:Nat) (xs:List Int) (k:Int),(mkN n i xs k).2=k+n∧(mkN n i xs k).1.length=xs.length:=by
 induction n with
 |zero=>intro i xs k;exact⟨by simp[mkN],rfl⟩
 |succ n ih =>
  intro i xs k
  unfold mkN
  obtain⟨h1,h2⟩:=ih (i+1) (xs.set i k) (k+1)
  exact⟨by rw[h1];omega,by rw[h2];simp⟩
theorem yf7 (n:Nat):∀(i:Nat) (xs:List Int) (k:Int) (j:Nat),i+n=xs.length→(∀t,t<i→xs.getD t 0=k-i+t)→j<xs.length→(mkN n i xs k).1.getD j 0=k-i+j:=by
 induction n with
 |zero=>intro i xs k j h1 h2 h3;exact h2 j (by omega)
 |succ n ih =>
  intro i xs k j h1 h2 h3
  unfold mkN
  rw[ih (i+1) (xs.set i k) (k+1) j (by simp;omega) (λt ht=>?_) (by simp;omega)]
  ·omega
  ·rw[z7 _ _ _ _ _ (by omega)]
   split
   ·omega
   ·rw[h2 t (by omega)];omega
abbrev mkL (xs:List Int) (k:Int):List Int:=(mkN xs.length 0 xs k).1
theorem yd5 (xs:List Int) (k:Int):(mkL xs k).length=xs.length:=(ye1 _ _ _ _).2
theorem yei {xs:List Int} {k:Int} {j:Nat} (h:j<(mkL xs k).length):(mkL xs k).getD j 0=k+j:=by
 rw[yd5]at h
 have:=yf7 xs.length 0 xs k j (by omega) (λt ht=>by omega) h
 rw[this];omega
theorem yec (xs:List Int) (k:Int) (hl:xs.length≤4294967296) (h0:0≤k) (h1:k≤1099511627776000):zr Tryz.prog 32 1 [.slc 0,.c (.int .i64 k)] [(0,.deep true 0 (.nums .i64 xs) [])] 1 (.c (.int .i64 (k+xs.length))) [(0,.deep true 0 (.nums .i64 (mkL xs k)) [])]:=by
 unfold mkL
 obtain⟨V,hV⟩:∃V,mkN xs.length 0 xs k=V:=⟨_,rfl⟩
 have hs:=(ye1 xs.length 0 xs k).1
 rw[hV]at hs⊢
 rw[←hs]
 refine spi (fn:=Tryz.f32) _ ?_
 conv=>whnf
 repeat' (refine ze ?_;conv=>whnf)
 refine zk5 (λ(i:Nat) (ys:List Int) (q:Int)=>i≤xs.length∧ys.length=xs.length∧q=k+i∧mkN (xs.length-i) i ys q=V)
  (λi ys q=>⟨19,1,[(0,.slc 0),(1,.c (.int .i64 q)),(5,.c (.int .i64 i))],[(0,.deep true 0 (.nums .i64 ys) [])]⟩) (λi ys q=>xs.length-i) 0 xs k ⟨by omega,rfl,by omega,by simpa using hV⟩ (λ_ _ _=>Nat.le_refl _) (ydn [] [0]) (λi ys q hi=>?_)
 obtain⟨hi,hy,hq,hv⟩:=hi
 conv=>whnf
 repeat' first
  |(refine za (by(try simp only[wA,wN,wL])<;>omega) ?_;conv=>whnf)
  |(refine zk (λh=>?_) (λh=>?_)<;>(try simp only[qA]at h)<;>(try simp only[wA,wN]at h)<;>conv=>whnf)
  |(refine zg (by(try simp only[wA,wN,wL])<;>omega) (by(try simp only[wA,wN,wL])<;>omega) ?_;conv=>whnf)
  |(refine ze ?_;conv=>whnf)
 ·refine⟨⟨(i+1,ys.set i q,q+1),?_⟩,(ydn [] [0]),by dsimp only;omega⟩;(try dsimp only)
  refine⟨by omega,by simp[hy],by omega,?_⟩
  rw[show xs.length-i=xs.length-(i+1)+1 by omega]at hv
  exact hv
 ·rw[show xs.length-i=0 by omega]at hv
  subst hv
  exact(zu [] [0])
theorem yeb (xs:List Int) (k:Int) (hl:xs.length≤4294967296) (h0:0≤k) (h1:k≤1099511627776000) (hx:∀j:Nat,j<xs.length→xs.getD j 0=k+j):zr Tryz.prog 33 0 [.c (.nums .i64 xs),.c (.int .i64 k)] [] 0 (.c (.int .i64 (k+xs.length))) []:=by
 refine spi (fn:=Tryz.f33) _ ?_
 conv=>whnf
 skip
 refine zd0 (λ(i:Nat) (q:Int)=>i≤xs.length∧q=k+i)
  (λi q=>⟨21,0,[(0,.c (.nums .i64 xs)),(1,.c (.int .i64 q)),(5,.c (.int .i64 i))],[]⟩) (λi q=>xs.length-i) 0 k ⟨by omega,by omega⟩ (λ_ _=>Nat.zero_le _) (ydn [] [0]) (λi q hi=>?_)
 obtain⟨hi,hq⟩:=hi
 conv=>whnf
 repeat' first
  |(refine za (by(try simp only[wA,wN,wL])<;>omega) ?_;conv=>whnf)
  |(refine zk (λh=>?_) (λh=>?_)<;>(try simp only[qA]at h)<;>(try simp only[wA,wN]at h)<;>conv=>whnf)
  |refine zi ?_
  |(refine zg (by(try simp only[wA,wN,wL])<;>omega) (by(try simp only[wA,wN,wL])<;>omega) ?_;conv=>whnf)
 ·exact absurd ((hx i (by omega)).trans hq.symm) h
 ·refine⟨⟨(i+1,q+1),?_⟩,(ydn [] []),by dsimp only;omega⟩;(try dsimp only)
  exact⟨by omega,by omega⟩
 ·omega
def mpg (p:Pg) (q:Int):Pg:=⟨mkL p.keys q,mkL p.kids (q+p.keys.length),mkL p.vals (q+p.keys.length+p.kids.length)⟩
def mpN:Nat→Nat→List Pg→Int→List Pg×Int
 |0,_,d,k=>(d,k)
 |n+1,i,d,k=>mpN n (i+1) (d.set i (mpg (d.getD i ⟨[],[],[]⟩) k)) (k+(d.getD i ⟨[],[],[]⟩).keys.length+(d.getD i ⟨[],[],[]⟩).kids.length+(d.getD i ⟨[],[],[]⟩).vals.length)
theorem ygw (n:Nat):∀(i:Nat) (d:List Pg) (k:Int),(∀j,i≤j→pgN (d.getD j ⟨[],[],[]⟩)≤1048576)→i+n≤d.length→k≤(mpN n i d k).2∧(mpN n i d k).2≤k+n*1048576:=by
 induction n with
 |zero=>intro i d k h g;exact⟨Int.le_refl _,by show k≤_;omega⟩
 |succ n ih =>
  intro i d k h g
  unfold mpN
  have hi:=h i (Nat.le_refl _)
  unfold pgN at hi
  have:=ih (i+1) (d.set i (mpg (d.getD i ⟨[],[],[]⟩) k)) (k+(d.getD i ⟨[],[],[]⟩).keys.length+(d.getD i ⟨[],[],[]⟩).kids.length+(d.getD i ⟨[],[],[]⟩).vals.length) (λj hj=>by
   rw[z7 _ _ _ _ _ (by omega),if_neg (by omega)];exact h j (by omega)) (by rw[List.length_set];omega)
  omega
theorem yez (ps:List Pg) (k:Int) (hl:ps.length≤1048576) (hk:∀p∈ps,pgN p≤1048576) (h0:0≤k) (h1:k≤1):zr Tryz.prog 72 1 [.slc 0,.c (.int .i64 k)] [(0,.deep true 0 (.pgs ps) [])] 1 (.c (.int .i64 (mpN ps.length 0 ps k).2)) [(0,.deep true 0 (.pgs (mpN ps.length 0 ps k).1) [])]:=by
 obtain⟨V,hV⟩:∃V,mpN ps.length 0 ps k=V:=⟨_,rfl⟩
 rw[hV]
 refine spi (fn:=Tryz.f72) _ ?_
 conv=>whnf
 repeat' (refine ze ?_;conv=>whnf)
 refine zk5 (λ(i:Nat) (d:List Pg) (q:Int)=>i≤ps.length∧d.length=ps.length∧(∀j,i≤j→pgN (d.getD j ⟨[],[],[]⟩)≤1048576)∧0≤q∧q≤1+i*1048576∧mpN (ps.length-i) i d q=V)
  (λi d q=>⟨34,1,[(0,.slc 0),(1,.c (.int .i64 q)),(5,.c (.int .i64 i))],[(0,.deep true 0 (.pgs d) [])]⟩) (λi d q=>ps.length-i) 0 ps k ⟨by omega,rfl,λj _=>ye2 hk j,h0,by omega,by simpa using hV⟩ (λ_ _ _=>Nat.le_refl _) (ydn [] [0]) (λi d q hi=>?_)
 obtain⟨hi,hy,hd,hq0,hq1,hv⟩:=hi
 have hdi:=hd i (Nat.le_refl _)
 unfold pgN at hdi
 conv=>whnf
 skip
 refine ze ?_
 conv=>whnf
 repeat' (refine zk (λh=>?_) (λh=>?_)<;>(try simp only[qA]at h)<;>(try simp only[wA,wN]at h)<;>conv=>whnf)
 ·refine ze9 [.op 0 i,.dp 1,.dp 2,.dp 3,.pin 1,.pin 2,.pin 3] ?_
  conv=>whnf
  repeat' first
   |(refine za (by(try simp only[wA,wN,wL])<;>omega) ?_;conv=>whnf)
   |(refine zg (by(try simp only[wA,wN,wL])<;>omega) (by(try simp only[wA,wN,wL])<;>omega) ?_;conv=>whnf)
   |(refine zal [] [1] (yec (d.getD i ⟨[],[],[]⟩).keys q (by omega) (by omega) (by omega)) ⟨rfl,rfl,rfl,(by repeat first|exact trivial|refine⟨rfl,?_⟩),⟨rfl,rfl,rfl,rfl,rfl,rfl⟩,?_⟩;conv=>whnf)
   |(refine zal [] [2] (yec (d.getD i ⟨[],[],[]⟩).kids (q+(d.getD i ⟨[],[],[]⟩).keys.length) (by omega) (by omega) (by omega)) ⟨rfl,rfl,rfl,(by repeat first|exact trivial|refine⟨rfl,?_⟩),⟨rfl,rfl,rfl,rfl,rfl,rfl⟩,?_⟩;conv=>whnf)
   |(refine zal [] [3] (yec (d.getD i ⟨[],[],[]⟩).vals (q+(d.getD i ⟨[],[],[]⟩).keys.length+(d.getD i ⟨[],[],[]⟩).kids.length) (by omega) (by omega) (by omega)) ⟨rfl,rfl,rfl,(by repeat first|exact trivial|refine⟨rfl,?_⟩),⟨rfl,rfl,rfl,rfl,rfl,rfl⟩,?_⟩;conv=>whnf)
   |(refine zl (by first|rfl|omega) ?_;conv=>whnf)
   |(refine ze ?_;conv=>whnf)
  refine⟨⟨(i+1,d.set i (mpg (d.getD i ⟨[],[],[]⟩) q),q+(d.getD i ⟨[],[],[]⟩).keys.length+(d.getD i ⟨[],[],[]⟩).kids.length+(d.getD i ⟨[],[],[]⟩).vals.length),?_⟩,(zsg [.cl 0] [] [0] ?_),by dsimp only;omega⟩
  ·dsimp only
   refine⟨by omega,by simp[hy],λj hj=>?_,by omega,by omega,?_⟩
   ·rw[z7 _ _ _ _ _ (by omega),if_neg (by omega)]
    exact hd j (by omega)
   ·rw[show ps.length-i=ps.length-(i+1)+1 by omega]at hv
    exact hv
  conv=>whnf
  exact⟨by repeat first|exact trivial|refine⟨rfl,?_⟩,by repeat first|exact trivial|refine⟨rfl,?_⟩,rfl,rfl,rfl,rfl,rfl,rfl,rfl⟩
 ·skip
  repeat' (refine ze ?_;conv=>whnf)
  rw[show ps.length-i=0 by omega]at hv
  subst hv
  exact(zu [] [0])
theorem ygj (root:Int) (ps:List Pg) (k:Int) (hl:ps.length≤1048576) (hk:∀p∈ps,pgN p≤1048576) (h0:0≤k) (h1:k≤1):zr Tryz.prog 30 1 [.agg [.c (.int .i64 root),.slc 0],.c (.int .i64 k)] [(0,.deep true 0 (.pgs ps) [])] 1 (.c (.int .i64 (mpN ps.length 0 ps k).2)) [(0,.deep true 0 (.pgs (mpN ps.length 0 ps k).1) [])]:=by
 have h:=yez ps k hl hk h0 h1
 obtain⟨V,hV⟩:∃V,mpN ps.length 0 ps k=V:=⟨_,rfl⟩
 rw[hV]at h⊢
 refine spi (fn:=Tryz.f30) _ ?_
 conv=>whnf
 repeat' first
  |(refine zal [] [0] (h) ⟨rfl,rfl,rfl,(by repeat first|exact trivial|refine⟨rfl,?_⟩),⟨rfl,rfl,rfl,rfl,rfl,rfl⟩,?_⟩;conv=>whnf)
  |(refine ze ?_;conv=>whnf)
 exact(zu [] [0])
end Go.VL
namespace Go.VL
open Go.Proofs
set_option maxRecDepth 10000
set_option linter.unusedSimpArgs false
set_option linter.unusedVariables false
abbrev eoV (o:Opn):V:=.agg [.c (.int .i64 o.kind),.c (.int .i64 o.key),.c (.int .i64 o.value)]
theorem ygn (root:Int) (ps:List Pg) (hp:pB ps):zr Tryz.prog 23 0 [trV root ps] [] 0 (trV root ps) []:=by
 refine spi (fn:=Tryz.f23) _ ?_
 conv=>whnf
 repeat' first|(refine zbe (yeo _ hp) rfl rfl rfl rfl ?_;conv=>whnf)|(refine ze ?_;conv=>whnf)
 exact(zu [3] [])
theorem ygo (xs:List Int) (hl:xs.length≤4294967296):zr Tryz.prog 25 0 [.c (.nums .i64 xs)] [] 0 (.c (.nums .i64 xs)) []:=zdn (yd7 xs hl) rfl
theorem ygg (o:Opn):zr Tryz.prog 68 0 [eoV o] [] 0 (eoV o) []:=by
 refine spi (fn:=Tryz.f68) _ ?_
 conv=>whnf
 skip
 exact(zu [] [])
theorem yfs (xs:List Opn) (hl:xs.length≤4294967296):zr Tryz.prog 24 0 [.c (.ops xs)] [] 1 (.slc 0) [(0,.arr (.ops xs))]:=by
 refine spi (fn:=Tryz.f24) _ ?_
 conv=>whnf
 repeat' (refine za (by(try simp only[wA,wN,wL])<;>omega) ?_;conv=>whnf)
 refine zau (λ(i:Nat)=>i≤xs.length)
  (λi=>⟨23,1,[(0,.c (.ops xs)),(3,.slc 0),(4,.c (.int .i64 i))],[(0,.arr (.ops (xs.take i++List.replicate (xs.length-i) ⟨0,0,0⟩)))]⟩) (λi=>xs.length-i) 0 (by omega) (λ_=>Nat.zero_le _) (ydn [] [0]) (λi hi=>?_)
 have ht:=ygg (xs.getD i ⟨0,0,0⟩)
 conv=>whnf
 repeat' first
  |(refine za (by(try simp only[wA,wN,wL])<;>omega) ?_;conv=>whnf)
  |(refine zk (λh=>?_) (λh=>?_)<;>(try simp only[qA]at h)<;>(try simp only[wA,wN]at h)<;>conv=>whnf)
  |(refine zg (by(try simp only[wA,wN,wL])<;>omega) (by(try simp only[wA,wN,wL])<;>omega) ?_;conv=>whnf)
  |(refine zp (ht) rfl rfl ?_;conv=>whnf)
 ·have e:=yej (⟨0,0,0⟩:Opn) ⟨0,0,0⟩ (xs:=xs) (k:=i) (by omega)
  refine⟨⟨i+1,by omega⟩,(zbd [] [0] ⟨by repeat first|exact trivial|refine⟨rfl,?_⟩,⟨?_,trivial⟩,rfl,rfl,rfl,rfl,rfl,rfl,rfl⟩),by dsimp only;omega⟩
  exact congrArg (λz=>some (O.arr (C.ops z))) e
 ·rw[z35 (⟨0,0,0⟩:Opn) (xs:=xs) (k:=i) (by omega)]
  exact(zu [] [0])
theorem ygu (xs:List Opn) (hl:xs.length≤4294967296):zr Tryz.prog 24 0 [.c (.ops xs)] [] 0 (.c (.ops xs)) []:=zdn (yfs xs hl) rfl
theorem ygv (xs:List Opn) (k:Int) (hl:xs.length≤9223372036854775807) (h0:0≤k) (h1:k≤1048576):zr Tryz.prog 21 0 [.c (.ops xs),.c (.int .i64 k)] [] 0 (.c (.int .i64 (szI xs.length k))) []:=by
 refine spi (fn:=Tryz.f21) _ ?_
 conv=>whnf
 repeat' first
  |(refine zk (λh=>?_) (λh=>?_)<;>(try simp only[qA]at h)<;>(try simp only[wA,wN]at h)<;>conv=>whnf)
  |refine zi ?_
  |(refine zg (by(try simp only[wA,wN,wL])<;>omega) (by(try simp only[wA,wN,wL])<;>omega) ?_;conv=>whnf)
 all_goals unfold szI;(repeat first|rw[if_pos (by assumption)]|rw[if_neg (by assumption)]|rw[if_neg (by rw[Bool.not_eq_true];assumption)]|rw[if_neg (by rw[Bool.not_eq_false];assumption)]|rw[if_pos (by omega)]|rw[if_neg (by omega)]);try rfl
theorem ygb (o:Opn):zr Tryz.prog 71 0 [eoV o,eoV o] [] 0 (.c (.bool true)) []:=by
 refine spi (fn:=Tryz.f71) _ ?_
 conv=>whnf
 repeat' first|(refine zm ?_ ?_;(focus (first|rfl|exact bne_self_eq_false _));conv=>whnf)|refine zc ?_
 all_goals rfl
theorem ygt (xs:List Opn) (hl:xs.length≤4294967296):zr Tryz.prog 29 0 [.c (.ops xs),.c (.ops xs)] [] 0 (.c (.bool true)) []:=by
 refine spi (fn:=Tryz.f29) _ ?_
 conv=>whnf
 repeat' first|(refine zk (λh=>?_) (λh=>?_)<;>(try simp only[qA]at h)<;>(try simp only[wA,wN]at h)<;>conv=>whnf)|refine zd ?_
 ·exact absurd trivial h
 refine zau (λ(i:Nat)=>True) (λi=>⟨27,0,[(0,.c (.ops xs)),(1,.c (.ops xs)),(5,.c (.int .i64 i))],[]⟩) (λi=>xs.length-i) 0 trivial (λ_=>Nat.zero_le _) zbn (λi hi=>?_)
 have ht:=ygb (xs.getD i ⟨0,0,0⟩)
 conv=>whnf
 repeat' first
  |(refine za (by kernel_rfl) ?_;conv=>whnf)
  |(refine za (by(try simp only[wA,wN,wL])<;>omega) ?_;conv=>whnf)
  |(refine zk (λh=>?_) (λh=>?_)<;>(try simp only[qA]at h)<;>(try simp only[wA,wN]at h)<;>conv=>whnf)
  |refine zc ?_
  |refine zd ?_
  |(refine zg (by(try simp only[wA,wN,wL])<;>omega) (by(try simp only[wA,wN,wL])<;>omega) ?_;conv=>whnf)
  |(refine zw (ht) rfl rfl ?_;conv=>whnf)
  |(refine ze ?_;conv=>whnf)
 ·refine⟨⟨i+1,?_⟩,zbn,by dsimp only;omega⟩;(try dsimp only)
 ·cases h
 ·rfl
theorem ygm (xs:List Opn) (k:Int) (hl:xs.length≤1048576) (h0:0≤k) (h1:k≤1100000000000):zce Tryz.prog 31 1 [.slc 0,.c (.int .i64 k)] [(0,.arr (.ops xs))] (λm res hout=>∃(ys:List Opn) (q:Int),k≤q∧q≤1200000000000∧m=1∧res=.c (.int .i64 q)∧hout=[(0,.arr (.ops ys))]):=by
 refine spx (fn:=Tryz.f31) _ ?_
 conv=>whnf
 skip
 refine zk5 (λ(i:Nat) (ys:List Opn) (q:Int)=>i≤xs.length∧ys.length=xs.length∧q=k+3*i)
  (λi ys q=>⟨34,1,[(0,.slc 0),(1,.c (.int .i64 q)),(5,.c (.int .i64 i))],[(0,.arr (.ops ys))]⟩) (λi ys q=>xs.length-i) 0 xs k ⟨by omega,rfl,by omega⟩ (λ_ _ _=>Nat.le_refl _) (ydn [] [0]) (λi ys q hi=>?_)
 obtain⟨hi,hy,hq⟩:=hi
 conv=>whnf
 repeat' first
  |(refine za (by(try simp only[wA,wN,wL])<;>omega) ?_;conv=>whnf)
  |(refine zk (λh=>?_) (λh=>?_)<;>(try simp only[qA]at h)<;>(try simp only[wA,wN]at h)<;>conv=>whnf)
  |(refine zg (by(try simp only[wA,wN,wL])<;>omega) (by(try simp only[wA,wN,wL])<;>omega) ?_;conv=>whnf)
 ·refine⟨⟨(i+1,_,q+1+1+1),?_⟩,(ydn [] [0]),by dsimp only;omega⟩
  dsimp only
  refine⟨by omega,?_,by omega⟩
  simp only[List.length_set];exact hy
 ·exact za1 1 (.c (.int .i64 q)) [(0,.arr (.ops ys))] ⟨ys,q,by omega,by omega,rfl,rfl,rfl⟩ rfl (zu [] [0])
end Go.VL
namespace Go.VL
open Go.Proofs
set_option maxRecDepth 10000
set_option linter.unusedSimpArgs false
set_option linter.unusedVariables false
def yd6 (d:List Pg) (k:Int):Nat→Int
 |0=>k
 |i+1=>yd6 d k i+(d.getD i ⟨[],[],[]⟩).keys.length+(d.getD i ⟨[],[],[]⟩).kids.length+(d.getD i ⟨[],[],[]⟩).vals.length
theorem ygf {d:List Pg} {k:Int} (h:∀j,pgN (d.getD j ⟨[],[],[]⟩)≤1048576):∀i:Nat,k≤yd6 d k i∧yd6 d k i≤k+i*1048576:=by
 intro i
 induction i with
 |zero=>unfold yd6;omega
 |succ i ih=>have:=h i;unfold pgN at this;unfold yd6;omega
theorem ygd (d0:List Pg) (k0:Int) (n:Nat):∀(i:Nat) (d:List Pg),i+n=d0.length→d.length=d0.length→(∀j,i≤j→d.getD j ⟨[],[],[]⟩=d0.getD j ⟨[],[],[]⟩)→(∀j,j<i→d.getD j ⟨[],[],[]⟩=mpg (d0.getD j ⟨[],[],[]⟩) (yd6 d0 k0 j)) →
  (mpN n i d (yd6 d0 k0 i)).2=yd6 d0 k0 d0.length∧(mpN n i d (yd6 d0 k0 i)).1.length=d0.length∧∀j,j<d0.length→(mpN n i d (yd6 d0 k0 i)).1.getD j ⟨[],[],[]⟩=mpg (d0.getD j ⟨[],[],[]⟩) (yd6 d0 k0 j):=by
 induction n with
 |zero =>
  intro i d h1 h2 h3 h4
  obtain rfl:i=d0.length:=by omega
  exact⟨rfl,h2,h4⟩
 |succ n ih =>
  intro i d h1 h2 h3 h4
  unfold mpN
  have e:=h3 i (Nat.le_refl _)
  rw[e]
  refine ih (i+1) (d.set i (mpg (d0.getD i ⟨[],[],[]⟩) (yd6 d0 k0 i))) (by omega) (by rw[List.length_set];exact h2) (λj hj=>?_) (λj hj=>?_)
  ·rw[z7 _ _ _ _ _ (by omega),if_neg (by omega)];exact h3 j (by omega)
  ·rw[z7 _ _ _ _ _ (by omega)]
   split
   ·rename_i q;subst q;rfl
   ·exact h4 j (by omega)
structure Mrk (p:Pg) (q:Int):Prop where
 k:∀j:Nat,j<p.keys.length→p.keys.getD j 0=q+j
 c:∀j:Nat,j<p.kids.length→p.kids.getD j 0=q+p.keys.length+j
 v:∀j:Nat,j<p.vals.length→p.vals.getD j 0=q+p.keys.length+p.kids.length+j
theorem yf3 (p:Pg) (q:Int):Mrk (mpg p q) q:=by
 refine⟨λj h=>yei h,λj h=>?_,λj h=>?_⟩
 ·have:=yei h
  unfold mpg
  dsimp only
  rw[yd5]
  exact this
 ·have:=yei h
  unfold mpg
  dsimp only
  rw[yd5,yd5]
  exact this
theorem yfq (p:Pg) (q:Int):(mpg p q).keys.length=p.keys.length∧(mpg p q).kids.length=p.kids.length∧(mpg p q).vals.length=p.vals.length:=⟨yd5 _ _,yd5 _ _,yd5 _ _⟩
theorem yex (M:List Pg) (off:Nat→Int) (hl:M.length≤1048576) (hn:∀j,pgN (M.getD j ⟨[],[],[]⟩)≤1048576) (ho:∀i,i<M.length→off (i+1)=off i+(M.getD i ⟨[],[],[]⟩).keys.length+(M.getD i ⟨[],[],[]⟩).kids.length+(M.getD i ⟨[],[],[]⟩).vals.length)
  (hm:∀i,i<M.length→Mrk (M.getD i ⟨[],[],[]⟩) (off i)) (h0:0≤off 0) (h1:off 0≤1):zr Tryz.prog 73 0 [.c (.pgs M),.c (.int .i64 (off 0))] [] 0 (.c (.int .i64 (off M.length))) []:=by
 refine spi (fn:=Tryz.f73) _ ?_
 conv=>whnf
 skip
 refine zd0 (λ(i:Nat) (q:Int)=>i≤M.length∧q=off i∧0≤q∧q≤1+i*1048576)
  (λi q=>⟨40,0,[(0,.c (.pgs M)),(1,.c (.int .i64 q)),(5,.c (.int .i64 i))],[]⟩) (λi q=>M.length-i) 0 (off 0) ⟨by omega,rfl,by omega,by omega⟩ (λ_ _=>Nat.zero_le _) (ydn [] [0]) (λi q hi=>?_)
 obtain⟨hi,hq,hq0,hq1⟩:=hi
 by_cases c:i<M.length
 ·obtain⟨m1,m2,m3⟩:=hm i c
  have e:=ho i c
  have hni:=hn i
  unfold pgN at hni
  rw[←hq]at m1 m2 m3 e
  have s1:=yeb (M.getD i ⟨[],[],[]⟩).keys q (by omega) (by omega) (by omega) m1
  have s2:=yeb (M.getD i ⟨[],[],[]⟩).kids (q+(M.getD i ⟨[],[],[]⟩).keys.length) (by omega) (by omega) (by omega) m2
  have s3:=yeb (M.getD i ⟨[],[],[]⟩).vals (q+(M.getD i ⟨[],[],[]⟩).keys.length+(M.getD i ⟨[],[],[]⟩).kids.length) (by omega) (by omega) (by omega) m3
  conv=>whnf
  repeat' first
   |(refine zn ?_ ?_;(focus ((try simp only[qA])<;>(try simp only[wA])<;>omega));conv=>whnf)
   |(refine zm ?_ ?_;(focus ((try simp only[qA])<;>(try simp only[wA])<;>omega));conv=>whnf)
   |(refine za (by(try simp only[wA,wL])<;>omega) ?_;conv=>whnf)
   |(refine zg (by(try simp only[wA,wL])<;>omega) (by(try simp only[wA,wL])<;>omega) ?_;conv=>whnf)
   |(refine zp (s1) rfl rfl ?_;conv=>whnf)
   |(refine zp (s2) rfl rfl ?_;conv=>whnf)
   |(refine zp (s3) rfl rfl ?_;conv=>whnf)
  refine⟨⟨(i+1,q+(M.getD i ⟨[],[],[]⟩).keys.length+(M.getD i ⟨[],[],[]⟩).kids.length+(M.getD i ⟨[],[],[]⟩).vals.length),by omega,e.symm,by omega,by omega⟩,(ydn [] []),by dsimp only;omega⟩
 ·obtain rfl:i=M.length:=by omega
  subst hq
  conv=>whnf
  repeat' first|(refine zm ?_ ?_;(focus ((try simp only[qA])<;>(try simp only[wA])<;>omega));conv=>whnf)|refine zi ?_
  all_goals rfl
theorem ye6 (root:Int) (M:List Pg) (off:Nat→Int) (hl:M.length≤1048576) (hn:∀j,pgN (M.getD j ⟨[],[],[]⟩)≤1048576) (ho:∀i,i<M.length→off (i+1)=off i+(M.getD i ⟨[],[],[]⟩).keys.length+(M.getD i ⟨[],[],[]⟩).kids.length+(M.getD i ⟨[],[],[]⟩).vals.length)
  (hm:∀i,i<M.length→Mrk (M.getD i ⟨[],[],[]⟩) (off i)) (h0:0≤off 0) (h1:off 0≤1) (hb:0≤off M.length):zr Tryz.prog 38 0 [trV root M,.c (.int .i64 (off 0))] [] 0 (.c (.int .i64 (off M.length))) []:=by
 have h:=yex M off hl hn ho hm h0 h1
 generalize off M.length=z at *
 generalize off 0=a at *
 refine spi (fn:=Tryz.f38) _ ?_
 conv=>whnf
 repeat' first|(refine zm ?_ ?_;(focus ((try simp only[qA])<;>(try simp only[wA])<;>omega));conv=>whnf)|refine zi ?_|(refine zp (h) rfl rfl ?_;conv=>whnf)
 all_goals rfl
theorem yhj (root:Int) (ps:List Pg) (hl:ps.length≤1048576) (hn:∀j,pgN (ps.getD j ⟨[],[],[]⟩)≤1048576) (M:List Pg) (k:Int) (hM:mpN ps.length 0 ps 1=(M,k)):1≤k∧M.length=ps.length∧(∀j,pgN (M.getD j ⟨[],[],[]⟩)≤1048576)∧zr Tryz.prog 38 0 [trV root M,.c (.int .i64 1)] [] 0 (.c (.int .i64 k)) []:=by
 obtain⟨e1,e2,e3⟩:=ygd ps 1 ps.length 0 ps (by omega) rfl (λ_ _=>rfl) (λj hj=>absurd hj (Nat.not_lt_zero _))
 have e0:yd6 ps 1 0=1:=rfl
 rw[e0,hM]at e1 e2 e3
 dsimp only at e1 e2 e3
 have hb:=ygf (k:=1) hn
 have hMn:∀j,pgN (M.getD j ⟨[],[],[]⟩)≤1048576:=λj=>by
  by_cases c:j<ps.length
  ·rw[e3 j c]
   obtain⟨a,b,d⟩:=yfq (ps.getD j ⟨[],[],[]⟩) (yd6 ps 1 j)
   have:=hn j
   unfold pgN at this⊢
   omega
  ·rw[show M.getD j ⟨[],[],[]⟩=⟨[],[],[]⟩ by simp[List.getD,List.getElem?_eq_none (show M.length≤j by omega)]];decide
 refine⟨by rw[e1];exact(hb _).1,e2,hMn,?_⟩
 have h:=ye6 root M (yd6 ps 1) (by omega) hMn (λi hi=>by
  rw[e3 i (by omega)]
  obtain⟨a,b,d⟩:=yfq (ps.getD i ⟨[],[],[]⟩) (yd6 ps 1 i)
  rw[a,b,d];rfl) (λi hi=>by rw[e3 i (by omega)];exact yf3 _ _) (by rw[e0];decide) (by rw[e0];decide) (by have:=(hb M.length).1;omega)
 rw[e0,e2,←e1]at h
 exact h
end Go.VL
namespace Go.VL
set_option linter.unusedVariables false
set_option linter.unusedSimpArgs false
end Go.VL
namespace Go.VL
set_option linter.unusedVariables false
set_option linter.unusedSimpArgs false
def rk (gn : Nat → Bool) : Nat → Nat
  | 0 => 0
  | i + 1 => rk gn i + (if gn i = true then 0 else 1)
end Go.VL
namespace Go.VL
set_option linter.unusedVariables false
set_option linter.unusedSimpArgs false
def jnF (root : Int) (ps : List Pg) (key : Int) : Nat := (zao ps key (htF root ps) root).2.length
structure DropF (root : Int) (ps : List Pg) (key : Int) (r : Int × List Pg) : Prop where
  v0 : vTree root ps = true
  hk : key ∈ (psF root ps).map Pr.key
  rng : 0 ≤ key ∧ key ≤ 99
  eq : r = zf4 root ps (htF root ps) key
  vt : vTree r.1 r.2 = true
  prs : psF r.1 r.2 = zbq (psF root ps) key
  ht : htF r.1 r.2 + z1x root ps (htF root ps) key = htF root ps
  c1 : z1x root ps (htF root ps) key ≤ 1
  len : r.2.length + jnF root ps key + z1x root ps (htF root ps) key = ps.length
  jl : jnF root ps key + 1 ≤ htF root ps
end Go.VL
namespace Go.VL
open Go.Proofs Go.RowKit Go.Lib
set_option maxRecDepth 10000
set_option linter.unusedSimpArgs false
set_option linter.unusedVariables false
theorem ydp (W:World) (A B:Obj):ydj W ((W.alloc A).alloc B):=by
 refine⟨rfl,rfl,rfl,?_,λb hb=>?_⟩
 ·show _≤((W.heap.push A).push B).size
  rw[Array.size_push,Array.size_push];omega
 ·show((W.heap.push A).push B)[b]? = _
  rw[Array.getElem?_push,if_neg (by rw[Array.size_push];omega),Array.getElem?_push,if_neg (by omega)]
theorem ydh (a1 a2 a3:Option Addr) (l1 l2 l3 c1 c2 c3:Nat) (W:World):Calls Tryz.prog 88 #[.agg #[.slice a1 l1 c1,.slice a2 l2 c2,.slice a3 l3 c3]] W λe w'=>e=.returned (.agg #[.slice a1 l1 c1,.slice a2 l2 c2])∧ydj W w':=by
 go_enter Tryz.func88,Tryz.ntmps88
 go_wp2
 go_returns
 exact⟨rfl,ydp _ _ _⟩
theorem ydi (a1 a2:Option Addr) (l1 l2 c1 c2:Nat) (W:World):Calls Tryz.prog 85 #[.agg #[.slice a1 l1 c1,.slice a2 l2 c2]] W λe w'=>e=.returned (.agg #[.slice a1 l1 c1,.slice a2 l2 c2,.slice none 0 0])∧ydj W w':=by
 go_enter Tryz.func85,Tryz.ntmps85
 go_wp2
 go_returns
 exact⟨rfl,ydp _ _ _⟩
theorem ydo {I:Nat→Prop} {g:Gam} {n:Nat} {w:World} {id:Nat} {v:Value} (h:RV I g n w (.slc id) v):(∃a l c,v=.slice a l c)∧∀w',RV I g n w' (.slc id) v:=by
 obtain⟨h1,⟨b,cap,len,h2,rfl⟩|⟨h2,rfl⟩⟩:=RV.slc_inv h
 ·exact⟨⟨_,_,_,rfl⟩,λw'=>.slc id len b cap h1 h2⟩
 ·exact⟨⟨_,_,_,rfl⟩,λw'=>.slc0 id h1 h2⟩
theorem ycu (a b c:Nat):z7c Tryz.prog 88 [.agg [.slc a,.slc b,.slc c]] (.agg [.slc a,.slc b]):=by
 refine⟨⟨_,Tryz.func88,by kernel_rfl,by kernel_rfl⟩,λW I g n argv hI hl ha=>?_⟩
 obtain⟨v,rfl⟩:∃v,argv=[v]:=by
  match argv,hl with
  |[v],_=>exact⟨v,rfl⟩
 obtain⟨vs,rfl,h1,h2⟩:=RV.agg_inv (ha 0 _ _ rfl rfl)
 obtain⟨x,y,z,rfl⟩:∃x y z,vs=[x,y,z]:=by
  match vs,h1 with
  |[x,y,z],_=>exact⟨x,y,z,rfl⟩
 obtain⟨⟨a1,l1,c1,rfl⟩,k1⟩:=ydo (h2 0 _ _ rfl rfl)
 obtain⟨⟨a2,l2,c2,rfl⟩,k2⟩:=ydo (h2 1 _ _ rfl rfl)
 obtain⟨⟨a3,l3,c3,rfl⟩,_⟩:=ydo (h2 2 _ _ rfl rfl)
 refine(ydh a1 a2 a3 l1 l2 l3 c1 c2 c3 W).mono λe w'=>?_
 rintro⟨rfl,hg⟩
 refine⟨_,rfl,hg,?_⟩
 refine .agg _ [.slice a1 l1 c1,.slice a2 l2 c2] rfl λi p q hp hq=>?_
 match i with
 |0=>cases hp;cases hq;exact k1 w'
 |1=>cases hp;cases hq;exact k2 w'
 |i+2=>cases hp
theorem ycp (a b:Nat):z7c Tryz.prog 85 [.agg [.slc a,.slc b]] (.agg [.slc a,.slc b,.nil]):=by
 refine⟨⟨_,Tryz.func85,by kernel_rfl,by kernel_rfl⟩,λW I g n argv hI hl ha=>?_⟩
 obtain⟨v,rfl⟩:∃v,argv=[v]:=by
  match argv,hl with
  |[v],_=>exact⟨v,rfl⟩
 obtain⟨vs,rfl,h1,h2⟩:=RV.agg_inv (ha 0 _ _ rfl rfl)
 obtain⟨x,y,rfl⟩:∃x y,vs=[x,y]:=by
  match vs,h1 with
  |[x,y],_=>exact⟨x,y,rfl⟩
 obtain⟨⟨a1,l1,c1,rfl⟩,k1⟩:=ydo (h2 0 _ _ rfl rfl)
 obtain⟨⟨a2,l2,c2,rfl⟩,k2⟩:=ydo (h2 1 _ _ rfl rfl)
 refine(ydi a1 a2 l1 l2 c1 c2 W).mono λe w'=>?_
 rintro⟨rfl,hg⟩
 refine⟨_,rfl,hg,?_⟩
 refine .agg _ [.slice a1 l1 c1,.slice a2 l2 c2,.slice none 0 0] rfl λi p q hp hq=>?_
 match i with
 |0=>cases hp;cases hq;exact k1 w'
 |1=>cases hp;cases hq;exact k2 w'
 |2=>cases hp;cases hq;exact .nil
 |i+3=>cases hp
theorem ydk (xs:List Pr) (hl:xs.length≤4294967296):zr Tryz.prog 82 0 [.c (.prs xs)] [] 2 (.agg [.slc 0,.nil,.slc 1]) [(0,.arr (.nums .i64 (xs.map Pr.key))),(1,.arr (.nums .i64 (xs.map Pr.value)))]:=by
 refine spi (fn:=Tryz.f82) _ ?_
 conv=>whnf
 repeat' first|(refine z8 (zko xs hl) rfl ?_;conv=>whnf)|(refine z8 (zr8 xs hl) rfl ?_;conv=>whnf)
 exact(zu [] [1,2])
theorem ycz (p:Pg) (hk:p.kids.length=p.keys.length+1) (h1:1≤p.keys.length) (hl:p.keys.length≤1000):zr Tryz.prog 133 0 [inV p] [] 4 (.tup [.agg [.slc 0,.slc 1],.c (.int .i64 (p.keys.getD (p.keys.length / 2) 0)),.agg [.slc 2,.slc 3]])
  [(0,.arr (.nums .i64 (p.keys.take (p.keys.length / 2)))),(1,.arr (.nums .i64 (p.kids.take (p.keys.length / 2+1)))),(2,.arr (.nums .i64 (p.keys.drop (p.keys.length / 2+1)))),(3,.arr (.nums .i64 (p.kids.drop (p.keys.length / 2+1))))]:=by
 obtain⟨ks,cs,vs⟩:=p
 dsimp only[inV]at *
 have hd:(ks.length:Int).tdiv 2=(ks.length:Int) / 2:=Int.tdiv_eq_ediv_of_nonneg (by omega)
 refine spi (fn:=Tryz.f133) _ ?_
 conv=>whnf
 repeat' first
  |(refine za (by kernel_rfl) ?_;conv=>whnf)
  |(refine za (by(try simp only[wA,wL])<;>omega) ?_;conv=>whnf)
  |(refine zg (by(try simp only[wA,wL])<;>omega) (by(try simp only[wA,wL])<;>omega) ?_;conv=>whnf)
  |(refine zar (zvt _ (by first|(rw[w7];omega)|(rw[w8];omega))) rfl rfl ?_;conv=>whnf)
  |(refine ze ?_;conv=>whnf)
 exact(zu [] [7,13,108,114])
theorem yct (root:Int) (ps:List Pg) (hp:pB ps) (hl:ps.length≤1000):zr Tryz.prog 57 0 [trV root ps] [] 1 (.agg [.c (.int .i64 root),.slc 0]) [(0,.deep false 0 (.pgs ps) [])]:=by
 refine spi (fn:=Tryz.f57) _ ?_
 conv=>whnf
 repeat' first
  |(refine za (by kernel_rfl) ?_;conv=>whnf)
  |(refine za (by(try simp only[wA,wL])<;>omega) ?_;conv=>whnf)
  |(refine zlj ?_;conv=>whnf)
  |(refine ze ?_;conv=>whnf)
 refine zd0 (λ(i:Nat) (L:List Pg)=>i≤ps.length∧L=ps.take i++List.replicate (ps.length-i) ⟨[],[],[]⟩) (λi L=>⟨37,3,[(2,.ptr 0 0 0 0),(3,.ptr 1 0 0 0),(14,.c (.pgs ps)),(15,.c (.int .i64 ps.length)),(16,.c (.int .i64 i))],[(0,.box [.c (.int .i64 0),.nil] [] []),(1,.box [.c (.int .i64 root),.slc 2] [] []),(2,.deep false 0 (.pgs L) [])]⟩) (λi _=>ps.length-i) 0 (List.replicate ps.length ⟨[],[],[]⟩) ⟨Nat.zero_le _,rfl⟩ (λ_ _=>Nat.zero_le _) (ydn [] [1,9,7]) (λi L hi=>?_)
 obtain⟨hi,hL⟩:=hi
 have k1:=hp.keys i
 have k2:=hp.kids i
 have k3:=hp.vals i
 dsimp only[zb,Int.toNat_natCast]at k1 k2 k3
 have hLl:=congrArg List.length hL
 rw[List.length_append,List.length_take,List.length_replicate]at hLl
 by_cases c:i<ps.length
 ·have c1:=zvt (ps.getD i ⟨[],[],[]⟩).keys k1
  have c2:=zvt (ps.getD i ⟨[],[],[]⟩).kids k2
  have c3:=zvt (ps.getD i ⟨[],[],[]⟩).vals k3
  conv=>whnf
  repeat' first
   |(refine za (by kernel_rfl) ?_;conv=>whnf)
   |(refine zn ?_ ?_;(focus ((try simp only[qA])<;>(try simp only[wA])<;>omega));conv=>whnf)
   |(refine za (by(try simp only[wA,wL])<;>omega) ?_;conv=>whnf)
   |(refine zg (by(try simp only[wA,wL])<;>omega) (by(try simp only[wA,wL])<;>omega) ?_;conv=>whnf)
   |(refine zar (c1) rfl rfl ?_;conv=>whnf)
   |(refine zar (c2) rfl rfl ?_;conv=>whnf)
   |(refine zar (c3) rfl rfl ?_;conv=>whnf)
   |(refine ze ?_;conv=>whnf)
  have hst:L.set i (ps.getD i ⟨[],[],[]⟩)=ps.take (i+1)++List.replicate (ps.length-(i+1)) ⟨[],[],[]⟩:=by rw[hL,zog _ _ c (by rw[List.length_take];omega),zat ⟨[],[],[]⟩ c]
  refine⟨⟨(i+1,L.set i (ps.getD i ⟨[],[],[]⟩)),⟨by dsimp only;omega,hst⟩⟩,(zsg [.cl 2] [] [0,1,2] ?_),by dsimp only;omega⟩
  conv=>whnf
  exact⟨by repeat first|exact trivial|refine⟨rfl,?_⟩,⟨rfl,rfl,rfl,trivial⟩,rfl,rfl,rfl,rfl,rfl,rfl,rfl⟩
 ·rw[List.take_of_length_le (by omega),show ps.length-i=0 by omega,List.replicate_zero,List.append_nil]at hL
  subst hL
  conv=>whnf
  repeat' first|(refine zm ?_ ?_;(focus ((try simp only[qA])<;>(try simp only[wA])<;>omega));conv=>whnf)|(refine ze ?_;conv=>whnf)
  exact(zu [] [2])
end Go.VL
namespace Go.VL
open Go.Proofs
set_option maxRecDepth 10000
set_option linter.unusedSimpArgs false
set_option linter.unusedVariables false
theorem yg0 (p:Pg) (hl:p.keys.length≤1000) (h1:2≤p.keys.length) (c:p.kids.length=0) (q1:p.vals.length=p.keys.length) (q2:zdb (zab p)=true) :
  zr Tryz.prog 84 0 [pgV p] [] 4 (.tup [.agg [.slc 0,.nil,.slc 1],.c (.int .i64 (zam p).2.1),.agg [.slc 2,.nil,.slc 3]])
   [(0,.arr (.nums .i64 (zam p).1.keys)),(1,.arr (.nums .i64 (zam p).1.vals)),(2,.arr (.nums .i64 (zam p).2.2.keys)),(3,.arr (.nums .i64 (zam p).2.2.vals))]:=by
 unfold zam
 rw[if_pos c]
 have hr:=zby p q1
 have hpl:=zdn (zmb p q1 (by omega)) rfl
 change zr _ _ _ _ _ _ (.c (.prs (zab p))) _ at hpl
 have hsr:=z81 (zab p) (by omega) q2
 have ha:=ydk ((zab p).take (((zab p).length+1) / 2)) (by rw[List.length_take];omega)
 have hb:=ydk ((zab p).drop (((zab p).length+1) / 2)) (by rw[List.length_drop];omega)
 have hbl:0<((zab p).drop (((zab p).length+1) / 2)).length:=by rw[List.length_drop];omega
 rw[←zw5]
 unfold zae
 dsimp only
 generalize (zab p).take (((zab p).length+1) / 2)=A at *
 generalize (zab p).drop (((zab p).length+1) / 2)=B at *
 generalize zab p=r at *
 obtain⟨ks,cs,vs⟩:=p
 dsimp only at c hpl⊢
 refine spi (fn:=Tryz.f84) _ ?_
 conv=>whnf
 repeat' first
  |(refine za (by kernel_rfl) ?_;conv=>whnf)
  |(refine zn ?_ ?_;(focus ((try simp only[qA])<;>(try simp only[wA])<;>omega));conv=>whnf)
  |(refine za (by(try simp only[wA,wL])<;>omega) ?_;conv=>whnf)
  |(refine zp (hpl) rfl rfl ?_;conv=>whnf)
  |(refine zp (hsr) rfl rfl ?_;conv=>whnf)
  |(refine zlg [.arr (.nums .i64 (A.map Pr.key)),.arr (.nums .i64 (A.map Pr.value))] (ha) rfl rfl rfl rfl rfl rfl rfl ?_;conv=>whnf)
  |(refine zlg [.arr (.nums .i64 (B.map Pr.key)),.arr (.nums .i64 (B.map Pr.value))] (hb) rfl rfl rfl rfl rfl rfl rfl ?_;conv=>whnf)
  |(refine ze ?_;conv=>whnf)
 exact(zu [] [4,24,10,30])
theorem yg1 (p:Pg) (hl:p.keys.length≤1000) (h1:2≤p.keys.length) (c:¬p.kids.length=0) (hk:p.kids.length=p.keys.length+1) :
  zr Tryz.prog 84 0 [pgV p] [] 4 (.tup [.agg [.slc 0,.slc 1,.nil],.c (.int .i64 (zam p).2.1),.agg [.slc 2,.slc 3,.nil]])
   [(0,.arr (.nums .i64 (zam p).1.keys)),(1,.arr (.nums .i64 (zam p).1.kids)),(2,.arr (.nums .i64 (zam p).2.2.keys)),(3,.arr (.nums .i64 (zam p).2.2.kids))]:=by
 unfold zam
 rw[if_neg c]
 have hio:=zxh p
 have hh:=ycz p hk (by omega) hl
 dsimp only
 generalize e1:p.keys.take (p.keys.length / 2)=A1 at *
 generalize e2:p.kids.take (p.keys.length / 2+1)=A2 at *
 generalize e3:p.keys.drop (p.keys.length / 2+1)=B1 at *
 generalize e4:p.kids.drop (p.keys.length / 2+1)=B2 at *
 generalize e5:p.keys.getD (p.keys.length / 2) 0=K at *
 clear e1 e2 e3 e4 e5
 obtain⟨ks,cs,vs⟩:=p
 dsimp only at c hio hh hk⊢
 refine spi (fn:=Tryz.f84) _ ?_
 conv=>whnf
 repeat' first
  |(refine za (by kernel_rfl) ?_;conv=>whnf)
  |(refine zm ?_ ?_;(focus ((try simp only[qA])<;>(try simp only[wA])<;>omega));conv=>whnf)
  |(refine zp (hio) rfl rfl ?_;conv=>whnf)
  |(refine zbe (hh) rfl rfl rfl rfl ?_;conv=>whnf)
  |(refine ydq (ycp _ _) ?_;conv=>whnf)
  |(refine ze ?_;conv=>whnf)
 exact(zu [] [3,4,5,6])
theorem yg5 (p:Pg) (place:Nat) (key kid:Int) (hp:place<p.kids.length) (hv:zl3 p=true) (h2:p.keys.length≤1000) (h3:p.kids.length≤1000) (hk:p.kids.length=p.keys.length+1) (hw:zl3 (zfu p place key kid)=true) :
  zr Tryz.prog 87 0 [inV p,.c (.int .i64 place),.c (.int .i64 key),.c (.int .i64 kid)] [] 2 (.tup [.agg [.slc 0,.slc 1],.tt]) [(0,.arr (.nums .i64 (zfu p place key kid).keys)),(1,.arr (.nums .i64 (zfu p place key kid).kids))]:=by
 have hvi:=zuk p.keys p.kids p.vals (by omega) (by omega)
 change zr _ _ _ _ _ _ (.c (.bool (zl3 p))) _ at hvi
 rw[hv]at hvi
 have hck:=zvt p.keys (by omega)
 have hcc:=zvt p.kids (by omega)
 have hik:=z8r p.keys place key (by omega) (by omega)
 have hic:=z8r p.kids (place+1) kid (by omega) (by omega)
 have e:zfu p place key kid=⟨p.keys.take place++key::p.keys.drop place,p.kids.take (place+1)++kid::p.kids.drop (place+1),[]⟩:=rfl
 rw[e]at hw⊢
 have hvr:=zuk (p.keys.take place++key::p.keys.drop place) (p.kids.take (place+1)++kid::p.kids.drop (place+1)) [] (by simp only[List.length_append,List.length_cons,List.length_take,List.length_drop];omega) (by simp only[List.length_append,List.length_cons,List.length_take,List.length_drop];omega)
 have e2:((place:Int)+1)=((place+1:Nat):Int):=rfl
 rw[←e2]at hic
 dsimp only
 generalize p.keys.take place++key::p.keys.drop place=K2 at *
 generalize p.kids.take (place+1)++kid::p.kids.drop (place+1)=C2 at *
 rw[hw]at hvr
 obtain⟨ks,cs,vs⟩:=p
 dsimp only[inV]at *
 clear e hv hk
 refine spi (fn:=Tryz.f87) _ ?_
 conv=>whnf
 repeat' first
  |(refine za (by kernel_rfl) ?_;conv=>whnf)
  |(refine zm ?_ ?_;(focus (first|rfl|exact bne_self_eq_false _));conv=>whnf)
  |(refine zm ?_ ?_;(focus ((try simp only[qA])<;>(try simp only[wA])<;>omega));conv=>whnf)
  |(refine zg (by(try simp only[wA,wL])<;>omega) (by(try simp only[wA,wL])<;>omega) ?_;conv=>whnf)
  |(refine zp (hvi) rfl rfl ?_;conv=>whnf)
  |(refine zar (hck) rfl rfl ?_;conv=>whnf)
  |(refine zar (hcc) rfl rfl ?_;conv=>whnf)
  |(refine z7v 4 hik rfl rfl rfl rfl ?_;conv=>whnf)
  |(refine z7v 11 hic rfl rfl rfl rfl ?_;conv=>whnf)
  |(refine zbo (hvr) rfl rfl rfl ?_;conv=>whnf)
  |(refine ze ?_;conv=>whnf)
 exact(zu [] [8,16])
end Go.VL
