/- V-logic -/
import Derived.Test.YtdbhfajlffaneaaGreatVT1
import Derived.Test.YtdbhfajlffaneaaGreatVMA
import Derived.Test.YtdbhfajlffaneaaGreatVEG
import Derived.Test.YtdbhfajlffaneaaGreatVW8
namespace Go.VL
open Go.Proofs
set_option maxRecDepth 10000
set_option linter.unusedSimpArgs false
set_option linter.unusedVariables false
def pgN (p:Pg):Nat:=p.keys.length+p.kids.length+p.vals.length
def yd9:List Pg→Int→Int
 |[],k=>k
 |p::t,k=>if szI (pgN p) k<0 then -1 else yd9 t (szI (pgN p) k)
def yd8 (ps:List Pg) (k:Int):Int:=if k-ps.length<0 then -1 else yd9 ps (k-ps.length)
theorem yga {ps:List Pg}:∀{k:Int},¬yd9 ps k<0→k≤1048576→∀p∈ps,pgN p≤1048576:=by
 induction ps with
 |nil=>intro k h hk p hp;cases hp
 |cons q t ih =>
  intro k h hk p hp
  unfold yd9 at h
  split at h
  ·omega
  ·rename_i g
   have hl:=z3d g
   rcases List.mem_cons.1 hp with rfl|hp
   ·omega
   ·exact ih h (yfe hk (by omega)) p hp
theorem yfy {ps:List Pg}:∀{k:Int},yd9 ps k≤k∨yd9 ps k<0:=by
 induction ps with
 |nil=>intro k;exact .inl (Int.le_refl _)
 |cons q t ih =>
  intro k
  unfold yd9
  split
  ·exact .inr (by omega)
  ·rename_i g
   rcases ih (k:=szI (pgN q) k)with h|h
   ·have:szI (pgN q) k≤k:=by unfold szI at g⊢;split at g<;>omega
    exact .inl (by omega)
   ·exact .inr h
theorem ygs {ps:List Pg} {k:Int} (h:¬yd8 ps k<0):yd8 ps k≤k:=by
 unfold yd8 at h⊢
 split
 ·omega
 ·rename_i g
  rw[if_neg g]at h
  rcases yfy (ps:=ps) (k:=k-ps.length)with h1|h1<;>omega
theorem ye2 {ps:List Pg} (h:∀p∈ps,pgN p≤1048576) (i:Nat):pgN (ps.getD i ⟨[],[],[]⟩)≤1048576:=by
 by_cases c:i<ps.length
 ·rw[show ps.getD i ⟨[],[],[]⟩=ps[i] by simp[List.getD,c]];exact h _ (List.getElem_mem c)
 ·rw[show ps.getD i ⟨[],[],[]⟩=⟨[],[],[]⟩ by simp[List.getD,c]];decide
theorem ygx {ps:List Pg} {k:Int} (h:¬yd8 ps k<0) (hk:k≤1048576):ps.length≤1048576∧∀p∈ps,pgN p≤1048576:=by
 unfold yd8 at h
 split at h
 ·omega
 ·exact⟨by omega,yga h (by omega)⟩
theorem ygy {ps:List Pg} (h:ps.length≤1048576) (h2:∀p∈ps,pgN p≤1048576):pB ps:=by
 have k:∀i:Int,pgN (zb ps i)≤1048576:=λi=>ye2 h2 i.toNat
 exact⟨by omega,λi=>by have:=k i;unfold pgN at this;omega,λi=>by have:=k i;unfold pgN at this;omega,λi=>by have:=k i;unfold pgN at this;omega⟩
theorem yee (xs:List Int) (k:Int) (hl:xs.length≤9223372036854775807) (h0:0≤k) (h1:k≤1048576):zr Tryz.prog 142 0 [.c (.nums .i64 xs),.c (.int .i64 k)] [] 0 (.c (.int .i64 (szI xs.length k))) []:=by
 refine spi (fn:=Tryz.f142) _ ?_
 conv=>whnf
 repeat' first
  |(refine zk (λh=>?_) (λh=>?_)<;>(try simp only[qA]at h)<;>(try simp only[wA,wN]at h)<;>conv=>whnf)
  |refine zi ?_
  |(refine zg (by(try simp only[wA,wN,wL])<;>omega) (by(try simp only[wA,wN,wL])<;>omega) ?_;conv=>whnf)
 all_goals unfold szI;(repeat first|rw[if_pos (by assumption)]|rw[if_neg (by assumption)]|rw[if_neg (by rw[Bool.not_eq_true];assumption)]|rw[if_neg (by rw[Bool.not_eq_false];assumption)]|rw[if_pos (by omega)]|rw[if_neg (by omega)]);try rfl
theorem yfj (p:Pg) (k:Int) (g1:p.keys.length≤9223372036854775807) (g2:p.kids.length≤9223372036854775807) (g3:p.vals.length≤9223372036854775807) (h0:0≤k) (h1:k≤1048576):zr Tryz.prog 103 0 [pgV p,.c (.int .i64 k)] [] 0 (.c (.int .i64 (szI (pgN p) k))) []:=by
 have e1:szI p.keys.length k=if k-p.keys.length<0 then -1 else k-p.keys.length:=rfl
 have e0:szI (pgN p) k=if k-(p.keys.length+p.kids.length+p.vals.length:Nat)<0 then -1 else k-(p.keys.length+p.kids.length+p.vals.length:Nat):=rfl
 by_cases c1:k-p.keys.length<0
 ·rw[if_pos c1]at e1
  have s1:=yee p.keys k g1 h0 h1
  rw[e1]at s1
  rw[if_pos (by omega)]at e0
  rw[e0]
  refine spi (fn:=Tryz.f103) _ ?_
  conv=>whnf
  repeat' first
   |(refine zn ?_ ?_;(focus (first|rfl|exact beq_self_eq_true _));conv=>whnf)
   |refine zi ?_
   |(refine zp (s1) rfl rfl ?_;conv=>whnf)
  all_goals rfl
 rw[if_neg c1]at e1
 have s1:=yee p.keys k g1 h0 h1
 rw[e1]at s1
 have e2:szI p.kids.length (k-p.keys.length)=if k-p.keys.length-p.kids.length<0 then -1 else k-p.keys.length-p.kids.length:=rfl
 have s2:=yee p.kids (k-p.keys.length) g2 (by omega) (by omega)
 by_cases c2:k-p.keys.length-p.kids.length<0
 ·rw[if_pos c2]at e2
  rw[e2]at s2
  rw[if_pos (by omega)]at e0
  rw[e0]
  refine spi (fn:=Tryz.f103) _ ?_
  conv=>whnf
  repeat' first
   |(refine zn ?_ ?_;(focus (first|rfl|exact beq_self_eq_true _));conv=>whnf)
   |(refine zm ?_ ?_;(focus ((try simp only[qA])<;>(try simp only[wA])<;>omega));conv=>whnf)
   |refine zi ?_
   |(refine zp (s1) rfl rfl ?_;conv=>whnf)
   |(refine zp (s2) rfl rfl ?_;conv=>whnf)
  all_goals rfl
 rw[if_neg c2]at e2
 rw[e2]at s2
 have e3:szI p.vals.length (k-p.keys.length-p.kids.length)=if k-p.keys.length-p.kids.length-p.vals.length<0 then -1 else k-p.keys.length-p.kids.length-p.vals.length:=rfl
 have s3:=yee p.vals (k-p.keys.length-p.kids.length) g3 (by omega) (by omega)
 by_cases c3:k-p.keys.length-p.kids.length-p.vals.length<0
 ·rw[if_pos c3]at e3
  rw[e3]at s3
  rw[if_pos (by omega)]at e0
  rw[e0]
  refine spi (fn:=Tryz.f103) _ ?_
  conv=>whnf
  repeat' first
   |(refine zn ?_ ?_;(focus (first|rfl|exact beq_self_eq_true _));conv=>whnf)
   |(refine zm ?_ ?_;(focus ((try simp only[qA])<;>(try simp only[wA])<;>omega));conv=>whnf)
   |refine zi ?_
   |(refine zp (s1) rfl rfl ?_;conv=>whnf)
   |(refine zp (s2) rfl rfl ?_;conv=>whnf)
   |(refine zp (s3) rfl rfl ?_;conv=>whnf)
  all_goals rfl
 rw[if_neg c3]at e3
 rw[e3]at s3
 rw[if_neg (by omega)]at e0
 rw[e0,show k-(p.keys.length+p.kids.length+p.vals.length:Nat)=k-p.keys.length-p.kids.length-p.vals.length by omega]
 refine spi (fn:=Tryz.f103) _ ?_
 conv=>whnf
 repeat' first
  |(refine zm ?_ ?_;(focus ((try simp only[qA])<;>(try simp only[wA])<;>omega));conv=>whnf)
  |refine zi ?_
  |(refine zp (s1) rfl rfl ?_;conv=>whnf)
  |(refine zp (s2) rfl rfl ?_;conv=>whnf)
  |(refine zp (s3) rfl rfl ?_;conv=>whnf)
 all_goals rfl
theorem ye8 (ps:List Pg) (k:Int) (hc:ps.length≤9223372036854775807) (hl:∀p∈ps,p.keys.length≤9223372036854775807∧p.kids.length≤9223372036854775807∧p.vals.length≤9223372036854775807) (h0:0≤k) (h1:k≤1048576):zr Tryz.prog 64 0 [.c (.pgs ps),.c (.int .i64 k)] [] 0 (.c (.int .i64 (yd8 ps k))) []:=by
 refine spi (fn:=Tryz.f64) _ ?_
 conv=>whnf
 repeat' first
  |(refine zk (λh=>?_) (λh=>?_)<;>(try simp only[qA]at h)<;>(try simp only[wA,wN]at h)<;>conv=>whnf)
  |refine zi ?_
  |(refine zg (by(try simp only[wA,wN,wL])<;>omega) (by(try simp only[wA,wN,wL])<;>omega) ?_;conv=>whnf)
 ·unfold yd8;(repeat first|rw[if_pos (by assumption)]|rw[if_neg (by assumption)]|rw[if_neg (by rw[Bool.not_eq_true];assumption)]|rw[if_neg (by rw[Bool.not_eq_false];assumption)]|rw[if_pos (by omega)]|rw[if_neg (by omega)])
 have e:yd8 ps k=yd9 ps (k-ps.length):=by unfold yd8;(repeat first|rw[if_pos (by assumption)]|rw[if_neg (by assumption)]|rw[if_neg (by rw[Bool.not_eq_true];assumption)]|rw[if_neg (by rw[Bool.not_eq_false];assumption)]|rw[if_pos (by omega)]|rw[if_neg (by omega)])
 have h2:¬k-(ps.length:Int)<0:=h
 refine zd0 (λ(i:Nat) (k':Int)=>i≤ps.length∧0≤k'∧k'≤1048576∧yd9 (ps.drop i) k'=yd8 ps k)
  (λi k'=>⟨27,0,[(0,.c (.pgs ps)),(1,.c (.int .i64 k')),(5,.c (.int .i64 i))],[]⟩) (λi k'=>ps.length-i) 0 (k-ps.length) ⟨by omega,by omega,by omega,e.symm⟩ (λ_ _=>Nat.zero_le _) zbn (λi k' hi=>?_)
 obtain⟨h3,h4,h5,hs⟩:=hi
 have hli:(ps.getD i ⟨[],[],[]⟩).keys.length≤9223372036854775807∧(ps.getD i ⟨[],[],[]⟩).kids.length≤9223372036854775807∧(ps.getD i ⟨[],[],[]⟩).vals.length≤9223372036854775807:=by
  by_cases hi:i<ps.length
  ·rw[show ps.getD i ⟨[],[],[]⟩=ps[i] by simp[List.getD,hi]];exact hl _ (List.getElem_mem hi)
  ·rw[show ps.getD i ⟨[],[],[]⟩=⟨[],[],[]⟩ by simp[List.getD,hi]];simp
 have hd:i<ps.length→yd9 (ps.drop i) k'=(if szI (pgN (ps.getD i ⟨[],[],[]⟩)) k'<0 then -1 else yd9 (ps.drop (i+1)) (szI (pgN (ps.getD i ⟨[],[],[]⟩)) k')):=λh=>by rw[zg0 ⟨[],[],[]⟩ h];rfl
 have hb:=yfe (n:=pgN (ps.getD i ⟨[],[],[]⟩)) h5 (by omega)
 have hsz:=yfj (ps.getD i ⟨[],[],[]⟩) k' hli.1 hli.2.1 hli.2.2 h4 h5
 conv=>whnf
 repeat' first
  |(refine za (by(try simp only[wA,wN,wL])<;>omega) ?_;conv=>whnf)
  |(refine zk (λh=>?_) (λh=>?_)<;>(try simp only[qA]at h)<;>(try simp only[wA,wN]at h)<;>conv=>whnf)
  |refine zi ?_
  |(refine zg (by(try simp only[wA,wN,wL])<;>omega) (by(try simp only[wA,wN,wL])<;>omega) ?_;conv=>whnf)
  |(refine zp (hsz) rfl rfl ?_;conv=>whnf)
 ·rw[←hs,hd (by omega)];(repeat first|rw[if_pos (by assumption)]|rw[if_neg (by assumption)]|rw[if_neg (by rw[Bool.not_eq_true];assumption)]|rw[if_neg (by rw[Bool.not_eq_false];assumption)]|rw[if_pos (by omega)]|rw[if_neg (by omega)])
 ·refine⟨⟨(i+1,szI (pgN (ps.getD i ⟨[],[],[]⟩)) k'),?_⟩,zbn,by dsimp only;omega⟩;(try dsimp only)
  refine⟨by omega,by omega,hb,?_⟩
  rw[←hs,hd (by omega)];(repeat first|rw[if_pos (by assumption)]|rw[if_neg (by assumption)]|rw[if_neg (by rw[Bool.not_eq_true];assumption)]|rw[if_neg (by rw[Bool.not_eq_false];assumption)]|rw[if_pos (by omega)]|rw[if_neg (by omega)])
 ·rw[←hs,show ps.drop i=[]from List.drop_eq_nil_of_le (by omega)];rfl
theorem ygp (root:Int) (ps:List Pg) (k:Int) (hc:ps.length≤9223372036854775807) (hl:∀p∈ps,p.keys.length≤9223372036854775807∧p.kids.length≤9223372036854775807∧p.vals.length≤9223372036854775807) (h0:0≤k) (h1:k≤1048576):zr Tryz.prog 20 0 [trV root ps,.c (.int .i64 k)] [] 0 (.c (.int .i64 (yd8 ps k))) []:=by
 have h:=ye8 ps k hc hl h0 h1
 have hn:yd8 ps k<0→yd8 ps k=-1:=by
  have key:∀(l:List Pg) (q:Int),0≤q→yd9 l q<0→yd9 l q=-1:=by
   intro l
   induction l with
   |nil=>intro q h0 h1;unfold yd9 at h1;omega
   |cons p t ih =>
    intro q h0 h1
    unfold yd9 at h1⊢
    split
    ·rfl
    ·rename_i g;rw[if_neg g]at h1;exact ih _ (by omega) h1
  unfold yd8
  split
  ·intro _;rfl
  ·exact key _ _ (by omega)
 generalize yd8 ps k=V at *
 refine spi (fn:=Tryz.f20) _ ?_
 conv=>whnf
 repeat' first
  |(refine zk (λh=>?_) (λh=>?_)<;>(try simp only[qA]at h)<;>(try simp only[wA,wN]at h)<;>conv=>whnf)
  |refine zi ?_
  |(refine zp (h) rfl rfl ?_;conv=>whnf)
 ·rw[hn (by assumption)]
 ·rfl
theorem yd7 (xs:List Int) (hl:xs.length≤4294967296):zr Tryz.prog 25 0 [.c (.nums .i64 xs)] [] 1 (.slc 0) [(0,.arr (.nums .i64 xs))]:=by
 refine spi (fn:=Tryz.f25) _ ?_
 conv=>whnf
 repeat' (refine za (by(try simp only[wA,wN,wL])<;>omega) ?_;conv=>whnf)
 refine zau (λ(i:Nat)=>i≤xs.length)
  (λi=>⟨22,1,[(0,.c (.nums .i64 xs)),(3,.slc 0),(4,.c (.int .i64 i))],[(0,.arr (.nums .i64 (xs.take i++List.replicate (xs.length-i) 0)))]⟩) (λi=>xs.length-i) 0 (by omega) (λ_=>Nat.zero_le _) (ydn [] [0]) (λi hi=>?_)
 conv=>whnf
 repeat' first
  |(refine za (by(try simp only[wA,wN,wL])<;>omega) ?_;conv=>whnf)
  |(refine zk (λh=>?_) (λh=>?_)<;>(try simp only[qA]at h)<;>(try simp only[wA,wN]at h)<;>conv=>whnf)
  |(refine zg (by(try simp only[wA,wN,wL])<;>omega) (by(try simp only[wA,wN,wL])<;>omega) ?_;conv=>whnf)
 ·rw[Int.toNat_natCast,yej 0 0 (by omega)]
  refine⟨⟨i+1,?_⟩,(ydn [] [0]),by dsimp only;omega⟩;(try dsimp only)
  omega
 ·rw[z35 0 (by omega)]
  exact(zu [] [0])
theorem yfm (p:Pg) (g1:p.keys.length≤4294967296) (g2:p.kids.length≤4294967296) (g3:p.vals.length≤4294967296):zr Tryz.prog 107 0 [pgV p] [] 3 (.agg [.slc 0,.slc 1,.slc 2]) [(0,.arr (.nums .i64 p.keys)),(1,.arr (.nums .i64 p.kids)),(2,.arr (.nums .i64 p.vals))]:=by
 refine spi (fn:=Tryz.f107) _ ?_
 conv=>whnf
 repeat' first
  |(refine zbe (yd7 _ g1) rfl rfl rfl rfl ?_;conv=>whnf)
  |(refine zbe (yd7 _ g2) rfl rfl rfl rfl ?_;conv=>whnf)
  |(refine zbe (yd7 _ g3) rfl rfl rfl rfl ?_;conv=>whnf)
 all_goals exact(zu [] [3,4,5])
theorem yeo (ps:List Pg) (hp:pB ps):zr Tryz.prog 67 0 [.c (.pgs ps)] [] 1 (.slc 0) [(0,.deep false 0 (.pgs ps) [])]:=by
 have hl:=hp.len
 refine spi (fn:=Tryz.f67) _ ?_
 conv=>whnf
 repeat' (refine za (by(try simp only[wA,wN,wL])<;>omega) ?_;conv=>whnf)
 refine zlj ?_
 conv=>whnf
 repeat' (refine ze ?_;conv=>whnf)
 refine zau (λ(i:Nat)=>i≤ps.length)
  (λi=>⟨23,1,[(0,.c (.pgs ps)),(3,.slc 0),(4,.c (.int .i64 i))],[(0,.deep false 0 (.pgs (ps.take i++List.replicate (ps.length-i) ⟨[],[],[]⟩)) [])]⟩) (λi=>ps.length-i) 0 (by omega) (λ_=>Nat.zero_le _) (ydn [] [0]) (λi hi=>?_)
 have k1:=hp.keys i
 have k2:=hp.kids i
 have k3:=hp.vals i
 dsimp only[zb,Int.toNat_natCast]at k1 k2 k3
 have ht:=yfm (ps.getD i ⟨[],[],[]⟩) k1 k2 k3
 conv=>whnf
 repeat' first
  |(refine za (by(try simp only[wA,wN,wL])<;>omega) ?_;conv=>whnf)
  |(refine zk (λh=>?_) (λh=>?_)<;>(try simp only[qA]at h)<;>(try simp only[wA,wN]at h)<;>conv=>whnf)
  |(refine zg (by(try simp only[wA,wN,wL])<;>omega) (by(try simp only[wA,wN,wL])<;>omega) ?_;conv=>whnf)
  |(refine zbe (ht) rfl rfl rfl rfl ?_;conv=>whnf)
  |(refine ze ?_;conv=>whnf)
 ·have e:=yej (⟨[],[],[]⟩:Pg) ⟨[],[],[]⟩ (xs:=ps) (k:=i) (by omega)
  refine⟨⟨i+1,by omega⟩,(zsg [.cl 0] [] [0] ?_),by dsimp only;omega⟩
  conv=>whnf
  refine⟨by repeat first|exact trivial|refine⟨rfl,?_⟩,⟨?_,trivial⟩,rfl,rfl,rfl,rfl,rfl,rfl,rfl⟩
  exact congrArg (λz=>some (O.deep false 0 (C.pgs z) [])) e
 ·rw[z35 (⟨[],[],[]⟩:Pg) (xs:=ps) (k:=i) (by omega)]
  exact(zu [] [0])
theorem ygr (root:Int) (ps:List Pg) (hp:pB ps):zr Tryz.prog 23 0 [trV root ps] [] 1 (.agg [.c (.int .i64 root),.slc 0]) [(0,.deep false 0 (.pgs ps) [])]:=by
 refine spi (fn:=Tryz.f23) _ ?_
 conv=>whnf
 repeat' first|(refine zbe (yeo _ hp) rfl rfl rfl rfl ?_;conv=>whnf)|(refine ze ?_;conv=>whnf)
 exact(zu [] [3])
theorem yed (xs:List Int) (hl:xs.length≤4294967296):zr Tryz.prog 27 0 [.c (.nums .i64 xs),.c (.nums .i64 xs)] [] 0 (.c (.bool true)) []:=by
 refine spi (fn:=Tryz.f27) _ ?_
 conv=>whnf
 repeat' first|(refine zk (λh=>?_) (λh=>?_)<;>(try simp only[qA]at h)<;>(try simp only[wA,wN]at h)<;>conv=>whnf)|refine zd ?_
 ·exact absurd trivial h
 refine zau (λ(i:Nat)=>True) (λi=>⟨26,0,[(0,.c (.nums .i64 xs)),(1,.c (.nums .i64 xs)),(5,.c (.int .i64 i))],[]⟩) (λi=>xs.length-i) 0 trivial (λ_=>Nat.zero_le _) zbn (λi hi=>?_)
 conv=>whnf
 repeat' first
  |(refine za (by kernel_rfl) ?_;conv=>whnf)
  |(refine za (by(try simp only[wA,wN,wL])<;>omega) ?_;conv=>whnf)
  |(refine zk (λh=>?_) (λh=>?_)<;>(try simp only[qA]at h)<;>(try simp only[wA,wN]at h)<;>conv=>whnf)
  |refine zc ?_
  |refine zd ?_
  |(refine zg (by(try simp only[wA,wN,wL])<;>omega) (by(try simp only[wA,wN,wL])<;>omega) ?_;conv=>whnf)
  |(refine ze ?_;conv=>whnf)
 ·exact absurd trivial h
 ·refine⟨⟨i+1,?_⟩,zbn,by dsimp only;omega⟩;(try dsimp only)
 ·rfl
theorem ygk:zr Tryz.prog 27 0 [.nil,.nil] [] 0 (.c (.bool true)) []:=by
 refine spi (fn:=Tryz.f27) _ ?_
 conv=>whnf
 repeat' first|(refine zk (λh=>?_) (λh=>?_)<;>(try simp only[qA]at h)<;>(try simp only[wA,wN]at h)<;>conv=>whnf)|refine zd ?_
 ·exact absurd trivial h
 refine zau (λ(_:Nat)=>True) (λ_=>⟨26,0,[(0,.nil),(1,.nil),(5,.c (.int .i64 0))],[]⟩) (λ_=>0) 0 trivial (λ_=>Nat.le_refl _) (ydn [] []) (λi _=>?_)
 conv=>whnf
 repeat' first|(refine zk (λh=>?_) (λh=>?_)<;>(try simp only[qA]at h)<;>(try simp only[wA,wN]at h)<;>conv=>whnf)|refine zc ?_|(refine ze ?_;conv=>whnf)
 all_goals first|rfl|(exfalso;omega)
theorem yfo (p:Pg) (g1:p.keys.length≤4294967296) (g2:p.kids.length≤4294967296) (g3:p.vals.length≤4294967296):zr Tryz.prog 110 0 [pgV p,pgV p] [] 0 (.c (.bool true)) []:=by
 refine spi (fn:=Tryz.f110) _ ?_
 conv=>whnf
 repeat' first
  |(refine zm ?_ ?_;(focus (first|rfl|exact bne_self_eq_false _));conv=>whnf)
  |refine zc ?_
  |(refine zp (yed _ g1) rfl rfl ?_;conv=>whnf)
  |(refine zp (yed _ g2) rfl rfl ?_;conv=>whnf)
  |(refine zp (yed _ g3) rfl rfl ?_;conv=>whnf)
 all_goals rfl
theorem yeq (ps:List Pg) (hp:pB ps):zr Tryz.prog 70 0 [.c (.pgs ps),.c (.pgs ps)] [] 0 (.c (.bool true)) []:=by
 have hl:=hp.len
 refine spi (fn:=Tryz.f70) _ ?_
 conv=>whnf
 repeat' first|(refine zk (λh=>?_) (λh=>?_)<;>(try simp only[qA]at h)<;>(try simp only[wA,wN]at h)<;>conv=>whnf)|refine zd ?_
 ·exact absurd trivial h
 refine zau (λ(i:Nat)=>True) (λi=>⟨27,0,[(0,.c (.pgs ps)),(1,.c (.pgs ps)),(5,.c (.int .i64 i))],[]⟩) (λi=>ps.length-i) 0 trivial (λ_=>Nat.zero_le _) zbn (λi hi=>?_)
 have k1:=hp.keys i
 have k2:=hp.kids i
 have k3:=hp.vals i
 dsimp only[zb,Int.toNat_natCast]at k1 k2 k3
 have ht:=yfo (ps.getD i ⟨[],[],[]⟩) k1 k2 k3
 conv=>whnf
 repeat' first
  |(refine za (by kernel_rfl) ?_;conv=>whnf)
  |(refine za (by(try simp only[wA,wN,wL])<;>omega) ?_;conv=>whnf)
  |(refine zk (λh=>?_) (λh=>?_)<;>(try simp only[qA]at h)<;>(try simp only[wA,wN]at h)<;>conv=>whnf)
  |refine zc ?_
  |refine zd ?_
  |(refine zg (by(try simp only[wA,wN,wL])<;>omega) (by(try simp only[wA,wN,wL])<;>omega) ?_;conv=>whnf)
  |(refine zw (ht) rfl rfl ?_;conv=>whnf)
  |(refine ze ?_;conv=>whnf)
 ·refine⟨⟨i+1,?_⟩,zbn,by dsimp only;omega⟩;(try dsimp only)
 ·cases h
 ·rfl
theorem ygq (root:Int) (ps:List Pg) (hp:pB ps):zr Tryz.prog 28 0 [trV root ps,trV root ps] [] 0 (.c (.bool true)) []:=by
 refine spi (fn:=Tryz.f28) _ ?_
 conv=>whnf
 repeat' first
  |(refine zm ?_ ?_;(focus (first|rfl|exact bne_self_eq_false _));conv=>whnf)
  |refine zc ?_
  |(refine zp (yeq ps hp) rfl rfl ?_;conv=>whnf)
 all_goals rfl
def mkN:Nat→Nat→List Int→Int→List Int×Int
 |0,_,xs,k=>(xs,k)
 |n+1,i,xs,k=>mkN n (i+1) (xs.set i k) (k+1)
theorem ye1 (n:Nat):∀(i:Nat) (xs:List Int) (k:Int),(mkN n i xs k).2=k+n∧(mkN n i xs k).1.length=xs.length:=by
 induction n with
 |zero=>intro i xs k;exact⟨by simp[mkN],rfl⟩
 |succ n ih =>
  intro i xs k
  unfold mkN
  obtain⟨h1,h2⟩:=ih (i+1) (xs.set i k) (k+1)
  exact⟨by rw[h1];omega,by rw[h2];simp⟩
theorem yf7 (n:Nat):∀(i:Nat) (xs:List Int) (k:Int) (j:Nat),i+n=xs.length→(∀t,t<i→xs.getD t 0=k-i+t)→j<xs.length→(mkN n i xs k).1.getD j 0=k-i+j:=by
 induction n with
 |zero=>intro i xs k j h1 h2 h3;exact h2 j (by omega)
 |succ n ih =>
  intro i xs k j h1 h2 h3
  unfold mkN
  rw[ih (i+1) (xs.set i k) (k+1) j (by simp;omega) (λt ht=>?_) (by simp;omega)]
  ·omega
  ·rw[z7 _ _ _ _ _ (by omega)]
   split
   ·omega
   ·rw[h2 t (by omega)];omega
abbrev mkL (xs:List Int) (k:Int):List Int:=(mkN xs.length 0 xs k).1
theorem yd5 (xs:List Int) (k:Int):(mkL xs k).length=xs.length:=(ye1 _ _ _ _).2
theorem yei {xs:List Int} {k:Int} {j:Nat} (h:j<(mkL xs k).length):(mkL xs k).getD j 0=k+j:=by
 rw[yd5]at h
 have:=yf7 xs.length 0 xs k j (by omega) (λt ht=>by omega) h
 rw[this];omega
theorem yec (xs:List Int) (k:Int) (hl:xs.length≤4294967296) (h0:0≤k) (h1:k≤1099511627776000):zr Tryz.prog 32 1 [.slc 0,.c (.int .i64 k)] [(0,.deep true 0 (.nums .i64 xs) [])] 1 (.c (.int .i64 (k+xs.length))) [(0,.deep true 0 (.nums .i64 (mkL xs k)) [])]:=by
 unfold mkL
 obtain⟨V,hV⟩:∃V,mkN xs.length 0 xs k=V:=⟨_,rfl⟩
 have hs:=(ye1 xs.length 0 xs k).1
 rw[hV]at hs⊢
 rw[←hs]
 refine spi (fn:=Tryz.f32) _ ?_
 conv=>whnf
 repeat' (refine ze ?_;conv=>whnf)
 refine zk5 (λ(i:Nat) (ys:List Int) (q:Int)=>i≤xs.length∧ys.length=xs.length∧q=k+i∧mkN (xs.length-i) i ys q=V)
  (λi ys q=>⟨19,1,[(0,.slc 0),(1,.c (.int .i64 q)),(5,.c (.int .i64 i))],[(0,.deep true 0 (.nums .i64 ys) [])]⟩) (λi ys q=>xs.length-i) 0 xs k ⟨by omega,rfl,by omega,by simpa using hV⟩ (λ_ _ _=>Nat.le_refl _) (ydn [] [0]) (λi ys q hi=>?_)
 obtain⟨hi,hy,hq,hv⟩:=hi
 conv=>whnf
 repeat' first
  |(refine za (by(try simp only[wA,wN,wL])<;>omega) ?_;conv=>whnf)
  |(refine zk (λh=>?_) (λh=>?_)<;>(try simp only[qA]at h)<;>(try simp only[wA,wN]at h)<;>conv=>whnf)
  |(refine zg (by(try simp only[wA,wN,wL])<;>omega) (by(try simp only[wA,wN,wL])<;>omega) ?_;conv=>whnf)
  |(refine ze ?_;conv=>whnf)
 ·refine⟨⟨(i+1,ys.set i q,q+1),?_⟩,(ydn [] [0]),by dsimp only;omega⟩;(try dsimp only)
  refine⟨by omega,by simp[hy],by omega,?_⟩
  rw[show xs.length-i=xs.length-(i+1)+1 by omega]at hv
  exact hv
 ·rw[show xs.length-i=0 by omega]at hv
  subst hv
  exact(zu [] [0])
theorem ygc (k:Int):zr Tryz.prog 32 0 [.nil,.c (.int .i64 k)] [] 0 (.c (.int .i64 k)) []:=by
 refine spi (fn:=Tryz.f32) _ ?_
 conv=>whnf
 skip
 refine zau (λ(_:Nat)=>True) (λ_=>⟨19,0,[(0,.nil),(1,.c (.int .i64 k)),(5,.c (.int .i64 0))],[]⟩) (λ_=>0) 0 trivial (λ_=>Nat.le_refl _) (ydn [] []) (λi _=>?_)
 conv=>whnf
 repeat' first|(refine zk (λh=>?_) (λh=>?_)<;>(try simp only[qA]at h)<;>(try simp only[wA,wN]at h)<;>conv=>whnf)|refine zi ?_
 all_goals first|rfl|(exfalso;omega)
theorem yge (k:Int):zr Tryz.prog 33 0 [.nil,.c (.int .i64 k)] [] 0 (.c (.int .i64 k)) []:=by
 refine spi (fn:=Tryz.f33) _ ?_
 conv=>whnf
 skip
 refine zau (λ(_:Nat)=>True) (λ_=>⟨21,0,[(0,.nil),(1,.c (.int .i64 k)),(5,.c (.int .i64 0))],[]⟩) (λ_=>0) 0 trivial (λ_=>Nat.le_refl _) (ydn [] []) (λi _=>?_)
 conv=>whnf
 repeat' first|(refine zk (λh=>?_) (λh=>?_)<;>(try simp only[qA]at h)<;>(try simp only[wA,wN]at h)<;>conv=>whnf)|refine zi ?_
 all_goals first|rfl|(exfalso;omega)
theorem yeb (xs:List Int) (k:Int) (hl:xs.length≤4294967296) (h0:0≤k) (h1:k≤1099511627776000) (hx:∀j:Nat,j<xs.length→xs.getD j 0=k+j):zr Tryz.prog 33 0 [.c (.nums .i64 xs),.c (.int .i64 k)] [] 0 (.c (.int .i64 (k+xs.length))) []:=by
 refine spi (fn:=Tryz.f33) _ ?_
 conv=>whnf
 skip
 refine zd0 (λ(i:Nat) (q:Int)=>i≤xs.length∧q=k+i)
  (λi q=>⟨21,0,[(0,.c (.nums .i64 xs)),(1,.c (.int .i64 q)),(5,.c (.int .i64 i))],[]⟩) (λi q=>xs.length-i) 0 k ⟨by omega,by omega⟩ (λ_ _=>Nat.zero_le _) (ydn [] [0]) (λi q hi=>?_)
 obtain⟨hi,hq⟩:=hi
 conv=>whnf
 repeat' first
  |(refine za (by(try simp only[wA,wN,wL])<;>omega) ?_;conv=>whnf)
  |(refine zk (λh=>?_) (λh=>?_)<;>(try simp only[qA]at h)<;>(try simp only[wA,wN]at h)<;>conv=>whnf)
  |refine zi ?_
  |(refine zg (by(try simp only[wA,wN,wL])<;>omega) (by(try simp only[wA,wN,wL])<;>omega) ?_;conv=>whnf)
 ·exact absurd ((hx i (by omega)).trans hq.symm) h
 ·refine⟨⟨(i+1,q+1),?_⟩,(ydn [] []),by dsimp only;omega⟩;(try dsimp only)
  exact⟨by omega,by omega⟩
 ·omega
def mpg (p:Pg) (q:Int):Pg:=⟨mkL p.keys q,mkL p.kids (q+p.keys.length),mkL p.vals (q+p.keys.length+p.kids.length)⟩
def mpN:Nat→Nat→List Pg→Int→List Pg×Int
 |0,_,d,k=>(d,k)
 |n+1,i,d,k=>mpN n (i+1) (d.set i (mpg (d.getD i ⟨[],[],[]⟩) k)) (k+(d.getD i ⟨[],[],[]⟩).keys.length+(d.getD i ⟨[],[],[]⟩).kids.length+(d.getD i ⟨[],[],[]⟩).vals.length)
theorem ygw (n:Nat):∀(i:Nat) (d:List Pg) (k:Int),(∀j,i≤j→pgN (d.getD j ⟨[],[],[]⟩)≤1048576)→i+n≤d.length→k≤(mpN n i d k).2∧(mpN n i d k).2≤k+n*1048576:=by
 induction n with
 |zero=>intro i d k h g;exact⟨Int.le_refl _,by show k≤_;omega⟩
 |succ n ih =>
  intro i d k h g
  unfold mpN
  have hi:=h i (Nat.le_refl _)
  unfold pgN at hi
  have:=ih (i+1) (d.set i (mpg (d.getD i ⟨[],[],[]⟩) k)) (k+(d.getD i ⟨[],[],[]⟩).keys.length+(d.getD i ⟨[],[],[]⟩).kids.length+(d.getD i ⟨[],[],[]⟩).vals.length) (λj hj=>by
   rw[z7 _ _ _ _ _ (by omega),if_neg (by omega)];exact h j (by omega)) (by rw[List.length_set];omega)
  omega
theorem yez (ps:List Pg) (k:Int) (hl:ps.length≤1048576) (hk:∀p∈ps,pgN p≤1048576) (h0:0≤k) (h1:k≤1):zr Tryz.prog 72 1 [.slc 0,.c (.int .i64 k)] [(0,.deep true 0 (.pgs ps) [])] 1 (.c (.int .i64 (mpN ps.length 0 ps k).2)) [(0,.deep true 0 (.pgs (mpN ps.length 0 ps k).1) [])]:=by
 obtain⟨V,hV⟩:∃V,mpN ps.length 0 ps k=V:=⟨_,rfl⟩
 rw[hV]
 refine spi (fn:=Tryz.f72) _ ?_
 conv=>whnf
 repeat' (refine ze ?_;conv=>whnf)
 refine zk5 (λ(i:Nat) (d:List Pg) (q:Int)=>i≤ps.length∧d.length=ps.length∧(∀j,i≤j→pgN (d.getD j ⟨[],[],[]⟩)≤1048576)∧0≤q∧q≤1+i*1048576∧mpN (ps.length-i) i d q=V)
  (λi d q=>⟨34,1,[(0,.slc 0),(1,.c (.int .i64 q)),(5,.c (.int .i64 i))],[(0,.deep true 0 (.pgs d) [])]⟩) (λi d q=>ps.length-i) 0 ps k ⟨by omega,rfl,λj _=>ye2 hk j,h0,by omega,by simpa using hV⟩ (λ_ _ _=>Nat.le_refl _) (ydn [] [0]) (λi d q hi=>?_)
 obtain⟨hi,hy,hd,hq0,hq1,hv⟩:=hi
 have hdi:=hd i (Nat.le_refl _)
 unfold pgN at hdi
 conv=>whnf
 skip
 refine ze ?_
 conv=>whnf
 repeat' (refine zk (λh=>?_) (λh=>?_)<;>(try simp only[qA]at h)<;>(try simp only[wA,wN]at h)<;>conv=>whnf)
 ·refine ze9 [.op 0 i,.dp 1,.dp 2,.dp 3,.pin 1,.pin 2,.pin 3] ?_
  conv=>whnf
  repeat' first
   |(refine za (by(try simp only[wA,wN,wL])<;>omega) ?_;conv=>whnf)
   |(refine zg (by(try simp only[wA,wN,wL])<;>omega) (by(try simp only[wA,wN,wL])<;>omega) ?_;conv=>whnf)
   |(refine zal [] [1] (yec (d.getD i ⟨[],[],[]⟩).keys q (by omega) (by omega) (by omega)) ⟨rfl,rfl,rfl,(by repeat first|exact trivial|refine⟨rfl,?_⟩),⟨rfl,rfl,rfl,rfl,rfl,rfl⟩,?_⟩;conv=>whnf)
   |(refine zal [] [2] (yec (d.getD i ⟨[],[],[]⟩).kids (q+(d.getD i ⟨[],[],[]⟩).keys.length) (by omega) (by omega) (by omega)) ⟨rfl,rfl,rfl,(by repeat first|exact trivial|refine⟨rfl,?_⟩),⟨rfl,rfl,rfl,rfl,rfl,rfl⟩,?_⟩;conv=>whnf)
   |(refine zal [] [3] (yec (d.getD i ⟨[],[],[]⟩).vals (q+(d.getD i ⟨[],[],[]⟩).keys.length+(d.getD i ⟨[],[],[]⟩).kids.length) (by omega) (by omega) (by omega)) ⟨rfl,rfl,rfl,(by repeat first|exact trivial|refine⟨rfl,?_⟩),⟨rfl,rfl,rfl,rfl,rfl,rfl⟩,?_⟩;conv=>whnf)
   |(refine zl (by first|rfl|omega) ?_;conv=>whnf)
   |(refine ze ?_;conv=>whnf)
  refine⟨⟨(i+1,d.set i (mpg (d.getD i ⟨[],[],[]⟩) q),q+(d.getD i ⟨[],[],[]⟩).keys.length+(d.getD i ⟨[],[],[]⟩).kids.length+(d.getD i ⟨[],[],[]⟩).vals.length),?_⟩,(zsg [.cl 0] [] [0] ?_),by dsimp only;omega⟩
  ·dsimp only
   refine⟨by omega,by simp[hy],λj hj=>?_,by omega,by omega,?_⟩
   ·rw[z7 _ _ _ _ _ (by omega),if_neg (by omega)]
    exact hd j (by omega)
   ·rw[show ps.length-i=ps.length-(i+1)+1 by omega]at hv
    exact hv
  conv=>whnf
  exact⟨by repeat first|exact trivial|refine⟨rfl,?_⟩,by repeat first|exact trivial|refine⟨rfl,?_⟩,rfl,rfl,rfl,rfl,rfl,rfl,rfl⟩
 ·skip
  repeat' (refine ze ?_;conv=>whnf)
  rw[show ps.length-i=0 by omega]at hv
  subst hv
  exact(zu [] [0])
theorem ygj (root:Int) (ps:List Pg) (k:Int) (hl:ps.length≤1048576) (hk:∀p∈ps,pgN p≤1048576) (h0:0≤k) (h1:k≤1):zr Tryz.prog 30 1 [.agg [.c (.int .i64 root),.slc 0],.c (.int .i64 k)] [(0,.deep true 0 (.pgs ps) [])] 1 (.c (.int .i64 (mpN ps.length 0 ps k).2)) [(0,.deep true 0 (.pgs (mpN ps.length 0 ps k).1) [])]:=by
 have h:=yez ps k hl hk h0 h1
 obtain⟨V,hV⟩:∃V,mpN ps.length 0 ps k=V:=⟨_,rfl⟩
 rw[hV]at h⊢
 refine spi (fn:=Tryz.f30) _ ?_
 conv=>whnf
 repeat' first
  |(refine zal [] [0] (h) ⟨rfl,rfl,rfl,(by repeat first|exact trivial|refine⟨rfl,?_⟩),⟨rfl,rfl,rfl,rfl,rfl,rfl⟩,?_⟩;conv=>whnf)
  |(refine ze ?_;conv=>whnf)
 exact(zu [] [0])
end Go.VL
namespace Go.VL
open Go.Proofs
set_option maxRecDepth 10000
set_option linter.unusedSimpArgs false
set_option linter.unusedVariables false
abbrev eoV (o:Opn):V:=.agg [.c (.int .i64 o.kind),.c (.int .i64 o.key),.c (.int .i64 o.value)]
theorem ygn (root:Int) (ps:List Pg) (hp:pB ps):zr Tryz.prog 23 0 [trV root ps] [] 0 (trV root ps) []:=by
 refine spi (fn:=Tryz.f23) _ ?_
 conv=>whnf
 repeat' first|(refine zbe (yeo _ hp) rfl rfl rfl rfl ?_;conv=>whnf)|(refine ze ?_;conv=>whnf)
 exact(zu [3] [])
theorem ygo (xs:List Int) (hl:xs.length≤4294967296):zr Tryz.prog 25 0 [.c (.nums .i64 xs)] [] 0 (.c (.nums .i64 xs)) []:=zdn (yd7 xs hl) rfl
theorem ygg (o:Opn):zr Tryz.prog 68 0 [eoV o] [] 0 (eoV o) []:=by
 refine spi (fn:=Tryz.f68) _ ?_
 conv=>whnf
 skip
 exact(zu [] [])
theorem yfs (xs:List Opn) (hl:xs.length≤4294967296):zr Tryz.prog 24 0 [.c (.ops xs)] [] 1 (.slc 0) [(0,.arr (.ops xs))]:=by
 refine spi (fn:=Tryz.f24) _ ?_
 conv=>whnf
 repeat' (refine za (by(try simp only[wA,wN,wL])<;>omega) ?_;conv=>whnf)
 refine zau (λ(i:Nat)=>i≤xs.length)
  (λi=>⟨23,1,[(0,.c (.ops xs)),(3,.slc 0),(4,.c (.int .i64 i))],[(0,.arr (.ops (xs.take i++List.replicate (xs.length-i) ⟨0,0,0⟩)))]⟩) (λi=>xs.length-i) 0 (by omega) (λ_=>Nat.zero_le _) (ydn [] [0]) (λi hi=>?_)
 have ht:=ygg (xs.getD i ⟨0,0,0⟩)
 conv=>whnf
 repeat' first
  |(refine za (by(try simp only[wA,wN,wL])<;>omega) ?_;conv=>whnf)
  |(refine zk (λh=>?_) (λh=>?_)<;>(try simp only[qA]at h)<;>(try simp only[wA,wN]at h)<;>conv=>whnf)
  |(refine zg (by(try simp only[wA,wN,wL])<;>omega) (by(try simp only[wA,wN,wL])<;>omega) ?_;conv=>whnf)
  |(refine zp (ht) rfl rfl ?_;conv=>whnf)
 ·have e:=yej (⟨0,0,0⟩:Opn) ⟨0,0,0⟩ (xs:=xs) (k:=i) (by omega)
  refine⟨⟨i+1,by omega⟩,(zbd [] [0] ⟨by repeat first|exact trivial|refine⟨rfl,?_⟩,⟨?_,trivial⟩,rfl,rfl,rfl,rfl,rfl,rfl,rfl⟩),by dsimp only;omega⟩
  exact congrArg (λz=>some (O.arr (C.ops z))) e
 ·rw[z35 (⟨0,0,0⟩:Opn) (xs:=xs) (k:=i) (by omega)]
  exact(zu [] [0])
theorem ygu (xs:List Opn) (hl:xs.length≤4294967296):zr Tryz.prog 24 0 [.c (.ops xs)] [] 0 (.c (.ops xs)) []:=zdn (yfs xs hl) rfl
theorem ygv (xs:List Opn) (k:Int) (hl:xs.length≤9223372036854775807) (h0:0≤k) (h1:k≤1048576):zr Tryz.prog 21 0 [.c (.ops xs),.c (.int .i64 k)] [] 0 (.c (.int .i64 (szI xs.length k))) []:=by
 refine spi (fn:=Tryz.f21) _ ?_
 conv=>whnf
 repeat' first
  |(refine zk (λh=>?_) (λh=>?_)<;>(try simp only[qA]at h)<;>(try simp only[wA,wN]at h)<;>conv=>whnf)
  |refine zi ?_
  |(refine zg (by(try simp only[wA,wN,wL])<;>omega) (by(try simp only[wA,wN,wL])<;>omega) ?_;conv=>whnf)
 all_goals unfold szI;(repeat first|rw[if_pos (by assumption)]|rw[if_neg (by assumption)]|rw[if_neg (by rw[Bool.not_eq_true];assumption)]|rw[if_neg (by rw[Bool.not_eq_false];assumption)]|rw[if_pos (by omega)]|rw[if_neg (by omega)]);try rfl
theorem ygb (o:Opn):zr Tryz.prog 71 0 [eoV o,eoV o] [] 0 (.c (.bool true)) []:=by
 refine spi (fn:=Tryz.f71) _ ?_
 conv=>whnf
 repeat' first|(refine zm ?_ ?_;(focus (first|rfl|exact bne_self_eq_false _));conv=>whnf)|refine zc ?_
 all_goals rfl
theorem ygt (xs:List Opn) (hl:xs.length≤4294967296):zr Tryz.prog 29 0 [.c (.ops xs),.c (.ops xs)] [] 0 (.c (.bool true)) []:=by
 refine spi (fn:=Tryz.f29) _ ?_
 conv=>whnf
 repeat' first|(refine zk (λh=>?_) (λh=>?_)<;>(try simp only[qA]at h)<;>(try simp only[wA,wN]at h)<;>conv=>whnf)|refine zd ?_
 ·exact absurd trivial h
 refine zau (λ(i:Nat)=>True) (λi=>⟨27,0,[(0,.c (.ops xs)),(1,.c (.ops xs)),(5,.c (.int .i64 i))],[]⟩) (λi=>xs.length-i) 0 trivial (λ_=>Nat.zero_le _) zbn (λi hi=>?_)
 have ht:=ygb (xs.getD i ⟨0,0,0⟩)
 conv=>whnf
 repeat' first
  |(refine za (by kernel_rfl) ?_;conv=>whnf)
  |(refine za (by(try simp only[wA,wN,wL])<;>omega) ?_;conv=>whnf)
  |(refine zk (λh=>?_) (λh=>?_)<;>(try simp only[qA]at h)<;>(try simp only[wA,wN]at h)<;>conv=>whnf)
  |refine zc ?_
  |refine zd ?_
  |(refine zg (by(try simp only[wA,wN,wL])<;>omega) (by(try simp only[wA,wN,wL])<;>omega) ?_;conv=>whnf)
  |(refine zw (ht) rfl rfl ?_;conv=>whnf)
  |(refine ze ?_;conv=>whnf)
 ·refine⟨⟨i+1,?_⟩,zbn,by dsimp only;omega⟩;(try dsimp only)
 ·cases h
 ·rfl
theorem ygm (xs:List Opn) (k:Int) (hl:xs.length≤1048576) (h0:0≤k) (h1:k≤1100000000000):zce Tryz.prog 31 1 [.slc 0,.c (.int .i64 k)] [(0,.arr (.ops xs))] (λm res hout=>∃(ys:List Opn) (q:Int),k≤q∧q≤1200000000000∧m=1∧res=.c (.int .i64 q)∧hout=[(0,.arr (.ops ys))]):=by
 refine spx (fn:=Tryz.f31) _ ?_
 conv=>whnf
 skip
 refine zk5 (λ(i:Nat) (ys:List Opn) (q:Int)=>i≤xs.length∧ys.length=xs.length∧q=k+3*i)
  (λi ys q=>⟨34,1,[(0,.slc 0),(1,.c (.int .i64 q)),(5,.c (.int .i64 i))],[(0,.arr (.ops ys))]⟩) (λi ys q=>xs.length-i) 0 xs k ⟨by omega,rfl,by omega⟩ (λ_ _ _=>Nat.le_refl _) (ydn [] [0]) (λi ys q hi=>?_)
 obtain⟨hi,hy,hq⟩:=hi
 conv=>whnf
 repeat' first
  |(refine za (by(try simp only[wA,wN,wL])<;>omega) ?_;conv=>whnf)
  |(refine zk (λh=>?_) (λh=>?_)<;>(try simp only[qA]at h)<;>(try simp only[wA,wN]at h)<;>conv=>whnf)
  |(refine zg (by(try simp only[wA,wN,wL])<;>omega) (by(try simp only[wA,wN,wL])<;>omega) ?_;conv=>whnf)
 ·refine⟨⟨(i+1,_,q+1+1+1),?_⟩,(ydn [] [0]),by dsimp only;omega⟩
  dsimp only
  refine⟨by omega,?_,by omega⟩
  simp only[List.length_set];exact hy
 ·exact za1 1 (.c (.int .i64 q)) [(0,.arr (.ops ys))] ⟨ys,q,by omega,by omega,rfl,rfl,rfl⟩ rfl (zu [] [0])
end Go.VL
namespace Go.VL
open Go.Proofs
set_option maxRecDepth 10000
set_option linter.unusedSimpArgs false
set_option linter.unusedVariables false
structure Mrk (p:Pg) (q:Int):Prop where
 k:∀j:Nat,j<p.keys.length→p.keys.getD j 0=q+j
 c:∀j:Nat,j<p.kids.length→p.kids.getD j 0=q+p.keys.length+j
 v:∀j:Nat,j<p.vals.length→p.vals.getD j 0=q+p.keys.length+p.kids.length+j
end Go.VL
namespace Go.VL
open Go.Proofs
set_option maxRecDepth 10000
set_option linter.unusedSimpArgs false
set_option linter.unusedVariables false
theorem FnExactRunResults_v (root:Int) (ps:List Pg) (ops:List Opn) (picks:List Int) (hc:ps.length≤9223372036854775807) (hl:∀p∈ps,p.keys.length≤9223372036854775807∧p.kids.length≤9223372036854775807∧p.vals.length≤9223372036854775807) (h1:ops.length≤9223372036854775807) (h2:picks.length≤9223372036854775807):zr Tryz.prog 6 0 [trV root ps,.c (.ops ops),.c (.nums .i64 picks)] [] 0 (.c (.bool true)) []:=by
 have hsz:=ygp root ps 1048576 hc hl (by decide) (by decide)
 refine spi (fn:=Tryz.f6) _ ?_
 conv=>whnf
 by_cases g0:1048576<picks.length
 ·skip
  repeat' first|(refine zn ?_ ?_;(focus ((try simp only[qA])<;>(try simp only[wA])<;>omega));conv=>whnf)|refine zc ?_
  all_goals rfl
 by_cases g1:yd8 ps 1048576<0
 ·skip
  repeat' first
   |(refine zn ?_ ?_;(focus ((try simp only[qA])<;>(try simp only[wA])<;>omega));conv=>whnf)
   |(refine zm ?_ ?_;(focus ((try simp only[qA])<;>(try simp only[wA])<;>omega));conv=>whnf)
   |refine zc ?_
   |(refine zp (hsz) rfl rfl ?_;conv=>whnf)
  all_goals rfl
 have b0:=ygx g1 (by decide)
 have b1:=ygs g1
 generalize yd8 ps 1048576=L1 at *
 have hso:=ygv ops L1 h1 (by omega) (by omega)
 have e:szI ops.length L1=if L1-ops.length<0 then -1 else L1-ops.length:=rfl
 by_cases g2:L1-ops.length<0
 ·rw[if_pos g2]at e
  rw[e]at hso
  repeat' first
   |(refine zn ?_ ?_;(focus (first|rfl|exact beq_self_eq_true _));conv=>whnf)
   |(refine zm ?_ ?_;(focus ((try simp only[qA])<;>(try simp only[wA])<;>omega));conv=>whnf)
   |refine zc ?_
   |(refine zp (hsz) rfl rfl ?_;conv=>whnf)
   |(refine zp (hso) rfl rfl ?_;conv=>whnf)
  all_goals rfl
 rw[if_neg g2]at e
 rw[e]at hso
 clear e
 have hp:=ygy b0.1 b0.2
 have ht:=ygn root ps hp
 have htd:=ygr root ps hp
 have ho:=yfs ops (by omega)
 have hof:=ygu ops (by omega)
 have hi:=yd7 picks (by omega)
 have hif:=ygo picks (by omega)
 have et:=ygq root ps hp
 have eo:=ygt ops (by omega)
 have ei:=yed picks (by omega)
 have mt:=ygj root ps 1 b0.1 b0.2 (by decide) (by decide)
 have ms:=ygw ps.length 0 ps 1 (λj _=>ye2 b0.2 j) (by omega)
 obtain⟨MM,hMM⟩:∃MM,mpN ps.length 0 ps 1=MM:=⟨_,rfl⟩
 rw[hMM]at mt ms
 obtain⟨M,K⟩:=MM
 dsimp only at mt ms
 clear hMM
 have mo:=ygm ops K (by omega) (by omega) (by omega)
 cases hR:z4i root ps ops picks with
 |false =>
  have r1:=z59 root ps ops picks hp (by omega) (by omega) hR
  have r2:=z50 root ps ops picks hp (by omega) (by omega) hR
  repeat' first
   |(refine za (by kernel_rfl) ?_;conv=>whnf)
   |(refine zn ?_ ?_;(focus (first|rfl|exact beq_self_eq_true _));conv=>whnf)
   |(refine zm ?_ ?_;(focus (first|rfl|exact bne_self_eq_false _));conv=>whnf)
   |(refine zm ?_ ?_;(focus ((try simp only[qA])<;>(try simp only[wA])<;>omega));conv=>whnf)
   |(refine zp (hsz) rfl rfl ?_;conv=>whnf)
   |(refine zp (hso) rfl rfl ?_;conv=>whnf)
   |(refine zp (dst:=some 31) ht rfl rfl ?_;conv=>whnf)
   |(refine zp (dst:=some 33) hof rfl rfl ?_;conv=>whnf)
   |(refine zp (dst:=some 35) hif rfl rfl ?_;conv=>whnf)
   |(refine zp (r2) rfl rfl ?_;conv=>whnf)
   |(refine zbe (htd) rfl rfl rfl rfl ?_;conv=>whnf)
   |(refine zbe (ho) rfl rfl rfl rfl ?_;conv=>whnf)
   |(refine zbe (hi) rfl rfl rfl rfl ?_;conv=>whnf)
   |(refine zbe (r1) rfl rfl rfl rfl ?_;conv=>whnf)
   |(refine zp (ygk) rfl rfl ?_;conv=>whnf)
   |(refine zw (ht) rfl rfl ?_;conv=>whnf)
   |(refine zly (et) rfl rfl rfl ?_;conv=>whnf)
   |(refine zbo (eo) rfl rfl rfl ?_;conv=>whnf)
   |(refine zbo (ei) rfl rfl rfl ?_;conv=>whnf)
   |((refine ze9 [.pin 1] ?_;(conv=>whnf);fail_if_success (guard_target =~ False));conv=>whnf)
   |(refine zal [] [1] (mt) ⟨rfl,rfl,rfl,(by repeat first|exact trivial|refine⟨rfl,?_⟩),⟨rfl,rfl,rfl,rfl,rfl,rfl⟩,?_⟩;conv=>whnf)
   |(refine ze ?_;conv=>whnf)
  refine zbw [] [3] mo ⟨rfl,rfl,rfl,(by repeat first|exact trivial|refine⟨rfl,?_⟩),⟨rfl,rfl,rfl⟩,?_⟩
  rintro m res hout ⟨ys,q,q1,q2,rfl,rfl,rfl⟩
  refine⟨⟨rfl,rfl,rfl⟩,?_⟩
  have mi:=yec picks q (by omega) (by omega) (by omega)
  conv=>whnf
  repeat' first
   |(refine zm ?_ ?_;(focus (first|rfl|exact bne_self_eq_false _));conv=>whnf)
   |(refine zm ?_ ?_;(focus ((try simp only[qA])<;>(try simp only[wA])<;>omega));conv=>whnf)
   |refine zc ?_
   |(refine zp (ht) rfl rfl ?_;conv=>whnf)
   |(refine zp (hof) rfl rfl ?_;conv=>whnf)
   |(refine zp (hif) rfl rfl ?_;conv=>whnf)
   |(refine zp (r1) rfl rfl ?_;conv=>whnf)
   |(refine zp (ygk) rfl rfl ?_;conv=>whnf)
   |(refine zp (ygc _) rfl rfl ?_;conv=>whnf)
   |(refine zp (yge _) rfl rfl ?_;conv=>whnf)
   |((refine ze9 [.dp 4,.pin 4] ?_;(conv=>whnf);fail_if_success (guard_target =~ False));conv=>whnf)
   |(refine zal [] [4] (mi) ⟨rfl,rfl,rfl,(by repeat first|exact trivial|refine⟨rfl,?_⟩),⟨rfl,rfl,rfl,rfl,rfl,rfl⟩,?_⟩;conv=>whnf)
   |(refine ze ?_;conv=>whnf)
  all_goals rfl
 |true =>
  have hR:=z4g.1 hR
  have r1:=z8k root ps ops picks hR
  have r2:=z58 root ps ops picks hp (by omega) (by omega) hR
  have r3:=ybr hR
  have dl:(ruF root ps ops picks).got.length≤16:=by have:=hR.gl;have:=hR.ol;omega
  generalize (ruF root ps ops picks).got=D at *
  have ed:=yed D (by omega)
  have md:=yec D 1 (by omega) (by decide) (by decide)
  have hd:=yeb (mkL D 1) 1 (by rw[yd5];omega) (by decide) (by decide) (λj hj=>yei hj)
  rw[yd5]at hd
  generalize mkL D 1=DM at *
  repeat' first
   |(refine za (by kernel_rfl) ?_;conv=>whnf)
   |(refine zn ?_ ?_;(focus (first|rfl|exact beq_self_eq_true _));conv=>whnf)
   |(refine zm ?_ ?_;(focus (first|rfl|exact bne_self_eq_false _));conv=>whnf)
   |(refine zm ?_ ?_;(focus ((try simp only[qA])<;>(try simp only[wA])<;>omega));conv=>whnf)
   |(refine zp (hsz) rfl rfl ?_;conv=>whnf)
   |(refine zp (hso) rfl rfl ?_;conv=>whnf)
   |(refine zp (dst:=some 31) ht rfl rfl ?_;conv=>whnf)
   |(refine zp (dst:=some 33) hof rfl rfl ?_;conv=>whnf)
   |(refine zp (dst:=some 35) hif rfl rfl ?_;conv=>whnf)
   |(refine zp (r2) rfl rfl ?_;conv=>whnf)
   |(refine zbe (htd) rfl rfl rfl rfl ?_;conv=>whnf)
   |(refine zbe (ho) rfl rfl rfl rfl ?_;conv=>whnf)
   |(refine zbe (hi) rfl rfl rfl rfl ?_;conv=>whnf)
   |(refine zbe (r1) rfl rfl rfl rfl ?_;conv=>whnf)
   |(refine zbo (ed) rfl rfl rfl ?_;conv=>whnf)
   |(refine zw (ht) rfl rfl ?_;conv=>whnf)
   |(refine zly (et) rfl rfl rfl ?_;conv=>whnf)
   |(refine zbo (eo) rfl rfl rfl ?_;conv=>whnf)
   |(refine zbo (ei) rfl rfl rfl ?_;conv=>whnf)
   |((refine ze9 [.pin 1] ?_;(conv=>whnf);fail_if_success (guard_target =~ False));conv=>whnf)
   |(refine zal [] [1] (mt) ⟨rfl,rfl,rfl,(by repeat first|exact trivial|refine⟨rfl,?_⟩),⟨rfl,rfl,rfl,rfl,rfl,rfl⟩,?_⟩;conv=>whnf)
   |(refine ze ?_;conv=>whnf)
  refine zbw [] [3] mo ⟨rfl,rfl,rfl,(by repeat first|exact trivial|refine⟨rfl,?_⟩),⟨rfl,rfl,rfl⟩,?_⟩
  rintro m res hout ⟨ys,q,q1,q2,rfl,rfl,rfl⟩
  refine⟨⟨rfl,rfl,rfl⟩,?_⟩
  have mi:=yec picks q (by omega) (by omega) (by omega)
  conv=>whnf
  repeat' first
   |(refine zm ?_ ?_;(focus (first|rfl|exact bne_self_eq_false _));conv=>whnf)
   |(refine zm ?_ ?_;(focus ((try simp only[qA])<;>(try simp only[wA])<;>omega));conv=>whnf)
   |refine zc ?_
   |(refine zp (ht) rfl rfl ?_;conv=>whnf)
   |(refine zp (hof) rfl rfl ?_;conv=>whnf)
   |(refine zp (hif) rfl rfl ?_;conv=>whnf)
   |(refine zp (r3) rfl rfl ?_;conv=>whnf)
   |(refine zp (ed) rfl rfl ?_;conv=>whnf)
   |(refine zbo (ed) rfl rfl rfl ?_;conv=>whnf)
   |((refine ze9 [.dp 4,.pin 4] ?_;(conv=>whnf);fail_if_success (guard_target =~ False));conv=>whnf)
   |((refine ze9 [.dp 5,.pin 5] ?_;(conv=>whnf);fail_if_success (guard_target =~ False));conv=>whnf)
   |(refine zal [] [4] (mi) ⟨rfl,rfl,rfl,(by repeat first|exact trivial|refine⟨rfl,?_⟩),⟨rfl,rfl,rfl,rfl,rfl,rfl⟩,?_⟩;conv=>whnf)
   |(refine zal [] [5] (md) ⟨rfl,rfl,rfl,(by repeat first|exact trivial|refine⟨rfl,?_⟩),⟨rfl,rfl,rfl,rfl,rfl,rfl⟩,?_⟩;conv=>whnf)
   |(refine zbo (hd) rfl rfl rfl ?_;conv=>whnf)
   |(refine ze ?_;conv=>whnf)
  all_goals rfl
end Go.VL
