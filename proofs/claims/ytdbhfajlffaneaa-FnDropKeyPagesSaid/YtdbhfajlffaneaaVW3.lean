/- V-logic: TrWb TrWc TrYa TrYb TrFa TrFb TrHa TrKa TrKb Un TrKc Gr -/
import Derived.Test.YtdbhfajlffaneaaVW2
import Derived.Test.YtdbhfajlffaneaaVT1
import Derived.Test.YtdbhfajlffaneaaVPE
import Derived.Test.YtdbhfajlffaneaaVMA
import Derived.Test.YtdbhfajlffaneaaVT6
import Derived.Test.YtdbhfajlffaneaaVW1
import Derived.Test.YtdbhfajlffaneaaVEG
import Derived.Test.YtdbhfajlffaneaaVPD
import Derived.Shelf.RegionOpenPlain
import Derived.WalkKit
import Derived.Lib.Walk
import Derived.Lib.SliceRun
import Derived.Lib.AppendZerosOnto
namespace Go.VL
open Go.Proofs
set_option maxRecDepth 10000
set_option linter.unusedSimpArgs false
set_option linter.unusedVariables false
def VisR (root:Int) (ps:List Pg) (n:Nat) (a lo hi:Int) (f:Nat→Bool) (ld:Int) (m:Nat) (res:V) (hout:List (Nat×O)):Prop :=
 ∃(g:Nat→Bool) (ld':Int),m=1∧res=.c (.bool (zen ps root n a lo hi (tab f,ld)).isSome)∧hout=[(0,.box [.c (.int .i64 root),.c (.pgs ps)] (tab g) [.c (.int .i64 ld')])]∧∀s',zen ps root n a lo hi (tab f,ld)=some s'→s'=(tab g,ld')
theorem zho {root:Int} {ps:List Pg} {n:Nat} {a lo hi ld ld':Int} {f g:Nat→Bool} {b:Bool} (h:zen ps root n a lo hi (tab f,ld)=if b=true then some (tab g,ld')else none):VisR root ps n a lo hi f ld 1 (.c (.bool b)) [(0,.box [.c (.int .i64 root),.c (.pgs ps)] (tab g) [.c (.int .i64 ld')])] :=
 ⟨g,ld',rfl,by rw[h];cases b<;>rfl,rfl,fun s' hs=>by rw[h]at hs;cases b<;>cases hs;rfl⟩
set_option maxHeartbeats 2000000 in
theorem z2q {root:Int} {ps:List Pg} (hp:pB ps) (hl:ps.length≤16):∀(n:Nat),n≤3→∀(a dep lo hi:Int) (f:Nat→Bool) (ld:Int),dep=3-n→zce Try.prog 46 1 [.ptr 0 0 0 0,.c (.int .i64 a),.c (.int .i64 dep),.c (.int .i64 lo),.c (.int .i64 hi)] [(0,.box [.c (.int .i64 root),.c (.pgs ps)] (tab f) [.c (.int .i64 ld)])] (VisR root ps n a lo hi f ld):=by
 intro n
 induction n with
 |zero =>
  intro _ a dep lo hi f ld hd
  refine spx (fn:=Try.f46) _ ?_
  conv=>whnf
  repeat' first|(refine zn ?_ ?_;(focus ((try simp only[qA])<;>(try simp only[wA])<;>omega));conv=>whnf)|(refine zk (fun h=>?_) (fun h=>?_)<;>(try simp only[qA]at h)<;>(try simp only[wA]at h)<;>conv=>whnf)
  all_goals
   refine za1 1 (.c (.bool false)) [(0,.box [.c (.int .i64 root),.c (.pgs ps)] (tab f) [.c (.int .i64 ld)])] (zho rfl) rfl ?_
   exact(zu [] [0])
 |succ n ih =>
  intro hn a dep lo hi f ld hd
  have ih:=ih (by omega)
  obtain⟨f1,hf1⟩:∃f1,(tab f).set a.toNat true=tab f1:=⟨_,z23 f _ true⟩
  obtain⟨p,hpp⟩:∃p,zb ps a=p:=⟨_,rfl⟩
  have k1:=hp.keys a
  have k2:=hp.kids a
  have k3:=hp.vals a
  rw[hpp]at k1 k2 k3
  have hfr:=zsa root ps (tab f1) ld a hp
  obtain⟨FB,hFB⟩:∃FB,zir (zb ps a) (decide (a=root))=FB:=⟨_,rfl⟩
  have e:zen ps root (n+1) a lo hi (tab f,ld)=if a<0∨(ps.length:Int)≤a∨(tab f).getD a.toNat false=true then none
   else if FB=false then none
   else if (p.keys.all fun x=>decide (lo≤x∧x<hi))=false then none
   else if p.kids.length=0 then
    (if ld<0 then some (tab f1,dep)else if ld=dep then some (tab f1,ld)else none)
   else zkg (zen ps root n) lo hi p.keys p.kids (tab f1,ld):=by
   subst hpp
   rw[zen,hFB,hf1]
   have:dep=2-(n:Int):=by omega
   subst this
   rfl
  rw[hFB]at hfr
  have hkl:FB=true→p.kids.length≠0→p.kids.length=p.keys.length+1:=fun h1 h2=>by
   subst hpp
   rw[←hFB]at h1
   unfold zir at h1
   rw[if_pos (Nat.pos_of_ne_zero h2)]at h1
   repeat' split at h1
   all_goals first|(cases h1;done)|exact(of_decide_eq_true h1).2.2
  clear hFB
  replace hpp:ps.getD a.toNat ⟨[],[],[]⟩=p:=hpp
  refine spx (fn:=Try.f46) _ ?_
  conv=>whnf
  repeat' first
   |(refine zm ?_ ?_;(focus ((try simp only[qA])<;>(try simp only[wA])<;>omega));conv=>whnf)
   |(refine za (by(try simp only[wA,wL])<;>omega) ?_;conv=>whnf)
   |(refine zk (fun h=>?_) (fun h=>?_)<;>(try simp only[qA]at h)<;>(try simp only[wA]at h)<;>conv=>whnf)
  ·refine za1 1 (.c (.bool false)) [(0,.box [.c (.int .i64 root),.c (.pgs ps)] (tab f) [.c (.int .i64 ld)])] (zho (by rw[e,if_pos (.inl (by omega))];rfl)) rfl ?_
   exact(zu [] [0])
  ·refine za1 1 (.c (.bool false)) [(0,.box [.c (.int .i64 root),.c (.pgs ps)] (tab f) [.c (.int .i64 ld)])] (zho (by rw[e,if_pos (.inr (.inl (by omega)))];rfl)) rfl ?_
   exact(zu [] [0])
  ·refine za1 1 (.c (.bool false)) [(0,.box [.c (.int .i64 root),.c (.pgs ps)] (tab f) [.c (.int .i64 ld)])] (zho (by rw[e,if_pos (.inr (.inr (by assumption)))];rfl)) rfl ?_
   exact(zu [] [0])
  rename_i ha0 ha1
  rw[if_neg (by rintro(q|q|q)<;>first|omega|(rw[h]at q;cases q))]at e
  rw[hf1]
  have hfr:=hfr (by omega) (by omega)
  repeat' first
   |(refine za (by(try simp only[wA,wL])<;>omega) ?_;conv=>whnf)
   |(refine zk (fun h=>?_) (fun h=>?_)<;>(try simp only[qA]at h)<;>(try simp only[wA]at h)<;>conv=>whnf)
   |(refine zal [] [0] (hfr) ⟨rfl,rfl,rfl,(by repeat first|exact trivial|refine⟨rfl,?_⟩),⟨rfl,rfl,rfl,rfl,rfl,rfl⟩,?_⟩;conv=>whnf)
  ·refine za1 1 (.c (.bool false)) [(0,.box [.c (.int .i64 root),.c (.pgs ps)] (tab f1) [.c (.int .i64 ld)])] (zho (by rw[e,if_pos (by assumption)];rfl)) rfl ?_
   exact(zu [] [0])
  rw[if_neg (by rw[h];decide)]at e
  have hkl:=hkl h
  rw[hpp]
  refine zau (fun k:Nat=>(p.keys.take k).all (fun x=>decide (lo≤x∧x<hi))=true) (fun k=>⟨131,2,[(0,.ptr 0 0 0 0),(2,.c (.int .i64 dep)),(3,.c (.int .i64 lo)),(4,.c (.int .i64 hi)),(11,.ptr 1 0 0 0),(60,.c (.nums .i64 p.keys)),(61,.c (.int .i64 p.keys.length)),(62,.c (.int .i64 k))],[(0,.box [.c (.int .i64 root),.c (.pgs ps)] (tab f1) [.c (.int .i64 ld)]),(1,.box [.c (.nums .i64 p.keys),.c (.nums .i64 p.kids),.c (.nums .i64 p.vals)] [] [])]⟩) (fun k=>p.keys.length-k) 0 (by simp) (fun _=>Nat.le_succ 1) (ydn [] [0,1]) (fun k hk=>?_)
  conv=>whnf
  repeat' first
   |(refine za (by(try simp only[wA,wL])<;>omega) ?_;conv=>whnf)
   |(refine zk (fun h=>?_) (fun h=>?_)<;>(try simp only[qA]at h)<;>(try simp only[wA]at h)<;>conv=>whnf)
   |(refine zg (by(try simp only[wA,wL])<;>omega) (by(try simp only[wA,wL])<;>omega) ?_;conv=>whnf)
  ·have hx:(p.keys.all fun x=>decide (lo≤x∧x<hi))=false:=zf6 0 (k:=k) (by omega) (decide_eq_false (by omega))
   refine za1 1 (.c (.bool false)) [(0,.box [.c (.int .i64 root),.c (.pgs ps)] (tab f1) [.c (.int .i64 ld)])] (zho (by rw[e,if_pos hx];rfl)) rfl ?_
   exact(zu [] [0])
  ·have hx:(p.keys.all fun x=>decide (lo≤x∧x<hi))=false:=zf6 0 (k:=k) (by omega) (decide_eq_false (by omega))
   refine za1 1 (.c (.bool false)) [(0,.box [.c (.int .i64 root),.c (.pgs ps)] (tab f1) [.c (.int .i64 ld)])] (zho (by rw[e,if_pos hx];rfl)) rfl ?_
   exact(zu [] [0])
  ·refine⟨⟨k+1,zeg 0 hk (by omega) (decide_eq_true (by omega))⟩,(ydn [] [0,1]),by dsimp only;omega⟩
  all_goals
   have hx:(p.keys.all fun x=>decide (lo≤x∧x<hi))=true:=zh3 hk (by omega)
   rw[if_neg (by rw[hx];decide)]at e
  ·rw[if_pos (by omega),if_pos (by omega)]at e
   refine za1 1 (.c (.bool (dep==dep))) [(0,.box [.c (.int .i64 root),.c (.pgs ps)] (tab f1) [.c (.int .i64 dep)])] (zho (by rw[e,if_pos (by simp)])) rfl ?_
   exact(zu [] [0])
  ·rw[if_pos (by omega),if_neg (by omega)]at e
   refine za1 1 (.c (.bool (ld==dep))) [(0,.box [.c (.int .i64 root),.c (.pgs ps)] (tab f1) [.c (.int .i64 ld)])] (zho (by rw[e];simp only[beq_iff_eq])) rfl ?_
   exact(zu [] [0])
  rw[if_neg (by omega)]at e
  have hkl:=hkl (by omega)
  rw[←ztm (by omega)]at e
  refine zk5 (fun(i:Nat) (g:Nat→Bool) (l:Int)=>i≤p.kids.length∧zim (zen ps root n) lo hi p.keys p.kids i (tab f1,ld)=some (tab g,l)) (fun i g l=>⟨131,2,[(0,.ptr 0 0 0 0),(2,.c (.int .i64 dep)),(3,.c (.int .i64 lo)),(4,.c (.int .i64 hi)),(11,.ptr 1 0 0 0),(95,.c (.nums .i64 p.kids)),(96,.c (.int .i64 p.kids.length)),(97,.c (.int .i64 i))],[(0,.box [.c (.int .i64 root),.c (.pgs ps)] (tab g) [.c (.int .i64 l)]),(1,.box [.c (.nums .i64 p.keys),.c (.nums .i64 p.kids),.c (.nums .i64 p.vals)] [] [])]⟩) (fun i g l=>p.kids.length-i) 0 f1 ld ⟨Nat.zero_le _,rfl⟩ (fun _ _ _=>Nat.le_succ 1) (ydn [] [0,1]) (fun i g l hi'=>?_)
  obtain⟨hil,hu⟩:=hi'
  have hstep:zim (zen ps root n) lo hi p.keys p.kids (i+1) (tab f1,ld)=zen ps root n (p.kids.getD i 0) (if 0<i then p.keys.getD (i-1) 0 else lo) (if i<p.keys.length then p.keys.getD i 0 else hi) (tab g,l):=by
   rw[zim,hu];rfl
  obtain⟨FR,hFR⟩:∃FR,(if 0<i then p.keys.getD (i-1) 0 else lo)=FR:=⟨_,rfl⟩
  obtain⟨TO,hTO⟩:∃TO,(if i<p.keys.length then p.keys.getD i 0 else hi)=TO:=⟨_,rfl⟩
  have hv:=ih (p.kids.getD i 0) (dep+1) FR TO g l (by omega)
  rw[hFR,hTO]at hstep
  conv=>whnf
  repeat' first
   |(refine za (by(try simp only[wA,wL])<;>omega) ?_;conv=>whnf)
   |(refine zk (fun h=>?_) (fun h=>?_)<;>(try simp only[qA]at h)<;>(try simp only[wA]at h)<;>conv=>whnf)
   |(refine zg (by(try simp only[wA,wL])<;>omega) (by(try simp only[wA,wL])<;>omega) ?_;conv=>whnf)
  rotate_right
  ·have hi2:i=p.kids.length:=by omega
   subst hi2
   refine za1 1 (.c (.bool true)) [(0,.box [.c (.int .i64 root),.c (.pgs ps)] (tab g) [.c (.int .i64 l)])] (zho (by rw[e,hu];rfl)) rfl ?_
   exact(zu [] [0])
  all_goals first
   |(have q:p.keys.getD ((i:Int)-1).toNat 0=FR:=by rw[w2,←hFR,if_pos (by omega)]
     subst q)
   |(have q:lo=FR:=by rw[←hFR,if_neg (by omega)]
     subst q)
  all_goals first
   |(have q:p.keys.getD ((i:Int)).toNat 0=TO:=by rw[w1,←hTO,if_pos (by omega)]
     subst q)
   |(have q:hi=TO:=by rw[←hTO,if_neg (by omega)]
     subst q)
  all_goals
   refine zbw [] [0] hv ⟨rfl,rfl,rfl,(by repeat first|exact trivial|refine⟨rfl,?_⟩),⟨rfl,rfl,rfl⟩,?_⟩
   rintro m res hout ⟨g',l',rfl,rfl,rfl,hs⟩
   refine⟨⟨rfl,rfl,rfl⟩,?_⟩
   conv=>whnf
   repeat' first|(refine zk (fun h=>?_) (fun h=>?_)<;>(try simp only[qA]at h)<;>(try simp only[wA]at h)<;>conv=>whnf)|(refine zg (by(try simp only[wA,wL])<;>omega) (by(try simp only[wA,wL])<;>omega) ?_;conv=>whnf)
   ·refine za1 1 (.c (.bool false)) [(0,.box [.c (.int .i64 root),.c (.pgs ps)] (tab g') [.c (.int .i64 l')])] (zho (by rw[e,zzy (i:=i+1) (by rw[hstep];simpa using h) _ (by omega)];rfl)) rfl ?_
    exact(zu [] [0])
   ·obtain⟨s',hs'⟩:=Option.isSome_iff_exists.1 h
    have:=hs _ hs'
    subst this
    refine⟨⟨(i+1,g',l'),?_⟩,(ydn [] [0,1]),by dsimp only;omega⟩
    exact⟨by omega,by rw[hstep];exact hs'⟩
end Go.VL
namespace Go.VL
open Go.Proofs
set_option maxRecDepth 10000
set_option linter.unusedSimpArgs false
set_option linter.unusedVariables false
set_option maxHeartbeats 4000000 in
theorem zbi (root:Int) (ps:List Pg) (hp:pB ps):zr Try.prog 23 0 [trV root ps] [] 0 (.c (.bool (vTree root ps))) []:=by
 have k4:=hp.len
 by_cases hl:1≤ps.length∧ps.length≤16
 ·have hX:=zyk (root:=root) hl.1 hl.2
  obtain⟨X,hXX⟩:∃X,vTree root ps=X:=⟨_,rfl⟩
  rw[hXX]at hX⊢
  clear hXX
  have hv:=zwq (z2q (root:=root) hp hl.2 3 (Nat.le_refl _) root 0 0 100 (fun _=>false) (-1) (by omega))
  refine spi (fn:=Try.f23) _ ?_
  conv=>whnf
  repeat' (refine zm ?_ ?_;(focus ((try simp only[qA])<;>(try simp only[wA])<;>omega));conv=>whnf)
  refine zbw [] [1] hv ⟨rfl,rfl,rfl,(by repeat first|exact trivial|refine⟨rfl,?_⟩),⟨rfl,rfl,rfl⟩,?_⟩
  rintro m res hout ⟨g,ld,rfl,rfl,rfl,hs⟩
  refine⟨⟨rfl,rfl,rfl⟩,?_⟩
  conv=>whnf
  have hX:X=match zen ps root 3 root 0 100 (tab fun _=>false,-1)with
   |some s=>(List.range ps.length).all fun i=>s.1.getD i false
   |none=>false:=hX
  generalize zen ps root 3 root 0 100 (tab fun _=>false,-1)=VF at *
  cases VF with
  |none =>
   subst hX
   conv=>whnf
   repeat' first|(refine zk (fun h=>?_) (fun h=>?_)<;>(try simp only[qA]at h)<;>(try simp only[wA]at h)<;>conv=>whnf)|refine zd ?_
   ·rfl
   ·cases h
  |some s' =>
   have:=hs _ rfl
   subst this
   conv=>whnf
   repeat' first|(refine zk (fun h=>?_) (fun h=>?_)<;>(try simp only[qA]at h)<;>(try simp only[wA]at h)<;>conv=>whnf)|refine zd ?_
   ·cases h
   refine zau (fun i:Nat=>i≤ps.length∧∀k,k<i→(tab g).getD k false=true) (fun i=>⟨33,1,[(3,.ptr 0 0 0 0),(23,.c (.int .i64 ps.length)),(24,.c (.int .i64 i))],[(0,.box [.c (.int .i64 root),.c (.pgs ps)] (tab g) [.c (.int .i64 ld)])]⟩) (fun i=>ps.length-i) 0 ⟨Nat.zero_le _,fun k hk=>absurd hk (Nat.not_lt_zero _)⟩ (fun _=>Nat.zero_le _) (ydn [] [1]) (fun i hi=>?_)
   obtain⟨hil,hi⟩:=hi
   have h16:(tab g).length=16:=rfl
   conv=>whnf
   repeat' first
    |(refine za (by(try simp only[wA,wL])<;>omega) ?_;conv=>whnf)
    |(refine zk (fun h=>?_) (fun h=>?_)<;>(try simp only[qA]at h)<;>(try simp only[wA]at h)<;>conv=>whnf)
    |refine zc ?_
    |refine zd ?_
    |(refine zg (by(try simp only[wA,wL])<;>omega) (by(try simp only[wA,wL])<;>omega) ?_;conv=>whnf)
   ·rw[hX]
    exact Bool.eq_false_iff.2 fun q=>by
     have:=List.all_eq_true.1 q i (List.mem_range.2 (by omega))
     rw[show(tab g).getD i false=false from h]at this
     cases this
   ·refine⟨⟨i+1,by omega,fun k hk=>?_⟩,(ydn [] [0]),by dsimp only;omega⟩
    rcases Nat.lt_or_ge k i with c|c
    ·exact hi k c
    ·obtain rfl:k=i:=by omega
     exact h
   ·rw[hX]
    exact List.all_eq_true.2 fun k hk=>hi k (by have:=List.mem_range.1 hk;omega)
 ·have e:vTree root ps=false:=by
   cases hv:vTree root ps with
   |false=>rfl
   |true =>
    obtain⟨_,v⟩:=zdk.1 hv
    exact absurd ⟨v.l1,v.l16⟩ hl
  rw[e]
  rcases(by omega:ps.length<1∨16<ps.length)with c|c
  all_goals
   refine spi (fn:=Try.f23) _ ?_
   conv=>whnf
   repeat' first|(refine zn ?_ ?_;(focus ((try simp only[qA])<;>(try simp only[wA])<;>omega));conv=>whnf)|(refine zm ?_ ?_;(focus ((try simp only[qA])<;>(try simp only[wA])<;>omega));conv=>whnf)|refine zd ?_
  all_goals rfl
end Go.VL
namespace Go.VL
open Go.Proofs
set_option maxRecDepth 10000
set_option linter.unusedSimpArgs false
set_option linter.unusedVariables false
abbrev zld (xs:List Int) (key:Int):List (Nat×O):=[(0,.box [.c (.nums .i64 xs)] [] []),(1,.box [.c (.int .i64 key)] [] [])]
theorem z17 (xs:List Int) (key i:Int) (h0:0≤i) (h1:i<xs.length) (hl:xs.length≤4294967296):zr Try.prog 81 2 [.c (.int .i64 i),.ptr 0 0 0 0,.ptr 1 0 0 0] (zld xs key) 2 (.c (.bool (!decide (xs.getD i.toNat 0≤key)))) (zld xs key):=by
 refine spi (fn:=Try.f81) _ ?_
 conv=>whnf
 repeat' first
  |(refine za (by kernel_rfl) ?_;conv=>whnf)
  |(refine za (by(try simp only[wA,wL])<;>omega) ?_;conv=>whnf)
  |(refine zk (fun h=>?_) (fun h=>?_)<;>(try simp only[qA]at h)<;>(try simp only[wA]at h)<;>conv=>whnf)
  |(refine ze ?_;conv=>whnf)
 all_goals first
  |(rw[show decide (xs.getD i.toNat 0≤key)=false from decide_eq_false (by omega)];exact(zu [] [0,1]))
  |(rw[show decide (xs.getD i.toNat 0≤key)=true from decide_eq_true (by omega)];exact(zu [] [0,1]))
theorem z0q (xs:List Int) (key i:Int) (h0:0≤i) (h1:i<xs.length) (hl:xs.length≤4294967296):zr Try.prog 114 2 [.c (.int .i64 i),.ptr 0 0 0 0,.ptr 1 0 0 0] (zld xs key) 2 (.c (.bool (!decide (xs.getD i.toNat 0<key)))) (zld xs key):=by
 refine spi (fn:=Try.f114) _ ?_
 conv=>whnf
 repeat' first
  |(refine za (by kernel_rfl) ?_;conv=>whnf)
  |(refine za (by(try simp only[wA,wL])<;>omega) ?_;conv=>whnf)
  |(refine zk (fun h=>?_) (fun h=>?_)<;>(try simp only[qA]at h)<;>(try simp only[wA]at h)<;>conv=>whnf)
  |(refine ze ?_;conv=>whnf)
 all_goals first
  |(rw[show decide (xs.getD i.toNat 0<key)=false from decide_eq_false (by omega)];exact(zu [] [0,1]))
  |(rw[show decide (xs.getD i.toNat 0<key)=true from decide_eq_true (by omega)];exact(zu [] [0,1]))
theorem zth (g:Nat) (small:Int→Bool) (xs:List Int) (key:Int) (N:Nat) (ha:Asc xs) (hl:xs.length≤4294967296) (hm:∀a b,a<b→small b=true→small a=true) (hN:∀i,Sea small xs i i→N=i)
  (hg:∀i:Int,0≤i→i<xs.length→zr Try.prog g 2 [.c (.int .i64 i),.ptr 0 0 0 0,.ptr 1 0 0 0] (zld xs key) 2 (.c (.bool (!small (xs.getD i.toNat 0)))) (zld xs key)) :
  zr Try.prog 80 2 [.c (.int .i64 xs.length),.fn g [.ptr 0 0 0 0,.ptr 1 0 0 0]] (zld xs key) 2 (.c (.int .i64 N)) (zld xs key):=by
 refine spi (fn:=Try.f80) _ ?_
 conv=>whnf
 skip
 refine zd0 (fun(i j:Nat)=>Sea small xs i j) (fun i j=>⟨26,2,[(1,.fn g [.ptr 0 0 0 0,.ptr 1 0 0 0]),(5,.c (.int .i64 i)),(6,.c (.int .i64 j))],zld xs key⟩) (fun i j=>j-i) 0 xs.length Sea.first (fun _ _=>Nat.le_refl _) (ydn [] [0,1]) (fun i j hi=>?_)
 have h1:=hi.ij
 have h2:=hi.jl
 conv=>whnf
 by_cases hij:i<j
 ·obtain⟨z,hh⟩:∃z:Nat,((i:Int)+j).fdiv 2=z:=⟨(i+j) / 2,by rw[Int.fdiv_eq_ediv_of_nonneg _ (by decide)];omega⟩
  have hb:i≤z∧z<j:=by
   rw[Int.fdiv_eq_ediv_of_nonneg _ (by decide)]at hh
   omega
  have hg:=hg z (by omega) (by omega)
  repeat' first
   |(refine za (by kernel_rfl) ?_;conv=>whnf)
   |(refine zn ?_ ?_;(focus ((try simp only[qA])<;>(try simp only[wA])<;>omega));conv=>whnf)
   |(refine zg (by(try simp only[wA,wL])<;>omega) (by(try simp only[wA,wL])<;>omega) ?_;conv=>whnf)
   |(refine z2g (by omega) (by omega) ?_;conv=>whnf)
  rw[hh]
  repeat' first
   |(refine zk (fun h=>?_) (fun h=>?_)<;>(try simp only[qA]at h)<;>(try simp only[wA]at h)<;>conv=>whnf)
   |(refine zg (by(try simp only[wA,wL])<;>omega) (by(try simp only[wA,wL])<;>omega) ?_;conv=>whnf)
   |(refine zal [] [0,1] (hg) ⟨rfl,rfl,rfl,(by repeat first|exact trivial|refine⟨rfl,?_⟩),⟨rfl,rfl,rfl,rfl,rfl,rfl⟩,?_⟩;conv=>whnf)
  ·refine⟨⟨(z+1,j),?_⟩,(ydn [] [0,1]),by dsimp only;omega⟩;(try dsimp only)
   exact hi.up ha hm hb.1 hb.2 (by assumption)
  ·refine⟨⟨(i,z),?_⟩,(ydn [] [0,1]),by dsimp only;omega⟩;(try dsimp only)
   exact hi.down ha hm hb.1 hb.2 (by assumption)
 ·obtain rfl:i=j:=by omega
  rw[hN i hi]
  repeat' (refine zm ?_ ?_;(focus ((try simp only[qA])<;>(try simp only[wA])<;>omega));conv=>whnf)
  exact(zu [] [0,1])
theorem zxz (xs:List Int) (key:Int) (hv:za2 xs=true) (hl:xs.length≤4294967296):zr Try.prog 48 0 [.c (.nums .i64 xs),.c (.int .i64 key)] [] 0 (.c (.int .i64 (upF xs key))) []:=by
 have ha:=(zde.1 hv).1
 have hk:=zfj xs hl
 rw[hv]at hk
 have hs:=zth 81 (fun x=>decide (x≤key)) xs key (upF xs key) ha hl (fun a b h1 h2=>by have:=of_decide_eq_true h2;exact decide_eq_true (by omega)) (fun i s=>s.upF ha) (fun i h0 h1=>z17 xs key i h0 h1 hl)
 refine spi (fn:=Try.f48) _ ?_
 conv=>whnf
 repeat' first
  |(refine zm ?_ ?_;(focus ((try simp only[qA])<;>(try simp only[wA])<;>omega));conv=>whnf)
  |refine zi ?_
  |(refine zp (hk) rfl rfl ?_;conv=>whnf)
  |(refine zal [] [0,1] (hs) ⟨rfl,rfl,rfl,(by repeat first|exact trivial|refine⟨rfl,?_⟩),⟨rfl,rfl,rfl,rfl,rfl,rfl⟩,?_⟩;conv=>whnf)
 rfl
theorem zvg (xs:List Int) (key:Int) (hv:za2 xs=true) (hl:xs.length≤4294967296):zr Try.prog 109 0 [.c (.nums .i64 xs),.c (.int .i64 key)] [] 0 (.c (.int .i64 (belF xs key))) []:=by
 have ha:=(zde.1 hv).1
 have hk:=zfj xs hl
 rw[hv]at hk
 have hs:=zth 114 (fun x=>decide (x<key)) xs key (belF xs key) ha hl (fun a b h1 h2=>by have:=of_decide_eq_true h2;exact decide_eq_true (by omega)) (fun i s=>s.belF ha) (fun i h0 h1=>z0q xs key i h0 h1 hl)
 refine spi (fn:=Try.f109) _ ?_
 conv=>whnf
 repeat' first
  |(refine zm ?_ ?_;(focus ((try simp only[qA])<;>(try simp only[wA])<;>omega));conv=>whnf)
  |refine zi ?_
  |(refine zp (hk) rfl rfl ?_;conv=>whnf)
  |(refine zal [] [0,1] (hs) ⟨rfl,rfl,rfl,(by repeat first|exact trivial|refine⟨rfl,?_⟩),⟨rfl,rfl,rfl,rfl,rfl,rfl⟩,?_⟩;conv=>whnf)
 rfl
theorem zxh (p:Pg):zr Try.prog 25 0 [pgV p] [] 0 (inV p) []:=by
 refine spi (fn:=Try.f25) _ ?_
 conv=>whnf
 skip
 exact(zu [] [])
theorem zo8 {l:List Int} {i:Nat} (hi:i<l.length):(l.take (i+1)).Nodup↔(l.take i).Nodup∧l.getD i 0∉l.take i:=by
 rw[zat 0 hi,List.nodup_append]
 constructor
 ·rintro⟨a,b,c⟩
  exact⟨a,fun h=>c _ h _ (List.mem_singleton.2 rfl) rfl⟩
 ·rintro⟨a,b⟩
  refine⟨a,List.pairwise_singleton _ _,fun x hx y hy=>?_⟩
  rw[List.mem_singleton.1 hy]
  exact fun q=>b (q▸hx)
theorem zuk (keys kids vals:List Int) (h1:keys.length≤4294967296) (h2:kids.length≤4294967296):zr Try.prog 47 0 [.agg [.c (.nums .i64 keys),.c (.nums .i64 kids)]] [] 0 (.c (.bool (zl3 ⟨keys,kids,vals⟩))) []:=by
 have hk:=zfj keys h1
 have e:zl3 ⟨keys,kids,vals⟩=(decide (1≤keys.length∧keys.length≤5)&&za2 keys&&decide (kids.length=keys.length+1)&&(kids.all fun x=>decide (0≤x∧x≤15))&&decide kids.Nodup):=rfl
 generalize zl3 ⟨keys,kids,vals⟩=X at *
 generalize za2 keys=VK at *
 refine spi (fn:=Try.f47) _ ?_
 conv=>whnf
 repeat' first
  |(refine zk (fun h=>?_) (fun h=>?_)<;>(try simp only[qA]at h)<;>(try simp only[wA]at h)<;>conv=>whnf)
  |refine zd ?_
  |(refine zg (by(try simp only[wA,wL])<;>omega) (by(try simp only[wA,wL])<;>omega) ?_;conv=>whnf)
  |(refine zp (hk) rfl rfl ?_;conv=>whnf)
 ·rw[e,decide_eq_false (by omega)];rfl
 ·rw[e,decide_eq_false (by omega)];rfl
 ·rw[e,h,Bool.and_false];rfl
 ·rw[e,decide_eq_false (p:=kids.length=keys.length+1) (by omega),Bool.and_false];rfl
 have e:X=((kids.all fun x=>decide (0≤x∧x≤15))&&decide kids.Nodup):=by
  rename_i q1 q2 q3
  rw[e,decide_eq_true (by omega),q3,decide_eq_true (p:=kids.length=keys.length+1) (by omega)];rfl
 refine zd0 (fun(i:Nat) (bs:List Bool)=>i≤kids.length∧ziz bs (kids.take i)∧(kids.take i).all (fun x=>decide (0≤x∧x≤15))=true∧(kids.take i).Nodup) (fun i bs=>⟨51,1,[(3,.ptr 0 0 1 0),(31,.c (.nums .i64 kids)),(32,.c (.int .i64 kids.length)),(33,.c (.int .i64 i))],[(0,.arr (.bools bs))]⟩) (fun i bs=>kids.length-i) 0 (List.replicate 16 false) ⟨Nat.zero_le _,ziz.none,rfl,List.nodup_nil⟩ (fun _ _=>Nat.zero_le _) (ydn [] [1]) (fun i bs hi=>?_)
 obtain⟨hil,hs,hal,hnd⟩:=hi
 have hbl:=hs.1
 conv=>whnf
 repeat' first
  |(refine za (by(try simp only[wA,wL])<;>omega) ?_;conv=>whnf)
  |(refine zk (fun h=>?_) (fun h=>?_)<;>(try simp only[qA]at h)<;>(try simp only[wA]at h)<;>conv=>whnf)
  |refine zc ?_
  |refine zd ?_
  |(refine zg (by(try simp only[wA,wL])<;>omega) (by(try simp only[wA,wL])<;>omega) ?_;conv=>whnf)
 ·rw[e,show(kids.all fun x=>decide (0≤x∧x≤15))=false from zf6 0 (k:=i) (by omega) (decide_eq_false (by omega))];rfl
 ·rw[e,show(kids.all fun x=>decide (0≤x∧x≤15))=false from zf6 0 (k:=i) (by omega) (decide_eq_false (by omega))];rfl
 ·rw[hs.at (by omega) (by omega)]at h
  rw[e,decide_eq_false (p:=kids.Nodup) (fun q=>((zo8 (by omega)).1 ((List.take_sublist (i+1) kids).nodup q)).2 (of_decide_eq_true h)),Bool.and_false]
 ·rw[hs.at (by omega) (by omega)]at h
  refine⟨⟨(i+1,bs.set (kids.getD i 0).toNat true),?_⟩,(ydn [] [0]),by dsimp only;omega⟩
  refine⟨by omega,?_,zeg 0 hal (by omega) (decide_eq_true (by omega)),(zo8 (by omega)).2 ⟨hnd,of_decide_eq_false h⟩⟩
  dsimp only
  rw[zat 0 (by omega)]
  exact hs.snoc (by omega) (by omega)
 ·rw[List.take_of_length_le (by omega)]at hnd
  rw[e,show(kids.all fun x=>decide (0≤x∧x≤15))=true from zh3 hal (by omega),decide_eq_true hnd];rfl
theorem zxe (p:Pg) (key:Int) (hv:zl3 p=true):zr Try.prog 24 0 [inV p,.c (.int .i64 key)] [] 0 (.c (.int .i64 (p.kids.getD (upF p.keys key) 0))) []:=by
 have hv':=hv
 unfold zl3 at hv'
 simp only[Bool.and_eq_true,decide_eq_true_eq]at hv'
 obtain⟨⟨⟨⟨⟨b1,b2⟩,b3⟩,b4⟩,b5⟩,b6⟩:=hv'
 have hvi:=zuk p.keys p.kids p.vals (by omega) (by omega)
 rw[show(⟨p.keys,p.kids,p.vals⟩:Pg)=p from rfl,hv]at hvi
 have hu:=zpr p.keys key
 have hk:=zxz p.keys key b3 (by omega)
 clear hv b5 b6 b3
 generalize upF p.keys key=U at *
 refine spi (fn:=Try.f24) _ ?_
 conv=>whnf
 repeat' first
  |(refine za (by kernel_rfl) ?_;conv=>whnf)
  |(refine zm ?_ ?_;(focus ((try simp only[qA])<;>(try simp only[wA])<;>omega));conv=>whnf)
  |(refine za (by(try simp only[wA,wL])<;>omega) ?_;conv=>whnf)
  |refine zi ?_
  |(refine zp (hvi) rfl rfl ?_;conv=>whnf)
  |(refine zw (hk) rfl rfl ?_;conv=>whnf)
  |(refine ze ?_;conv=>whnf)
 rfl
end Go.VL
namespace Go.VL
open Go.Proofs
set_option maxRecDepth 10000
set_option linter.unusedSimpArgs false
set_option linter.unusedVariables false
theorem zjo (root key:Int) (ps:List Pg) (hp:pB ps) (hv:vTree root ps=true):zr Try.prog 10 0 [trV root ps,.c (.int .i64 key)] [] 1 (.slc 0) [(0,.arr (.nums .i64 (ptF ps key (htF root ps) root)))]:=by
 have k4:=hp.len
 have V:=za0 hv
 have hvt:=zbi root ps hp
 rw[hv]at hvt
 have hpg:=fun a h0 h1=>zl6 hv (i:=a) h0 h1
 obtain⟨d,hd⟩:∃d,htF root ps=d+1:=⟨htF root ps-1,by have:=V.h1;omega⟩
 have hd3:=V.h3
 have hl16:=V.l16
 have hf:=V.fit
 rw[hd]at hf hd3⊢
 clear V hv
 obtain⟨W,hW⟩:∃W,ptF ps key (d+1) root=W:=⟨_,rfl⟩
 rw[hW]
 refine spi (fn:=Try.f10) _ ?_
 conv=>whnf
 repeat' first|(refine zm ?_ ?_;(focus ((try simp only[qA])<;>(try simp only[wA])<;>omega));conv=>whnf)|(refine zp (hvt) rfl rfl ?_;conv=>whnf)
 refine zk5 (fun(pre:List Int) (e:Nat) (a:Int)=>pre.length+e≤20∧(∃mn mx lo hi,Fit ps (e+1) mn mx a lo hi)∧pre++ptF ps key (e+1) a=W)
  (fun pre e a=>⟨35,2,[(1,.c (.int .i64 key)),(2,.ptr 0 0 0 0),(5,.c (.int .i64 a)),(6,.slc 1)],[(0,.box [.c (.int .i64 root),.c (.pgs ps)] [] []),(1,.arr (.nums .i64 (pre++[a])))]⟩) (fun pre e a=>e) [] d root ⟨by simp;omega,⟨_,_,_,_,hf⟩,hW⟩ (fun _ _ _=>Nat.zero_le _) (ydn [] [0,1]) (fun pre e a hi=>?_)
 obtain⟨hle,⟨mn',mx',lo',hi',hf'⟩,hw⟩:=hi
 have h0:=hf'.1
 have h1:=hf'.2.1
 have hpg:=hpg a h0 h1
 have k1:=hp.keys a
 have k2:=hp.kids a
 by_cases he:e=0
 ·subst he
  have hk:=LeafOk.kids hf'.2.2.2.2
  have hk0:(zb ps a).kids.length=0:=by rw[hk];rfl
  have hw':pre++[a]=W:=hw
  rw[hw']
  clear hpg hf' hk
  dsimp only[zb]at hk0 k1 k2
  conv=>whnf
  repeat' first|(refine zm ?_ ?_;(focus ((try simp only[qA])<;>(try simp only[wA])<;>omega));conv=>whnf)|(refine za (by(try simp only[wA,wL])<;>omega) ?_;conv=>whnf)
  exact(zu [] [1])
 ·obtain⟨e,rfl⟩:∃e',e=e'+1:=⟨e-1,by omega⟩
  have hkl:=zaa.kidsLen hf'.2.2.2.2
  obtain⟨hu,l,r,hk⟩:=hf'.kid (key:=key)
  have hrk:=zxe (zb ps a) key (hpg.inr hl16 (fun q=>by rw[q]at hkl;simp at hkl))
  have hin:=zxh (zb ps a)
  have hw':(pre++[a])++ptF ps key (e+1) ((zb ps a).kids.getD (upF (zb ps a).keys key) 0)=W:=by rw[←hw,List.append_assoc];rfl
  generalize (zb ps a).kids.getD (upF (zb ps a).keys key) 0=B at *
  clear hpg hf'
  dsimp only[zb]at hkl k1 k2 hrk hin
  conv=>whnf
  repeat' first
   |(refine zn ?_ ?_;(focus ((try simp only[qA])<;>(try simp only[wA])<;>omega));conv=>whnf)
   |(refine za (by(try simp only[wA,wL])<;>omega) ?_;conv=>whnf)
   |(refine zp (hin) rfl rfl ?_;conv=>whnf)
   |(refine zp (hrk) rfl rfl ?_;conv=>whnf)
  refine⟨⟨(pre++[a],e,B),?_⟩,(ydn [] [0,1]),by dsimp only;omega⟩;(try dsimp only)
  exact⟨by simp;omega,⟨_,_,_,_,hk⟩,hw'⟩
theorem zog {α:Type} (z x:α) {L:List α} {n i:Nat} (hi:i<n) (hl:L.length=i):(L++List.replicate (n-i) z).set i x=(L++[x])++List.replicate (n-(i+1)) z:=by
 obtain⟨k,hk⟩:∃k,n-i=k+1:=⟨n-i-1,by omega⟩
 rw[hk,show n-(i+1)=k by omega,List.set_append_right _ _ (by omega),hl,Nat.sub_self,List.replicate_succ,List.set_cons_zero,List.append_assoc];rfl
theorem zmb (p:Pg) (h:p.vals.length=p.keys.length) (hl:p.keys.length≤4294967296):zr Try.prog 42 0 [pgV p] [] 1 (.slc 0) [(0,.arr (.prs (zab p)))]:=by
 have hz:=zby p h
 refine spi (fn:=Try.f42) _ ?_
 conv=>whnf
 repeat' (refine za (by(try simp only[wA,wL])<;>omega) ?_;conv=>whnf)
 refine zd0 (fun(i:Nat) (L:List Pr)=>i≤p.keys.length∧L=(zab p).take i++List.replicate (p.keys.length-i) ⟨0,0⟩) (fun i L=>⟨30,2,[(1,.ptr 0 0 0 0),(3,.slc 1),(11,.c (.nums .i64 p.keys)),(12,.c (.int .i64 p.keys.length)),(13,.c (.int .i64 i))],[(0,.box [.c (.nums .i64 p.keys),.c (.nums .i64 p.kids),.c (.nums .i64 p.vals)] [] []),(1,.arr (.prs L))]⟩) (fun i L=>p.keys.length-i) 0 (List.replicate p.keys.length ⟨0,0⟩) ⟨Nat.zero_le _,rfl⟩ (fun _ _=>Nat.zero_le _) (ydn [] [0,1]) (fun i L hi=>?_)
 obtain⟨hi,hL⟩:=hi
 have hll:L.length=p.keys.length:=by rw[hL,List.length_append,List.length_take,List.length_replicate];omega
 conv=>whnf
 repeat' first
  |(refine za (by(try simp only[wA,wL])<;>omega) ?_;conv=>whnf)
  |(refine zk (fun h=>?_) (fun h=>?_)<;>(try simp only[qA]at h)<;>(try simp only[wA]at h)<;>conv=>whnf)
  |(refine zg (by(try simp only[wA,wL])<;>omega) (by(try simp only[wA,wL])<;>omega) ?_;conv=>whnf)
 ·refine⟨⟨(i+1,L.set i ⟨p.keys.getD i 0,p.vals.getD i 0⟩),?_⟩,(ydn [] [0,1]),by dsimp only;omega⟩;(try dsimp only)
  refine⟨by omega,?_⟩
  rw[hL,zog _ _ (by omega) (by rw[List.length_take];omega),zro p (by omega) (by omega)];rfl
 ·rw[List.take_of_length_le (by omega),show p.keys.length-i=0 by omega,List.replicate_zero,List.append_nil]at hL
  rw[hL]
  exact(zu [] [1])
end Go.VL
namespace Go.VL
open Go.Proofs
set_option maxRecDepth 10000
set_option linter.unusedSimpArgs false
set_option linter.unusedVariables false
theorem zko (xs:List Pr) (hl:xs.length≤4294967296):zr Try.prog 71 0 [.c (.prs xs)] [] 1 (.slc 0) [(0,.arr (.nums .i64 (xs.map Pr.key)))]:=by
 refine spi (fn:=Try.f71) _ ?_
 conv=>whnf
 repeat' (refine za (by(try simp only[wA,wL])<;>omega) ?_;conv=>whnf)
 refine zd0 (fun(i:Nat) (L:List Int)=>i≤xs.length∧L=(xs.map Pr.key).take i++List.replicate (xs.length-i) 0) (fun i L=>⟨23,1,[(3,.slc 0),(9,.c (.prs xs)),(10,.c (.int .i64 xs.length)),(11,.c (.int .i64 i))],[(0,.arr (.nums .i64 L))]⟩) (fun i L=>xs.length-i) 0 (List.replicate xs.length 0) ⟨Nat.zero_le _,rfl⟩ (fun _ _=>Nat.zero_le _) (ydn [] [0]) (fun i L hi=>?_)
 obtain⟨hi,hL⟩:=hi
 have hll:L.length=xs.length:=by rw[hL,List.length_append,List.length_take,List.length_map,List.length_replicate];omega
 conv=>whnf
 repeat' first
  |(refine za (by(try simp only[wA,wL])<;>omega) ?_;conv=>whnf)
  |(refine zk (fun h=>?_) (fun h=>?_)<;>(try simp only[qA]at h)<;>(try simp only[wA]at h)<;>conv=>whnf)
  |(refine zg (by(try simp only[wA,wL])<;>omega) (by(try simp only[wA,wL])<;>omega) ?_;conv=>whnf)
 ·refine⟨⟨(i+1,L.set i (xs.getD i ⟨0,0⟩).key),?_⟩,(ydn [] [0]),by dsimp only;omega⟩;(try dsimp only)
  refine⟨by omega,?_⟩
  rw[hL,zog _ _ (by omega) (by rw[List.length_take,List.length_map];omega),zat 0 (by rw[List.length_map];omega),zmk]
 ·rw[List.take_of_length_le (by rw[List.length_map];omega),show xs.length-i=0 by omega,List.replicate_zero,List.append_nil]at hL
  rw[hL]
  exact(zu [] [0])
theorem zt4 (xs:List Pr) (i:Nat):(xs.map Pr.value).getD i 0=(xs.getD i ⟨0,0⟩).value:=by
 rw[List.getD_eq_getElem?_getD,List.getD_eq_getElem?_getD,List.getElem?_map]
 cases xs[i]?<;>rfl
theorem zr8 (xs:List Pr) (hl:xs.length≤4294967296):zr Try.prog 72 0 [.c (.prs xs)] [] 1 (.slc 0) [(0,.arr (.nums .i64 (xs.map Pr.value)))]:=by
 refine spi (fn:=Try.f72) _ ?_
 conv=>whnf
 repeat' (refine za (by(try simp only[wA,wL])<;>omega) ?_;conv=>whnf)
 refine zd0 (fun(i:Nat) (L:List Int)=>i≤xs.length∧L=(xs.map Pr.value).take i++List.replicate (xs.length-i) 0) (fun i L=>⟨23,1,[(3,.slc 0),(9,.c (.prs xs)),(10,.c (.int .i64 xs.length)),(11,.c (.int .i64 i))],[(0,.arr (.nums .i64 L))]⟩) (fun i L=>xs.length-i) 0 (List.replicate xs.length 0) ⟨Nat.zero_le _,rfl⟩ (fun _ _=>Nat.zero_le _) (ydn [] [0]) (fun i L hi=>?_)
 obtain⟨hi,hL⟩:=hi
 have hll:L.length=xs.length:=by rw[hL,List.length_append,List.length_take,List.length_map,List.length_replicate];omega
 conv=>whnf
 repeat' first
  |(refine za (by(try simp only[wA,wL])<;>omega) ?_;conv=>whnf)
  |(refine zk (fun h=>?_) (fun h=>?_)<;>(try simp only[qA]at h)<;>(try simp only[wA]at h)<;>conv=>whnf)
  |(refine zg (by(try simp only[wA,wL])<;>omega) (by(try simp only[wA,wL])<;>omega) ?_;conv=>whnf)
 ·refine⟨⟨(i+1,L.set i (xs.getD i ⟨0,0⟩).value),?_⟩,(ydn [] [0]),by dsimp only;omega⟩;(try dsimp only)
  refine⟨by omega,?_⟩
  rw[hL,zog _ _ (by omega) (by rw[List.length_take,List.length_map];omega),zat 0 (by rw[List.length_map];omega),zt4]
 ·rw[List.take_of_length_le (by rw[List.length_map];omega),show xs.length-i=0 by omega,List.replicate_zero,List.append_nil]at hL
  rw[hL]
  exact(zu [] [0])
theorem zw7 (xs:List Pr) (hl:xs.length≤4294967296):zr Try.prog 69 0 [.c (.prs xs)] [] 0 (.c (.bool (zdb xs))) []:=by
 have hk:=zko xs hl
 have hv:=zfj (xs.map Pr.key) (by rw[List.length_map];exact hl)
 have e:zdb xs=((xs.all fun x=>decide (-1000≤x.value∧x.value≤1000))&&(decide (xs.length≤24)&&za2 (xs.map Pr.key))):=rfl
 generalize zdb xs=X at *
 generalize za2 (xs.map Pr.key)=VK at *
 refine spi (fn:=Try.f69) _ ?_
 conv=>whnf
 repeat' first|(refine zk (fun h=>?_) (fun h=>?_)<;>(try simp only[qA]at h)<;>(try simp only[wA]at h)<;>conv=>whnf)|refine zd ?_
 ·rw[e,decide_eq_false (by omega),Bool.false_and,Bool.and_false]
 rw[decide_eq_true (p:=xs.length≤24) (by omega),Bool.true_and]at e
 refine zau (fun i:Nat=>i≤xs.length∧(xs.take i).all (fun x=>decide (-1000≤x.value∧x.value≤1000))=true) (fun i=>⟨22,0,[(0,.c (.prs xs)),(8,.c (.prs xs)),(9,.c (.int .i64 xs.length)),(10,.c (.int .i64 i))],[]⟩) (fun i=>xs.length-i) 0 ⟨Nat.zero_le _,by simp⟩ (fun _=>Nat.zero_le _) zbn (fun i hi=>?_)
 obtain⟨hi,hal⟩:=hi
 conv=>whnf
 repeat' first
  |(refine za (by(try simp only[wA,wL])<;>omega) ?_;conv=>whnf)
  |(refine zk (fun h=>?_) (fun h=>?_)<;>(try simp only[qA]at h)<;>(try simp only[wA]at h)<;>conv=>whnf)
  |refine zd ?_
  |refine zh ?_
  |(refine zg (by(try simp only[wA,wL])<;>omega) (by(try simp only[wA,wL])<;>omega) ?_;conv=>whnf)
  |(refine zp (zrb _) rfl rfl ?_;conv=>whnf)
  |(refine z8 (hk) rfl ?_;conv=>whnf)
  |(refine zbo (hv) rfl rfl rfl ?_;conv=>whnf)
 ·rw[e,zf6 (⟨0,0⟩:Pr) (k:=i) (by omega) (decide_eq_false h),Bool.false_and]
 ·refine⟨⟨i+1,by omega,zeg (⟨0,0⟩:Pr) hal (by omega) (decide_eq_true h)⟩,zbn,by dsimp only;omega⟩
 ·rw[e,zh3 hal (by omega),Bool.true_and]
theorem zto (xs:List Pr) (key:Int) (hl:xs.length≤4294967296) (hv:za2 (xs.map Pr.key)=true):zr Try.prog 97 0 [.c (.prs xs),.c (.int .i64 key)] [] 0 (.tup [.c (.int .i64 (belF (xs.map Pr.key) key)),.c (.bool ((xs.map Pr.key).contains key))]) []:=by
 have hk:=zko xs hl
 have hb:=zvg (xs.map Pr.key) key hv (by rw[List.length_map];exact hl)
 have hh:=zou (k:=key) (zde.1 hv).1
 rw[List.length_map,zmk,←List.contains_iff_mem]at hh
 generalize belF (xs.map Pr.key) key=B at *
 generalize (xs.map Pr.key).contains key=Z at *
 refine spi (fn:=Try.f97) _ ?_
 conv=>whnf
 repeat' first
  |(refine za (by kernel_rfl) ?_;conv=>whnf)
  |(refine zn ?_ ?_;(focus ((try simp only[qA])<;>(try simp only[wA])<;>omega));conv=>whnf)
  |(refine za (by(try simp only[wA,wL])<;>omega) ?_;conv=>whnf)
  |(refine zk (fun h=>?_) (fun h=>?_)<;>(try simp only[qA]at h)<;>(try simp only[wA]at h)<;>conv=>whnf)
  |(refine z8 (hk) rfl ?_;conv=>whnf)
  |(refine zbo (hb) rfl rfl rfl ?_;conv=>whnf)
  |(refine ze ?_;conv=>whnf)
 ·rw[hh.2 ⟨by omega,by assumption⟩];exact(zu [] [])
 ·rw[show Z=false from by cases Z;rfl;exact absurd (hh.1 rfl).2 (by assumption)];exact(zu [] [])
 ·rw[show Z=false from by cases Z;rfl;exact absurd (hh.1 rfl).1 (by omega)];exact(zu [] [])
end Go.VL
namespace Go.VL
open Go.Proofs
set_option maxRecDepth 10000
set_option linter.unusedSimpArgs false
set_option linter.unusedVariables false
structure LfF (root:Int) (ps:List Pg) (key:Int) (d:Nat):Prop where
 d3:d<3
 ht:htF root ps=d+1
 p0:0≤lfF ps key (d+1) root
 p1:lfF ps key (d+1) root<ps.length
 kl:(zb ps (lfF ps key (d+1) root)).keys.length≤4
 vl:(zb ps (lfF ps key (d+1) root)).vals.length=(zb ps (lfF ps key (d+1) root)).keys.length
 kids:(zb ps (lfF ps key (d+1) root)).kids=[]
 row:zdb (zab (zb ps (lfF ps key (d+1) root)))=true
 val:zei (zab (zb ps (lfF ps key (d+1) root))) key=zei (psF root ps) key
 has:((zab (zb ps (lfF ps key (d+1) root))).map Pr.key).contains key=((psF root ps).map Pr.key).contains key
 len:(ptF ps key (d+1) root).length=d+1
 last:(ptF ps key (d+1) root).getD d 0=lfF ps key (d+1) root
theorem lf_f {root key:Int} {ps:List Pg} (hv:vTree root ps=true):∃d,LfF root ps key d:=by
 have V:=za0 hv
 obtain⟨d,hd⟩:∃d,htF root ps=d+1:=⟨htF root ps-1,by have:=V.h1;omega⟩
 have h3:=V.h3
 have hf:=V.fit
 rw[hd]at hf h3
 obtain⟨h0,h1,l,r,hl⟩:=zec hf _ (zi7 hf (key:=key))
 have hpg:=zl6 hv h0 h1
 obtain⟨r1,r2⟩:=hpg.row hl.kids
 obtain⟨v1,v2⟩:=zzk hf (key:=key)
 have e:psF root ps=prF ps (d+1) (zb ps root):=by unfold psF;rw[hd]
 exact⟨d,by omega,hd,h0,h1,hpg.k4,r2,hl.kids,r1,by rw[v1,e],by rw[v2,e],zg1,zlt⟩
end Go.VL
namespace Go.VL
open Go.Proofs
set_option maxRecDepth 10000
set_option linter.unusedSimpArgs false
set_option linter.unusedVariables false
theorem zvt (xs:List Int) (hl:xs.length≤4294967296):zr Try.prog 66 0 [.c (.nums .i64 xs)] [] 1 (.slc 0) [(0,.arr (.nums .i64 xs))]:=by
 refine zq9 (R:=fun m res hout=>(m=1∧res=.slc 0∧hout=[(0,.arr (.nums .i64 xs))])∨(m=0∧res=.nil∧hout=[]∧xs=[])) ?_ (by
  rintro m res hout (h|⟨h1,h2,h3,rfl⟩)
  ·exact .inl h
  ·exact .inr ⟨h1,h2,h3,rfl,rfl⟩)
 refine spx (fn:=Try.f66) _ ?_
 conv=>whnf
 refine zye (fun h=>?_) ?_
 ·conv=>whnf
  skip
  refine za1 0 .nil [] (.inr ⟨rfl,rfl,rfl,List.eq_nil_of_length_eq_zero h⟩) rfl ?_
  exact(zu [] [])
 ·conv=>whnf
  repeat' (refine za (by(try simp only[wA,wL])<;>omega) ?_;conv=>whnf)
  refine za1 1 (.slc 0) [(0,.arr (.nums .i64 xs))] (.inl ⟨rfl,rfl,rfl⟩) rfl ?_
  exact(zu [] [0])
end Go.VL
namespace Go.VL
open Go.Proofs
set_option maxRecDepth 10000
set_option linter.unusedSimpArgs false
set_option linter.unusedVariables false
theorem z6i (xs:List Pr) (hl:xs.length≤4294967296):zr Try.prog 98 0 [.c (.prs xs)] [] 1 (.slc 0) [(0,.arr (.prs xs))]:=by
 refine zq9 (R:=fun m res hout=>(m=1∧res=.slc 0∧hout=[(0,.arr (.prs xs))])∨(m=0∧res=.nil∧hout=[]∧xs=[])) ?_ (by
  rintro m res hout (h|⟨h1,h2,h3,rfl⟩)
  ·exact .inl h
  ·exact .inr ⟨h1,h2,h3,rfl,rfl⟩)
 refine spx (fn:=Try.f98) _ ?_
 conv=>whnf
 refine zye (fun h=>?_) ?_
 ·conv=>whnf
  skip
  refine za1 0 .nil [] (.inr ⟨rfl,rfl,rfl,List.eq_nil_of_length_eq_zero h⟩) rfl ?_
  exact(zu [] [])
 ·conv=>whnf
  repeat' (refine za (by(try simp only[wA,wL])<;>omega) ?_;conv=>whnf)
  refine za1 1 (.slc 0) [(0,.arr (.prs xs))] (.inl ⟨rfl,rfl,rfl⟩) rfl ?_
  exact(zu [] [0])
theorem yb0 (xs:List Pr) (hl:xs.length≤4294967296):zr Try.prog 98 0 [.c (.prs xs)] [] 0 (.c (.prs xs)) []:=zdn (z6i xs hl) rfl
theorem z81 (xs:List Pr) (hl:xs.length≤1000) (hv:zdb xs=true):zr Try.prog 101 0 [.c (.prs xs)] [] 0 (.tup [.c (.prs (xs.take ((xs.length+1) / 2))),.c (.prs (xs.drop ((xs.length+1) / 2)))]) []:=by
 have hvr:=zw7 xs (by omega)
 rw[hv]at hvr
 have hd:((xs.length:Int)+1).tdiv 2=((xs.length:Int)+1) / 2:=Int.tdiv_eq_ediv_of_nonneg (by omega)
 refine spi (fn:=Try.f101) _ ?_
 conv=>whnf
 repeat' first
  |(refine za (by kernel_rfl) ?_;conv=>whnf)
  |(refine zm ?_ ?_;(focus (first|rfl|exact bne_self_eq_false _));conv=>whnf)
  |(refine za (by(try simp only[wA,wL])<;>omega) ?_;conv=>whnf)
  |(refine zg (by(try simp only[wA,wL])<;>omega) (by(try simp only[wA,wL])<;>omega) ?_;conv=>whnf)
  |(refine zp (hvr) rfl rfl ?_;conv=>whnf)
  |(refine zw (yb0 _ (by first|(rw[w7];omega)|(rw[w8];omega))) rfl rfl ?_;conv=>whnf)
  |(refine ze ?_;conv=>whnf)
 exact(zu [] [])
end Go.VL
namespace Go.VL
open Go.Proofs
set_option maxRecDepth 10000
set_option linter.unusedSimpArgs false
set_option linter.unusedVariables false
theorem z76 (p:Pg) (kid:Int) (hl:p.kids.length≤4294967296) (hm:kid∈p.kids):zr Try.prog 73 0 [pgV p,.c (.int .i64 kid)] [] 0 (.c (.int .i64 (plN p.kids kid))) []:=by
 obtain⟨ks,cs,vs⟩:=p
 dsimp only at *
 refine spi (fn:=Try.f73) _ ?_
 conv=>whnf
 skip
 refine zau (fun k:Nat=>k≤cs.length∧kid∉cs.take k) (fun k=>⟨20,0,[(1,.c (.int .i64 kid)),(8,.c (.nums .i64 cs)),(9,.c (.int .i64 cs.length)),(10,.c (.int .i64 k))],[]⟩) (fun k=>cs.length-k) 0 ⟨Nat.zero_le _,by simp⟩ (fun _=>Nat.zero_le _) zbn (fun k hk=>?_)
 obtain⟨hk,hn⟩:=hk
 by_cases c:k<cs.length
 ·by_cases e:cs.getD k 0=kid
  ·have:=z3l hn c e
   conv=>whnf
   repeat' first|(refine zn ?_ ?_;(focus ((try simp only[qA])<;>(try simp only[wA])<;>omega));conv=>whnf)|(refine za (by(try simp only[wA,wL])<;>omega) ?_;conv=>whnf)|refine zi ?_
   all_goals first|exact(zu [] [])|(exfalso;omega)|(rw[←this])
  ·have:=zuq hn c e
   conv=>whnf
   repeat' first
    |(refine zn ?_ ?_;(focus ((try simp only[qA])<;>(try simp only[wA])<;>omega));conv=>whnf)
    |(refine zm ?_ ?_;(focus ((try simp only[qA])<;>(try simp only[wA])<;>omega));conv=>whnf)
    |(refine za (by(try simp only[wA,wL])<;>omega) ?_;conv=>whnf)
    |(refine zg (by(try simp only[wA,wL])<;>omega) (by(try simp only[wA,wL])<;>omega) ?_;conv=>whnf)
   all_goals first|(exfalso;exact e (by assumption))|exact⟨⟨k+1,by omega,this⟩,zbn,by dsimp only;omega⟩
 ·rw[List.take_of_length_le (by omega)]at hn
  exact absurd hm hn
end Go.VL
namespace Go.VL
abbrev ztV:V:=.agg [.c (.int .i64 0),.nil]
def unR:Option (Int×List Pg)→List V
 |some (r,ps)=>[trV r ps,.tt]
 |none=>[ztV,.ff]
end Go.VL
namespace Go.VL
open Go.Proofs
set_option maxRecDepth 10000
set_option linter.unusedSimpArgs false
set_option linter.unusedVariables false
end Go.VL
namespace Go.Proofs
set_option linter.unusedVariables false
set_option linter.unusedSimpArgs false
open Go.RowKit Go.Lib
set_option maxHeartbeats 2000000 in
set_option maxRecDepth 100000 in
theorem ycf (w:World):Calls Try.prog 115 #[.slice none 0 0,.int .i64 0] w fun e w'=>e=.returned (.slice none 0 0)∧w'=w:=by
 go_enter Try.func115,Try.ntmps115
 go_wp2
 go_ret
 exact⟨rfl,rfl⟩
set_option maxHeartbeats 4000000 in
set_option maxRecDepth 100000 in
theorem ycm (n:Nat) (w:World) (h0:0<n) (hn:n≤1099511627776):Calls Try.prog 115 #[.slice none 0 0,.int .i64 n] w fun e w' =>
  e=.returned (.slice (some ⟨w.heap.size,0,none⟩) 0 (grownCap w n 0 3)) ∧
  w'=w.drew.alloc (.cells (#[]++Builtin.zeroCells (Value.int .i64 0).cells n++Builtin.zeroCells (Value.int .i64 0).cells (grownCap w n 0 3-n)) 3):=by
 obtain⟨i0,hi0,hz0,hs0,hb0⟩:=info_parts (P:=Try.prog) (e:=3) (z:=Value.int .i64 0) (size:=1) (bytes:=8) (by kernel_rfl)
 have h1:¬((n:Int)<0):=by omega
 have h4:(n:Int)>0:=by omega
 have hrz:∀ty,(Builtin.append_ #[29,3] ty #[.slice none 0 0,.int .i64 (n:Int)]).run Try.prog w =
   .ok (.slice (some ⟨w.heap.size,0,none⟩) n (grownCap w n 0 3)) (w.drew.alloc (.cells (#[]++Builtin.zeroCells (Value.int .i64 0).cells n++Builtin.zeroCells (Value.int .i64 0).cells (grownCap w n 0 3-n)) 3)):=fun ty=>by
  have h:=Lib.run_append_grow_zeros (P:=Try.prog) w 29 3 ty 3 i0 (Value.int .i64 0) .i64 .i64 Try.underlying29 Try.underlying3 hi0 hz0 none 0 0 [] (run_firstCells_none w.drew i0.size 0 0 0) n h0 (by omega) (by omega) (by omega)
   (by rw[hb0];omega) (by have:=growslice_fits (need:=0+n) (old:=0) (bytes:=i0.bytes) (by omega) (by rw[hb0];omega);exact this)
  rw[Nat.zero_add]at h
  exact h
 have hGn:n≤grownCap w n 0 3:=grownCap_ge w _ _ _
 obtain⟨G,hG⟩:∃G,G=grownCap w n 0 3:=⟨_,rfl⟩
 rw[←hG]at hrz hGn⊢
 have hG63:G≤9223372036854775807:=by
  have:=grownCap_le_maxLen w n 0 3 (by unfold maxLen;omega)
  rw[←hG]at this
  unfold maxLen at this
  omega
 clear hG
 go_enter Try.func115,Try.ntmps115
 go_wp2_with (at_builtin;refine Lib.wpList_append_run _ rfl _ _ _ _ rfl _ _ rfl rfl _ _ (hrz _) ?_)
 all_goals (go_ret;exact⟨rfl,rfl⟩)
end Go.Proofs
namespace Go.VL
set_option linter.unusedVariables false
set_option linter.unusedSimpArgs false
open Go.Proofs
theorem ya0 (n:Nat) (hn:n≤1099511627776):zr Try.prog 115 0 [.nil,.c (.int .i64 n)] [] 1 (.slc 0) [(0,.arr (.nums .i64 []))]:=by
 refine⟨⟨_,Try.func115,by kernel_rfl,by kernel_rfl⟩,fun W I g argv hI hh hl ha=>?_⟩
 obtain⟨a,b,rfl⟩:∃a b,argv=[a,b]:=by
  match argv,hl with
  |[a,b],_=>exact⟨a,b,rfl⟩
 have e0:=RV.nil_inv' (ha 0 _ _ rfl rfl)
 have e1:=RV.int_inv (ha 1 _ _ rfl rfl)
 subst e0;subst e1
 rcases Nat.eq_zero_or_pos n with h0|h0
 ·subst h0
  refine(ycf W).mono ?_
  rintro e w' ⟨rfl,rfl⟩
  have no:∀id o b,(id,o)∈[(0,O.arr (.nums .i64 []))]→¬Own (fun _=>none) w' id o b:=by
   intro id o b hm hb
   cases List.mem_singleton.1 hm
   rcases hb with ⟨cl,hb⟩|hb
   ·cases hb
   ·exact hb
  refine⟨_,I,fun _=>none,rfl,fun b h=>h,fun b h=>.inl h,hI,⟨fun id o hm=>?_,fun id o b hm hb=>absurd hb (no id o b hm),by simp,fun id o id' o' b hm hm' hb _=>absurd hb (no id o b hm)⟩,.slc0 0 (by omega) rfl,(fun id o o' hm=>by cases hm),(fun b hb=>?_),⟨rfl,rfl,rfl,Nat.le_refl _,fun _ _ _=>rfl⟩⟩
  ·cases List.mem_singleton.1 hm
   exact⟨by omega,.none _ rfl rfl rfl⟩
  ·obtain⟨id,o,hm,hb⟩:=hb
   exact absurd hb (no id o b hm)
 ·refine(ycm n W h0 hn).mono ?_
  rintro e w' ⟨rfl,rfl⟩
  have hGn:n≤grownCap W n 0 3:=grownCap_ge W _ _ _
  generalize grownCap W n 0 3=G at hGn⊢
  obtain⟨cells,hc⟩:∃cells:List Value,(#[]++Builtin.zeroCells (Value.int .i64 0).cells n++Builtin.zeroCells (Value.int .i64 0).cells (G-n))=cells.toArray:=⟨_,rfl⟩
  have hcl:cells.length=G*1:=by
   have:=congrArg Array.size hc
   simp[Builtin.zeroCells,Value.cells]at this
   omega
  rw[hc]
  clear hc
  have hb:(W.drew.alloc (.cells cells.toArray 3)).heap[W.heap.size]? = some (.cells cells.toArray 3 (0,0)):=by
   show(W.heap.push _)[W.heap.size]? = _
   simp
  have own:∀id o b,(id,o)∈[(0,O.arr (.nums .i64 []))]→Own (fun i=>if i=0 then some (W.heap.size,G,0)else none) (W.drew.alloc (.cells cells.toArray 3)) id o b→b=W.heap.size:=by
   intro id o b hm hb
   cases List.mem_singleton.1 hm
   rcases hb with ⟨cl,hb⟩|hb
   ·simp at hb;exact hb.1.symm
   ·exact hb.elim
  have hsz:(W.drew.alloc (.cells cells.toArray 3)).heap.size=W.heap.size+1:=by
   show(W.heap.push _).size=_
   simp
  refine⟨_,I,fun i=>if i=0 then some (W.heap.size,G,0)else none,rfl,fun b h=>h,fun b h=>.inl h,(fun b h=>by have:=hI b h;omega),⟨fun id o hm=>?_,(fun id o b hm hb=>?_),by simp,fun id o id' o' b hm hm' _ _=>?_⟩,.slc 0 0 _ _ (by omega) rfl,(fun id o o' hm=>by cases hm),(fun b hb=>?_),⟨rfl,rfl,rfl,by omega,fun b hb _=>?_⟩⟩
  ·cases List.mem_singleton.1 hm
   exact⟨by omega,.arr _ _ _ cells 3 rfl rfl hb (by show _=G*1;omega) (Nat.zero_le _) (fun i j y hi=>absurd hi (Nat.not_lt_zero _)) (fun h=>by cases h)⟩
  ·have:=own id o b hm hb
   subst this
   exact⟨fun h=>absurd (hI _ h) (Nat.lt_irrefl _),by omega⟩
  ·cases List.mem_singleton.1 hm
   cases List.mem_singleton.1 hm'
   rfl
  ·obtain⟨id,o,hm,hb⟩:=hb
   exact .inl (Nat.le_of_eq (own id o b hm hb).symm)
  ·show(W.heap.push _)[b]? = _
   rw[Array.getElem?_push]
   have:b≠W.heap.size:=by omega
   simp[this]
end Go.VL
namespace Go.Proofs
set_option linter.unusedVariables false
set_option linter.unusedSimpArgs false
open Go.RowKit Go.Lib
set_option maxHeartbeats 2000000 in
set_option maxRecDepth 100000 in
theorem yb4 (w:World):Calls Try.prog 110 #[.slice none 0 0,.int .i64 0] w fun e w'=>e=.returned (.slice none 0 0)∧w'=w:=by
 go_enter Try.func110,Try.ntmps110
 go_wp2
 go_ret
 exact⟨rfl,rfl⟩
set_option maxHeartbeats 4000000 in
set_option maxRecDepth 100000 in
theorem yb1 (n:Nat) (w:World) (h0:0<n) (hn:n≤1099511627776):Calls Try.prog 110 #[.slice none 0 0,.int .i64 n] w fun e w' =>
  e=.returned (.slice (some ⟨w.heap.size,0,none⟩) 0 (grownCap w n 0 94)) ∧
  w'=w.drew.alloc (.cells (#[]++Builtin.zeroCells (Value.agg #[.int .i64 0,.int .i64 0]).cells n++Builtin.zeroCells (Value.agg #[.int .i64 0,.int .i64 0]).cells (grownCap w n 0 94-n)) 94):=by
 obtain⟨i0,hi0,hz0,hs0,hb0⟩:=info_parts (P:=Try.prog) (e:=94) (z:=Value.agg #[.int .i64 0,.int .i64 0]) (size:=2) (bytes:=16) (by kernel_rfl)
 have h1:¬((n:Int)<0):=by omega
 have h4:(n:Int)>0:=by omega
 have hrz:∀ty,(Builtin.append_ #[64,3] ty #[.slice none 0 0,.int .i64 (n:Int)]).run Try.prog w =
   .ok (.slice (some ⟨w.heap.size,0,none⟩) n (grownCap w n 0 94)) (w.drew.alloc (.cells (#[]++Builtin.zeroCells (Value.agg #[.int .i64 0,.int .i64 0]).cells n++Builtin.zeroCells (Value.agg #[.int .i64 0,.int .i64 0]).cells (grownCap w n 0 94-n)) 94)):=fun ty=>by
  have h:=Lib.run_append_grow_zeros (P:=Try.prog) w 64 3 ty 94 i0 (Value.agg #[.int .i64 0,.int .i64 0]) .i64 .i64 Try.underlying64 Try.underlying3 hi0 hz0 none 0 0 [] (run_firstCells_none w.drew i0.size 0 0 0) n h0 (by omega) (by omega) (by omega)
   (by rw[hb0];omega) (by have:=growslice_fits (need:=0+n) (old:=0) (bytes:=i0.bytes) (by omega) (by rw[hb0];omega);exact this)
  rw[Nat.zero_add]at h
  exact h
 have hGn:n≤grownCap w n 0 94:=grownCap_ge w _ _ _
 obtain⟨G,hG⟩:∃G,G=grownCap w n 0 94:=⟨_,rfl⟩
 rw[←hG]at hrz hGn⊢
 have hG63:G≤9223372036854775807:=by
  have:=grownCap_le_maxLen w n 0 94 (by unfold maxLen;omega)
  rw[←hG]at this
  unfold maxLen at this
  omega
 clear hG
 go_enter Try.func110,Try.ntmps110
 go_wp2_with (at_builtin;refine Lib.wpList_append_run _ rfl _ _ _ _ rfl _ _ rfl rfl _ _ (hrz _) ?_)
 all_goals (go_ret;exact⟨rfl,rfl⟩)
end Go.Proofs
namespace Go.VL
set_option linter.unusedVariables false
set_option linter.unusedSimpArgs false
open Go.Proofs
theorem z9r (n:Nat) (hn:n≤1099511627776):zr Try.prog 110 0 [.nil,.c (.int .i64 n)] [] 1 (.slc 0) [(0,.arr (.prs []))]:=by
 refine⟨⟨_,Try.func110,by kernel_rfl,by kernel_rfl⟩,fun W I g argv hI hh hl ha=>?_⟩
 obtain⟨a,b,rfl⟩:∃a b,argv=[a,b]:=by
  match argv,hl with
  |[a,b],_=>exact⟨a,b,rfl⟩
 have e0:=RV.nil_inv' (ha 0 _ _ rfl rfl)
 have e1:=RV.int_inv (ha 1 _ _ rfl rfl)
 subst e0;subst e1
 rcases Nat.eq_zero_or_pos n with h0|h0
 ·subst h0
  refine(yb4 W).mono ?_
  rintro e w' ⟨rfl,rfl⟩
  have no:∀id o b,(id,o)∈[(0,O.arr (.prs []))]→¬Own (fun _=>none) w' id o b:=by
   intro id o b hm hb
   cases List.mem_singleton.1 hm
   rcases hb with ⟨cl,hb⟩|hb
   ·cases hb
   ·exact hb
  refine⟨_,I,fun _=>none,rfl,fun b h=>h,fun b h=>.inl h,hI,⟨fun id o hm=>?_,fun id o b hm hb=>absurd hb (no id o b hm),by simp,fun id o id' o' b hm hm' hb _=>absurd hb (no id o b hm)⟩,.slc0 0 (by omega) rfl,(fun id o o' hm=>by cases hm),(fun b hb=>?_),⟨rfl,rfl,rfl,Nat.le_refl _,fun _ _ _=>rfl⟩⟩
  ·cases List.mem_singleton.1 hm
   exact⟨by omega,.none _ rfl rfl rfl⟩
  ·obtain⟨id,o,hm,hb⟩:=hb
   exact absurd hb (no id o b hm)
 ·refine(yb1 n W h0 hn).mono ?_
  rintro e w' ⟨rfl,rfl⟩
  have hGn:n≤grownCap W n 0 94:=grownCap_ge W _ _ _
  generalize grownCap W n 0 94=G at hGn⊢
  obtain⟨cells,hc⟩:∃cells:List Value,(#[]++Builtin.zeroCells (Value.agg #[.int .i64 0,.int .i64 0]).cells n++Builtin.zeroCells (Value.agg #[.int .i64 0,.int .i64 0]).cells (G-n))=cells.toArray:=⟨_,rfl⟩
  have hcl:cells.length=G*2:=by
   have:=congrArg Array.size hc
   simp[Builtin.zeroCells,Value.cells]at this
   omega
  rw[hc]
  clear hc
  have hb:(W.drew.alloc (.cells cells.toArray 94)).heap[W.heap.size]? = some (.cells cells.toArray 94 (0,0)):=by
   show(W.heap.push _)[W.heap.size]? = _
   simp
  have own:∀id o b,(id,o)∈[(0,O.arr (.prs []))]→Own (fun i=>if i=0 then some (W.heap.size,G,0)else none) (W.drew.alloc (.cells cells.toArray 94)) id o b→b=W.heap.size:=by
   intro id o b hm hb
   cases List.mem_singleton.1 hm
   rcases hb with ⟨cl,hb⟩|hb
   ·simp at hb;exact hb.1.symm
   ·exact hb.elim
  have hsz:(W.drew.alloc (.cells cells.toArray 94)).heap.size=W.heap.size+1:=by
   show(W.heap.push _).size=_
   simp
  refine⟨_,I,fun i=>if i=0 then some (W.heap.size,G,0)else none,rfl,fun b h=>h,fun b h=>.inl h,(fun b h=>by have:=hI b h;omega),⟨fun id o hm=>?_,(fun id o b hm hb=>?_),by simp,fun id o id' o' b hm hm' _ _=>?_⟩,.slc 0 0 _ _ (by omega) rfl,(fun id o o' hm=>by cases hm),(fun b hb=>?_),⟨rfl,rfl,rfl,by omega,fun b hb _=>?_⟩⟩
  ·cases List.mem_singleton.1 hm
   exact⟨by omega,.arr _ _ _ cells 94 rfl rfl hb (by show _=G*2;omega) (Nat.zero_le _) (fun i j y hi=>absurd hi (Nat.not_lt_zero _)) (fun h=>by cases h)⟩
  ·have:=own id o b hm hb
   subst this
   exact⟨fun h=>absurd (hI _ h) (Nat.lt_irrefl _),by omega⟩
  ·cases List.mem_singleton.1 hm
   cases List.mem_singleton.1 hm'
   rfl
  ·obtain⟨id,o,hm,hb⟩:=hb
   exact .inl (Nat.le_of_eq (own id o b hm hb).symm)
  ·show(W.heap.push _)[b]? = _
   rw[Array.getElem?_push]
   have:b≠W.heap.size:=by omega
   simp[this]
end Go.VL
