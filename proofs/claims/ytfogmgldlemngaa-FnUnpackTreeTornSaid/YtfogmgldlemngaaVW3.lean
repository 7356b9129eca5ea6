/- V-logic: TrWb TrWc TrYa TrYb TrFa TrFb TrHa TrPa -/
import Derived.Test.YtfogmgldlemngaaVW2
import Derived.Test.YtfogmgldlemngaaVT1
import Derived.Test.YtfogmgldlemngaaVPE
import Derived.Test.YtfogmgldlemngaaVMA
import Derived.Test.YtfogmgldlemngaaVT6
import Derived.Test.YtfogmgldlemngaaVEG
import Derived.Test.YtfogmgldlemngaaVGr
namespace Go.VL
open Go.Proofs
set_option maxRecDepth 10000
set_option linter.unusedSimpArgs false
set_option linter.unusedVariables false
def VisR (root:Int) (ps:List Pg) (n:Nat) (a lo hi:Int) (f:Nat→Bool) (ld:Int) (m:Nat) (res:V) (hout:List (Nat×O)):Prop :=
 ∃(g:Nat→Bool) (ld':Int),m=1∧res=.c (.bool (zen ps root n a lo hi (tab f,ld)).isSome)∧hout=[(0,.box [.c (.int .i64 root),.c (.pgs ps)] (tab g) [.c (.int .i64 ld')])]∧∀s',zen ps root n a lo hi (tab f,ld)=some s'→s'=(tab g,ld')
theorem zho {root:Int} {ps:List Pg} {n:Nat} {a lo hi ld ld':Int} {f g:Nat→Bool} {b:Bool} (h:zen ps root n a lo hi (tab f,ld)=if b=true then some (tab g,ld')else none):VisR root ps n a lo hi f ld 1 (.c (.bool b)) [(0,.box [.c (.int .i64 root),.c (.pgs ps)] (tab g) [.c (.int .i64 ld')])] :=
 ⟨g,ld',rfl,by rw[h];cases b<;>rfl,rfl,fun s' hs=>by rw[h]at hs;cases b<;>cases hs;rfl⟩
set_option maxHeartbeats 2000000 in
theorem z2q {root:Int} {ps:List Pg} (hp:pB ps) (hl:ps.length≤16):∀(n:Nat),n≤3→∀(a dep lo hi:Int) (f:Nat→Bool) (ld:Int),dep=3-n→zce Try.prog 21 1 [.ptr 0 0 0 0,.c (.int .i64 a),.c (.int .i64 dep),.c (.int .i64 lo),.c (.int .i64 hi)] [(0,.box [.c (.int .i64 root),.c (.pgs ps)] (tab f) [.c (.int .i64 ld)])] (VisR root ps n a lo hi f ld):=by
 intro n
 induction n with
 |zero =>
  intro _ a dep lo hi f ld hd
  refine spx (fn:=Try.f21) _ ?_
  conv=>whnf
  repeat' first|(refine zn ?_ ?_;(focus ((try simp only[qA])<;>(try simp only[wA])<;>omega));conv=>whnf)|(refine zk (fun h=>?_) (fun h=>?_)<;>(try simp only[qA]at h)<;>(try simp only[wA]at h)<;>conv=>whnf)
  all_goals
   refine za1 1 (.c (.bool false)) [(0,.box [.c (.int .i64 root),.c (.pgs ps)] (tab f) [.c (.int .i64 ld)])] (zho rfl) rfl ?_
   exact(zu [] [0])
 |succ n ih =>
  intro hn a dep lo hi f ld hd
  have ih:=ih (by omega)
  obtain⟨f1,hf1⟩:∃f1,(tab f).set a.toNat true=tab f1:=⟨_,z23 f _ true⟩
  obtain⟨p,hpp⟩:∃p,zb ps a=p:=⟨_,rfl⟩
  have k1:=hp.keys a
  have k2:=hp.kids a
  have k3:=hp.vals a
  rw[hpp]at k1 k2 k3
  have hfr:=zsa root ps (tab f1) ld a hp
  obtain⟨FB,hFB⟩:∃FB,zir (zb ps a) (decide (a=root))=FB:=⟨_,rfl⟩
  have e:zen ps root (n+1) a lo hi (tab f,ld)=if a<0∨(ps.length:Int)≤a∨(tab f).getD a.toNat false=true then none
   else if FB=false then none
   else if (p.keys.all fun x=>decide (lo≤x∧x<hi))=false then none
   else if p.kids.length=0 then
    (if ld<0 then some (tab f1,dep)else if ld=dep then some (tab f1,ld)else none)
   else zkg (zen ps root n) lo hi p.keys p.kids (tab f1,ld):=by
   subst hpp
   rw[zen,hFB,hf1]
   have:dep=2-(n:Int):=by omega
   subst this
   rfl
  rw[hFB]at hfr
  have hkl:FB=true→p.kids.length≠0→p.kids.length=p.keys.length+1:=fun h1 h2=>by
   subst hpp
   rw[←hFB]at h1
   unfold zir at h1
   rw[if_pos (Nat.pos_of_ne_zero h2)]at h1
   repeat' split at h1
   all_goals first|(cases h1;done)|exact(of_decide_eq_true h1).2.2
  clear hFB
  replace hpp:ps.getD a.toNat ⟨[],[],[]⟩=p:=hpp
  refine spx (fn:=Try.f21) _ ?_
  conv=>whnf
  repeat' first
   |(refine zm ?_ ?_;(focus ((try simp only[qA])<;>(try simp only[wA])<;>omega));conv=>whnf)
   |(refine za (by(try simp only[wA,wL])<;>omega) ?_;conv=>whnf)
   |(refine zk (fun h=>?_) (fun h=>?_)<;>(try simp only[qA]at h)<;>(try simp only[wA]at h)<;>conv=>whnf)
  ·refine za1 1 (.c (.bool false)) [(0,.box [.c (.int .i64 root),.c (.pgs ps)] (tab f) [.c (.int .i64 ld)])] (zho (by rw[e,if_pos (.inl (by omega))];rfl)) rfl ?_
   exact(zu [] [0])
  ·refine za1 1 (.c (.bool false)) [(0,.box [.c (.int .i64 root),.c (.pgs ps)] (tab f) [.c (.int .i64 ld)])] (zho (by rw[e,if_pos (.inr (.inl (by omega)))];rfl)) rfl ?_
   exact(zu [] [0])
  ·refine za1 1 (.c (.bool false)) [(0,.box [.c (.int .i64 root),.c (.pgs ps)] (tab f) [.c (.int .i64 ld)])] (zho (by rw[e,if_pos (.inr (.inr (by assumption)))];rfl)) rfl ?_
   exact(zu [] [0])
  rename_i ha0 ha1
  rw[if_neg (by rintro(q|q|q)<;>first|omega|(rw[h]at q;cases q))]at e
  rw[hf1]
  have hfr:=hfr (by omega) (by omega)
  repeat' first
   |(refine za (by(try simp only[wA,wL])<;>omega) ?_;conv=>whnf)
   |(refine zk (fun h=>?_) (fun h=>?_)<;>(try simp only[qA]at h)<;>(try simp only[wA]at h)<;>conv=>whnf)
   |(refine zal [] [0] (hfr) ⟨rfl,rfl,rfl,(by repeat first|exact trivial|refine⟨rfl,?_⟩),⟨rfl,rfl,rfl,rfl,rfl,rfl⟩,?_⟩;conv=>whnf)
  ·refine za1 1 (.c (.bool false)) [(0,.box [.c (.int .i64 root),.c (.pgs ps)] (tab f1) [.c (.int .i64 ld)])] (zho (by rw[e,if_pos (by assumption)];rfl)) rfl ?_
   exact(zu [] [0])
  rw[if_neg (by rw[h];decide)]at e
  have hkl:=hkl h
  rw[hpp]
  refine zau (fun k:Nat=>(p.keys.take k).all (fun x=>decide (lo≤x∧x<hi))=true) (fun k=>⟨131,2,[(0,.ptr 0 0 0 0),(2,.c (.int .i64 dep)),(3,.c (.int .i64 lo)),(4,.c (.int .i64 hi)),(11,.ptr 1 0 0 0),(60,.c (.nums .i64 p.keys)),(61,.c (.int .i64 p.keys.length)),(62,.c (.int .i64 k))],[(0,.box [.c (.int .i64 root),.c (.pgs ps)] (tab f1) [.c (.int .i64 ld)]),(1,.box [.c (.nums .i64 p.keys),.c (.nums .i64 p.kids),.c (.nums .i64 p.vals)] [] [])]⟩) (fun k=>p.keys.length-k) 0 (by simp) (fun _=>Nat.le_succ 1) (ydn [] [0,1]) (fun k hk=>?_)
  conv=>whnf
  repeat' first
   |(refine za (by(try simp only[wA,wL])<;>omega) ?_;conv=>whnf)
   |(refine zk (fun h=>?_) (fun h=>?_)<;>(try simp only[qA]at h)<;>(try simp only[wA]at h)<;>conv=>whnf)
   |(refine zg (by(try simp only[wA,wL])<;>omega) (by(try simp only[wA,wL])<;>omega) ?_;conv=>whnf)
  ·have hx:(p.keys.all fun x=>decide (lo≤x∧x<hi))=false:=zf6 0 (k:=k) (by omega) (decide_eq_false (by omega))
   refine za1 1 (.c (.bool false)) [(0,.box [.c (.int .i64 root),.c (.pgs ps)] (tab f1) [.c (.int .i64 ld)])] (zho (by rw[e,if_pos hx];rfl)) rfl ?_
   exact(zu [] [0])
  ·have hx:(p.keys.all fun x=>decide (lo≤x∧x<hi))=false:=zf6 0 (k:=k) (by omega) (decide_eq_false (by omega))
   refine za1 1 (.c (.bool false)) [(0,.box [.c (.int .i64 root),.c (.pgs ps)] (tab f1) [.c (.int .i64 ld)])] (zho (by rw[e,if_pos hx];rfl)) rfl ?_
   exact(zu [] [0])
  ·refine⟨⟨k+1,zeg 0 hk (by omega) (decide_eq_true (by omega))⟩,(ydn [] [0,1]),by dsimp only;omega⟩
  all_goals
   have hx:(p.keys.all fun x=>decide (lo≤x∧x<hi))=true:=zh3 hk (by omega)
   rw[if_neg (by rw[hx];decide)]at e
  ·rw[if_pos (by omega),if_pos (by omega)]at e
   refine za1 1 (.c (.bool (dep==dep))) [(0,.box [.c (.int .i64 root),.c (.pgs ps)] (tab f1) [.c (.int .i64 dep)])] (zho (by rw[e,if_pos (by simp)])) rfl ?_
   exact(zu [] [0])
  ·rw[if_pos (by omega),if_neg (by omega)]at e
   refine za1 1 (.c (.bool (ld==dep))) [(0,.box [.c (.int .i64 root),.c (.pgs ps)] (tab f1) [.c (.int .i64 ld)])] (zho (by rw[e];simp only[beq_iff_eq])) rfl ?_
   exact(zu [] [0])
  rw[if_neg (by omega)]at e
  have hkl:=hkl (by omega)
  rw[←ztm (by omega)]at e
  refine zk5 (fun(i:Nat) (g:Nat→Bool) (l:Int)=>i≤p.kids.length∧zim (zen ps root n) lo hi p.keys p.kids i (tab f1,ld)=some (tab g,l)) (fun i g l=>⟨131,2,[(0,.ptr 0 0 0 0),(2,.c (.int .i64 dep)),(3,.c (.int .i64 lo)),(4,.c (.int .i64 hi)),(11,.ptr 1 0 0 0),(95,.c (.nums .i64 p.kids)),(96,.c (.int .i64 p.kids.length)),(97,.c (.int .i64 i))],[(0,.box [.c (.int .i64 root),.c (.pgs ps)] (tab g) [.c (.int .i64 l)]),(1,.box [.c (.nums .i64 p.keys),.c (.nums .i64 p.kids),.c (.nums .i64 p.vals)] [] [])]⟩) (fun i g l=>p.kids.length-i) 0 f1 ld ⟨Nat.zero_le _,rfl⟩ (fun _ _ _=>Nat.le_succ 1) (ydn [] [0,1]) (fun i g l hi'=>?_)
  obtain⟨hil,hu⟩:=hi'
  have hstep:zim (zen ps root n) lo hi p.keys p.kids (i+1) (tab f1,ld)=zen ps root n (p.kids.getD i 0) (if 0<i then p.keys.getD (i-1) 0 else lo) (if i<p.keys.length then p.keys.getD i 0 else hi) (tab g,l):=by
   rw[zim,hu];rfl
  obtain⟨FR,hFR⟩:∃FR,(if 0<i then p.keys.getD (i-1) 0 else lo)=FR:=⟨_,rfl⟩
  obtain⟨TO,hTO⟩:∃TO,(if i<p.keys.length then p.keys.getD i 0 else hi)=TO:=⟨_,rfl⟩
  have hv:=ih (p.kids.getD i 0) (dep+1) FR TO g l (by omega)
  rw[hFR,hTO]at hstep
  conv=>whnf
  repeat' first
   |(refine za (by(try simp only[wA,wL])<;>omega) ?_;conv=>whnf)
   |(refine zk (fun h=>?_) (fun h=>?_)<;>(try simp only[qA]at h)<;>(try simp only[wA]at h)<;>conv=>whnf)
   |(refine zg (by(try simp only[wA,wL])<;>omega) (by(try simp only[wA,wL])<;>omega) ?_;conv=>whnf)
  rotate_right
  ·have hi2:i=p.kids.length:=by omega
   subst hi2
   refine za1 1 (.c (.bool true)) [(0,.box [.c (.int .i64 root),.c (.pgs ps)] (tab g) [.c (.int .i64 l)])] (zho (by rw[e,hu];rfl)) rfl ?_
   exact(zu [] [0])
  all_goals first
   |(have q:p.keys.getD ((i:Int)-1).toNat 0=FR:=by rw[w2,←hFR,if_pos (by omega)]
     subst q)
   |(have q:lo=FR:=by rw[←hFR,if_neg (by omega)]
     subst q)
  all_goals first
   |(have q:p.keys.getD ((i:Int)).toNat 0=TO:=by rw[w1,←hTO,if_pos (by omega)]
     subst q)
   |(have q:hi=TO:=by rw[←hTO,if_neg (by omega)]
     subst q)
  all_goals
   refine zbw [] [0] hv ⟨rfl,rfl,rfl,(by repeat first|exact trivial|refine⟨rfl,?_⟩),⟨rfl,rfl,rfl⟩,?_⟩
   rintro m res hout ⟨g',l',rfl,rfl,rfl,hs⟩
   refine⟨⟨rfl,rfl,rfl⟩,?_⟩
   conv=>whnf
   repeat' first|(refine zk (fun h=>?_) (fun h=>?_)<;>(try simp only[qA]at h)<;>(try simp only[wA]at h)<;>conv=>whnf)|(refine zg (by(try simp only[wA,wL])<;>omega) (by(try simp only[wA,wL])<;>omega) ?_;conv=>whnf)
   ·refine za1 1 (.c (.bool false)) [(0,.box [.c (.int .i64 root),.c (.pgs ps)] (tab g') [.c (.int .i64 l')])] (zho (by rw[e,zzy (i:=i+1) (by rw[hstep];simpa using h) _ (by omega)];rfl)) rfl ?_
    exact(zu [] [0])
   ·obtain⟨s',hs'⟩:=Option.isSome_iff_exists.1 h
    have:=hs _ hs'
    subst this
    refine⟨⟨(i+1,g',l'),?_⟩,(ydn [] [0,1]),by dsimp only;omega⟩
    exact⟨by omega,by rw[hstep];exact hs'⟩
end Go.VL
namespace Go.VL
open Go.Proofs
set_option maxRecDepth 10000
set_option linter.unusedSimpArgs false
set_option linter.unusedVariables false
set_option maxHeartbeats 4000000 in
theorem zbi (root:Int) (ps:List Pg) (hp:pB ps):zr Try.prog 11 0 [trV root ps] [] 0 (.c (.bool (vTree root ps))) []:=by
 have k4:=hp.len
 by_cases hl:1≤ps.length∧ps.length≤16
 ·have hX:=zyk (root:=root) hl.1 hl.2
  obtain⟨X,hXX⟩:∃X,vTree root ps=X:=⟨_,rfl⟩
  rw[hXX]at hX⊢
  clear hXX
  have hv:=zwq (z2q (root:=root) hp hl.2 3 (Nat.le_refl _) root 0 0 100 (fun _=>false) (-1) (by omega))
  refine spi (fn:=Try.f11) _ ?_
  conv=>whnf
  repeat' (refine zm ?_ ?_;(focus ((try simp only[qA])<;>(try simp only[wA])<;>omega));conv=>whnf)
  refine zbw [] [1] hv ⟨rfl,rfl,rfl,(by repeat first|exact trivial|refine⟨rfl,?_⟩),⟨rfl,rfl,rfl⟩,?_⟩
  rintro m res hout ⟨g,ld,rfl,rfl,rfl,hs⟩
  refine⟨⟨rfl,rfl,rfl⟩,?_⟩
  conv=>whnf
  have hX:X=match zen ps root 3 root 0 100 (tab fun _=>false,-1)with
   |some s=>(List.range ps.length).all fun i=>s.1.getD i false
   |none=>false:=hX
  generalize zen ps root 3 root 0 100 (tab fun _=>false,-1)=VF at *
  cases VF with
  |none =>
   subst hX
   conv=>whnf
   repeat' first|(refine zk (fun h=>?_) (fun h=>?_)<;>(try simp only[qA]at h)<;>(try simp only[wA]at h)<;>conv=>whnf)|refine zd ?_
   ·rfl
   ·cases h
  |some s' =>
   have:=hs _ rfl
   subst this
   conv=>whnf
   repeat' first|(refine zk (fun h=>?_) (fun h=>?_)<;>(try simp only[qA]at h)<;>(try simp only[wA]at h)<;>conv=>whnf)|refine zd ?_
   ·cases h
   refine zau (fun i:Nat=>i≤ps.length∧∀k,k<i→(tab g).getD k false=true) (fun i=>⟨33,1,[(3,.ptr 0 0 0 0),(23,.c (.int .i64 ps.length)),(24,.c (.int .i64 i))],[(0,.box [.c (.int .i64 root),.c (.pgs ps)] (tab g) [.c (.int .i64 ld)])]⟩) (fun i=>ps.length-i) 0 ⟨Nat.zero_le _,fun k hk=>absurd hk (Nat.not_lt_zero _)⟩ (fun _=>Nat.zero_le _) (ydn [] [1]) (fun i hi=>?_)
   obtain⟨hil,hi⟩:=hi
   have h16:(tab g).length=16:=rfl
   conv=>whnf
   repeat' first
    |(refine za (by(try simp only[wA,wL])<;>omega) ?_;conv=>whnf)
    |(refine zk (fun h=>?_) (fun h=>?_)<;>(try simp only[qA]at h)<;>(try simp only[wA]at h)<;>conv=>whnf)
    |refine zc ?_
    |refine zd ?_
    |(refine zg (by(try simp only[wA,wL])<;>omega) (by(try simp only[wA,wL])<;>omega) ?_;conv=>whnf)
   ·rw[hX]
    exact Bool.eq_false_iff.2 fun q=>by
     have:=List.all_eq_true.1 q i (List.mem_range.2 (by omega))
     rw[show(tab g).getD i false=false from h]at this
     cases this
   ·refine⟨⟨i+1,by omega,fun k hk=>?_⟩,(ydn [] [0]),by dsimp only;omega⟩
    rcases Nat.lt_or_ge k i with c|c
    ·exact hi k c
    ·obtain rfl:k=i:=by omega
     exact h
   ·rw[hX]
    exact List.all_eq_true.2 fun k hk=>hi k (by have:=List.mem_range.1 hk;omega)
 ·have e:vTree root ps=false:=by
   cases hv:vTree root ps with
   |false=>rfl
   |true =>
    obtain⟨_,v⟩:=zdk.1 hv
    exact absurd ⟨v.l1,v.l16⟩ hl
  rw[e]
  rcases(by omega:ps.length<1∨16<ps.length)with c|c
  all_goals
   refine spi (fn:=Try.f11) _ ?_
   conv=>whnf
   repeat' first|(refine zn ?_ ?_;(focus ((try simp only[qA])<;>(try simp only[wA])<;>omega));conv=>whnf)|(refine zm ?_ ?_;(focus ((try simp only[qA])<;>(try simp only[wA])<;>omega));conv=>whnf)|refine zd ?_
  all_goals rfl
end Go.VL
namespace Go.VL
open Go.Proofs
set_option maxRecDepth 10000
set_option linter.unusedSimpArgs false
set_option linter.unusedVariables false
theorem zxh (p:Pg):zr Try.prog 42 0 [pgV p] [] 0 (inV p) []:=by
 refine spi (fn:=Try.f42) _ ?_
 conv=>whnf
 skip
 exact(zu [] [])
theorem zo8 {l:List Int} {i:Nat} (hi:i<l.length):(l.take (i+1)).Nodup↔(l.take i).Nodup∧l.getD i 0∉l.take i:=by
 rw[zat 0 hi,List.nodup_append]
 constructor
 ·rintro⟨a,b,c⟩
  exact⟨a,fun h=>c _ h _ (List.mem_singleton.2 rfl) rfl⟩
 ·rintro⟨a,b⟩
  refine⟨a,List.pairwise_singleton _ _,fun x hx y hy=>?_⟩
  rw[List.mem_singleton.1 hy]
  exact fun q=>b (q▸hx)
theorem zuk (keys kids vals:List Int) (h1:keys.length≤4294967296) (h2:kids.length≤4294967296):zr Try.prog 41 0 [.agg [.c (.nums .i64 keys),.c (.nums .i64 kids)]] [] 0 (.c (.bool (zl3 ⟨keys,kids,vals⟩))) []:=by
 have hk:=zfj keys h1
 have e:zl3 ⟨keys,kids,vals⟩=(decide (1≤keys.length∧keys.length≤5)&&za2 keys&&decide (kids.length=keys.length+1)&&(kids.all fun x=>decide (0≤x∧x≤15))&&decide kids.Nodup):=rfl
 generalize zl3 ⟨keys,kids,vals⟩=X at *
 generalize za2 keys=VK at *
 refine spi (fn:=Try.f41) _ ?_
 conv=>whnf
 repeat' first
  |(refine zk (fun h=>?_) (fun h=>?_)<;>(try simp only[qA]at h)<;>(try simp only[wA]at h)<;>conv=>whnf)
  |refine zd ?_
  |(refine zg (by(try simp only[wA,wL])<;>omega) (by(try simp only[wA,wL])<;>omega) ?_;conv=>whnf)
  |(refine yhk (hk) rfl rfl ?_;conv=>whnf)
 ·rw[e,decide_eq_false (by omega)];rfl
 ·rw[e,decide_eq_false (by omega)];rfl
 ·rw[e,h,Bool.and_false];rfl
 ·rw[e,decide_eq_false (p:=kids.length=keys.length+1) (by omega),Bool.and_false];rfl
 have e:X=((kids.all fun x=>decide (0≤x∧x≤15))&&decide kids.Nodup):=by
  rename_i q1 q2 q3
  rw[e,decide_eq_true (by omega),q3,decide_eq_true (p:=kids.length=keys.length+1) (by omega)];rfl
 refine zd0 (fun(i:Nat) (bs:List Bool)=>i≤kids.length∧ziz bs (kids.take i)∧(kids.take i).all (fun x=>decide (0≤x∧x≤15))=true∧(kids.take i).Nodup) (fun i bs=>⟨51,1,[(3,.ptr 0 0 1 0),(31,.c (.nums .i64 kids)),(32,.c (.int .i64 kids.length)),(33,.c (.int .i64 i))],[(0,.arr (.bools bs))]⟩) (fun i bs=>kids.length-i) 0 (List.replicate 16 false) ⟨Nat.zero_le _,ziz.none,rfl,List.nodup_nil⟩ (fun _ _=>Nat.zero_le _) (ydn [] [1]) (fun i bs hi=>?_)
 obtain⟨hil,hs,hal,hnd⟩:=hi
 have hbl:=hs.1
 conv=>whnf
 repeat' first
  |(refine za (by(try simp only[wA,wL])<;>omega) ?_;conv=>whnf)
  |(refine zk (fun h=>?_) (fun h=>?_)<;>(try simp only[qA]at h)<;>(try simp only[wA]at h)<;>conv=>whnf)
  |refine zc ?_
  |refine zd ?_
  |(refine zg (by(try simp only[wA,wL])<;>omega) (by(try simp only[wA,wL])<;>omega) ?_;conv=>whnf)
 ·rw[e,show(kids.all fun x=>decide (0≤x∧x≤15))=false from zf6 0 (k:=i) (by omega) (decide_eq_false (by omega))];rfl
 ·rw[e,show(kids.all fun x=>decide (0≤x∧x≤15))=false from zf6 0 (k:=i) (by omega) (decide_eq_false (by omega))];rfl
 ·rw[hs.at (by omega) (by omega)]at h
  rw[e,decide_eq_false (p:=kids.Nodup) (fun q=>((zo8 (by omega)).1 ((List.take_sublist (i+1) kids).nodup q)).2 (of_decide_eq_true h)),Bool.and_false]
 ·rw[hs.at (by omega) (by omega)]at h
  refine⟨⟨(i+1,bs.set (kids.getD i 0).toNat true),?_⟩,(ydn [] [0]),by dsimp only;omega⟩
  refine⟨by omega,?_,zeg 0 hal (by omega) (decide_eq_true (by omega)),(zo8 (by omega)).2 ⟨hnd,of_decide_eq_false h⟩⟩
  dsimp only
  rw[zat 0 (by omega)]
  exact hs.snoc (by omega) (by omega)
 ·rw[List.take_of_length_le (by omega)]at hnd
  rw[e,show(kids.all fun x=>decide (0≤x∧x≤15))=true from zh3 hal (by omega),decide_eq_true hnd];rfl
end Go.VL
namespace Go.VL
open Go.Proofs
set_option maxRecDepth 10000
set_option linter.unusedSimpArgs false
set_option linter.unusedVariables false
end Go.VL
namespace Go.VL
open Go.Proofs
set_option maxRecDepth 10000
set_option linter.unusedSimpArgs false
set_option linter.unusedVariables false
end Go.VL
namespace Go.VL
open Go.Proofs
set_option maxRecDepth 10000
set_option linter.unusedSimpArgs false
set_option linter.unusedVariables false
structure LfF (root:Int) (ps:List Pg) (key:Int) (d:Nat):Prop where
 d3:d<3
 ht:htF root ps=d+1
 p0:0≤lfF ps key (d+1) root
 p1:lfF ps key (d+1) root<ps.length
 kl:(zb ps (lfF ps key (d+1) root)).keys.length≤4
 vl:(zb ps (lfF ps key (d+1) root)).vals.length=(zb ps (lfF ps key (d+1) root)).keys.length
 kids:(zb ps (lfF ps key (d+1) root)).kids=[]
 row:zdb (zab (zb ps (lfF ps key (d+1) root)))=true
 val:zei (zab (zb ps (lfF ps key (d+1) root))) key=zei (psF root ps) key
 has:((zab (zb ps (lfF ps key (d+1) root))).map Pr.key).contains key=((psF root ps).map Pr.key).contains key
 len:(ptF ps key (d+1) root).length=d+1
 last:(ptF ps key (d+1) root).getD d 0=lfF ps key (d+1) root
end Go.VL
namespace Go.VL
open Go.Proofs
set_option maxRecDepth 10000
set_option linter.unusedSimpArgs false
set_option linter.unusedVariables false
theorem zvt (xs:List Int) (hl:xs.length≤4294967296):zr Try.prog 31 0 [.c (.nums .i64 xs)] [] 1 (.slc 0) [(0,.arr (.nums .i64 xs))]:=by
 refine zq9 (R:=fun m res hout=>(m=1∧res=.slc 0∧hout=[(0,.arr (.nums .i64 xs))])∨(m=0∧res=.nil∧hout=[]∧xs=[])) ?_ (by
  rintro m res hout (h|⟨h1,h2,h3,rfl⟩)
  ·exact .inl h
  ·exact .inr ⟨h1,h2,h3,rfl,rfl⟩)
 refine spx (fn:=Try.f31) _ ?_
 conv=>whnf
 refine zye (fun h=>?_) ?_
 ·conv=>whnf
  skip
  refine za1 0 .nil [] (.inr ⟨rfl,rfl,rfl,List.eq_nil_of_length_eq_zero h⟩) rfl ?_
  exact(zu [] [])
 ·conv=>whnf
  repeat' (refine za (by(try simp only[wA,wL])<;>omega) ?_;conv=>whnf)
  refine za1 1 (.slc 0) [(0,.arr (.nums .i64 xs))] (.inl ⟨rfl,rfl,rfl⟩) rfl ?_
  exact(zu [] [0])
end Go.VL
namespace Go.VL
open Go.Proofs
set_option maxRecDepth 10000
set_option linter.unusedSimpArgs false
set_option linter.unusedVariables false
theorem yb6 (l:List Int):-2003<z47 l∧z47 l<2003:=by
 rcases List.eq_nil_or_concat l with rfl|⟨i,x,rfl⟩
 ·decide
 ·have e:z47 (i.concat x)=(z47 i*41+x).tmod 2003:=by unfold z47;rw[List.concat_eq_append,List.foldl_append];rfl
  rw[e]
  exact⟨Int.lt_tmod_of_pos _ (by decide),Int.tmod_lt_of_pos _ (by decide)⟩
theorem yc2 {xs:List Int} {k:Nat} (h:k<xs.length):z47 (xs.take (k+1))=(z47 (xs.take k)*41+xs.getD k 0).tmod 2003:=by
 rw[zat 0 h];unfold z47;rw[List.foldl_append];rfl
def nmB (xs:List Int):Prop:=xs.length≤1048576∧∀i,-1048576≤xs.getD i 0∧xs.getD i 0≤1048576
theorem yh1 (xs:List Int) (hb:nmB xs):zr Try.prog 48 0 [.c (.nums .i64 xs)] [] 0 (.c (.int .i64 (z47 xs))) []:=by
 obtain⟨hl,hb⟩:=hb
 refine spi (fn:=Try.f48) _ ?_
 conv=>whnf
 refine zd0 (fun(k:Nat) (n:Int)=>k≤xs.length∧n=z47 (xs.take k)) (fun k n=>⟨20,0,[(0,.c (.nums .i64 xs)),(3,.c (.int .i64 n)),(4,.c (.int .i64 k))],[]⟩) (fun k _=>xs.length-k) 0 23 ⟨Nat.zero_le _,rfl⟩ (fun _ _=>Nat.zero_le _) zbn (fun k n hk=>?_)
 obtain⟨hk,hn⟩:=hk
 have hc:=yb6 (xs.take k)
 have hx:=hb k
 have e:=Int.toNat_natCast k
 rw[←hn]at hc
 conv=>whnf
 repeat' first
  |(refine za (by(try simp only[wA,wL])<;>omega) ?_;conv=>whnf)
  |(refine zk (fun h=>?_) (fun h=>?_)<;>(try simp only[qA]at h)<;>(try simp only[wA]at h)<;>conv=>whnf)
  |refine zi ?_
  |(refine zg (by(try simp only[wA,wL])<;>omega) (by(try simp only[wA,wL])<;>omega) ?_;conv=>whnf)
 ·exact⟨⟨(k+1,(n*41+xs.getD k 0).tmod 2003),by omega,by rw[yc2 (by omega),hn]⟩,zbn,by dsimp only;omega⟩
 ·rw[hn,List.take_of_length_le (by omega)]
theorem yh7 (xs:List Int) (hb:nmB xs):zr Try.prog 24 0 [.c (.nums .i64 xs)] [] 0 (.c (.int .i64 (z47 xs))) []:=by
 obtain⟨hl,hb⟩:=hb
 refine spi (fn:=Try.f24) _ ?_
 conv=>whnf
 refine zd0 (fun(k:Nat) (n:Int)=>k≤xs.length∧n=z47 (xs.take k)) (fun k n=>⟨19,0,[(3,.c (.int .i64 n)),(6,.c (.nums .i64 xs)),(7,.c (.int .i64 xs.length)),(8,.c (.int .i64 k))],[]⟩) (fun k _=>xs.length-k) 0 23 ⟨Nat.zero_le _,rfl⟩ (fun _ _=>Nat.zero_le _) zbn (fun k n hk=>?_)
 obtain⟨hk,hn⟩:=hk
 have hc:=yb6 (xs.take k)
 have hx:=hb k
 have e:=Int.toNat_natCast k
 rw[←hn]at hc
 conv=>whnf
 repeat' first
  |(refine za (by(try simp only[wA,wL])<;>omega) ?_;conv=>whnf)
  |(refine zk (fun h=>?_) (fun h=>?_)<;>(try simp only[qA]at h)<;>(try simp only[wA]at h)<;>conv=>whnf)
  |refine zi ?_
  |(refine zg (by(try simp only[wA,wL])<;>omega) (by(try simp only[wA,wL])<;>omega) ?_;conv=>whnf)
 ·exact⟨⟨(k+1,(41*n+xs.getD k 0).tmod 2003),by omega,by rw[yc2 (by omega),hn,Int.mul_comm]⟩,zbn,by dsimp only;omega⟩
 ·rw[hn,List.take_of_length_le (by omega)]
theorem yh0 (xs ys:List Int) (hl:xs.length≤4294967296) (hm:ys.length≤4294967296):zr Try.prog 32 0 [.c (.nums .i64 xs),.c (.nums .i64 ys)] [] 0 (.c (.bool (decide (xs=ys)))) []:=by
 refine spi (fn:=Try.f32) _ ?_
 conv=>whnf
 repeat' first|(refine zk (fun h=>?_) (fun h=>?_)<;>(try simp only[qA]at h)<;>(try simp only[wA]at h)<;>conv=>whnf)|refine zd ?_
 ·exact decide_eq_false (fun q=>by subst q;omega)
 refine zau (fun k:Nat=>k≤xs.length∧xs.take k=ys.take k) (fun k=>⟨26,0,[(0,.c (.nums .i64 xs)),(1,.c (.nums .i64 ys)),(12,.c (.int .i64 xs.length)),(13,.c (.int .i64 k))],[]⟩) (fun k=>xs.length-k) 0 ⟨Nat.zero_le _,rfl⟩ (fun _=>Nat.zero_le _) zbn (fun k hk=>?_)
 obtain⟨hk,he⟩:=hk
 conv=>whnf
 repeat' first
  |(refine za (by kernel_rfl) ?_;conv=>whnf)
  |(refine za (by(try simp only[wA,wL])<;>omega) ?_;conv=>whnf)
  |(refine zk (fun h=>?_) (fun h=>?_)<;>(try simp only[qA]at h)<;>(try simp only[wA]at h)<;>conv=>whnf)
  |refine zc ?_
  |refine zd ?_
  |(refine zg (by(try simp only[wA,wL])<;>omega) (by(try simp only[wA,wL])<;>omega) ?_;conv=>whnf)
  |(refine ze ?_;conv=>whnf)
 ·exact decide_eq_false (fun q=>by subst q;omega)
 ·exact⟨⟨k+1,by omega,by rw[zat 0 (by omega),zat 0 (by omega),he,(by assumption:xs.getD k 0=ys.getD k 0)]⟩,zbn,by dsimp only;omega⟩
 ·rw[List.take_of_length_le (by omega),List.take_of_length_le (by omega)]at he
  exact decide_eq_true he
theorem z8v (L:List (List Int)) (hL:L.length≤1024) (h:L.flatten.length≤1048576):zr Try.prog 23 0 [.c (.numss L)] [] 1 (.slc 0) [(0,.arr (.nums .i64 L.flatten))]:=by
 have hs:∀k,k<L.length→(L.take k).flatten.length+(L.getD k []).length≤1048576∧(L.take (k+1)).flatten=(L.take k).flatten++L.getD k []:=fun k hk=>by
  have e:(L.take (k+1)).flatten=(L.take k).flatten++L.getD k []:=by rw[zat [] hk,List.flatten_append];simp
  have e2:=congrArg (fun M=>(List.flatten M).length) (List.take_append_drop (k+1) L)
  simp only[List.flatten_append,List.length_append,e]at e2
  exact⟨by omega,e⟩
 refine spi (fn:=Try.f23) _ ?_
 conv=>whnf
 refine zd0 (fun(k:Nat) (n:Nat)=>k≤L.length∧n=(L.take k).flatten.length) (fun k n=>⟨36,0,[(0,.c (.numss L)),(3,.c (.int .i64 n)),(9,.c (.numss L)),(10,.c (.int .i64 L.length)),(11,.c (.int .i64 k))],[]⟩) (fun k _=>L.length-k) 0 0 ⟨Nat.zero_le _,rfl⟩ (fun _ _=>Nat.zero_le _) zbn (fun k n hk=>?_)
 obtain⟨hk,hn⟩:=hk
 by_cases hk2:k<L.length
 ·obtain⟨e1,e2⟩:=hs k hk2
  rw[←hn]at e1
  replace e2:n+(L.getD k []).length=(L.take (k+1)).flatten.length:=by rw[e2,hn,List.length_append]
  conv=>whnf
  repeat' first
   |(refine zn ?_ ?_;(focus ((try simp only[qA])<;>(try simp only[wA])<;>omega));conv=>whnf)
   |(refine zm ?_ ?_;(focus ((try simp only[qA])<;>(try simp only[wA])<;>omega));conv=>whnf)
   |(refine za (by(try simp only[wA,wL])<;>omega) ?_;conv=>whnf)
   |(refine zg (by(try simp only[wA,wL])<;>omega) (by(try simp only[wA,wL])<;>omega) ?_;conv=>whnf)
  exact⟨⟨(k+1,n+(L.getD k []).length),by omega,e2⟩,zbn,by dsimp only;omega⟩
 ·rw[List.take_of_length_le (by omega)]at hn
  conv=>whnf
  repeat' first|(refine zm ?_ ?_;(focus ((try simp only[qA])<;>(try simp only[wA])<;>omega));conv=>whnf)|(refine z8 (ya0 n (by omega)) rfl ?_;conv=>whnf)
  refine zd0 (fun(k:Nat) (M:List Int)=>k≤L.length∧M=(L.take k).flatten) (fun k M=>⟨36,1,[(6,.slc 0),(25,.c (.numss L)),(26,.c (.int .i64 L.length)),(27,.c (.int .i64 k))],[(0,.arr (.nums .i64 M))]⟩) (fun k _=>L.length-k) 0 [] ⟨Nat.zero_le _,rfl⟩ (fun _ _=>Nat.zero_le _) (ydn [] [0]) (fun k M hk=>?_)
  obtain⟨hk,hM⟩:=hk
  by_cases hk2:k<L.length
  ·obtain⟨e1,e2⟩:=hs k hk2
   rw[←hM]at e1 e2
   conv=>whnf
   repeat' first
    |(refine zn ?_ ?_;(focus ((try simp only[qA])<;>(try simp only[wA])<;>omega));conv=>whnf)
    |(refine za (by(try simp only[wA,wL])<;>omega) ?_;conv=>whnf)
    |(refine zg (by(try simp only[wA,wL])<;>omega) (by(try simp only[wA,wL])<;>omega) ?_;conv=>whnf)
   exact⟨⟨(k+1,M++L.getD k []),by omega,e2.symm⟩,(ydn [] [0]),by dsimp only;omega⟩
  ·rw[List.take_of_length_le (by omega)]at hM
   subst hM
   conv=>whnf
   repeat' (refine zm ?_ ?_;(focus ((try simp only[qA])<;>(try simp only[wA])<;>omega));conv=>whnf)
   exact(zu [] [0])
theorem yaz (a b c:List Int) (h:a.length+b.length+c.length≤1048576):zr Try.prog 23 0 [.c (.numss [a,b,c])] [] 1 (.slc 0) [(0,.arr (.nums .i64 (a++(b++c))))]:=by
 have:=z8v [a,b,c] (by simp) (by simp;omega)
 rwa [show [a,b,c].flatten=a++(b++c) by simp]at this
structure pgB (p:Pg):Prop where
 keys:p.keys.length≤4294967296
 kids:p.kids.length≤4294967296
 vals:p.vals.length≤4294967296
theorem z9s {p:Pg} (h:4<p.keys.length∨za2 p.keys=false):zin p=false:=by
 unfold zin
 rcases h with h|h
 ·rw[if_pos h]
 ·split
  ·rfl
  ·rfl
theorem ycg {p:Pg} (h:¬4<p.keys.length) (hv:za2 p.keys=true):zin p=if p.kids.length=0 then decide (p.vals.length=p.keys.length)&&vl1 p.vals else decide (p.vals.length=0)&&zl3 p:=by
 unfold zin
 rw[if_neg h,if_neg (by rw[hv];decide)]
theorem yhl (p:Pg) (hp:pgB p):zr Try.prog 22 0 [pgV p] [] 0 (.c (.bool (zin p))) []:=by
 have hvi:=zuk p.keys p.kids p.vals hp.keys hp.kids
 have hio:=zxh p
 have hk:=zfj p.keys hp.keys
 obtain⟨h1,h2,h3⟩:=hp
 have n:=z9s (p:=p)
 have y:=ycg (p:=p)
 rw[show(⟨p.keys,p.kids,p.vals⟩:Pg)=p from rfl]at hvi
 generalize zin p=X at *
 generalize zl3 p=VI at *
 generalize za2 p.keys=VK at *
 refine spi (fn:=Try.f22) _ ?_
 conv=>whnf
 repeat' first
  |(refine zk (fun h=>?_) (fun h=>?_)<;>(try simp only[qA]at h)<;>(try simp only[wA]at h)<;>conv=>whnf)
  |refine zd ?_
  |refine zh ?_
  |(refine yhk (hk) rfl rfl ?_;conv=>whnf)
  |(refine yhk (hio) rfl rfl ?_;conv=>whnf)
  |(refine yhk (hvi) rfl rfl ?_;conv=>whnf)
 all_goals clear hk hio hvi
 ·exact n (.inl (by omega))
 ·exact n (.inr h)
 ·rw[y (by omega) (by assumption),if_neg (by omega),decide_eq_true (by omega)];rfl
 ·rw[y (by omega) (by assumption),if_neg (by omega),decide_eq_false (by omega)];rfl
 ·rw[y (by omega) (by assumption),if_pos (by omega),decide_eq_false (by omega)];rfl
 have e:X=vl1 p.vals:=by rw[y (by omega) (by assumption),if_pos (by omega),decide_eq_true (by omega)];rfl
 refine zau (fun k:Nat=>(p.vals.take k).all (fun x=>decide (-1000≤x∧x≤1000))=true) (fun k=>⟨46,0,[(36,.c (.nums .i64 p.vals)),(37,.c (.int .i64 p.vals.length)),(38,.c (.int .i64 k))],[]⟩) (fun k=>p.vals.length-k) 0 rfl (fun _=>Nat.zero_le _) (ydn [] []) (fun k hk=>?_)
 conv=>whnf
 repeat' first
  |(refine za (by(try simp only[wA,wL])<;>omega) ?_;conv=>whnf)
  |(refine zk (fun h=>?_) (fun h=>?_)<;>(try simp only[qA]at h)<;>(try simp only[wA]at h)<;>conv=>whnf)
  |refine zc ?_
  |refine zd ?_
  |(refine zg (by(try simp only[wA,wL])<;>omega) (by(try simp only[wA,wL])<;>omega) ?_;conv=>whnf)
  |(refine yhk (zrb _) rfl rfl ?_;conv=>whnf)
 ·rw[e];exact zf6 0 (k:=k) (by omega) (by simp at h⊢;omega)
 ·exact⟨⟨k+1,zeg 0 hk (by omega) (by simpa using h)⟩,zbn,by dsimp only;omega⟩
 ·rw[e];exact zh3 hk (by omega)
theorem yib:zr Try.prog 47 0 [.tt] [] 0 (.c (.int .i64 1)) []:=by
 refine spi (fn:=Try.f47) _ ?_
 conv=>whnf
 repeat' refine zi ?_
 rfl
theorem yic:zr Try.prog 47 0 [.ff] [] 0 (.c (.int .i64 0)) []:=by
 refine spi (fn:=Try.f47) _ ?_
 conv=>whnf
 repeat' refine zi ?_
 rfl
theorem ya6 {xs:List Int} (h:za2 xs=true):∀x∈xs,0≤x∧x≤99:=(zde.1 h).2
theorem yby {p:Pg} (h:zin p=true):(∀x∈p.keys,0≤x∧x≤99)∧(∀x∈p.kids,0≤x∧x≤15)∧(∀x∈p.vals,-1000≤x∧x≤1000):=by
 by_cases c1:4<p.keys.length
 ·rw[z9s (.inl c1)]at h;cases h
 by_cases c2:za2 p.keys=true
 ·rw[ycg c1 c2]at h
  refine⟨ya6 c2,?_⟩
  split at h
  ·rename_i c3
   rw[Bool.and_eq_true]at h
   refine⟨by rw[List.eq_nil_of_length_eq_zero c3];simp,fun x hx=>?_⟩
   exact of_decide_eq_true (List.all_eq_true.1 h.2 x hx)
  ·rw[Bool.and_eq_true,decide_eq_true_eq]at h
   obtain⟨h3,h4⟩:=h
   unfold zl3 at h4
   simp only[Bool.and_eq_true]at h4
   exact⟨fun x hx=>of_decide_eq_true (List.all_eq_true.1 h4.1.2 x hx),by rw[List.eq_nil_of_length_eq_zero h3];simp⟩
 ·rw[z9s (.inr (by simpa using c2))]at h;cases h
theorem z9a {xs:List Int} {P:Int→Prop} (h:∀x∈xs,P x) (h0:P 0) (i:Nat):P (xs.getD i 0):=by
 rw[List.getD_eq_getElem?_getD]
 cases q:xs[i]? with
 |none=>exact h0
 |some v=>exact h v (List.mem_of_getElem? q)
theorem ybz {p:Pg} (h:zin p=true):nmB (pkB p):=by
 obtain⟨h1,h2⟩:=ztf h
 obtain⟨a,b,c⟩:=yby h
 refine⟨by unfold pkB;simp;omega,fun i=>z9a (P:=fun x=>-1048576≤x∧x≤1048576) (fun x hx=>?_) (by decide) i⟩
 unfold pkB at hx
 simp only[List.mem_cons,List.mem_append,List.mem_map]at hx
 rcases hx with rfl|hx|hx|⟨y,hy,rfl⟩
 ·unfold hdF;split<;>omega
 ·have:=a x hx;omega
 ·have:=b x hx;omega
 ·have:=c y hy;omega
theorem yhr {xs:List Int} {k:Nat} (h:k<xs.length) (f:Int→Int):(xs.take (k+1)).map f=(xs.take k).map f++[f (xs.getD k 0)]:=by
 rw[zat 0 h,List.map_append];rfl
theorem yhm (p:Pg) (hf:zin p=true):zr Try.prog 12 0 [pgV p] [] 1 (.slc 0) [(0,.arr (.nums .i64 (pkF p)))]:=by
 obtain⟨h1,h2⟩:=ztf hf
 have hck:=yh7 (pkB p) (ybz hf)
 have hv:=(yby hf).2.2
 have hfp:=yhl p ⟨by omega,by omega,by omega⟩
 have e0:pkB p=hdF p::(p.keys++(p.kids++p.vals.map (· + 1000))):=rfl
 have e1:pkF p=pkB p++[z47 (pkB p)]:=rfl
 rw[hf]at hfp
 generalize pkF p=Z at *
 generalize pkB p=Y at *
 generalize z47 Y=X at *
 have main:∀H:Int,H=hdF p→zr Try.prog 23 0 [.c (.numss [[H],p.keys,p.kids])] [] 1 (.slc 0) [(0,.arr (.nums .i64 (hdF p::(p.keys++p.kids))))]:=fun H hH=>by
  subst hH
  exact yaz [hdF p] p.keys p.kids (by simp;omega)
 have m1:=main (2*(p.keys.length:Int)+1)
 have m0:=main (2*(p.keys.length:Int))
 have hd1:0<p.kids.length→hdF p=2*(p.keys.length:Int)+1:=fun q=>by unfold hdF;rw[if_pos q]
 have hd0:p.kids.length=0→hdF p=2*(p.keys.length:Int):=fun q=>by unfold hdF;rw[if_neg (by omega)];omega
 generalize hdF p=H at *
 refine spi (fn:=Try.f12) _ ?_
 conv=>whnf
 repeat' first
  |(refine zm ?_ ?_;(focus (first|rfl|exact bne_self_eq_false _));conv=>whnf)
  |(refine zk (fun h=>?_) (fun h=>?_)<;>(try simp only[qA]at h)<;>(try simp only[wA]at h)<;>conv=>whnf)
  |(refine zg (by(try simp only[wA,wL])<;>omega) (by(try simp only[wA,wL])<;>omega) ?_;conv=>whnf)
  |(refine yhk (hfp) rfl rfl ?_;conv=>whnf)
  |(refine zal [2] [3] (m1 ?_) ?_;(first|assumption|omega|exact(by(try simp only[wA,wN,wL])<;>omega));(conv=>whnf);refine⟨rfl,rfl,rfl,(by repeat first|exact trivial|refine⟨rfl,?_⟩),⟨rfl,rfl,rfl,rfl,rfl,rfl⟩,?_⟩;conv=>whnf)
  |(refine zal [2] [3] (m0 ?_) ?_;(first|assumption|omega|exact(by(try simp only[wA,wN,wL])<;>omega));(conv=>whnf);refine⟨rfl,rfl,rfl,(by repeat first|exact trivial|refine⟨rfl,?_⟩),⟨rfl,rfl,rfl,rfl,rfl,rfl⟩,?_⟩;conv=>whnf)
 all_goals refine zd0 (fun(k:Nat) (M:List Int)=>k≤p.vals.length∧M=H::(p.keys++(p.kids++(p.vals.take k).map (· + 1000)))) (fun k M=>⟨46,1,[(4,.slc 0),(29,.c (.nums .i64 p.vals)),(30,.c (.int .i64 p.vals.length)),(31,.c (.int .i64 k))],[(0,.arr (.nums .i64 M))]⟩) (fun k _=>p.vals.length-k) 0 (H::(p.keys++p.kids)) ⟨Nat.zero_le _,by simp⟩ (fun _ _=>Nat.zero_le _) (ydn [] [3]) (fun k M hk=>?_)
 all_goals obtain⟨hk,hM⟩:=hk
 all_goals have hl:=congrArg List.length hM
 all_goals simp only[List.length_cons,List.length_append,List.length_map,List.length_take]at hl
 all_goals have hx:=z9a (P:=fun x=>-1000≤x∧x≤1000) hv (by decide) k
 all_goals by_cases hk2:k<p.vals.length
 ·have hn:=yhr hk2 (· + 1000)
  conv=>whnf
  repeat' first
   |(refine zn ?_ ?_;(focus ((try simp only[qA])<;>(try simp only[wA])<;>omega));conv=>whnf)
   |(refine za (by(try simp only[wA,wL])<;>omega) ?_;conv=>whnf)
   |(refine zg (by(try simp only[wA,wL])<;>omega) (by(try simp only[wA,wL])<;>omega) ?_;conv=>whnf)
  exact⟨⟨(k+1,M++[p.vals.getD k 0+1000]),by omega,by rw[hM,hn];simp⟩,(ydn [] [0]),by dsimp only;omega⟩
 ·rw[List.take_of_length_le (by omega),←e0]at hM
  subst hM
  conv=>whnf
  repeat' first
   |(refine zm ?_ ?_;(focus ((try simp only[qA])<;>(try simp only[wA])<;>omega));conv=>whnf)
   |(refine za (by(try simp only[wA,wL])<;>omega) ?_;conv=>whnf)
   |(refine zbo (hck) rfl rfl rfl ?_;conv=>whnf)
  rw[e1]
  exact(zu [] [0])
 ·have hn:=yhr hk2 (· + 1000)
  conv=>whnf
  repeat' first
   |(refine zn ?_ ?_;(focus ((try simp only[qA])<;>(try simp only[wA])<;>omega));conv=>whnf)
   |(refine za (by(try simp only[wA,wL])<;>omega) ?_;conv=>whnf)
   |(refine zg (by(try simp only[wA,wL])<;>omega) (by(try simp only[wA,wL])<;>omega) ?_;conv=>whnf)
  exact⟨⟨(k+1,M++[p.vals.getD k 0+1000]),by omega,by rw[hM,hn];simp⟩,(ydn [] [0]),by dsimp only;omega⟩
 ·rw[List.take_of_length_le (by omega),←e0]at hM
  subst hM
  conv=>whnf
  repeat' first
   |(refine zm ?_ ?_;(focus ((try simp only[qA])<;>(try simp only[wA])<;>omega));conv=>whnf)
   |(refine za (by(try simp only[wA,wL])<;>omega) ?_;conv=>whnf)
   |(refine zbo (hck) rfl rfl rfl ?_;conv=>whnf)
  rw[e1]
  exact(zu [] [0])
theorem sPackPage'_v (p:Pg) (hf:zin p=true):zr Try.prog 30 0 [pgV p] [] 1 (.slc 0) [(0,.arr (.nums .i64 (pkF p)))]:=by
 obtain⟨h1,h2⟩:=ztf hf
 have hck:=yh1 (pkB p) (ybz hf)
 have hv:=(yby hf).2.2
 have ht:=yib
 have hff:=yic
 have e0:pkB p=hdF p::(p.keys++(p.kids++p.vals.map (· + 1000))):=rfl
 have e1:pkF p=pkB p++[z47 (pkB p)]:=rfl
 generalize pkF p=Z at *
 generalize pkB p=Y at *
 generalize z47 Y=X at *
 have hd1:0<p.kids.length→hdF p=2*(p.keys.length:Int)+1:=fun q=>by unfold hdF;rw[if_pos q]
 have hd0:p.kids.length=0→hdF p=2*(p.keys.length:Int)+0:=fun q=>by unfold hdF;rw[if_neg (by omega)]
 generalize hdF p=H at *
 refine spi (fn:=Try.f30) _ ?_
 conv=>whnf
 repeat' first
  |(refine za (by kernel_rfl) ?_;conv=>whnf)
  |(refine za (by(try simp only[wA,wL])<;>omega) ?_;conv=>whnf)
  |(refine zk (fun h=>?_) (fun h=>?_)<;>(try simp only[qA]at h)<;>(try simp only[wA]at h)<;>conv=>whnf)
  |(refine zg (by(try simp only[wA,wL])<;>omega) (by(try simp only[wA,wL])<;>omega) ?_;conv=>whnf)
  |(refine zw (ht) rfl rfl ?_;conv=>whnf)
  |(refine zw (hff) rfl rfl ?_;conv=>whnf)
  |(refine zo ?_;conv=>whnf)
  |(refine ze ?_;conv=>whnf)
 ·have hd:=(hd1 (by omega)).symm
  refine zd0 (fun(k:Nat) (M:List Int)=>k≤p.vals.length∧M=H::(p.keys++(p.kids++(p.vals.take k).map (· + 1000)))) (fun k M=>⟨44,2,[(1,.ptr 0 0 0 0),(3,.slc 1),(4,.c (.int .i64 k))],[(0,.box [.c (.nums .i64 p.keys),.c (.nums .i64 p.kids),.c (.nums .i64 p.vals)] [] []),(1,.arr (.nums .i64 M))]⟩) (fun k _=>p.vals.length-k) 0 (([2*(p.keys.length:Int)+1]++p.keys)++p.kids) ⟨Nat.zero_le _,by rw[hd];simp⟩ (fun _ _=>Nat.zero_le _) (ydn [] [0,11]) (fun k M hk=>?_)
  obtain⟨hk,hM⟩:=hk
  have hl:=congrArg List.length hM
  simp only[List.length_cons,List.length_append,List.length_map,List.length_take]at hl
  have hx:=z9a (P:=fun x=>-1000≤x∧x≤1000) hv (by decide) k
  by_cases hk2:k<p.vals.length
  ·have hn:=yhr hk2 (· + 1000)
   conv=>whnf
   repeat' first
    |(refine zn ?_ ?_;(focus ((try simp only[qA])<;>(try simp only[wA])<;>omega));conv=>whnf)
    |(refine za (by(try simp only[wA,wL])<;>omega) ?_;conv=>whnf)
    |(refine zg (by(try simp only[wA,wL])<;>omega) (by(try simp only[wA,wL])<;>omega) ?_;conv=>whnf)
   exact⟨⟨(k+1,M++[p.vals.getD k 0+1000]),by omega,by rw[hM,hn];simp⟩,(ydn [] [0,1]),by dsimp only;omega⟩
  ·rw[List.take_of_length_le (by omega),←e0]at hM
   subst hM
   conv=>whnf
   repeat' first
    |(refine zm ?_ ?_;(focus ((try simp only[qA])<;>(try simp only[wA])<;>omega));conv=>whnf)
    |(refine za (by(try simp only[wA,wL])<;>omega) ?_;conv=>whnf)
    |(refine zbo (hck) rfl rfl rfl ?_;conv=>whnf)
   rw[e1]
   exact(zu [] [1])
 ·have hd:=(hd0 (by omega)).symm
  refine zd0 (fun(k:Nat) (M:List Int)=>k≤p.vals.length∧M=H::(p.keys++(p.kids++(p.vals.take k).map (· + 1000)))) (fun k M=>⟨44,2,[(1,.ptr 0 0 0 0),(3,.slc 1),(4,.c (.int .i64 k))],[(0,.box [.c (.nums .i64 p.keys),.c (.nums .i64 p.kids),.c (.nums .i64 p.vals)] [] []),(1,.arr (.nums .i64 M))]⟩) (fun k _=>p.vals.length-k) 0 (([2*(p.keys.length:Int)+0]++p.keys)++p.kids) ⟨Nat.zero_le _,by rw[hd];simp⟩ (fun _ _=>Nat.zero_le _) (ydn [] [0,11]) (fun k M hk=>?_)
  obtain⟨hk,hM⟩:=hk
  have hl:=congrArg List.length hM
  simp only[List.length_cons,List.length_append,List.length_map,List.length_take]at hl
  have hx:=z9a (P:=fun x=>-1000≤x∧x≤1000) hv (by decide) k
  by_cases hk2:k<p.vals.length
  ·have hn:=yhr hk2 (· + 1000)
   conv=>whnf
   repeat' first
    |(refine zn ?_ ?_;(focus ((try simp only[qA])<;>(try simp only[wA])<;>omega));conv=>whnf)
    |(refine za (by(try simp only[wA,wL])<;>omega) ?_;conv=>whnf)
    |(refine zg (by(try simp only[wA,wL])<;>omega) (by(try simp only[wA,wL])<;>omega) ?_;conv=>whnf)
   exact⟨⟨(k+1,M++[p.vals.getD k 0+1000]),by omega,by rw[hM,hn];simp⟩,(ydn [] [0,1]),by dsimp only;omega⟩
  ·rw[List.take_of_length_le (by omega),←e0]at hM
   subst hM
   conv=>whnf
   repeat' first
    |(refine zm ?_ ?_;(focus ((try simp only[qA])<;>(try simp only[wA])<;>omega));conv=>whnf)
    |(refine za (by(try simp only[wA,wL])<;>omega) ?_;conv=>whnf)
    |(refine zbo (hck) rfl rfl rfl ?_;conv=>whnf)
   rw[e1]
   exact(zu [] [1])
theorem yia {p:Pg} (h:zin p=true):nmB (pkF p):=by
 have hb:=ybz h
 have hc:=yb6 (pkB p)
 obtain⟨h1,h2⟩:=ztf h
 refine⟨by unfold pkF pkB;simp;omega,fun i=>?_⟩
 unfold pkF
 rcases Nat.lt_trichotomy i (pkB p).length with c|c|c
 ·rw[z8t c];exact hb.2 i
 ·rw[List.getD_eq_getElem?_getD,List.getElem?_append_right (by omega),c,Nat.sub_self]
  show -1048576≤z47 (pkB p)∧z47 (pkB p)≤1048576
  omega
 ·rw[List.getD_eq_getElem?_getD,List.getElem?_eq_none (by rw[List.length_append];simp;omega)]
  decide
end Go.VL
