/- V-logic -/
import Derived.Test.YtdbhfajlffaneaaGreatVW6
import Derived.Test.YtdbhfajlffaneaaGreatVW5
import Derived.Test.YtdbhfajlffaneaaGreatVW4
namespace Go.VL
set_option linter.unusedVariables false
set_option linter.unusedSimpArgs false
def reT (ops:List Opn) (now:Int×List Pg) (i:Int):Int×List Pg :=
 if (z4e ops i.toNat).kind=0 then now
 else match zqc now.1 now.2 ⟨(z4e ops i.toNat).key,(z4e ops i.toNat).value⟩with
  |some r=>r
  |none=>now
def wtF (ops:List Opn) (now:Int×List Pg) (i:Int):Int :=
 if (z4e ops i.toNat).kind=0 then(if (z4e ops i.toNat).key∈(psF now.1 now.2).map Pr.key then zei (psF now.1 now.2) (z4e ops i.toNat).key else 9999)
 else match zqc now.1 now.2 ⟨(z4e ops i.toNat).key,(z4e ops i.toNat).value⟩with
  |some _=>(z4e ops i.toNat).value
  |none=>9999
structure RunR (ops:List Opn) (t:Int×List Pg) (s:RS):Prop where
 tr:s.done.foldl (reT ops) t=(s.root,s.ps)
 gt:∀i,i<s.done.length→s.got.getD (s.done.getD i 0).toNat 0=wtF ops ((s.done.take i).foldl (reT ops) t) (s.done.getD i 0)
 op:∀i,i<ops.length→(i:Int)∉s.done→s.got.getD i 0=0
theorem RunR.zero (root:Int) (ps:List Pg) (ops:List Opn):RunR ops (root,ps) (r0F root ps ops.length):=by
 refine⟨rfl,λi hi=>absurd hi (Nat.not_lt_zero _),λi _ _=>?_⟩
 unfold r0F
 rw[List.getD_eq_getElem?_getD,List.getElem?_replicate]
 split<;>rfl
theorem RunR.fin {ops:List Opn} {t:Int×List Pg} {k:Nat} {s:RS} (hI:RunI ops k s) (h:RunR ops t s) {w:Nat} (hw:w<ops.length) (h1:(w:Int)∉s.done) {R:Int×List Pg} {x:Int} (hR:reT ops (s.root,s.ps) w=R) (hx:wtF ops (s.root,s.ps) w=x) :
  RunR ops t ⟨R.1,R.2,s.held.set w [],s.done++[(w:Int)],s.got.set w x⟩:=by
 refine⟨?_,λi hi=>?_,λi hi hd=>?_⟩
 ·show(s.done++[(w:Int)]).foldl (reT ops) t=(R.1,R.2)
  rw[List.foldl_append,h.tr]
  show reT ops (s.root,s.ps) w=_
  rw[hR]
 ·show(s.got.set w x).getD ((s.done++[(w:Int)]).getD i 0).toNat 0=wtF ops (((s.done++[(w:Int)]).take i).foldl (reT ops) t) ((s.done++[(w:Int)]).getD i 0)
  have hi:i<(s.done++[(w:Int)]).length:=hi
  rw[List.length_append,List.length_singleton]at hi
  rw[zdp,List.take_append_of_le_length (by omega)]
  by_cases c:i<s.done.length
  ·rw[if_pos c,z4s,if_neg]
   ·exact h.gt i c
   ·rintro⟨e,_⟩
    have hm:=zaq 0 c
    have:=(hI.dn _ hm).1
    exact h1 (by rw[show(w:Int)=s.done.getD i 0 by omega];exact hm)
  ·have e:i=s.done.length:=by omega
   subst e
   rw[if_neg c,Nat.sub_self]
   show(s.got.set w x).getD (w:Int).toNat 0=wtF ops ((s.done.take s.done.length).foldl (reT ops) t) w
   rw[List.take_length,h.tr,hx,Int.toNat_natCast,z4s,if_pos ⟨rfl,by rw[hI.gl];exact hw⟩]
 ·show(s.got.set w x).getD i 0=0
  change (i:Int)∉s.done++[(w:Int)]at hd
  rw[List.mem_append,not_or]at hd
  rw[z4s,if_neg]
  ·exact h.op i hi hd.1
  ·rintro⟨e,_⟩
   exact hd.2 (by rw[e];exact List.mem_singleton.2 rfl)
theorem RunR.step {ops:List Opn} {t:Int×List Pg} {k:Nat} {s:RS} (hI:RunI ops k s) (h:RunR ops t s) {w:Nat} (hw:w<ops.length):RunR ops t (piF ops s w):=by
 have hc:=z74 ops s w
 generalize piF ops s w=u at hc
 cases hc with
 |same q=>exact h
 |down h1 h2 h3=>exact⟨h.tr,h.gt,h.op⟩
 |get h1 h2 h3 h4 =>
  refine h.fin hI hw h1 (R:=(s.root,s.ps)) ?_ ?_
  ·unfold reT;rw[Int.toNat_natCast,if_pos h4]
  ·unfold wtF;rw[Int.toNat_natCast,if_pos h4]
 |put h1 h2 h3 h4 r h5 =>
  refine h.fin hI hw h1 (R:=r) ?_ ?_
  ·unfold reT;rw[Int.toNat_natCast,if_neg h4,h5]
  ·unfold wtF;rw[Int.toNat_natCast,if_neg h4,h5]
 |putNo h1 h2 h3 h4 h5 =>
  refine h.fin hI hw h1 (R:=(s.root,s.ps)) ?_ ?_
  ·unfold reT;rw[Int.toNat_natCast,if_neg h4,h5]
  ·unfold wtF;rw[Int.toNat_natCast,if_neg h4,h5]
def z6b (n:Nat) (picks:List Int):Prop:=∀x∈picks,0≤x∧x<n
structure RunA (root:Int) (ps:List Pg) (ops:List Opn) (picks:List Int):Prop where
 i:RunI ops picks.length (ruF root ps ops picks)
 p:RunP ops (htF root ps) (λj=>picks.count (j:Int)) (ruF root ps ops picks)
 r:RunR ops (root,ps) (ruF root ps ops picks)
theorem z43 (root:Int) (ps:List Pg) (ops:List Opn) (picks:List Int) (x:Int):ruF root ps ops (picks++[x])=piF ops (ruF root ps ops picks) x.toNat:=by
 unfold ruF
 rw[List.foldl_append];rfl
theorem runA {root:Int} {ps:List Pg} {ops:List Opn} (hv:vTree root ps=true) (ho:z4m ops=true):∀(n:Nat) (picks:List Int),picks.length=n→z6b ops.length picks→RunA root ps ops picks
 |0,picks,hl,hp=>by
  have:picks=[]:=List.eq_nil_of_length_eq_zero hl
  subst this
  exact⟨RunI.zero hv,RunP.zero hv,RunR.zero root ps ops⟩
 |n+1,picks,hl,hp=>by
  obtain⟨l,x,rfl,hl'⟩:=zv8 hl
  obtain⟨x0,x1⟩:=hp x (by simp)
  have A:=runA hv ho n l hl' λy hy=>hp y (List.mem_append_left _ hy)
  have hw:x.toNat<ops.length:=by omega
  refine⟨?_,?_,?_⟩
  ·rw[z43,List.length_append]
   exact A.i.step ho hw
  ·rw[z43]
   have:=A.p.step A.i ho hw
   have e:(λj:Nat=>(l++[x]).count (j:Int))=λj:Nat=>l.count (j:Int)+(if j=x.toNat then 1 else 0):=funext λj=>by
    rw[List.count_append,List.count_singleton]
    congr 1
    by_cases c:j=x.toNat
    ·rw[if_pos c,if_pos (by rw[beq_iff_eq];omega)]
    ·rw[if_neg c,if_neg (by rw[beq_iff_eq];omega)]
   rw[e];exact this
  ·rw[z43]
   exact A.r.step A.i hw
structure RunL (root:Int) (ps:List Pg) (ops:List Opn) (w c:Nat) (s:RS):Prop where
 t:s.root=root∧s.ps=ps
 d:s.done=[]
 hl:s.held.length=ops.length
 o:∀i,i≠w→s.held.getD i []=[]
 p:∃j,OpP s (z4e ops w) (s.held.getD w []) j∧j+(s.held.getD w []).length=c
structure RunG (root:Int) (ps:List Pg) (ops:List Opn) (cnt:Nat→Nat) (s:RS):Prop where
 t:s.root=root∧s.ps=ps
 hl:s.held.length=ops.length
 p:∀w,w<ops.length→((w:Int)∈s.done∧htF root ps≤cnt w)∨((w:Int)∉s.done∧cnt w<htF root ps∧∃j,OpP s (z4e ops w) (s.held.getD w []) j∧j+(s.held.getD w []).length=cnt w)
open Go.Proofs
set_option maxRecDepth 10000
def ixF (xs:List Int) (n:Int):Int:=if n∈xs then(plN xs n:Int)else -1
theorem ybu (xs:List Int) (n:Int) (hl:xs.length≤4294967296):zr Tryz.prog 173 0 [.c (.nums .i64 xs),.c (.int .i64 n)] [] 0 (.c (.int .i64 (ixF xs n))) []:=by
 refine spi (fn:=Tryz.f173) _ ?_
 conv=>whnf
 skip
 refine zau (λk:Nat=>k≤xs.length∧n∉xs.take k) (λk=>⟨19,0,[(0,.c (.nums .i64 xs)),(1,.c (.int .i64 n)),(7,.c (.int .i64 xs.length)),(8,.c (.int .i64 k))],[]⟩) (λk=>xs.length-k) 0 ⟨Nat.zero_le _,by simp⟩ (λ_=>Nat.zero_le _) zbn (λk hk=>?_)
 obtain⟨hk,hn⟩:=hk
 unfold ixF
 by_cases c:k<xs.length
 ·by_cases e:n=xs.getD k 0
  ·have h1:=z3l hn c e.symm
   have hm:n∈xs:=by rw[e];exact zaq 0 c
   rw[if_pos hm]
   conv=>whnf
   repeat' first|(refine zn ?_ ?_;(focus ((try simp only[qA])<;>(try simp only[wA])<;>omega));conv=>whnf)|(refine za (by(try simp only[wA,wL])<;>omega) ?_;conv=>whnf)|refine zi ?_
   all_goals first|(rw[h1])|(rw[←h1])|(exfalso;exact absurd e (by assumption))|exact(zu [] [])
  ·have:=zuq hn c (λq=>e q.symm)
   conv=>whnf
   repeat' first
    |(refine zn ?_ ?_;(focus ((try simp only[qA])<;>(try simp only[wA])<;>omega));conv=>whnf)
    |(refine zm ?_ ?_;(focus ((try simp only[qA])<;>(try simp only[wA])<;>omega));conv=>whnf)
    |(refine za (by(try simp only[wA,wL])<;>omega) ?_;conv=>whnf)
    |(refine zg (by(try simp only[wA,wL])<;>omega) (by(try simp only[wA,wL])<;>omega) ?_;conv=>whnf)
   all_goals first|(exfalso;exact e (by assumption))|exact⟨⟨k+1,by omega,this⟩,zbn,by dsimp only;omega⟩
 ·rw[List.take_of_length_le (by omega)]at hn
  rw[if_neg hn]
  conv=>whnf
  repeat' first|(refine zm ?_ ?_;(focus ((try simp only[qA])<;>(try simp only[wA])<;>omega));conv=>whnf)|refine zi ?_
  all_goals rfl
theorem z61 (xs:List Int) (n:Int) (hl:xs.length≤4294967296):zr Tryz.prog 147 0 [.c (.nums .i64 xs),.c (.int .i64 n)] [] 0 (.c (.bool (xs.contains n))) []:=by
 have h:=ybu xs n hl
 have hc:xs.contains n=true↔n∈xs:=List.contains_iff_mem
 unfold ixF at h
 cases c:xs.contains n with
 |true =>
  rw[if_pos (hc.1 c)]at h
  refine spi (fn:=Tryz.f147) _ ?_
  conv=>whnf
  repeat' first|refine zh ?_|(refine zp (h) rfl rfl ?_;conv=>whnf)
  all_goals first|(exact decide_eq_true (by omega))|rfl
 |false =>
  rw[if_neg (λq=>by rw[hc.2 q]at c;cases c)]at h
  refine spi (fn:=Tryz.f147) _ ?_
  conv=>whnf
  repeat' first|refine zh ?_|(refine zp (h) rfl rfl ?_;conv=>whnf)
  all_goals first|(exact decide_eq_false (by omega))|rfl
theorem z84 {ops:List Opn} {k:Nat} (hk:k<ops.length) (h:vOp (ops.getD k ⟨0,0,0⟩)=false):z4m ops=false:=by
 unfold z4m
 rw[Bool.and_eq_false_iff]
 refine .inl ?_
 cases c:ops.all vOp with
 |false=>rfl
 |true=>rw[List.all_eq_true.1 c _ (zaq ⟨0,0,0⟩ hk)]at h;cases h
theorem yam {o:Opn} (h:¬((0≤o.kind∧o.kind≤1)∧(0≤o.key∧o.key≤99)∧(-1000≤o.value∧o.value≤1000)∧(o.kind=0→o.value=0))):vOp o=false:=decide_eq_false h
theorem z9f {o:Opn} (h:(0≤o.kind∧o.kind≤1)∧(0≤o.key∧o.key≤99)∧(-1000≤o.value∧o.value≤1000)∧(o.kind=0→o.value=0)):vOp o=true:=decide_eq_true h
theorem z55 (ops:List Opn) (hl:ops.length≤4294967296):zr Tryz.prog 108 0 [.c (.ops ops)] [] 0 (.c (.bool (z4m ops))) []:=by
 refine spi (fn:=Tryz.f108) _ ?_
 conv=>whnf
 repeat' first|(refine zk (λh=>?_) (λh=>?_)<;>(try simp only[qA]at h)<;>(try simp only[wA]at h)<;>conv=>whnf)|refine zd ?_
 ·unfold z4m;rw[decide_eq_false (by omega),Bool.and_false]
 refine zau (λk:Nat=>k≤ops.length∧ops.length≤4∧(ops.take k).all vOp=true) (λk=>⟨41,0,[(8,.c (.ops ops)),(9,.c (.int .i64 ops.length)),(10,.c (.int .i64 k))],[]⟩) (λk=>ops.length-k) 0 ⟨Nat.zero_le _,(by have h2:¬(ops.length:Int)>4:=h;omega),by simp⟩ (λ_=>Nat.zero_le _) zbn (λk hk=>?_)
 obtain⟨hk,h4,ha⟩:=hk
 by_cases c:k<ops.length
 ·have hno:=λq=>z84 c (yam (o:=ops.getD k ⟨0,0,0⟩) q)
  have hyes:=λq=>zeg ⟨0,0,0⟩ ha c (z9f (o:=ops.getD k ⟨0,0,0⟩) q)
  generalize e1:(ops.getD k ⟨0,0,0⟩).kind=K at *
  generalize e2:(ops.getD k ⟨0,0,0⟩).key=Y at *
  generalize e3:(ops.getD k ⟨0,0,0⟩).value=Z at *
  conv=>whnf
  repeat' first
   |(refine zn ?_ ?_;(focus ((try simp only[qA])<;>(try simp only[wA])<;>omega));conv=>whnf)
   |(refine zm ?_ ?_;(focus ((try simp only[qA])<;>(try simp only[wA])<;>omega));conv=>whnf)
   |(refine za (by(try simp only[wA,wL])<;>omega) ?_;conv=>whnf)
   |(refine zk (λh=>?_) (λh=>?_)<;>(try simp only[qA]at h)<;>(try simp only[wA]at h)<;>conv=>whnf)
   |refine zd ?_
   |(refine zg (by(try simp only[wA,wL])<;>omega) (by(try simp only[wA,wL])<;>omega) ?_;conv=>whnf)
   |(refine zp (z2a _) rfl rfl ?_;conv=>whnf)
   |(refine zp (zrb _) rfl rfl ?_;conv=>whnf)
  all_goals first
   |exact hno (by omega)
   |exact⟨⟨k+1,by omega,h4,hyes (by omega)⟩,(ydn [] []),by dsimp only;omega⟩
 ·rw[List.take_of_length_le (by omega)]at ha
  conv=>whnf
  repeat' first|(refine zm ?_ ?_;(focus ((try simp only[qA])<;>(try simp only[wA])<;>omega));conv=>whnf)|refine zc ?_
  all_goals (unfold z4m;rw[ha,decide_eq_true h4];rfl)
theorem z8w (ops:List Opn) (hl:ops.length≤4294967296):zr Tryz.prog 104 0 [.c (.ops ops)] [] 0 (.c (.bool (z4m ops))) []:=by
 refine spi (fn:=Tryz.f104) _ ?_
 conv=>whnf
 skip
 refine zau (λk:Nat=>k≤ops.length∧(ops.take k).all vOp=true) (λk=>⟨54,0,[(0,.c (.ops ops)),(3,.c (.int .i64 k))],[]⟩) (λk=>ops.length-k) 0 ⟨Nat.zero_le _,by simp⟩ (λ_=>Nat.zero_le _) zbn (λk hk=>?_)
 obtain⟨hk,ha⟩:=hk
 by_cases c:k<ops.length
 ·have hno:=λq=>z84 c (yam (o:=ops.getD k ⟨0,0,0⟩) q)
  have hyes:=λq=>zeg ⟨0,0,0⟩ ha c (z9f (o:=ops.getD k ⟨0,0,0⟩) q)
  generalize e1:(ops.getD k ⟨0,0,0⟩).kind=K at *
  generalize e2:(ops.getD k ⟨0,0,0⟩).key=Y at *
  generalize e3:(ops.getD k ⟨0,0,0⟩).value=Z at *
  conv=>whnf
  repeat' first
   |(refine zn ?_ ?_;(focus ((try simp only[qA])<;>(try simp only[wA])<;>omega));conv=>whnf)
   |(refine za (by(try simp only[wA,wL])<;>omega) ?_;conv=>whnf)
   |(refine zk (λh=>?_) (λh=>?_)<;>(try simp only[qA]at h)<;>(try simp only[wA]at h)<;>conv=>whnf)
   |refine zd ?_
   |(refine zg (by(try simp only[wA,wL])<;>omega) (by(try simp only[wA,wL])<;>omega) ?_;conv=>whnf)
   |(refine zp (zgy _ _ _) rfl rfl ?_;conv=>whnf)
  all_goals first
   |exact hno (by omega)
   |exact⟨⟨k+1,by omega,hyes (by omega)⟩,(ydn [] []),by dsimp only;omega⟩
 ·rw[List.take_of_length_le (by omega)]at ha
  conv=>whnf
  repeat' first|(refine zm ?_ ?_;(focus ((try simp only[qA])<;>(try simp only[wA])<;>omega));conv=>whnf)|refine zh ?_
  all_goals (unfold z4m;rw[ha,Bool.true_and];show decide ((ops.length:Int)≤4)=_;exact decide_eq_decide.2 (by omega))
theorem z4q (root:Int) (ps:List Pg) (ops:List Opn) (picks:List Int) (hp:pB ps) (h1:ops.length≤4294967296) (h2:picks.length≤4294967296):zr Tryz.prog 65 0 [trV root ps,.c (.ops ops),.c (.nums .i64 picks)] [] 0 (.c (.bool (z4i root ps ops picks))) []:=by
 have hv:=zay root ps hp
 have ho:=z8w ops h1
 have ha:=zqg picks 0 ((ops.length:Int)-1) h2
 unfold z4i
 generalize (picks.all λx=>decide (0≤x∧x≤(ops.length:Int)-1))=A at *
 generalize z4m ops=B at *
 generalize vTree root ps=C at *
 cases C<;>cases B<;>cases A
 all_goals
  by_cases c:picks.length≤16
  all_goals first|rw[decide_eq_true c]|rw[decide_eq_false c]
 all_goals
  refine spi (fn:=Tryz.f65) _ ?_
  conv=>whnf
  repeat' first
   |(refine zn ?_ ?_;(focus (first|rfl|exact beq_self_eq_true _));conv=>whnf)
   |(refine zm ?_ ?_;(focus (first|rfl|exact bne_self_eq_false _));conv=>whnf)
   |(refine zn ?_ ?_;(focus ((try simp only[qA])<;>(try simp only[wA])<;>omega));conv=>whnf)
   |(refine zm ?_ ?_;(focus ((try simp only[qA])<;>(try simp only[wA])<;>omega));conv=>whnf)
   |refine zd ?_
   |refine zh ?_
   |(refine zg (by(try simp only[wA,wL])<;>omega) (by(try simp only[wA,wL])<;>omega) ?_;conv=>whnf)
   |(refine zp (hv) rfl rfl ?_;conv=>whnf)
   |(refine zp (ho) rfl rfl ?_;conv=>whnf)
   |(refine zp (ha) rfl rfl ?_;conv=>whnf)
 all_goals first|rfl|(exfalso;omega)
end Go.VL
namespace Go.VL
open Go.Proofs
set_option maxRecDepth 10000
set_option linter.unusedSimpArgs false
set_option linter.unusedVariables false
abbrev mcV (s:RS):V:=.agg [.c (.int .i64 s.root),.c (.pgs s.ps),.c (.numss s.held),.c (.nums .i64 s.done),.c (.nums .i64 s.got)]
abbrev opV (o:Opn):V:=.agg [.c (.int .i64 o.kind),.c (.int .i64 o.key),.c (.int .i64 o.value)]
def z48 (ops:List Opn) (held:List (List Int)) (w:Nat) (page:Int) (i:Nat):Bool:=decide (i≠w)&&(held.getD i []).contains page&&decide ((z4e ops i).kind=1∨(z4e ops w).kind=1)
theorem z85 (ops:List Opn) (held:List (List Int)) (w:Nat) (page:Int):z4j ops held w page=(List.range ops.length).any (z48 ops held w page):=rfl
theorem z8q {ops:List Opn} {held:List (List Int)} {w:Nat} {page:Int} {i:Nat} (hi:i<ops.length) (h:z48 ops held w page i=true):z4j ops held w page=true:=by
 rw[z85,List.any_eq_true]
 exact⟨i,List.mem_range.2 hi,h⟩
theorem z7t {ops:List Opn} {held:List (List Int)} {w:Nat} {page:Int} (h:∀i,i<ops.length→z48 ops held w page i=false):z4j ops held w page=false:=by
 cases c:z4j ops held w page with
 |false=>rfl
 |true =>
  rw[z85,List.any_eq_true]at c
  obtain⟨i,hi,h2⟩:=c
  rw[h i (List.mem_range.1 hi)]at h2;cases h2
theorem z86 {ops:List Opn} {held:List (List Int)} {w:Nat} {page:Int} {i:Nat} {B:Bool} (hc:(held.getD i []).contains page=B) (h:i≠w∧B=true∧((z4e ops i).kind=1∨(z4e ops w).kind=1)):z48 ops held w page i=true:=by
 unfold z48
 rw[hc,h.2.1,decide_eq_true h.1,decide_eq_true h.2.2];rfl
theorem z8a {ops:List Opn} {held:List (List Int)} {w:Nat} {page:Int} {i:Nat} {B:Bool} (hc:(held.getD i []).contains page=B) (h:¬(i≠w∧B=true∧((z4e ops i).kind=1∨(z4e ops w).kind=1))):z48 ops held w page i=false:=by
 cases c:z48 ops held w page i with
 |false=>rfl
 |true =>
  unfold z48 at c
  rw[Bool.and_eq_true,Bool.and_eq_true,decide_eq_true_iff,decide_eq_true_iff,hc]at c
  exact(h ⟨c.1.1,c.1.2,c.2⟩).elim
theorem z9t (s:RS) (ops:List Opn) (w:Nat) (page:Int) (hw:w<ops.length) (hl:s.held.length=ops.length) (hn:ops.length≤1000) (hh:∀i,(s.held.getD i []).length≤4294967296) :
  zr Tryz.prog 144 0 [mcV s,.c (.ops ops),.c (.int .i64 w),.c (.int .i64 page)] [] 0 (.c (.bool (z4j ops s.held w page))) []:=by
 obtain⟨root,ps,held,done,got⟩:=s
 dsimp only at hl hh⊢
 refine spi (fn:=Tryz.f144) _ ?_
 conv=>whnf
 skip
 refine zau (λi:Nat=>i≤ops.length∧∀j,j<i→z48 ops held w page j=false) (λi=>⟨44,1,[(1,.c (.ops ops)),(2,.c (.int .i64 w)),(3,.c (.int .i64 page)),(4,.ptr 0 0 0 0),(9,.c (.int .i64 i))],[(0,.box [.c (.int .i64 root),.c (.pgs ps),.c (.numss held),.c (.nums .i64 done),.c (.nums .i64 got)] [] [])]⟩) (λi=>ops.length-i) 0 ⟨Nat.zero_le _,λj hj=>absurd hj (Nat.not_lt_zero _)⟩ (λ_=>Nat.zero_le _) (ydn [] [0]) (λi hi=>?_)
 obtain⟨hi,hb⟩:=hi
 by_cases c:i<ops.length
 ·have hin:=zo5 (held.getD i []) page (hh i)
  have hy:=λB (hB:(held.getD i []).contains page=B) q=>z8q c (z86 (ops:=ops) (w:=w) hB q)
  have hno:∀B,(held.getD i []).contains page=B→¬(i≠w∧B=true∧((z4e ops i).kind=1∨(z4e ops w).kind=1))→i+1≤ops.length∧∀j,j<i+1→z48 ops held w page j=false:=λB hB q=>⟨c,λj hj=>by
   by_cases e:j=i
   ·subst e;exact z8a hB q
   ·exact hb j (by omega)⟩
  have hy:=hy _ rfl
  have hno:=hno _ rfl
  generalize (held.getD i []).contains page=B at *
  dsimp only[z4e]at hy hno
  generalize z4j ops held w page=BF at *
  cases B with
  |true =>
   have hy:(i≠w∧((ops.getD i ⟨0,0,0⟩).kind=1∨(ops.getD w ⟨0,0,0⟩).kind=1))→BF=true:=λq=>hy ⟨q.1,rfl,q.2⟩
   have hno:¬(i≠w∧((ops.getD i ⟨0,0,0⟩).kind=1∨(ops.getD w ⟨0,0,0⟩).kind=1))→i+1≤ops.length∧∀j,j<i+1→z48 ops held w page j=false:=λq=>hno λp=>q ⟨p.1,p.2.2⟩
   generalize e1:(ops.getD i ⟨0,0,0⟩).kind=K1 at *
   generalize e2:(ops.getD w ⟨0,0,0⟩).kind=K2 at *
   conv=>whnf
   repeat' first
    |(refine zn ?_ ?_;(focus ((try simp only[qA])<;>(try simp only[wA])<;>omega));conv=>whnf)
    |(refine za (by(try simp only[wA,wL])<;>omega) ?_;conv=>whnf)
    |(refine zk (λh=>?_) (λh=>?_)<;>(try simp only[qA]at h)<;>(try simp only[wA]at h)<;>conv=>whnf)
    |refine zc ?_
    |(refine zg (by(try simp only[wA,wL])<;>omega) (by(try simp only[wA,wL])<;>omega) ?_;conv=>whnf)
    |(refine zp (hin) rfl rfl ?_;conv=>whnf)
   all_goals first
    |exact hy (by omega)
    |exact⟨⟨i+1,hno (by omega)⟩,(ydn [] [0]),by dsimp only;omega⟩
  |false =>
   have hno:=hno λp=>by cases p.2.1
   conv=>whnf
   repeat' first
    |(refine zm ?_ ?_;(focus (first|rfl|exact bne_self_eq_false _));conv=>whnf)
    |(refine zn ?_ ?_;(focus ((try simp only[qA])<;>(try simp only[wA])<;>omega));conv=>whnf)
    |(refine za (by(try simp only[wA,wL])<;>omega) ?_;conv=>whnf)
    |(refine zk (λh=>?_) (λh=>?_)<;>(try simp only[qA]at h)<;>(try simp only[wA]at h)<;>conv=>whnf)
    |(refine zg (by(try simp only[wA,wL])<;>omega) (by(try simp only[wA,wL])<;>omega) ?_;conv=>whnf)
    |(refine zp (hin) rfl rfl ?_;conv=>whnf)
   all_goals exact⟨⟨i+1,hno⟩,(ydn [] [0]),by dsimp only;omega⟩
 ·have:=z7t (held:=held) (w:=w) (page:=page) λj hj=>hb j (by omega)
  rw[this]
  conv=>whnf
  repeat' first|(refine zm ?_ ?_;(focus ((try simp only[qA])<;>(try simp only[wA])<;>omega));conv=>whnf)|refine zd ?_
  all_goals rfl
end Go.VL
namespace Go.VL
open Go.Proofs
set_option maxRecDepth 10000
set_option linter.unusedSimpArgs false
set_option linter.unusedVariables false
theorem ya7 (ops:List Opn) (root:Int) (ps:List Pg) (held:List (List Int)) (done got:List Int) (w:Nat) (hp:pB ps) (hv:vTree root ps=true) (hk:(z4e ops w).kind=0∨(z4e ops w).kind=1) (h1:w<held.length) (h2:w<got.length) (hd:done.length≤1000) (h3:held.length≤1000) (h4:got.length≤1000) :
  zr Tryz.prog 146 2 [.agg [.c (.int .i64 root),.c (.pgs ps),.slc 0,.c (.nums .i64 done),.slc 1],opV (z4e ops w),.c (.int .i64 w)] [(0,.arr (.numss held)),(1,.arr (.nums .i64 got))] 0 (mcV (fiF ops ⟨root,ps,held,done,got⟩ w)) []:=by
 have hci:=zcn done (by omega)
 have hgk:=zrq root (z4e ops w).key ps hp hv
 have hpk:=yab root ps ⟨(z4e ops w).key,(z4e ops w).value⟩ hp
 unfold gkV at hgk
 have hck:((psF root ps).map Pr.key).contains (z4e ops w).key=true↔(z4e ops w).key∈(psF root ps).map Pr.key:=List.contains_iff_mem
 obtain⟨F,hF⟩:∃F,fiF ops ⟨root,ps,held,done,got⟩ w=F:=⟨_,rfl⟩
 rw[hF]
 unfold fiF at hF
 generalize z4e ops w=o at *
 obtain⟨kind,key,value⟩:=o
 dsimp only at *
 rcases hk with rfl|rfl
 ·rw[if_pos rfl]at hF
  generalize zei (psF root ps) key=VV at *
  cases c:((psF root ps).map Pr.key).contains key with
  |true =>
   rw[if_pos (hck.1 c)]at hF
   rw[c]at hgk
   subst hF
   refine spi (fn:=Tryz.f146) _ ?_
   conv=>whnf
   repeat' first
    |(refine zn ?_ ?_;(focus (first|rfl|exact beq_self_eq_true _));conv=>whnf)
    |(refine zm ?_ ?_;(focus (first|rfl|exact bne_self_eq_false _));conv=>whnf)
    |(refine za (by(try simp only[wA,wL])<;>omega) ?_;conv=>whnf)
    |(refine z8 (hci) rfl ?_;conv=>whnf)
    |(refine zp (hgk) rfl rfl ?_;conv=>whnf)
   exact(zu [0,1,5] [])
  |false =>
   rw[if_neg (λq=>by rw[hck.2 q]at c;cases c)]at hF
   rw[c]at hgk
   subst hF
   refine spi (fn:=Tryz.f146) _ ?_
   conv=>whnf
   repeat' first
    |(refine zn ?_ ?_;(focus (first|rfl|exact beq_self_eq_true _));conv=>whnf)
    |(refine zm ?_ ?_;(focus (first|rfl|exact bne_self_eq_false _));conv=>whnf)
    |(refine za (by(try simp only[wA,wL])<;>omega) ?_;conv=>whnf)
    |(refine z8 (hci) rfl ?_;conv=>whnf)
    |(refine zp (hgk) rfl rfl ?_;conv=>whnf)
   exact(zu [0,1,5] [])
 ·rw[if_neg (by decide)]at hF
  cases g:zqc root ps ⟨key,value⟩with
  |none =>
   rw[g]at hF hpk
   change zr _ _ _ _ _ _ (.tup [ztV,.ff]) _ at hpk
   subst hF
   refine spi (fn:=Tryz.f146) _ ?_
   conv=>whnf
   repeat' first
    |(refine zn ?_ ?_;(focus (first|rfl|exact beq_self_eq_true _));conv=>whnf)
    |(refine zm ?_ ?_;(focus (first|rfl|exact bne_self_eq_false _));conv=>whnf)
    |(refine za (by(try simp only[wA,wL])<;>omega) ?_;conv=>whnf)
    |(refine z8 (hci) rfl ?_;conv=>whnf)
    |(refine zp (hpk) rfl rfl ?_;conv=>whnf)
   exact(zu [0,1,5] [])
  |some r =>
   obtain⟨r1,r2⟩:=r
   rw[g]at hF hpk
   change zr _ _ _ _ _ _ (.tup [trV r1 r2,.tt]) _ at hpk
   subst hF
   refine spi (fn:=Tryz.f146) _ ?_
   conv=>whnf
   repeat' first
    |(refine zn ?_ ?_;(focus (first|rfl|exact beq_self_eq_true _));conv=>whnf)
    |(refine zm ?_ ?_;(focus (first|rfl|exact bne_self_eq_false _));conv=>whnf)
    |(refine za (by(try simp only[wA,wL])<;>omega) ?_;conv=>whnf)
    |(refine z8 (hci) rfl ?_;conv=>whnf)
    |(refine zp (hpk) rfl rfl ?_;conv=>whnf)
   rw[show(got.set ((w:Int)).toNat 9999).set ((w:Int)).toNat value=got.set w value from List.set_set ..]
   exact(zu [0,1,5] [])
end Go.VL
namespace Go.VL
open Go.Proofs
set_option maxRecDepth 10000
set_option linter.unusedSimpArgs false
set_option linter.unusedVariables false
theorem z9w {L:List (List Int)} {i:Nat} (h:i<L.length):(L.take i++[[]]).set (L.take i).length (L.getD i [])=L.take (i+1):=by
 rw[zat [] h,List.set_append_right _ _ (Nat.le_refl _),Nat.sub_self];rfl
theorem z7b (ops:List Opn) (root:Int) (ps:List Pg) (held:List (List Int)) (done got:List Int) (w:Nat) (x:List Int):fiF ops ⟨root,ps,held.set w x,done,got⟩ w=fiF ops ⟨root,ps,held,done,got⟩ w:=by
 unfold fiF
 dsimp only
 rw[List.set_set]
set_option maxHeartbeats 4000000 in
theorem yb7 (ops:List Opn) (s:RS) (w k:Nat) (hI:RunI ops k s) (hk:k≤100) (ho:z4m ops=true) (hw:w<ops.length):zr Tryz.prog 106 0 [mcV s,.c (.ops ops),.c (.int .i64 w)] [] 0 (mcV (piF ops s w)) []:=by
 obtain⟨root,ps,held,done,got⟩:=s
 have hvt:=hI.vt
 have hhl:=hI.hl
 have hgl:=hI.gl
 have hin:=hI.hin w
 have hkl:=hI.hk
 have hdl:=hI.dl
 dsimp only at hvt hhl hgl hin hkl hdl
 have hp:pB ps:=(zdx hvt).pb
 have hn:=z5d ho
 have hop:=z5c ho hw
 have hii:=zo5 done w (by omega)
 have hcd:=zdn (zcn done (by omega)) rfl
 have hcg:=zcn got (by omega)
 change zr _ _ _ _ _ _ (.c (.nums .i64 done)) _ at hcd
 obtain⟨F,hF⟩:∃F,piF ops ⟨root,ps,held,done,got⟩ w=F:=⟨_,rfl⟩
 rw[hF]
 unfold piF at hF
 dsimp only at hF
 by_cases c1:(w:Int)∈done
 ·rw[if_pos c1]at hF
  rw[List.contains_iff_mem.2 c1]at hii
  subst hF
  refine spi (fn:=Tryz.f106) _ ?_
  conv=>whnf
  repeat' first
   |(refine zn ?_ ?_;(focus (first|rfl|exact beq_self_eq_true _));conv=>whnf)
   |(refine zp (hii) rfl rfl ?_;conv=>whnf)
  exact(zu [] [])
 ·rw[if_neg c1]at hF
  have c1':done.contains (w:Int)=false:=by
   cases q:done.contains (w:Int)with
   |false=>rfl
   |true=>exact(c1 (List.contains_iff_mem.1 q)).elim
  rw[c1']at hii
  have hpr:=z8h hvt hin (z4e ops w).key
  have hbl:=λpage=>z9t ⟨root,ps,held,done,got⟩ ops w page hw hhl (by omega) (λi=>by have:=hkl i;show(held.getD i []).length≤_;omega)
  dsimp only[mcV]at hbl⊢
  refine spi (fn:=Tryz.f106) _ ?_
  conv=>whnf
  repeat' first
   |(refine za (by kernel_rfl) ?_;conv=>whnf)
   |(refine zm ?_ ?_;(focus (first|rfl|exact bne_self_eq_false _));conv=>whnf)
   |(refine zp (hii) rfl rfl ?_;conv=>whnf)
   |(refine zw (hcd) rfl rfl ?_;conv=>whnf)
   |(refine zar (hcg) rfl rfl ?_;conv=>whnf)
   |(refine zlj ?_;conv=>whnf)
   |(refine ze ?_;conv=>whnf)
  refine zau (λi:Nat=>i≤held.length) (λi=>⟨132,5,[(1,.c (.ops ops)),(2,.c (.int .i64 w)),(3,.ptr 0 0 0 0),(6,.ptr 1 0 0 0),(7,.ptr 2 0 0 0),(8,.c (.int .i64 i))],[(0,.box [.c (.int .i64 root),.c (.pgs ps),.c (.numss held),.c (.nums .i64 done),.c (.nums .i64 got)] [] []),(1,.box [.c (.int .i64 0),.nil,.nil,.nil,.nil] [] []),(2,.box [.c (.int .i64 root),.c (.pgs ps),.slc 3,.c (.nums .i64 done),.slc 4] [] []),(3,.deep false 0 (.numss (held.take i)) []),(4,.arr (.nums .i64 got))]⟩) (λi=>held.length-i) 0 (Nat.zero_le _) (λ_=>Nat.zero_le _) (zsg [.dp 4] [] [0,1,12,4,10] ?_) ?_
  ·conv=>whnf
   exact⟨by repeat first|exact trivial|refine⟨rfl,?_⟩,by repeat first|exact trivial|refine⟨rfl,?_⟩,rfl,rfl,rfl,rfl,rfl,rfl,rfl⟩
  intro i hi
  by_cases c:i<held.length
  ·have hci:=zcn (held.getD i []) (by have:=hkl i;omega)
   conv=>whnf
   repeat' first
    |(refine za (by kernel_rfl) ?_;conv=>whnf)
    |(refine zn ?_ ?_;(focus ((try simp only[qA])<;>(try simp only[wA])<;>omega));conv=>whnf)
    |(refine za (by(try simp only[wA,wL])<;>omega) ?_;conv=>whnf)
    |(refine zg (by(try simp only[wA,wL])<;>omega) (by(try simp only[wA,wL])<;>omega) ?_;conv=>whnf)
    |(refine zar (hci) rfl rfl ?_;conv=>whnf)
    |(refine ze ?_;conv=>whnf)
   refine⟨⟨i+1,c⟩,(zsg [.cl 3] [] [0,1,2,3,4] ?_),by dsimp only;omega⟩
   conv=>whnf
   refine⟨by repeat first|exact trivial|refine⟨rfl,?_⟩,⟨rfl,rfl,rfl,?_,rfl,trivial⟩,rfl,rfl,rfl,rfl,rfl,rfl,rfl⟩
   exact congrArg (λz=>some (O.deep false 0 (C.numss z) [])) (z9w c)
  ·obtain rfl:i=held.length:=by omega
   rw[List.take_length]
   have hfi:∀H:List (List Int),H.length=held.length→zr Tryz.prog 146 2 [.agg [.c (.int .i64 root),.c (.pgs ps),.slc 0,.c (.nums .i64 done),.slc 1],opV (z4e ops w),.c (.int .i64 w)] [(0,.arr (.numss H)),(1,.arr (.nums .i64 got))] 0 (mcV (fiF ops ⟨root,ps,H,done,got⟩ w)) []:=λH hH=>ya7 ops root ps H done got w hp hvt (by omega) (by omega) (by omega) (by omega) (by omega) (by omega)
   have hsf:=zyj root (nxF root ps (held.getD w []) (z4e ops w).key) (z4e ops w).kind ps hp hpr.1 hpr.2 (by omega) (by omega)
   have hbl:=hbl (nxF root ps (held.getD w []) (z4e ops w).key)
   have hlf:(zb ps (nxF root ps (held.getD w []) (z4e ops w).key)).kids.length=0∨(zb ps (nxF root ps (held.getD w []) (z4e ops w).key)).kids.length≠0:=Decidable.em _
   have hfs:=λx=>z7b ops root ps held done got w x
   unfold h2F at hF
   have hkk:=hp.kids (nxF root ps (held.getD w []) (z4e ops w).key)
   have hkw:=hkl w
   by_cases hz:(held.getD w []).length=0
   ·have e:nxF root ps (held.getD w []) (z4e ops w).key=root:=by unfold nxF;rw[if_pos hz]
    rw[e]at hF hpr hsf hbl hkk
    dsimp only[zb]at hF hkk
    cases hB:z4j ops held w root with
    |true =>
     rw[hB]at hF hbl
     rw[if_pos rfl]at hF
     subst hF
     conv=>whnf
     refine ze9 [.th 3] ?_
     conv=>whnf
     repeat' first
      |(refine zn ?_ ?_;(focus (first|rfl|exact beq_self_eq_true _));conv=>whnf)
      |(refine zm ?_ ?_;(focus ((try simp only[qA])<;>(try simp only[wA])<;>omega));conv=>whnf)
      |(refine za (by(try simp only[wA,wL])<;>omega) ?_;conv=>whnf)
      |(refine zp (hbl) rfl rfl ?_;conv=>whnf)
     exact(zu [] [])
    |false =>
     rw[hB]at hF hbl
     rw[if_neg (by decide)]at hF
     cases hS:sfF root ps (z4e ops w).kind root with
     |true =>
      rw[hS]at hF hsf
      by_cases hl0:(ps.getD (root).toNat ⟨[],[],[]⟩).kids.length=0
      ·rw[if_pos hl0]at hF
       have hfi:=hfi (held.set w ([root])) (by rw[List.length_set])
       rw[hfs,hF]at hfi
       conv=>whnf
       refine ze9 [.th 3] ?_
       conv=>whnf
       repeat' first
        |(refine za (by kernel_rfl) ?_;conv=>whnf)
        |(refine zn ?_ ?_;(focus (first|rfl|exact beq_self_eq_true _));conv=>whnf)
        |(refine zm ?_ ?_;(focus (first|rfl|exact bne_self_eq_false _));conv=>whnf)
        |(refine zn ?_ ?_;(focus ((try simp only[qA])<;>(try simp only[wA])<;>omega));conv=>whnf)
        |(refine zm ?_ ?_;(focus ((try simp only[qA])<;>(try simp only[wA])<;>omega));conv=>whnf)
        |(refine za (by(try simp only[wA,wL])<;>omega) ?_;conv=>whnf)
        |(refine zp (hbl) rfl rfl ?_;conv=>whnf)
        |(refine zw (hsf) rfl rfl ?_;conv=>whnf)
        |(refine z5u 3 4 hfi rfl rfl rfl rfl rfl rfl rfl rfl rfl ?_;conv=>whnf)
        |(refine ze ?_;conv=>whnf)
       exact(zu [] [])
      ·rw[if_neg hl0]at hF
       have hfi:=hfi (held.set w ([root])) (by rw[List.length_set])
       rw[if_pos rfl]at hF
       subst hF
       conv=>whnf
       refine ze9 [.th 3] ?_
       conv=>whnf
       repeat' first
        |(refine za (by kernel_rfl) ?_;conv=>whnf)
        |(refine zn ?_ ?_;(focus (first|rfl|exact beq_self_eq_true _));conv=>whnf)
        |(refine zm ?_ ?_;(focus (first|rfl|exact bne_self_eq_false _));conv=>whnf)
        |(refine zm ?_ ?_;(focus ((try simp only[qA])<;>(try simp only[wA])<;>omega));conv=>whnf)
        |(refine za (by(try simp only[wA,wL])<;>omega) ?_;conv=>whnf)
        |(refine zp (hbl) rfl rfl ?_;conv=>whnf)
        |(refine zw (hsf) rfl rfl ?_;conv=>whnf)
        |(refine ze ?_;conv=>whnf)
       exact(zu [3,4] [])
     |false =>
      rw[hS]at hF hsf
      by_cases hl0:(ps.getD (root).toNat ⟨[],[],[]⟩).kids.length=0
      ·rw[if_pos hl0]at hF
       have hfi:=hfi (held.set w (held.getD w []++([]++[root]))) (by rw[List.length_set])
       rw[hfs,hF]at hfi
       conv=>whnf
       refine ze9 [.op 3 w] ?_
       conv=>whnf
       repeat' first|(refine zm ?_ ?_;(focus ((try simp only[qA])<;>(try simp only[wA])<;>omega));conv=>whnf)|(refine za (by(try simp only[wA,wL])<;>omega) ?_;conv=>whnf)
       refine ze ?_
       conv=>whnf
       skip
       refine ze ?_
       conv=>whnf
       repeat' (refine za (by(try simp only[wA,wL])<;>omega) ?_;conv=>whnf)
       refine ze ?_
       conv=>whnf
       repeat' (refine zm ?_ ?_;(focus ((try simp only[qA])<;>(try simp only[wA])<;>omega));conv=>whnf)
       refine ze ?_
       conv=>whnf
       repeat' first
        |(refine zm ?_ ?_;(focus (first|rfl|exact bne_self_eq_false _));conv=>whnf)
        |(refine zp (hbl) rfl rfl ?_;conv=>whnf)
       refine ze ?_
       conv=>whnf
       repeat' first
        |(refine za (by kernel_rfl) ?_;conv=>whnf)
        |(refine zm ?_ ?_;(focus (first|rfl|exact bne_self_eq_false _));conv=>whnf)
        |(refine za (by(try simp only[wA,wL])<;>omega) ?_;conv=>whnf)
        |(refine zw (hsf) rfl rfl ?_;conv=>whnf)
       refine ze ?_
       conv=>whnf
       repeat' first
        |(refine za (by kernel_rfl) ?_;conv=>whnf)
        |(refine za (by(try simp only[wA,wL])<;>omega) ?_;conv=>whnf)
        |(refine zlj ?_;conv=>whnf)
        |(refine zl (by first|rfl|omega) ?_;conv=>whnf)
       refine ze9 [.cl 3,.th 3] ?_
       conv=>whnf
       repeat' first
        |(refine za (by kernel_rfl) ?_;conv=>whnf)
        |(refine zn ?_ ?_;(focus ((try simp only[qA])<;>(try simp only[wA])<;>omega));conv=>whnf)
        |(refine za (by(try simp only[wA,wL])<;>omega) ?_;conv=>whnf)
        |(refine z5u 3 4 hfi rfl rfl rfl rfl rfl rfl rfl rfl rfl ?_;conv=>whnf)
        |(refine ze ?_;conv=>whnf)
       exact(zu [] [])
      ·rw[if_neg hl0]at hF
       have hfi:=hfi (held.set w (held.getD w []++([]++[root]))) (by rw[List.length_set])
       rw[if_neg (by decide)]at hF
       subst hF
       conv=>whnf
       refine ze9 [.op 3 w] ?_
       conv=>whnf
       repeat' first|(refine zm ?_ ?_;(focus ((try simp only[qA])<;>(try simp only[wA])<;>omega));conv=>whnf)|(refine za (by(try simp only[wA,wL])<;>omega) ?_;conv=>whnf)
       refine ze ?_
       conv=>whnf
       skip
       refine ze ?_
       conv=>whnf
       repeat' (refine za (by(try simp only[wA,wL])<;>omega) ?_;conv=>whnf)
       refine ze ?_
       conv=>whnf
       repeat' (refine zm ?_ ?_;(focus ((try simp only[qA])<;>(try simp only[wA])<;>omega));conv=>whnf)
       refine ze ?_
       conv=>whnf
       repeat' first
        |(refine zm ?_ ?_;(focus (first|rfl|exact bne_self_eq_false _));conv=>whnf)
        |(refine zp (hbl) rfl rfl ?_;conv=>whnf)
       refine ze ?_
       conv=>whnf
       repeat' first
        |(refine za (by kernel_rfl) ?_;conv=>whnf)
        |(refine zm ?_ ?_;(focus (first|rfl|exact bne_self_eq_false _));conv=>whnf)
        |(refine za (by(try simp only[wA,wL])<;>omega) ?_;conv=>whnf)
        |(refine zw (hsf) rfl rfl ?_;conv=>whnf)
       refine ze ?_
       conv=>whnf
       repeat' first
        |(refine za (by kernel_rfl) ?_;conv=>whnf)
        |(refine za (by(try simp only[wA,wL])<;>omega) ?_;conv=>whnf)
        |(refine zlj ?_;conv=>whnf)
        |(refine zl (by first|rfl|omega) ?_;conv=>whnf)
       refine ze9 [.cl 3,.th 3] ?_
       conv=>whnf
       repeat' first|(refine zm ?_ ?_;(focus ((try simp only[qA])<;>(try simp only[wA])<;>omega));conv=>whnf)|(refine za (by(try simp only[wA,wL])<;>omega) ?_;conv=>whnf)
       exact(zu [3,4] [])
   ·have e:nxF root ps (held.getD w []) (z4e ops w).key=(zb ps (laF (held.getD w []))).kids.getD (upF (zb ps (laF (held.getD w []))).keys (z4e ops w).key) 0:=by unfold nxF;rw[if_neg hz]
    obtain⟨l0,l1,l2⟩:=hin _ (z7d hz)
    have hvk:=z7p hvt l0 l1 l2 (z4e ops w).key
    have hut:=z3t (zb ps (laF (held.getD w []))).keys (z4e ops w).key (hp.keys _)
    have hkq:=hp.kids (laF (held.getD w []))
    rw[e]at hF hpr hsf hbl hkk
    have hla:laF (held.getD w [])=(held.getD w []).getD (((held.getD w []).length:Int)-1).toNat 0:=by unfold laF;congr 1;omega
    rw[hla]at hF hpr hsf hbl hkk hvk hut hkq l0 l1
    dsimp only[zb]at hF hpr hsf hbl hkk hut hvk hkq
    cases hB:z4j ops held w ((ps.getD ((held.getD w []).getD (((held.getD w []).length:Int)-1).toNat 0).toNat ⟨[],[],[]⟩).kids.getD (upF (ps.getD ((held.getD w []).getD (((held.getD w []).length:Int)-1).toNat 0).toNat ⟨[],[],[]⟩).keys (z4e ops w).key) 0)with
    |true =>
     rw[hB]at hF hbl
     rw[if_pos rfl]at hF
     subst hF
     conv=>whnf
     refine ze9 [.th 3] ?_
     conv=>whnf
     repeat' first
      |(refine za (by kernel_rfl) ?_;conv=>whnf)
      |(refine zn ?_ ?_;(focus (first|rfl|exact beq_self_eq_true _));conv=>whnf)
      |(refine zn ?_ ?_;(focus ((try simp only[qA])<;>(try simp only[wA])<;>omega));conv=>whnf)
      |(refine zm ?_ ?_;(focus ((try simp only[qA])<;>(try simp only[wA])<;>omega));conv=>whnf)
      |(refine za (by(try simp only[wA,wL])<;>omega) ?_;conv=>whnf)
      |(refine zg (by(try simp only[wA,wL])<;>omega) (by(try simp only[wA,wL])<;>omega) ?_;conv=>whnf)
      |(refine zp (hbl) rfl rfl ?_;conv=>whnf)
      |(refine zw (hut) rfl rfl ?_;conv=>whnf)
      |(refine ze ?_;conv=>whnf)
     exact(zu [] [])
    |false =>
     rw[hB]at hF hbl
     rw[if_neg (by decide)]at hF
     cases hS:sfF root ps (z4e ops w).kind ((ps.getD ((held.getD w []).getD (((held.getD w []).length:Int)-1).toNat 0).toNat ⟨[],[],[]⟩).kids.getD (upF (ps.getD ((held.getD w []).getD (((held.getD w []).length:Int)-1).toNat 0).toNat ⟨[],[],[]⟩).keys (z4e ops w).key) 0)with
     |true =>
      rw[hS]at hF hsf
      by_cases hl0:(ps.getD (((ps.getD ((held.getD w []).getD (((held.getD w []).length:Int)-1).toNat 0).toNat ⟨[],[],[]⟩).kids.getD (upF (ps.getD ((held.getD w []).getD (((held.getD w []).length:Int)-1).toNat 0).toNat ⟨[],[],[]⟩).keys (z4e ops w).key) 0)).toNat ⟨[],[],[]⟩).kids.length=0
      ·rw[if_pos hl0]at hF
       have hfi:=hfi (held.set w ([((ps.getD ((held.getD w []).getD (((held.getD w []).length:Int)-1).toNat 0).toNat ⟨[],[],[]⟩).kids.getD (upF (ps.getD ((held.getD w []).getD (((held.getD w []).length:Int)-1).toNat 0).toNat ⟨[],[],[]⟩).keys (z4e ops w).key) 0)])) (by rw[List.length_set])
       rw[hfs,hF]at hfi
       conv=>whnf
       refine ze9 [.th 3] ?_
       conv=>whnf
       repeat' first
        |(refine za (by kernel_rfl) ?_;conv=>whnf)
        |(refine zn ?_ ?_;(focus (first|rfl|exact beq_self_eq_true _));conv=>whnf)
        |(refine zm ?_ ?_;(focus (first|rfl|exact bne_self_eq_false _));conv=>whnf)
        |(refine zn ?_ ?_;(focus ((try simp only[qA])<;>(try simp only[wA])<;>omega));conv=>whnf)
        |(refine zm ?_ ?_;(focus ((try simp only[qA])<;>(try simp only[wA])<;>omega));conv=>whnf)
        |(refine za (by(try simp only[wA,wL])<;>omega) ?_;conv=>whnf)
        |(refine zg (by(try simp only[wA,wL])<;>omega) (by(try simp only[wA,wL])<;>omega) ?_;conv=>whnf)
        |(refine zp (hbl) rfl rfl ?_;conv=>whnf)
        |(refine zw (hsf) rfl rfl ?_;conv=>whnf)
        |(refine zw (hut) rfl rfl ?_;conv=>whnf)
        |(refine z5u 3 4 hfi rfl rfl rfl rfl rfl rfl rfl rfl rfl ?_;conv=>whnf)
        |(refine ze ?_;conv=>whnf)
       exact(zu [] [])
      ·rw[if_neg hl0]at hF
       have hfi:=hfi (held.set w ([((ps.getD ((held.getD w []).getD (((held.getD w []).length:Int)-1).toNat 0).toNat ⟨[],[],[]⟩).kids.getD (upF (ps.getD ((held.getD w []).getD (((held.getD w []).length:Int)-1).toNat 0).toNat ⟨[],[],[]⟩).keys (z4e ops w).key) 0)])) (by rw[List.length_set])
       rw[if_pos rfl]at hF
       subst hF
       conv=>whnf
       refine ze9 [.th 3] ?_
       conv=>whnf
       repeat' first
        |(refine za (by kernel_rfl) ?_;conv=>whnf)
        |(refine zn ?_ ?_;(focus (first|rfl|exact beq_self_eq_true _));conv=>whnf)
        |(refine zm ?_ ?_;(focus (first|rfl|exact bne_self_eq_false _));conv=>whnf)
        |(refine zn ?_ ?_;(focus ((try simp only[qA])<;>(try simp only[wA])<;>omega));conv=>whnf)
        |(refine zm ?_ ?_;(focus ((try simp only[qA])<;>(try simp only[wA])<;>omega));conv=>whnf)
        |(refine za (by(try simp only[wA,wL])<;>omega) ?_;conv=>whnf)
        |(refine zg (by(try simp only[wA,wL])<;>omega) (by(try simp only[wA,wL])<;>omega) ?_;conv=>whnf)
        |(refine zp (hbl) rfl rfl ?_;conv=>whnf)
        |(refine zw (hsf) rfl rfl ?_;conv=>whnf)
        |(refine zw (hut) rfl rfl ?_;conv=>whnf)
        |(refine ze ?_;conv=>whnf)
       exact(zu [3,4] [])
     |false =>
      rw[hS]at hF hsf
      by_cases hl0:(ps.getD (((ps.getD ((held.getD w []).getD (((held.getD w []).length:Int)-1).toNat 0).toNat ⟨[],[],[]⟩).kids.getD (upF (ps.getD ((held.getD w []).getD (((held.getD w []).length:Int)-1).toNat 0).toNat ⟨[],[],[]⟩).keys (z4e ops w).key) 0)).toNat ⟨[],[],[]⟩).kids.length=0
      ·rw[if_pos hl0]at hF
       have hfi:=hfi (held.set w (held.getD w []++([]++[((ps.getD ((held.getD w []).getD (((held.getD w []).length:Int)-1).toNat 0).toNat ⟨[],[],[]⟩).kids.getD (upF (ps.getD ((held.getD w []).getD (((held.getD w []).length:Int)-1).toNat 0).toNat ⟨[],[],[]⟩).keys (z4e ops w).key) 0)]))) (by rw[List.length_set])
       rw[hfs,hF]at hfi
       conv=>whnf
       refine ze9 [.op 3 w] ?_
       conv=>whnf
       repeat' first|(refine zm ?_ ?_;(focus ((try simp only[qA])<;>(try simp only[wA])<;>omega));conv=>whnf)|(refine za (by(try simp only[wA,wL])<;>omega) ?_;conv=>whnf)
       refine ze ?_
       conv=>whnf
       skip
       refine ze ?_
       conv=>whnf
       repeat' (refine za (by(try simp only[wA,wL])<;>omega) ?_;conv=>whnf)
       refine ze ?_
       conv=>whnf
       repeat' (refine zn ?_ ?_;(focus ((try simp only[qA])<;>(try simp only[wA])<;>omega));conv=>whnf)
       refine ze ?_
       conv=>whnf
       repeat' first
        |(refine za (by kernel_rfl) ?_;conv=>whnf)
        |(refine za (by(try simp only[wA,wL])<;>omega) ?_;conv=>whnf)
        |(refine zg (by(try simp only[wA,wL])<;>omega) (by(try simp only[wA,wL])<;>omega) ?_;conv=>whnf)
       refine ze ?_
       conv=>whnf
       repeat' first
        |(refine za (by kernel_rfl) ?_;conv=>whnf)
        |(refine za (by(try simp only[wA,wL])<;>omega) ?_;conv=>whnf)
        |(refine zw (hut) rfl rfl ?_;conv=>whnf)
       refine ze ?_
       conv=>whnf
       repeat' first
        |(refine zm ?_ ?_;(focus (first|rfl|exact bne_self_eq_false _));conv=>whnf)
        |(refine zp (hbl) rfl rfl ?_;conv=>whnf)
       refine ze ?_
       conv=>whnf
       repeat' first
        |(refine za (by kernel_rfl) ?_;conv=>whnf)
        |(refine zm ?_ ?_;(focus (first|rfl|exact bne_self_eq_false _));conv=>whnf)
        |(refine za (by(try simp only[wA,wL])<;>omega) ?_;conv=>whnf)
        |(refine zw (hsf) rfl rfl ?_;conv=>whnf)
       refine ze ?_
       conv=>whnf
       repeat' first
        |(refine za (by kernel_rfl) ?_;conv=>whnf)
        |(refine za (by(try simp only[wA,wL])<;>omega) ?_;conv=>whnf)
        |(refine zlj ?_;conv=>whnf)
        |(refine zl (by first|rfl|omega) ?_;conv=>whnf)
       refine ze9 [.cl 3,.th 3] ?_
       conv=>whnf
       repeat' first
        |(refine za (by kernel_rfl) ?_;conv=>whnf)
        |(refine zn ?_ ?_;(focus ((try simp only[qA])<;>(try simp only[wA])<;>omega));conv=>whnf)
        |(refine za (by(try simp only[wA,wL])<;>omega) ?_;conv=>whnf)
        |(refine z5u 3 4 hfi rfl rfl rfl rfl rfl rfl rfl rfl rfl ?_;conv=>whnf)
        |(refine ze ?_;conv=>whnf)
       exact(zu [] [])
      ·rw[if_neg hl0]at hF
       have hfi:=hfi (held.set w (held.getD w []++([]++[((ps.getD ((held.getD w []).getD (((held.getD w []).length:Int)-1).toNat 0).toNat ⟨[],[],[]⟩).kids.getD (upF (ps.getD ((held.getD w []).getD (((held.getD w []).length:Int)-1).toNat 0).toNat ⟨[],[],[]⟩).keys (z4e ops w).key) 0)]))) (by rw[List.length_set])
       rw[if_neg (by decide)]at hF
       subst hF
       conv=>whnf
       refine ze9 [.op 3 w] ?_
       conv=>whnf
       repeat' first|(refine zm ?_ ?_;(focus ((try simp only[qA])<;>(try simp only[wA])<;>omega));conv=>whnf)|(refine za (by(try simp only[wA,wL])<;>omega) ?_;conv=>whnf)
       refine ze ?_
       conv=>whnf
       skip
       refine ze ?_
       conv=>whnf
       repeat' (refine za (by(try simp only[wA,wL])<;>omega) ?_;conv=>whnf)
       refine ze ?_
       conv=>whnf
       repeat' (refine zn ?_ ?_;(focus ((try simp only[qA])<;>(try simp only[wA])<;>omega));conv=>whnf)
       refine ze ?_
       conv=>whnf
       repeat' first
        |(refine za (by kernel_rfl) ?_;conv=>whnf)
        |(refine za (by(try simp only[wA,wL])<;>omega) ?_;conv=>whnf)
        |(refine zg (by(try simp only[wA,wL])<;>omega) (by(try simp only[wA,wL])<;>omega) ?_;conv=>whnf)
       refine ze ?_
       conv=>whnf
       repeat' first
        |(refine za (by kernel_rfl) ?_;conv=>whnf)
        |(refine za (by(try simp only[wA,wL])<;>omega) ?_;conv=>whnf)
        |(refine zw (hut) rfl rfl ?_;conv=>whnf)
       refine ze ?_
       conv=>whnf
       repeat' first
        |(refine zm ?_ ?_;(focus (first|rfl|exact bne_self_eq_false _));conv=>whnf)
        |(refine zp (hbl) rfl rfl ?_;conv=>whnf)
       refine ze ?_
       conv=>whnf
       repeat' first
        |(refine za (by kernel_rfl) ?_;conv=>whnf)
        |(refine zm ?_ ?_;(focus (first|rfl|exact bne_self_eq_false _));conv=>whnf)
        |(refine za (by(try simp only[wA,wL])<;>omega) ?_;conv=>whnf)
        |(refine zw (hsf) rfl rfl ?_;conv=>whnf)
       refine ze ?_
       conv=>whnf
       repeat' first
        |(refine za (by kernel_rfl) ?_;conv=>whnf)
        |(refine za (by(try simp only[wA,wL])<;>omega) ?_;conv=>whnf)
        |(refine zlj ?_;conv=>whnf)
        |(refine zl (by first|rfl|omega) ?_;conv=>whnf)
       refine ze9 [.cl 3,.th 3] ?_
       conv=>whnf
       repeat' first|(refine zm ?_ ?_;(focus ((try simp only[qA])<;>(try simp only[wA])<;>omega));conv=>whnf)|(refine za (by(try simp only[wA,wL])<;>omega) ?_;conv=>whnf)
       exact(zu [3,4] [])
end Go.VL
namespace Go.VL
open Go.Proofs
set_option maxRecDepth 10000
set_option linter.unusedSimpArgs false
set_option linter.unusedVariables false
structure RunV (root:Int) (ps:List Pg) (ops:List Opn) (picks:List Int):Prop where
 vt:vTree root ps=true
 vo:z4m ops=true
 pl:picks.length≤16
 pk:z6b ops.length picks
theorem z4g {root:Int} {ps:List Pg} {ops:List Opn} {picks:List Int}:z4i root ps ops picks=true↔RunV root ps ops picks:=by
 unfold z4i
 rw[Bool.and_eq_true,Bool.and_eq_true,Bool.and_eq_true,decide_eq_true_iff,List.all_eq_true]
 constructor
 ·rintro⟨⟨⟨h1,h2⟩,h3⟩,h4⟩
  exact⟨h1,h2,h3,λx hx=>by have:=of_decide_eq_true (h4 x hx);omega⟩
 ·rintro⟨h1,h2,h3,h4⟩
  exact⟨⟨⟨h1,h2⟩,h3⟩,λx hx=>decide_eq_true (by have:=h4 x hx;omega)⟩
theorem z7o {n i:Nat} {picks:List Int} (h:z6b n picks):z6b n (picks.take i):=λx hx=>h x (List.mem_of_mem_take hx)
theorem RunV.at {root:Int} {ps:List Pg} {ops:List Opn} {picks:List Int} (h:RunV root ps ops picks) (i:Nat):RunA root ps ops (picks.take i):=runA h.vt h.vo _ _ rfl (z7o h.pk)
theorem RunV.all {root:Int} {ps:List Pg} {ops:List Opn} {picks:List Int} (h:RunV root ps ops picks):RunA root ps ops picks:=runA h.vt h.vo _ _ rfl h.pk
theorem z6z (root:Int) (ps:List Pg) (ops:List Opn) (picks:List Int) {i:Nat} (h:i<picks.length):ruF root ps ops (picks.take (i+1))=piF ops (ruF root ps ops (picks.take i)) (picks.getD i 0).toNat:=by
 rw[zat 0 h,z43]
theorem z73 (root:Int) (ps:List Pg) (ops:List Opn) (picks:List Int) (hR:RunV root ps ops picks):zr Tryz.prog 66 0 [trV root ps,.c (.ops ops),.c (.nums .i64 picks)] [] 0 (mcV (ruF root ps ops picks)) []:=by
 have hn:=z5d hR.vo
 have hpl:=hR.pl
 refine spi (fn:=Tryz.f66) _ ?_
 conv=>whnf
 repeat' first
  |(refine za (by kernel_rfl) ?_;conv=>whnf)
  |(refine za (by(try simp only[wA,wL])<;>omega) ?_;conv=>whnf)
  |(refine zo ?_;conv=>whnf)
  |(refine ze ?_;conv=>whnf)
 refine zd0 (λ(i:Nat) (S:RS)=>i≤picks.length∧S=ruF root ps ops (picks.take i)) (λi S=>⟨32,2,[(1,.c (.ops ops)),(2,.c (.nums .i64 picks)),(6,.ptr 0 0 0 0),(7,.ptr 1 0 0 0),(8,.c (.int .i64 i))],[(0,.box [.c (.int .i64 0),.nil,.nil,.nil,.nil] [] []),(1,.box [.c (.int .i64 S.root),.c (.pgs S.ps),.c (.numss S.held),.c (.nums .i64 S.done),.c (.nums .i64 S.got)] [] [])]⟩) (λi _=>picks.length-i) 0 (r0F root ps ops.length) ⟨Nat.zero_le _,rfl⟩ (λ_ _=>Nat.zero_le _) (ydn [5,9] [1,11]) (λi S hi=>?_)
 obtain⟨hi,hS⟩:=hi
 by_cases c:i<picks.length
 ·have A:=hR.at i
  have hst:=z6z root ps ops picks c
  rw[←hS]at hst
  have hI:=A.i
  rw[←hS]at hI
  obtain⟨x0,x1⟩:=hR.pk _ (zaq 0 c)
  have hmp:=yb7 ops S (picks.getD i 0).toNat _ hI (by rw[List.length_take];omega) hR.vo (by omega)
  rw[show(((picks.getD i 0).toNat:Nat):Int)=picks.getD i 0 by omega]at hmp
  obtain⟨S2,hS2⟩:∃S2,piF ops S (picks.getD i 0).toNat=S2:=⟨_,rfl⟩
  rw[hS2]at hmp hst
  conv=>whnf
  repeat' first
   |(refine za (by kernel_rfl) ?_;conv=>whnf)
   |(refine zn ?_ ?_;(focus ((try simp only[qA])<;>(try simp only[wA])<;>omega));conv=>whnf)
   |(refine za (by(try simp only[wA,wL])<;>omega) ?_;conv=>whnf)
   |(refine zg (by(try simp only[wA,wL])<;>omega) (by(try simp only[wA,wL])<;>omega) ?_;conv=>whnf)
   |(refine zw (hmp) rfl rfl ?_;conv=>whnf)
   |(refine ze ?_;conv=>whnf)
  refine⟨⟨(i+1,S2),?_⟩,(ydn [] [0,1]),by dsimp only;omega⟩;(try dsimp only)
  exact⟨c,hst.symm⟩
 ·rw[List.take_of_length_le (by omega)]at hS
  rw[←hS]
  conv=>whnf
  repeat' (refine zm ?_ ?_;(focus ((try simp only[qA])<;>(try simp only[wA])<;>omega));conv=>whnf)
  exact(zu [] [])
theorem z9n (root:Int) (ps:List Pg) (ops:List Opn) (picks:List Int) (hp:pB ps) (h1:ops.length≤4294967296) (h2:picks.length≤4294967296) (hR:RunV root ps ops picks):zr Tryz.prog 36 0 [trV root ps,.c (.ops ops),.c (.nums .i64 picks)] [] 1 (.agg [.c (.int .i64 (ruF root ps ops picks).root),.slc 0]) [(0,.arr (.pgs (ruF root ps ops picks).ps))]:=by
 have hv:=z4q root ps ops picks hp h1 h2
 have hr:=z73 root ps ops picks hR
 have hct:=zp1 (ruF root ps ops picks).root (ruF root ps ops picks).ps (zdx hR.all.i.vt).pb
 rw[z4g.2 hR]at hv
 generalize ruF root ps ops picks=S at *
 refine spi (fn:=Tryz.f36) _ ?_
 conv=>whnf
 repeat' first
  |(refine zm ?_ ?_;(focus (first|rfl|exact bne_self_eq_false _));conv=>whnf)
  |(refine zp (hv) rfl rfl ?_;conv=>whnf)
  |(refine zp (hr) rfl rfl ?_;conv=>whnf)
  |(refine z8 (hct) rfl ?_;conv=>whnf)
 exact(zu [] [2])
theorem z6q (root:Int) (ps:List Pg) (ops:List Opn) (picks:List Int) (hp:pB ps) (h1:ops.length≤4294967296) (h2:picks.length≤4294967296) (hR:z4i root ps ops picks=false):zr Tryz.prog 36 0 [trV root ps,.c (.ops ops),.c (.nums .i64 picks)] [] 0 ztV []:=by
 have hv:=z4q root ps ops picks hp h1 h2
 rw[hR]at hv
 refine spi (fn:=Tryz.f36) _ ?_
 conv=>whnf
 repeat' first
  |(refine zn ?_ ?_;(focus (first|rfl|exact beq_self_eq_true _));conv=>whnf)
  |(refine zp (hv) rfl rfl ?_;conv=>whnf)
 exact(zu [] [])
end Go.VL
