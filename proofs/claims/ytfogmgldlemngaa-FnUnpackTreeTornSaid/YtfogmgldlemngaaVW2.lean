/- V-logic: PT22 TrW -/
import Derived.Test.YtfogmgldlemngaaVPE
import Derived.Test.YtfogmgldlemngaaVT1
import Derived.Test.YtfogmgldlemngaaVEF
import Derived.Test.YtfogmgldlemngaaVMA
namespace Go.VL
set_option linter.unusedVariables false
set_option linter.unusedSimpArgs false
theorem PgOk.row {ps:List Pg} {p:Pg} (h:PgOk ps p) (hk:p.kids=[]):zdb (zab p)=true∧p.vals.length=p.keys.length:=by
 have k4:=h.k4
 rcases h.c with ⟨_,h2,h3⟩|⟨_,_,h2,_⟩
 ·refine⟨?_,h2⟩
  unfold zdb
  rw[zdi h2,h.vk,zby p h2,decide_eq_true (by omega),Bool.true_and,Bool.and_true]
  refine List.all_eq_true.2 fun x hx=>decide_eq_true (h3 _ ?_)
  rw[←zq8 h2];exact List.mem_map.2 ⟨x,hx,rfl⟩
 ·rw[hk]at h2;simp at h2
structure LvB (root:Int) (ps:List Pg):Prop where
 pos:1≤(lvF ps (htF root ps) root).length
 le:(lvF ps (htF root ps) root).length≤97656
 four:(psF root ps).length≤4*(lvF ps (htF root ps) root).length
 len:(psF root ps).length≤100
open Go.Proofs
set_option maxRecDepth 10000
theorem zrb (n:Int):zr Try.prog 43 0 [.c (.int .i64 n)] [] 0 (.c (.bool (decide (-1000≤n∧n≤1000)))) []:=by
 refine spi (fn:=Try.f43) _ ?_
 conv=>whnf
 repeat' first|(refine zk (fun h=>?_) (fun h=>?_)<;>(try simp only[qA]at h)<;>(try simp only[wA,wN]at h)<;>conv=>whnf)|refine zd ?_|refine zh ?_
 ·have h:-1000≤n:=by omega
  simp[h]
 ·simp;omega
theorem zsa (root:Int) (ps:List Pg) (bs:List Bool) (ld a:Int) (hp:pB ps) (h0:0≤a) (h1:a<ps.length):zr Try.prog 39 1 [.ptr 0 0 0 0,.c (.int .i64 a)] [(0,.box [.c (.int .i64 root),.c (.pgs ps)] bs [.c (.int .i64 ld)])] 1 (.c (.bool (zir (zb ps a) (decide (a=root))))) [(0,.box [.c (.int .i64 root),.c (.pgs ps)] bs [.c (.int .i64 ld)])]:=by
 have k1:=hp.keys a
 have k2:=hp.kids a
 have k3:=hp.vals a
 have hvk:=zfj (zb ps a).keys k1
 have e:zir (zb ps a) (decide (a=root))=zir (zb ps a) (decide (a=root)):=rfl
 conv at e=>rhs;unfold zir
 obtain⟨X,hX⟩:∃X,zir (zb ps a) (decide (a=root))=X:=⟨_,rfl⟩
 rw[hX]at e⊢
 clear hX
 obtain⟨VK,hVK⟩:∃VK,za2 (zb ps a).keys=VK:=⟨_,rfl⟩
 rw[hVK]at e hvk
 obtain⟨AL,hAL⟩:∃AL,((zb ps a).vals.all fun x=>decide (-1000≤x∧x≤1000))=AL:=⟨_,rfl⟩
 rw[hAL]at e
 clear hVK
 dsimp only[zb]at e k1 k2 k3 hvk hAL
 simp only[decide_eq_false_iff_not]at e
 refine spi (fn:=Try.f39) _ ?_
 conv=>whnf
 repeat' first
  |(refine zn ?_ ?_;(focus ((try simp only[qA])<;>(try simp only[wA])<;>omega));conv=>whnf)
  |(refine za (by(try simp only[wA,wL])<;>omega) ?_;conv=>whnf)
  |(refine zk (fun h=>?_) (fun h=>?_)<;>(try simp only[qA]at h)<;>(try simp only[wA]at h)<;>conv=>whnf)
  |(refine zg (by(try simp only[wA,wL])<;>omega) (by(try simp only[wA,wL])<;>omega) ?_;conv=>whnf)
  |(refine yhk (hvk) rfl rfl ?_;conv=>whnf)
 all_goals first
  |(rw[show X=false from by(rw[e];(repeat' split)<;>first|rfl|assumption|(exfalso;omega)|exact decide_eq_false (by omega)|exact decide_eq_true (by omega)|(exfalso;exact Bool.noConfusion (Eq.trans (Eq.symm ‹VK=true›) ‹VK=false›)))];exact(zu [] [0]))
  |(rw[show X=true from by(rw[e];(repeat' split)<;>first|rfl|assumption|(exfalso;omega)|exact decide_eq_false (by omega)|exact decide_eq_true (by omega)|(exfalso;exact Bool.noConfusion (Eq.trans (Eq.symm ‹VK=true›) ‹VK=false›)))];exact(zu [] [0]))
  |(rw[show X=(((ps.getD a.toNat ⟨[],[],[]⟩).kids.length:Int)==((ps.getD a.toNat ⟨[],[],[]⟩).keys.length:Int)+1)from by(rw[e];(repeat' split)<;>first|(rw[Bool.eq_iff_iff,q3,q5];omega)|assumption|(exfalso;omega)|exact decide_eq_false (by omega)|exact decide_eq_true (by omega)|(exfalso;exact Bool.noConfusion (Eq.trans (Eq.symm ‹VK=true›) ‹VK=false›)))];exact(zu [] [0]))
  |skip
 all_goals
  have e:X=AL:=by(rw[e];(repeat' split)<;>first|rfl|assumption|(exfalso;omega)|exact decide_eq_false (by omega)|exact decide_eq_true (by omega)|(exfalso;exact Bool.noConfusion (Eq.trans (Eq.symm ‹VK=true›) ‹VK=false›)))
  rw[e]
  rw[←hAL]
  clear hAL e
  generalize (ps.getD a.toNat ⟨[],[],[]⟩).vals=L at *
  refine zau (fun k:Nat=>(L.take k).all (fun x=>decide (-1000≤x∧x≤1000))=true) (fun k=>⟨81,1,[(71,.c (.nums .i64 L)),(72,.c (.int .i64 L.length)),(73,.c (.int .i64 k))],[(0,.box [.c (.int .i64 root),.c (.pgs ps)] bs [.c (.int .i64 ld)])]⟩) (fun k=>L.length-k) 0 (by simp) (fun _=>Nat.le_refl _) (ydn [] [0]) (fun k hk=>?_)
  conv=>whnf
  repeat' first
   |(refine za (by(try simp only[wA,wN,wL])<;>omega) ?_;conv=>whnf)
   |(refine zk (fun h=>?_) (fun h=>?_)<;>(try simp only[qA]at h)<;>(try simp only[wA,wN]at h)<;>conv=>whnf)
   |(refine zg (by(try simp only[wA,wN,wL])<;>omega) (by(try simp only[wA,wN,wL])<;>omega) ?_;conv=>whnf)
   |(refine yhk (zrb _) rfl rfl ?_;conv=>whnf)
  ·rename_i h1
   rw[show L.all (fun x=>decide (-1000≤x∧x≤1000))=false from zf6 0 (k:=k) (by omega) (by simp at h⊢;omega)]
   exact(zu [] [0])
  ·rename_i h1
   refine⟨⟨k+1,zeg 0 hk (by omega) (by simpa using h)⟩,(ydn [] [0]),by dsimp only;omega⟩
  ·rw[show L.all (fun x=>decide (-1000≤x∧x≤1000))=true from zh3 hk (by omega)]
   exact(zu [] [0])
end Go.VL
