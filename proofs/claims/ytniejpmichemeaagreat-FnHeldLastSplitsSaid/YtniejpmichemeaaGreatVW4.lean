/- V-logic: TrHa TrHb TrHc TrSa PT23 PT24 PT25 PT26 Ins0 -/
import Derived.Test.YtniejpmichemeaaGreatVEG
import Derived.Test.YtniejpmichemeaaGreatVW3
import Derived.Test.YtniejpmichemeaaGreatVT3
import Derived.Test.YtniejpmichemeaaGreatVPE
import Derived.Test.YtniejpmichemeaaGreatVPT22
import Derived.Shelf.RegionOpenPlain
import Derived.WalkKit
import Derived.Lib.Walk
import Derived.Lib.SliceRun
import Derived.Lib.AppendZerosOnto
import Derived.Lib.JoinLaws
import Derived.Lib.Overlaps
import Derived.Laws.Externs
import Derived.Laws.IdiomCopy
import Derived.Laws.NewBlocks
import Derived.Deep.AppendSrc
import Derived.Deep.RegionLaw
namespace Go.VL
open Go.Proofs
set_option maxRecDepth 10000
set_option linter.unusedSimpArgs false
set_option linter.unusedVariables false
theorem zvt (xs:List Int) (hl:xs.length≤4294967296):zr Tryz.prog 172 0 [.c (.nums .i64 xs)] [] 1 (.slc 0) [(0,.arr (.nums .i64 xs))]:=by
 refine zq9 (R:=fun m res hout=>(m=1∧res=.slc 0∧hout=[(0,.arr (.nums .i64 xs))])∨(m=0∧res=.nil∧hout=[]∧xs=[])) ?_ (by
  rintro m res hout (h|⟨h1,h2,h3,rfl⟩)
  ·exact .inl h
  ·exact .inr ⟨h1,h2,h3,rfl,rfl⟩)
 refine spx (fn:=Tryz.f172) _ ?_
 conv=>whnf
 refine zye (fun h=>?_) ?_
 ·conv=>whnf
  skip
  refine za1 0 .nil [] (.inr ⟨rfl,rfl,rfl,List.eq_nil_of_length_eq_zero h⟩) rfl ?_
  exact(zu [] [])
 ·conv=>whnf
  repeat' (refine za (by(try simp only[wA,wL])<;>omega) ?_;conv=>whnf)
  refine za1 1 (.slc 0) [(0,.arr (.nums .i64 xs))] (.inl ⟨rfl,rfl,rfl⟩) rfl ?_
  exact(zu [] [0])
theorem sfF_0 (root a:Int) (ps:List Pg):sfF root ps 0 a=true:=rfl
theorem sfF_1 (root a:Int) (ps:List Pg):sfF root ps 1 a=decide ((zb ps a).keys.length<4):=rfl
theorem sfF_2 (root a:Int) (ps:List Pg):sfF root ps 2 a=if a=root then decide ((zb ps a).kids.length=0∨1<(zb ps a).keys.length)else decide (2<(zb ps a).keys.length):=rfl
theorem zug (root a kind:Int) (ps:List Pg) (hp:pB ps) (hv:vTree root ps=true) (h0:0≤a) (h1:a<ps.length) (k0:0≤kind) (k2:kind≤2):zr Tryz.prog 191 0 [trV root ps,.c (.int .i64 a),.c (.int .i64 kind)] [] 0 (.c (.bool (sfF root ps kind a))) []:=by
 have hvt:=zbi root ps hp
 rw[hv]at hvt
 have q1:=hp.keys a
 have q2:=hp.kids a
 rcases(by omega:kind=0∨kind=1∨kind=2)with rfl|rfl|rfl
 ·rw[sfF_0]
  refine spi (fn:=Tryz.f191) _ ?_
  conv=>whnf
  repeat' first
   |(refine zn ?_ ?_;(focus (first|rfl|exact beq_self_eq_true _));conv=>whnf)
   |(refine zm ?_ ?_;(focus (first|rfl|exact bne_self_eq_false _));conv=>whnf)
   |(refine zm ?_ ?_;(focus ((try simp only[qA])<;>(try simp only[wA])<;>omega));conv=>whnf)
   |(refine za (by(try simp only[wA,wL])<;>omega) ?_;conv=>whnf)
   |refine zc ?_
   |(refine zp (hvt) rfl rfl ?_;conv=>whnf)
  rfl
 ·rw[sfF_1]
  generalize hpg:zb ps a=pg at *
  dsimp only[zb]at hpg
  refine spi (fn:=Tryz.f191) _ ?_
  conv=>whnf
  repeat' first
   |(refine zn ?_ ?_;(focus (first|rfl|exact beq_self_eq_true _));conv=>whnf)
   |(refine zm ?_ ?_;(focus (first|rfl|exact bne_self_eq_false _));conv=>whnf)
   |(refine zm ?_ ?_;(focus ((try simp only[qA])<;>(try simp only[wA])<;>omega));conv=>whnf)
   |(refine za (by(try simp only[wA,wL])<;>omega) ?_;conv=>whnf)
   |refine zh ?_
   |(refine zp (hvt) rfl rfl ?_;conv=>whnf)
  rw[hpg]
  refine decide_eq_decide.2 ?_
  show(pg.keys.length:Int)<4↔_
  omega
 ·rw[sfF_2]
  generalize hpg:zb ps a=pg at *
  dsimp only[zb]at hpg
  by_cases c:a=root
  ·rw[if_pos c]
   refine spi (fn:=Tryz.f191) _ ?_
   conv=>whnf
   repeat' first
    |(refine zn ?_ ?_;(focus (first|rfl|exact beq_self_eq_true _));conv=>whnf)
    |(refine zm ?_ ?_;(focus (first|rfl|exact bne_self_eq_false _));conv=>whnf)
    |(refine zn ?_ ?_;(focus ((try simp only[qA])<;>(try simp only[wA])<;>omega));conv=>whnf)
    |(refine zm ?_ ?_;(focus ((try simp only[qA])<;>(try simp only[wA])<;>omega));conv=>whnf)
    |(refine za (by(try simp only[wA,wL])<;>omega) ?_;conv=>whnf)
    |(refine zk (fun h=>?_) (fun h=>?_)<;>(try simp only[qA]at h)<;>(try simp only[wA]at h)<;>conv=>whnf)
    |refine zc ?_
    |refine zh ?_
    |(refine zp (hvt) rfl rfl ?_;conv=>whnf)
   all_goals rw[hpg]at *
   ·refine(decide_eq_true (Or.inl ?_))
    omega
   ·refine decide_eq_decide.2 ?_
    show(pg.keys.length:Int)>1↔_
    omega
  ·rw[if_neg c]
   refine spi (fn:=Tryz.f191) _ ?_
   conv=>whnf
   repeat' first
    |(refine zn ?_ ?_;(focus (first|rfl|exact beq_self_eq_true _));conv=>whnf)
    |(refine zm ?_ ?_;(focus (first|rfl|exact bne_self_eq_false _));conv=>whnf)
    |(refine zm ?_ ?_;(focus ((try simp only[qA])<;>(try simp only[wA])<;>omega));conv=>whnf)
    |(refine za (by(try simp only[wA,wL])<;>omega) ?_;conv=>whnf)
    |refine zh ?_
    |(refine zp (hvt) rfl rfl ?_;conv=>whnf)
   rw[hpg]
   refine decide_eq_decide.2 ?_
   show(pg.keys.length:Int)>2↔_
   omega
end Go.VL
namespace Go.VL
open Go.Proofs
set_option maxRecDepth 10000
set_option linter.unusedSimpArgs false
set_option linter.unusedVariables false
def z1p (ps:List Pg) (W:List Int):Prop:=∀i,i<W.length→0≤W.getD i 0∧W.getD i 0<ps.length
end Go.VL
namespace Go.VL
open Go.Proofs
set_option maxRecDepth 10000
set_option linter.unusedSimpArgs false
set_option linter.unusedVariables false
def lpF (sf:Int→Bool) (W:List Int):List (List Int):=(List.range W.length).map (hlF sf W)
theorem zfh (sf:Int→Bool) (W:List Int):(lpF sf W).length=W.length:=by unfold lpF;simp
theorem zuh (sf:Int→Bool) (W:List Int) {i:Nat} (h:i<W.length):(lpF sf W).take (i+1)=(lpF sf W).take i++[hlF sf W i]:=by
 unfold lpF
 rw[←List.map_take,←List.map_take,List.take_range,List.take_range,Nat.min_eq_left (by omega),Nat.min_eq_left (by omega),List.range_succ,List.map_append];rfl
theorem zjm (sf:Int→Bool) (W:List Int) {i:Nat} (h:i<W.length):(lpF sf W).getD i []=hlF sf W i:=by
 unfold lpF
 rw[List.getD_eq_getElem?_getD,List.getElem?_map,List.getElem?_range h];rfl
theorem zmr (sf:Int→Bool) (W:List Int) (i:Nat):(hlF sf W i).length≤W.length:=by
 unfold hlF;rw[List.length_drop,List.length_take];omega
abbrev ptG (root key:Int) (ps:List Pg):List Int:=ptF ps key (htF root ps) root
theorem zic {root key:Int} {ps:List Pg} (hv:vTree root ps=true):z1p ps (ptG root key ps)∧1≤(ptG root key ps).length∧(ptG root key ps).length≤3:=by
 have V:=za0 hv
 obtain⟨d,hd⟩:∃d,htF root ps=d+1:=⟨htF root ps-1,by have:=V.h1;omega⟩
 have h3:=V.h3
 have hf:=V.fit
 unfold ptG
 rw[hd]at hf h3⊢
 have hl:(ptF ps key (d+1) root).length=d+1:=zg1
 refine⟨fun i hi=>?_,by omega,by omega⟩
 have key':∀(d:Nat) {mn mx:Nat} {a lo hi:Int} (i:Nat),Fit ps (d+1) mn mx a lo hi→i<d+1→0≤(ptF ps key (d+1) a).getD i 0∧(ptF ps key (d+1) a).getD i 0<ps.length:=by
  intro d
  induction d with
  |zero =>
   intro mn mx a lo hi i h hi
   obtain rfl:i=0:=by omega
   exact⟨h.1,h.2.1⟩
  |succ d ih =>
   intro mn mx a lo hi i h hi
   cases i with
   |zero=>rw[zfy];exact⟨h.1,h.2.1⟩
   |succ i =>
    rw[zgs]
    obtain⟨_,l,r,hk⟩:=h.kid (key:=key)
    exact ih i hk (by omega)
 exact key' d i hf (by omega)
theorem zfb (root key kind:Int) (ps:List Pg) (hp:pB ps) (hv:vTree root ps=true) (k0:0≤kind) (k2:kind≤2):zr Tryz.prog 134 0 [trV root ps,.c (.int .i64 key),.c (.int .i64 kind)] [] 1 (.slc 0) [(0,.arr (.numss (lpF (sfF root ps kind) (ptG root key ps))))]:=by
 have hvt:=zbi root ps hp
 have hpt:=zjo root key ps hp hv
 obtain⟨hok,h1,h3⟩:=zic (key:=key) hv
 unfold ptG at *
 generalize ptF ps key (htF root ps) root=W at *
 have hsf:=fun i (hi:i<W.length)=>zug root (W.getD i 0) kind ps hp hv (hok i hi).1 (hok i hi).2 k0 k2
 rw[hv]at hvt
 generalize sfF root ps kind=sf at *
 refine spi (fn:=Tryz.f134) _ ?_
 conv=>whnf
 repeat' first
  |(refine zm ?_ ?_;(focus (first|rfl|exact bne_self_eq_false _));conv=>whnf)
  |(refine zm ?_ ?_;(focus ((try simp only[qA])<;>(try simp only[wA])<;>omega));conv=>whnf)
  |(refine zp (hvt) rfl rfl ?_;conv=>whnf)
  |(refine z8 (hpt) rfl ?_;conv=>whnf)
 refine zd0 (fun(i:Nat) (H:List Int)=>i≤W.length∧H.length≤i∧(∀k,i=k+1→H=hlF sf W k)) (fun i H=>⟨45,4,[(2,.c (.int .i64 kind)),(3,.ptr 0 0 0 0),(7,.slc 2),(8,.slc 3),(24,.slc 1),(25,.c (.int .i64 W.length)),(26,.c (.int .i64 i))],[(0,.box [.c (.int .i64 root),.c (.pgs ps)] [] []),(1,.arr (.nums .i64 W)),(2,.arr (.numss ((lpF sf W).take i))),(3,.arr (.nums .i64 H))]⟩) (fun i H=>W.length-i) 0 [] ⟨Nat.zero_le _,Nat.le_refl _,fun k hk=>by omega⟩ (fun _ _=>Nat.zero_le _) (zsg [.nl 7 false (.numss []),.nl 8 false (.nums .i64 [])] [] [0,1,2,3] ?_) ?_
 ·conv=>whnf
  exact⟨by repeat first|exact trivial|refine⟨rfl,?_⟩,by repeat first|exact trivial|refine⟨rfl,?_⟩,rfl,rfl,rfl,rfl,rfl,rfl,rfl⟩
 intro i H h
 obtain⟨g1,g2,g3⟩:=h
 by_cases c:i<W.length
 ·have hs:=hsf i c
  have ht:=zuh sf W c
  have hl:=zfh sf W
  have htl:((lpF sf W).take i).length≤3:=by rw[List.length_take];omega
  have hn:(if sf (W.getD i 0)=true then []else H)++[W.getD i 0]=hlF sf W i:=by
   cases i with
   |zero =>
    rw[zui c,List.eq_nil_of_length_eq_zero (Nat.le_zero.1 g2),ite_self];rfl
   |succ k=>rw[g3 k rfl,z06 c]
  have hle:=zmr sf W i
  obtain⟨N,hN⟩:∃N,hlF sf W i=N:=⟨_,rfl⟩
  rw[hN]at hle
  have hcl:=zvt N (by omega)
  conv=>whnf
  repeat' first
   |(refine zn ?_ ?_;(focus ((try simp only[qA])<;>(try simp only[wA])<;>omega));conv=>whnf)
   |(refine za (by(try simp only[wA,wL])<;>omega) ?_;conv=>whnf)
   |(refine zk (fun h=>?_) (fun h=>?_)<;>(try simp only[qA]at h)<;>(try simp only[wA]at h)<;>conv=>whnf)
   |(refine zp (hs) rfl rfl ?_;conv=>whnf)
  ·rw[if_pos h]at hn
   have hn:[]++[W.getD i 0]=hlF sf W i:=hn
   rw[hN]at hn
   subst hn
   repeat' first
    |(refine za (by(try simp only[wA,wL])<;>omega) ?_;conv=>whnf)
    |(refine zg (by(try simp only[wA,wL])<;>omega) (by(try simp only[wA,wL])<;>omega) ?_;conv=>whnf)
    |(refine zbe (hcl) rfl rfl rfl rfl ?_;conv=>whnf)
   refine⟨⟨(i+1,[]++[W.getD i 0]),by dsimp only;omega,by simp,fun k hk=>?_⟩,(zbd [] [0,1,2,5] ⟨by repeat first|exact trivial|refine⟨rfl,?_⟩,?_,rfl,rfl,rfl,rfl,rfl,rfl,rfl⟩),by dsimp only;omega⟩
   ·obtain rfl:i=k:=by dsimp only at hk;omega
    exact hN.symm
   ·exact⟨rfl,rfl,congrArg (fun z=>some (O.arr (C.numss z))) (by rw[ht,hN];rfl),rfl,trivial⟩
  ·rw[if_neg (by rw[h];decide),hN]at hn
   subst hn
   repeat' first
    |(refine za (by(try simp only[wA,wL])<;>omega) ?_;conv=>whnf)
    |(refine zg (by(try simp only[wA,wL])<;>omega) (by(try simp only[wA,wL])<;>omega) ?_;conv=>whnf)
    |(refine zbe (hcl) rfl rfl rfl rfl ?_;conv=>whnf)
   refine⟨⟨(i+1,H++[W.getD i 0]),by dsimp only;omega,by rw[List.length_append];simp;omega,fun k hk=>?_⟩,(zbd [] [0,1,2,3] ⟨by repeat first|exact trivial|refine⟨rfl,?_⟩,?_,rfl,rfl,rfl,rfl,rfl,rfl,rfl⟩),by dsimp only;omega⟩
   ·obtain rfl:i=k:=by dsimp only at hk;omega
    exact hN.symm
   ·exact⟨rfl,rfl,congrArg (fun z=>some (O.arr (C.numss z))) (by rw[ht,hN];rfl),rfl,trivial⟩
 ·rw[List.take_of_length_le (by rw[zfh];omega)]
  conv=>whnf
  repeat' (refine zm ?_ ?_;(focus ((try simp only[qA])<;>(try simp only[wA])<;>omega));conv=>whnf)
  exact(zu [] [2])
theorem zpq (root key kind:Int) (ps:List Pg) (hp:pB ps) (hv:vTree root ps=true) (k0:0≤kind) (k2:kind≤2):zr Tryz.prog 71 0 [trV root ps,.c (.int .i64 key),.c (.int .i64 kind)] [] 0 (.c (.nums .i64 (hlF (sfF root ps kind) (ptG root key ps) ((ptG root key ps).length-1)))) []:=by
 have hla:=zfb root key kind ps hp hv k0 k2
 obtain⟨hok,h1,h3⟩:=zic (key:=key) hv
 generalize ptG root key ps=W at *
 generalize sfF root ps kind=sf at *
 have hl:=zfh sf W
 have ha:=zjm sf W (i:=W.length-1) (by omega)
 have e:((lpF sf W).length:Int)-1=((W.length-1:Nat):Int):=by omega
 rw[←ha]
 generalize lpF sf W=L at *
 have e2:W.length-1=((L.length:Int)-1).toNat:=by omega
 rw[e2]
 refine spi (fn:=Tryz.f71) _ ?_
 conv=>whnf
 repeat' first
  |(refine zm ?_ ?_;(focus ((try simp only[qA])<;>(try simp only[wA])<;>omega));conv=>whnf)
  |(refine za (by(try simp only[wA,wL])<;>omega) ?_;conv=>whnf)
  |refine zf ?_
  |(refine zg (by(try simp only[wA,wL])<;>omega) (by(try simp only[wA,wL])<;>omega) ?_;conv=>whnf)
  |(refine z8 (hla) rfl ?_;conv=>whnf)
 rfl
end Go.VL
namespace Go.VL
open Go.Proofs
set_option maxRecDepth 10000
set_option linter.unusedSimpArgs false
set_option linter.unusedVariables false
def spK (root:Int) (ps:List Pg) (key:Int):Nat:=zea ps key (htF root ps) root
theorem z9o {root key:Int} {ps:List Pg} (hv:vTree root ps=true) (h:((psF root ps).map Pr.key).contains key=true):spK root ps key=0:=by
 obtain⟨d,F⟩:=lf_f (key:=key) hv
 unfold spK
 rw[F.ht]
 have:=F.has
 rw[h,zdi F.vl,List.contains_iff_mem]at this
 exact z28 this
theorem z9s {root key:Int} {ps:List Pg} (hv:vTree root ps=true) (h:((psF root ps).map Pr.key).contains key=false):spK root ps key=tcF ps (ptG root key ps):=by
 obtain⟨d,F⟩:=lf_f (key:=key) hv
 unfold spK ptG
 rw[F.ht]
 have:=F.has
 rw[h,zdi F.vl]at this
 exact z25 fun q=>by rw[List.contains_iff_mem.2 q]at this;cases this
theorem z91 (root key:Int) (ps:List Pg) (hp:pB ps) (hv:vTree root ps=true) (h0:0≤key) (h9:key≤99):zr Tryz.prog 58 0 [trV root ps,.c (.int .i64 key)] [] 0 (.c (.int .i64 (spK root ps key))) []:=by
 have hvt:=zbi root ps hp
 have hik:=z2a key
 have hgk:=zom root key ps hp hv
 have hpt:=zdn (zjo root key ps hp hv) rfl
 change zr _ _ _ _ _ _ (.c (.nums .i64 (ptG root key ps))) _ at hpt
 obtain⟨hok,w1,w3⟩:=zic (key:=key) hv
 have hi:=z9o (key:=key) hv
 have ht:=z9s (key:=key) hv
 have hsm:=znz hv
 rw[hv]at hvt
 rw[decide_eq_true ⟨h0,h9⟩]at hik
 unfold gkV at hgk
 generalize ptG root key ps=W at *
 generalize ((psF root ps).map Pr.key).contains key=B at *
 generalize zei (psF root ps) key=VV at *
 generalize spK root ps key=N at *
 cases B with
 |true =>
  have:=hi rfl
  subst this
  refine spi (fn:=Tryz.f58) _ ?_
  conv=>whnf
  repeat' first
   |(refine zn ?_ ?_;(focus (first|rfl|exact beq_self_eq_true _));conv=>whnf)
   |(refine zm ?_ ?_;(focus (first|rfl|exact bne_self_eq_false _));conv=>whnf)
   |refine zi ?_
   |(refine zp (hvt) rfl rfl ?_;conv=>whnf)
   |(refine zp (hik) rfl rfl ?_;conv=>whnf)
   |(refine zp (hgk) rfl rfl ?_;conv=>whnf)
  rfl
 |false =>
  have hN:=ht rfl
  refine spi (fn:=Tryz.f58) _ ?_
  conv=>whnf
  repeat' first
   |(refine zm ?_ ?_;(focus (first|rfl|exact bne_self_eq_false _));conv=>whnf)
   |(refine zp (hvt) rfl rfl ?_;conv=>whnf)
   |(refine zp (hik) rfl rfl ?_;conv=>whnf)
   |(refine zp (hgk) rfl rfl ?_;conv=>whnf)
   |(refine zp (hpt) rfl rfl ?_;conv=>whnf)
  refine zau (fun z:Nat=>z≤W.length∧∀k,k<z→(zb ps (W.getD (W.length-1-k) 0)).keys.length=4) (fun z=>⟨51,1,[(2,.ptr 0 0 0 0),(7,.c (.nums .i64 W)),(8,.c (.int .i64 z))],[(0,.box [.c (.int .i64 root),.c (.pgs ps)] [] [])]⟩) (fun z=>W.length-z) 0 ⟨Nat.zero_le _,fun k hk=>absurd hk (Nat.not_lt_zero _)⟩ (fun _=>Nat.zero_le _) (z5 [] [0]) (fun z hz=>?_)
  obtain⟨hzl,hz⟩:=hz
  by_cases c:z<W.length
  ·obtain⟨o1,o2⟩:=hok (W.length-1-z) (by omega)
   have hs:=(hsm (W.getD (W.length-1-z) 0)).1
   have e:W.length-1-z=((W.length:Int)-1-(z:Int)).toNat:=by omega
   have hq:=zyu (ps:=ps) hzl hz
   rw[e]at o1 o2 hs hq
   dsimp only[zb]at hs hq
   conv=>whnf
   repeat' first
    |(refine za (by kernel_rfl) ?_;conv=>whnf)
    |(refine zn ?_ ?_;(focus ((try simp only[qA])<;>(try simp only[wA])<;>omega));conv=>whnf)
    |(refine za (by(try simp only[wA,wL])<;>omega) ?_;conv=>whnf)
    |(refine zk (fun h=>?_) (fun h=>?_)<;>(try simp only[qA]at h)<;>(try simp only[wA]at h)<;>conv=>whnf)
    |refine zi ?_
    |(refine zg (by(try simp only[wA,wL])<;>omega) (by(try simp only[wA,wL])<;>omega) ?_;conv=>whnf)
    |(refine ze ?_;conv=>whnf)
   ·refine⟨⟨z+1,by omega,fun k hk=>?_⟩,(z5 [] [0]),by dsimp only;omega⟩
    rcases Nat.lt_or_ge k z with q|q
    ·exact hz k q
    ·obtain rfl:k=z:=by omega
     rw[e]
     dsimp only[zb]
     omega
   ·rw[hN,←hq (fun _ q=>by omega)]
  ·have hq:=zyu (ps:=ps) hzl hz (fun q=>absurd q c)
   rw[←hq]at hN
   subst hN
   conv=>whnf
   repeat' first
    |(refine za (by kernel_rfl) ?_;conv=>whnf)
    |(refine zm ?_ ?_;(focus ((try simp only[qA])<;>(try simp only[wA])<;>omega));conv=>whnf)
    |refine zi ?_
    |(refine ze ?_;conv=>whnf)
   rfl
end Go.VL
namespace Go.VL
set_option linter.unusedVariables false
set_option linter.unusedSimpArgs false
end Go.VL
namespace Go.VL
set_option linter.unusedVariables false
set_option linter.unusedSimpArgs false
end Go.VL
namespace Go.VL
set_option linter.unusedVariables false
set_option linter.unusedSimpArgs false
theorem VT0.psF {root:Int} {ps:List Pg} {h:Nat} (v:VT0 root ps h) (w:Go.VL.vTree root ps=true):htF root ps=h∧Go.VL.psF root ps=prF ps h (zb ps root):=by
 have q:=za0 w
 have e:htF root ps=h:=by
  rw[v.vTree,decide_eq_true_iff]at w
  exact(v.vt w.1 w.2).ht
 refine⟨e,?_⟩
 unfold Go.VL.psF
 rw[e]
structure PutF (root:Int) (ps:List Pg) (x:Pr) (r:Int×List Pg):Prop where
 v0:vTree root ps=true
 rng:(0≤x.key∧x.key≤99)∧-1000≤x.value∧x.value≤1000
 vt:vTree r.1 r.2=true
 prs:psF r.1 r.2=zbc (psF root ps) x
 le:zea ps x.key (htF root ps) root≤htF root ps
 ht:htF r.1 r.2=htF root ps+(if zea ps x.key (htF root ps) root=htF root ps then 1 else 0)
 len:r.2.length=ps.length+zea ps x.key (htF root ps) root+(if zea ps x.key (htF root ps) root=htF root ps then 1 else 0)
 root:r.1≠root↔zea ps x.key (htF root ps) root=htF root ps
theorem z4h {root:Int} {ps:List Pg} {x:Pr} {r:Int×List Pg} (h:zqc root ps x=some r):PutF root ps x r:=by
 obtain⟨h1,h2,rfl,h4⟩:=zrm h
 have v:=za0 h1
 have hb:=zsq.1 h2
 have P:=zvr v.v0 hb.2 hb.1.1 hb.1.2
 obtain⟨e1,e2⟩:=P.vt.psF h4
 refine⟨h1,hb,h4,?_,P.le,?_,P.len,P.root⟩
 ·rw[e2,P.prs];rfl
 ·rw[e1];split<;>omega
def pgEq (p q:Pg):Bool:=decide (p.keys=q.keys)&&decide (p.kids=q.kids)&&decide (p.vals=q.vals)
def chF (ps qs:List Pg) (n:Nat):List Int:=((List.range n).filter fun i=>!pgEq (ps.getD i ⟨[],[],[]⟩) (qs.getD i ⟨[],[],[]⟩)).map Int.ofNat
theorem ybl (ps qs:List Pg) (n:Nat):chF ps qs (n+1)=chF ps qs n++(if pgEq (ps.getD n ⟨[],[],[]⟩) (qs.getD n ⟨[],[],[]⟩)=true then []else [(n:Int)]):=by
 unfold chF
 rw[List.range_succ,List.filter_append,List.map_append]
 congr 1
 cases h:pgEq (ps.getD n ⟨[],[],[]⟩) (qs.getD n ⟨[],[],[]⟩)with
 |false=>rw[List.filter_cons_of_pos (by rw[h];rfl),if_neg (by decide)];rfl
 |true=>rw[List.filter_cons_of_neg (by rw[h];decide),if_pos rfl];rfl
theorem yaz (ps qs:List Pg) (n:Nat):(chF ps qs n).length≤n:=by
 unfold chF
 rw[List.length_map]
 have:=List.length_filter_le (fun i=>!pgEq (ps.getD i ⟨[],[],[]⟩) (qs.getD i ⟨[],[],[]⟩)) (List.range n)
 rwa [List.length_range]at this
theorem z7q {root:Int} {ps:List Pg} {x:Int} {d:Nat} (hx:x∉(zb ps (lfF ps x (d+1) root)).keys) (h4:∀i,(zb ps i).keys.length≤4) :
  (zea ps x (d+1) root=d+1→lsF (sfF root ps 1) (ptF ps x (d+1) root) d=0)∧(zea ps x (d+1) root≤d→lsF (sfF root ps 1) (ptF ps x (d+1) root) d=d-zea ps x (d+1) root):=by
 have hs:=z25 hx
 have hl:(ptF ps x (d+1) root).length=d+1:=zg1
 obtain⟨f1,f2⟩:=z1j (ps:=ps) (l:=ptF ps x (d+1) root)
 rw[hl]at f1 f2
 rw[←hs]at f1 f2
 generalize zea ps x (d+1) root=s at *
 generalize ptF ps x (d+1) root=P at *
 have hle:=zkr (sf:=sfF root ps 1) (path:=P) d
 have hsafe:=ztw (sf:=sfF root ps 1) (path:=P) d
 have haft:=zrc (sf:=sfF root ps 1) (path:=P) d
 have e1:∀a,sfF root ps 1 a=decide ((zb ps a).keys.length<4):=fun a=>rfl
 generalize lsF (sfF root ps 1) P d=L at *
 have nf:∀j,j≤d→d<j+s→sfF root ps 1 (P.getD j 0)=false:=fun j h1 h2=>by
  have:=f1 (d-j) (by omega)
  rw[show d+1-1-(d-j)=j by omega]at this
  rw[e1,this];rfl
 constructor
 ·intro h
  rcases hsafe with q|q
  ·exact q
  ·rw[nf L hle (by omega)]at q;cases q
 ·intro h
  have g1:¬d-s<L:=fun c=>by
   rcases hsafe with q|q
   ·omega
   ·rw[nf L hle (by omega)]at q;cases q
  have g2:¬L<d-s:=fun c=>by
   have q:=haft (d-s) c (by omega)
   have q2:=f2 (by omega)
   rw[show d+1-1-s=d-s by omega]at q2
   have:=h4 (P.getD (d-s) 0)
   rw[e1,decide_eq_false_iff_not]at q
   omega
  omega
theorem z97 {root:Int} {ps:List Pg} {x:Pr} {r:Int×List Pg} (h:zqc root ps x=some r) {d:Nat} (hd:htF root ps=d+1) (hx:x.key∉(psF root ps).map Pr.key) :
  (hlF (sfF root ps 1) (ptF ps x.key (d+1) root) d).length=zea ps x.key (d+1) root+(if r.1≠root then 0 else 1):=by
 have F:=z4h h
 have v:=za0 F.v0
 have hle:=F.le
 have hro:=F.root
 rw[hd]at v hle hro
 have hl:(ptF ps x.key (d+1) root).length=d+1:=zg1
 have c:x.key∉(zb ps (lfF ps x.key (d+1) root)).keys:=fun q=>hx (by
  have:=(zvj v.fit).2 q
  unfold psF
  rw[hd];exact this)
 obtain⟨p1,p2⟩:=z7q c fun i=>(v.v0.sizes i).1
 rw[zqy (by omega)]
 by_cases q:zea ps x.key (d+1) root=d+1
 ·rw[if_pos (hro.2 q),p1 q];omega
 ·rw[if_neg (fun e=>q (hro.1 e)),p2 (by omega)];omega
end Go.VL
namespace Go.VL
set_option linter.unusedVariables false
set_option linter.unusedSimpArgs false
theorem z9u {ps:List Pg} {d mn mx:Nat} {a lo hi:Int} (h:Fit ps (d+2) mn mx a lo hi) (hm:1≤(zb ps a).keys.length) (hx:(zb ps a).keys.length≤5) (hn:(wkF ps (d+2) a).Nodup) (h0:0≤lo) (h9:hi≤99) (hl:ps.length≤16):zl3 (zb ps a)=true:=by
 have hk:=zaa.kidsLen h.2.2.2.2
 obtain⟨k1,k2⟩:=zaa.keys h.2.2.2.2
 have hseg:Seg (Fit ps (d+1) 2 4) lo hi (zb ps a).keys (zb ps a).kids:=h.2.2.2.2.2
 have hn':(a::(zb ps a).kids.flatMap (wkF ps (d+1))).Nodup:=hn
 have hnk:=zma (g:=wkF ps (d+1)) (fun z=>zas) (List.nodup_cons.1 hn').2
 unfold zl3
 rw[Bool.and_eq_true,Bool.and_eq_true,Bool.and_eq_true,Bool.and_eq_true,decide_eq_true_iff,decide_eq_true_iff,decide_eq_true_iff]
 refine⟨⟨⟨⟨⟨hm,hx⟩,zde.2 ⟨k1,fun k hk=>by have:=k2 k hk;omega⟩⟩,hk⟩,?_⟩,hnk⟩
 rw[List.all_eq_true]
 intro c hc
 obtain⟨l,r,f⟩:=Seg.mem hseg c hc
 have:=f.1
 have:=f.2.1
 exact decide_eq_true (by omega)
theorem z82 {ps:List Pg} {x:Pr} {e:Nat} {a:Int} (hv:-1000≤x.value∧x.value≤1000) (h:At ps x.key (e+2) a) (hl:(zbb ps x (e+2) a).length≤16):zl3 (zb (zbb ps x (e+2) a) a)=true:=by
 obtain⟨mn,lo,hi,hf,hn,h1,h2,h0,h9,hm⟩:=h
 have P:=zqu hv hf hn h1 h2
 have hn2:(wkF (zbb ps x (e+1+1) a) (e+1+1) a).Nodup:=by
  refine P.perm.nodup_iff.2 (List.nodup_append.2 ⟨hn,nw_nodup _ _,fun y hy z hz e=>?_⟩)
  have:=(hf.wkLt y hy).2
  rw[zpj]at hz
  omega
 have hm':=hm (by omega)
 exact z9u P.fit (Nat.le_trans hm' P.fit.2.2.1) P.fit.2.2.2.1 hn2 h0 h9 hl
theorem z8p (ps:List Pg) (a c:Int):ps.length≤(zmw ps a c).length:=by
 unfold zmw
 split
 ·rw[List.length_set,List.length_append,List.length_set];omega
 ·exact Nat.le_refl _
theorem z7f {root:Int} {ps:List Pg} {x:Pr} {d:Nat}:∀{i:Nat},i<d+1→(zbb ps x (d+1-i) ((ptF ps x.key (d+1) root).getD i 0)).length≤(zer root ps (d+1) x).2.length
 |0,_=>by
  rw[zfy,Nat.sub_zero]
  unfold zer
  split
  ·rw[List.length_append,List.length_set];omega
  ·exact Nat.le_refl _
 |i+1,h=>by
  have e:=zwd (ps:=ps) (x:=x) (root:=root) (h:=d+1) (i:=i) h
  have ih:=z7f (root:=root) (ps:=ps) (x:=x) (d:=d) (i:=i) (by omega)
  rw[e]at ih
  exact Nat.le_trans (z8p _ _ _) ih
theorem z76 {root:Int} {ps:List Pg} {x:Pr} {d i:Nat} (hi:i<d+1) (ho:4<(zb (zbb ps x (d+1-i) ((ptF ps x.key (d+1) root).getD i 0)) ((ptF ps x.key (d+1) root).getD i 0)).keys.length) :
  (zbb ps x (d+1-i) ((ptF ps x.key (d+1) root).getD i 0)).length+1≤(zer root ps (d+1) x).2.length:=by
 cases i with
 |zero =>
  rw[zfy,Nat.sub_zero]at ho⊢
  unfold zer
  rw[if_pos ho,List.length_append,List.length_set]
  simp
 |succ i =>
  have e:=zwd (ps:=ps) (x:=x) (root:=root) (h:=d+1) (i:=i) hi
  have h2:=z7f (root:=root) (ps:=ps) (x:=x) (d:=d) (i:=i) (by omega)
  rw[e]at h2
  unfold zmw at h2
  rw[if_pos ho,List.length_set,List.length_append,List.length_set,List.length_singleton]at h2
  exact h2
end Go.VL
namespace Go.VL
set_option linter.unusedVariables false
set_option linter.unusedSimpArgs false
theorem z4n {P:Program} (k:Nat) (w:World) (dT sT ty elem:TypeId) (b o dLen dCap:Nat) (a:Addr) (sLen sCap:Nat) (cs:List Value)
  (hu:P.underlying dT=some (.slice elem)) (hs:(P.info? elem).map (·.size)=some k) (hn:cs.length=Nat.min sLen dLen*k)
  (hsrc:∀j v,cs[j]? = some v→w.cell? (a.add j)=some v) (hc:∀j,j<cs.length→(w.cell? ⟨b,o+j,none⟩).isSome=true) (hf:∀j,j<cs.length→w.frozen? ⟨b,o+j,none⟩=false) (h1:∀v∈cs,v.oneCell'=true) :
  (Builtin.copy_ #[dT,sT] ty #[.slice (some ⟨b,o,none⟩) dLen dCap,.slice (some a) sLen sCap]).run P w=.ok (goInt (Nat.min sLen dLen)) (w.setCells b o cs):=by
 have hl:=run_loadCells_list (P:=P) w a cs hsrc
 have hst:=run_storeCells_cells (P:=P) b o cs 0 w (by simpa using hc) (by simpa using hf) h1
 cases hq:P.info? elem with
 |none=>simp[hq]at hs
 |some i =>
  have hi:i.size=k:=by simpa [hq]using hs
  simp[Builtin.copy_,run_underlying hu,Builtin.lenOf,Builtin.firstCells,sizeOf,typeInfo,hq,hi,←hn,hl,hst]
theorem z75 {P:Program} (w:World) {o:Oper} {a:Act} {K:Act→World→Prop} {Q:Exit→Act→World→Prop} (d s:Operand) (t t':TypeId)
  (ho:o.op=.call {callee:=.builtin .copy,args:=#[d,s],argTypes:=#[t,t']}) (v u:Value) (hd:a.eval d=v) (hs:a.eval s=u) {v':Value} {w':World}
  (hr:(Builtin.copy_ #[t,t'] o.type #[v,u]).run P w=.ok v' w') (h:K (a.put o.dst v') w'):o.wp P a w K Q:=by
 unfold Oper.wp execOp
 simp only[ho,resolve,invoke,builtin,Sem.run_bind,Sem.run_pure,Result.andThen_ok,List.map_toArray,List.map_cons,List.map_nil,hd,hs,hr]
 exact h
theorem z4l {P:Program} (w:World) {ops:Array Oper} {rest:List Oper} {o:Oper} {a:Act} {Q:Exit→Act→World→Prop} (hgd:o.guard=none) (d s:Operand) (t t':TypeId)
  (ho:o.op=.call {callee:=.builtin .copy,args:=#[d,s],argTypes:=#[t,t']}) (v u:Value) (hd:a.eval d=v) (hs:a.eval s=u) {v':Value} {w':World}
  (hr:(Builtin.copy_ #[t,t'] o.type #[v,u]).run P w=.ok v' w') (h:wpList P ops Q rest (a.put o.dst v') w'):wpList P ops Q (o::rest) a w :=
 wpList_plain hgd fun _ hK=>z75 w d s t t' ho v u hd hs hr (hK _ _ h)
theorem z4z {P:Program} {ops:Array Oper} {o:Oper} {a:Act} {w:World} {K:Act→World→Prop} {Q:Exit→Act→World→Prop} {E:Prop}
  (hg:o.guard=none) (d x:Operand) (dT sT:TypeId) (hop:o.op=Op.call {callee:=Callee.builtin Builtin.copy,args:=#[d,x],argTypes:=#[dT,sT]})
  (v u:Value) (hd:a.eval d=v) (hx:a.eval x=u) {v':Value} {w':World} (hr:(Builtin.copy_ #[dT,sT] o.type #[v,u]).run P w=.ok v' w') (hK:K (a.put o.dst v') w') :
  if Region.wanted o (yielded ops a.tmps)=true then Oper.wp P o a w K Q else E:=by
 have hw:Region.wanted o (yielded ops a.tmps)=true:=by simp[Region.wanted,hg]
 rw[if_pos hw]
 unfold Oper.wp
 simp[execOp,hop,resolve,invoke,builtin,hd,hx,hr,Result.andThen]
 exact hK
theorem z49 {P:Program} (w:World) (tS tR e:TypeId) (ht:P.underlying tS=some (.slice e)) (size:Nat) (hz:∀w,(Go.sizeOf e).run P w=.ok size w)
  (a b:Addr) (la ca lb cb:Nat) (hne:a.block≠b.block) (tA tB:TypeId) (kA kB:Nat)
  (hsa:w.shape? a.block=some (tA,kA)) (hsb:w.shape? b.block=some (tB,kB)) (hkA:kA≠0) (hkB:kB≠0)
  (hfb:w.frozen? b=false) (hfe:w.frozen? {block:=b.block,off:=kB}=false) :
  (Extern.SlicesOverlaps.overlaps #[tS,tS] #[tR] #[.slice (some a) la ca,.slice (some b) lb cb]).run P w=.ok (.bool false) w:=by
 have hnb:(a.block != b.block)=true:=by simpa using hne
 have hnb':(a.block==b.block)=false:=by simpa using hne
 change Sem.run P (α:=Value) (do
  let some t := (#[tS, tS] : Array TypeId)[0]? | stuck "slices.overlaps: no parameter types"
  let .slice elem ← underlying t | stuck "slices.overlaps: slice type expected"
  let size ←sizeOf elem
  match (some a:Option Addr),(some b:Option Addr)with
  |some a,some b =>
   if la=0∨lb=0∨size=0 then pure (Value.bool false)
   else if a.block != b.block&&(←frozen a)&&(←frozen b)then unsupported .addressObserved
   else do
    if a.block != b.block then do
     noView a;noView b
     if ← mayBeOne a b then return Value.bool ((← choose (.extern "sameAddr.stringBytes" 2)) == 1)
    pure (Value.bool (a.block==b.block&&a.off<b.off+lb*size&&b.off<a.off+la*size))
  |_,_=>pure (Value.bool false)) w=_
 by_cases h0:la=0∨lb=0∨size=0
 ·simp[run_underlying ht,hz,h0]
 ·cases kB with
  |zero=>exact absurd rfl hkB
  |succ kB =>
   cases kA with
   |zero=>exact absurd rfl hkA
   |succ kA =>
   cases h1:w.frozen? a<;>cases h2:w.frozen? {block:=a.block,off:=kA+1} <;>
   simp[run_underlying ht,hz,h0,hnb,hnb',frozen,noView,viewAt,mayBeOne,stringish,shape,Sem.run,hsa,hsb,hfb,hfe,h1,h2]
theorem z41 (b:Nat) (vs:List Value) (o:Nat) (w:World) (h:∀j,j<vs.length→(w.cell? ⟨b,o+j,none⟩).isSome=true) (k:Nat) (hk:(w.cell? ⟨b,k,none⟩).isSome=true):((w.setCells b o vs).cell? ⟨b,k,none⟩).isSome=true:=by
 by_cases hin:o≤k∧k<o+vs.length
 ·have:=World.cell?_setCells_in b vs o w h (k-o) (by omega)
  rw[show o+(k-o)=k by omega]at this
  rw[this];rfl
 ·rw[World.cell?_setCells_out b vs o w ⟨b,k,none⟩ (fun _ _=>by show k<o∨o+vs.length≤k;omega)]
  exact hk
theorem z4f {b:Nat} {ty:TypeId}:∀(vs:List Value) (o:Nat) (w:World) (cs:List Value),w.heap[b]? = some (.cells cs.toArray ty (0,0))→o+vs.length≤cs.length →
  (w.setCells b o vs).heap[b]? = some (.cells (cs.take o++vs++cs.drop (o+vs.length)).toArray ty (0,0))∧Only b w (w.setCells b o vs)
 |[],o,w,cs,hb,hl=>by
  refine⟨?_,Only.refl b w⟩
  rw[List.append_nil,List.length_nil,Nat.add_zero,List.take_append_drop]
  exact hb
 |v::r,o,w,cs,hb,hl=>by
  rw[List.length_cons]at hl
  obtain⟨e1,e2⟩:=zup (i:=o) v hb
  obtain⟨r1,r2⟩:=z4f r (o+1) _ _ e1 (by rw[List.length_set];omega)
  refine⟨?_,e2.trans r2⟩
  rw[World.setCells,r1]
  congr 3
  apply List.ext_getElem?
  intro j
  have ho:o<cs.length:=by omega
  simp only[List.getElem?_append,List.getElem?_take,List.getElem?_drop,List.length_append,List.length_take,List.length_set,List.length_cons,List.getElem?_set,List.getElem?_cons]
  rcases Nat.lt_trichotomy j o with c|c|c
  ·simp only[show j<min (o+1) cs.length by omega,show j<o+1 by omega,show j<min o cs.length by omega,c,if_true,show min (o+1) cs.length+r.length=o+1+r.length by omega,show min o cs.length+(r.length+1)=o+1+r.length by omega,show j<o+1+r.length by omega]
   simp[show o≠j by omega]
  ·subst c
   simp only[show j<min (j+1) cs.length by omega,show j<j+1 by omega,show ¬j<min j cs.length by omega,if_true,if_false,show min (j+1) cs.length+r.length=j+1+r.length by omega,show min j cs.length+(r.length+1)=j+1+r.length by omega,show j<j+1+r.length by omega,show j-min j cs.length=0 by omega]
   simp[ho]
  ·by_cases d:j<o+1+r.length
   ·simp only[show ¬j<min (o+1) cs.length by omega,show ¬j<min o cs.length by omega,if_true,if_false,show min (o+1) cs.length+r.length=o+1+r.length by omega,show min o cs.length+(r.length+1)=o+1+r.length by omega,d,show j-min (o+1) cs.length=j-(o+1) by omega,show j-min o cs.length=j-(o+1)+1 by omega]
    simp
   ·simp only[show min (o+1) cs.length+r.length=o+1+r.length by omega,show min o cs.length+(r.length+1)=o+1+r.length by omega,d,if_false]
    rw[if_neg (by omega)]
    congr 1
    omega
def fl1 (xs:List Int):List Value:=xs.map fun x=>.int .i64 x
def fl2:List Pr→List Value
 |[]=>[]
 |x::t=>.int .i64 x.key::.int .i64 x.value::fl2 t
theorem z5y (xs:List Int):(fl1 xs).length=xs.length*1:=by unfold fl1;simp
theorem z47:∀xs:List Pr,(fl2 xs).length=xs.length*2
 |[]=>rfl
 |x::t=>by rw[fl2,List.length_cons,List.length_cons,z47 t,List.length_cons];omega
theorem z67 (a b:List Int):fl1 (a++b)=fl1 a++fl1 b:=by unfold fl1;simp
theorem z5z:∀a b:List Pr,fl2 (a++b)=fl2 a++fl2 b
 |[],b=>rfl
 |x::t,b=>by rw[List.cons_append,fl2,z5z t b];rfl
theorem z8r (xs:List Int) (i:Nat):(fl1 xs).take (i*1)=fl1 (xs.take i):=by unfold fl1;rw[Nat.mul_one,List.map_take]
theorem z8i (xs:List Int) (i:Nat):(fl1 xs).drop (i*1)=fl1 (xs.drop i):=by unfold fl1;rw[Nat.mul_one,List.map_drop]
theorem z6o:∀(xs:List Pr) (i:Nat),(fl2 xs).take (i*2)=fl2 (xs.take i)
 |_,0=>by simp[fl2]
 |[],i+1=>by simp[fl2]
 |x::t,i+1=>by rw[fl2,show(i+1)*2=i*2+1+1 by omega,List.take_succ_cons,List.take_succ_cons,z6o t i];rfl
theorem z6p:∀(xs:List Pr) (i:Nat),(fl2 xs).drop (i*2)=fl2 (xs.drop i)
 |_,0=>by simp
 |[],i+1=>by simp[fl2]
 |x::t,i+1=>by rw[fl2,show(i+1)*2=i*2+1+1 by omega,List.drop_succ_cons,List.drop_succ_cons,z6p t i];rfl
theorem z63 (xs:List Int):∀v∈fl1 xs,v.oneCell'=true:=by
 intro v hv
 obtain⟨x,_,rfl⟩:=List.mem_map.1 hv
 rfl
theorem z50:∀(xs:List Pr),∀v∈fl2 xs,v.oneCell'=true
 |[],v,h=>by cases h
 |x::t,v,h=>by
  rw[fl2]at h
  rcases List.mem_cons.1 h with rfl|h
  ·rfl
  ·rcases List.mem_cons.1 h with rfl|h
   ·rfl
   ·exact z50 t v h
theorem z7d (xs:List Int) (i:Nat) (h:i<xs.length):(fl1 xs)[i*1+0]? = some (.int .i64 (xs.getD i 0)):=by
 unfold fl1
 rw[Nat.mul_one,Nat.add_zero,List.getElem?_map,List.getD_eq_getElem?_getD,List.getElem?_eq_getElem h];rfl
theorem z53:∀(xs:List Pr) (i:Nat),i<xs.length→(fl2 xs)[i*2]? = some (.int .i64 (xs.getD i ⟨0,0⟩).key)∧(fl2 xs)[i*2+1]? = some (.int .i64 (xs.getD i ⟨0,0⟩).value)
 |[],i,h=>absurd h (Nat.not_lt_zero _)
 |x::t,0,_=>⟨rfl,rfl⟩
 |x::t,i+1,h=>by
  have:=z53 t i (by rw[List.length_cons]at h;omega)
  rw[fl2,show(i+1)*2=i*2+1+1 by omega]
  exact this
def FlO (g:Gam) (w:World) (id k len:Nat) (cs:List Value):Prop :=
 (g id=none∧len=0)∨∃b cap rest ty,g id=some (b,cap,len)∧w.heap[b]? = some (.cells (cs++rest).toArray ty (0,0))∧(cs++rest).length=cap*k∧len≤cap
theorem z48 {I:Nat→Prop} {w:World} {k:IntKind} {m:Int} {v:Value} (h:RC I w (.int k m) v):v=.int k m:=by
 cases h with
 |int=>rfl
 |empty _ _ _ hs _=>cases hs
 |sl _ _ _ _ _ hs=>cases hs
theorem ro1 {I:Nat→Prop} {g:Gam} {n:Nat} {w:World} {id:Nat} {xs:List Int}:RO I g n w id (.arr (.nums .i64 xs))↔FlO g w id 1 xs.length (fl1 xs):=by
 constructor
 ·intro h
  cases h with
  |none _ hg hs h0=>exact .inl ⟨hg,h0⟩
  |arr _ b cap cells ty hg hs hb hl hcap h ht =>
   have hl:cells.length=cap*1:=hl
   have hcap:xs.length≤cap:=hcap
   have e:cells.take xs.length=fl1 xs:=by
    apply List.ext_getElem?
    intro i
    by_cases c:i<xs.length
    ·have e1:=z7d xs i c
     rw[Nat.mul_one,Nat.add_zero]at e1
     rw[List.getElem?_take,if_pos c,e1]
     obtain⟨v,hv,hr⟩:=h i 0 (.int .i64 (xs.getD i 0)) c rfl
     have hr:=z48 hr
     subst hr
     simpa [C.stride]using hv
    ·rw[List.getElem?_take,if_neg c,List.getElem?_eq_none (by rw[z5y];omega)]
   refine .inr ⟨b,cap,cells.drop xs.length,ty,hg,?_,?_,hcap⟩
   ·rw[←e,List.take_append_drop];exact hb
   ·rw[←e,List.take_append_drop];exact hl
 ·rintro(⟨hg,h0⟩|⟨b,cap,rest,ty,hg,hb,hl,hcap⟩)
  ·exact .none _ hg rfl h0
  ·refine .arr _ b cap (fl1 xs++rest) ty hg rfl hb hl hcap (fun i j y hi hy=>?_) (fun h=>by cases h)
   have hi:i<xs.length:=hi
   have hy:[C.int .i64 (xs.getD i 0)][j]? = some y:=hy
   cases j with
   |zero =>
    cases hy
    refine⟨_,?_,.int _ _⟩
    show(fl1 xs++rest)[i*1+0]? = _
    rw[List.getElem?_append_left (by rw[z5y];omega)]
    exact z7d xs i hi
   |succ j=>cases hy
theorem ro2 {I:Nat→Prop} {g:Gam} {n:Nat} {w:World} {id:Nat} {xs:List Pr}:RO I g n w id (.arr (.prs xs))↔FlO g w id 2 xs.length (fl2 xs):=by
 constructor
 ·intro h
  cases h with
  |none _ hg hs h0=>exact .inl ⟨hg,h0⟩
  |arr _ b cap cells ty hg hs hb hl hcap h ht =>
   have hl:cells.length=cap*2:=hl
   have hcap:xs.length≤cap:=hcap
   have e:cells.take (xs.length*2)=fl2 xs:=by
    apply List.ext_getElem?
    intro t
    by_cases c:t<xs.length*2
    ·obtain⟨e1,e2⟩:=z53 xs (t / 2) (by omega)
     rw[List.getElem?_take,if_pos c]
     rcases(by omega:t=t / 2*2∨t=t / 2*2+1)with d|d
     ·obtain⟨v,hv,hr⟩:=h (t / 2) 0 (.int .i64 (xs.getD (t / 2) ⟨0,0⟩).key) (by show t / 2<xs.length;omega) rfl
      have hr:=z48 hr
      subst hr
      rw[d,e1]
      exact hv
     ·obtain⟨v,hv,hr⟩:=h (t / 2) 1 (.int .i64 (xs.getD (t / 2) ⟨0,0⟩).value) (by show t / 2<xs.length;omega) rfl
      have hr:=z48 hr
      subst hr
      rw[d,e2]
      exact hv
    ·rw[List.getElem?_take,if_neg c,List.getElem?_eq_none (by rw[z47];omega)]
   refine .inr ⟨b,cap,cells.drop (xs.length*2),ty,hg,?_,?_,hcap⟩
   ·rw[←e,List.take_append_drop];exact hb
   ·rw[←e,List.take_append_drop];exact hl
 ·rintro(⟨hg,h0⟩|⟨b,cap,rest,ty,hg,hb,hl,hcap⟩)
  ·exact .none _ hg rfl h0
  ·refine .arr _ b cap (fl2 xs++rest) ty hg rfl hb hl hcap (fun i j y hi hy=>?_) (fun h=>by cases h)
   have hi:i<xs.length:=hi
   have hy:(xs.getD i ⟨0,0⟩).row[j]? = some y:=hy
   obtain⟨e1,e2⟩:=z53 xs i hi
   match j with
   |0 =>
    cases hy
    refine⟨_,?_,.int _ _⟩
    show(fl2 xs++rest)[i*2+0]? = _
    rw[List.getElem?_append_left (by rw[z47];omega)]
    exact e1
   |1 =>
    cases hy
    refine⟨_,?_,.int _ _⟩
    show(fl2 xs++rest)[i*2+1]? = _
    rw[List.getElem?_append_left (by rw[z47];omega)]
    exact e2
   |j+2=>cases hy
def z5f (w:World) (bo:Option Nat) (k len:Nat) (cs:List Value) (e:Ending) (w':World):Prop :=
 ∃b cap rest ty,e=.returned (.slice (some ⟨b,0,none⟩) len cap)∧w'.heap[b]? = some (.cells (cs++rest).toArray ty (0,0))∧(cs++rest).length=cap*k∧len≤cap ∧
  (bo=some b∨w.heap.size≤b)∧w'.os=w.os∧w'.tape=w.tape∧w'.output=w.output∧w.heap.size≤w'.heap.size∧∀j,j<w.heap.size→some j≠bo→w'.heap[j]? = w.heap[j]?
theorem z6n {α:Type} {A B R V:List α} {K:Nat} (hV:V.length=K) (hR:K≤R.length) {c:List α} (hc:c=((A++B)++R).take (A.length+K)++B++((A++B)++R).drop (A.length+K+B.length)) :
  c.take A.length++V++c.drop (A.length+K)=(A++(V++B))++R.drop K:=by
 have e1:((A++B)++R).take (A.length+K)=A++(B++R).take K:=by
  rw[List.append_assoc,List.take_append,List.take_of_length_le (by omega),Nat.add_sub_cancel_left]
 have e2:((A++B)++R).drop (A.length+K+B.length)=R.drop K:=by
  rw[List.drop_append,List.drop_eq_nil_of_le (by rw[List.length_append];omega),List.nil_append,List.length_append]
  congr 1;omega
 have e3:((B++R).take K).length=K:=by rw[List.length_take,List.length_append];omega
 rw[e1,e2]at hc
 generalize (B++R).take K=T at hc e3
 have e4:c=A++(T++(B++R.drop K)):=by rw[hc];simp
 have e5:c=(A++T)++(B++R.drop K):=by rw[hc];simp
 have f1:c.take A.length=A:=by rw[e4];exact List.take_left' rfl
 have f2:c.drop (A.length+K)=B++R.drop K:=by rw[e5];exact List.drop_left' (by rw[List.length_append,e3])
 rw[f1,f2]
 simp
theorem z59 {α:Type} {A B Z V:List α} {K:Nat} (hV:V.length=K) (hZ:K+B.length≤Z.length) {c:List α} (hc:c=(A++Z).take A.length++V++(A++Z).drop (A.length+K)) :
  c.take (A.length+K)++B++c.drop (A.length+K+B.length)=(A++(V++B))++Z.drop (K+B.length):=by
 have e2:(A++Z).drop (A.length+K)=Z.drop K:=by
  rw[List.drop_append,List.drop_eq_nil_of_le (by omega),List.nil_append,Nat.add_sub_cancel_left]
 rw[List.take_left' rfl,e2]at hc
 have e4:c=(A++V)++Z.drop K:=hc
 have f1:c.take (A.length+K)=A++V:=by rw[e4];exact List.take_left' (by rw[List.length_append];omega)
 have f2:c.drop (A.length+K+B.length)=Z.drop (K+B.length):=by
  rw[e4,List.drop_append,List.drop_eq_nil_of_le (by rw[List.length_append];omega),List.nil_append,List.drop_drop,List.length_append]
  congr 1;omega
 rw[f1,f2]
 simp
theorem z4s (z:Array Value) (n:Nat):(Builtin.zeroCells z n).toList.length=n*z.size:=by
 simp[Builtin.zeroCells]
theorem z5a {w:World} {b:Nat} {cs:List Value} {ty:TypeId} (h:w.heap[b]? = some (.cells cs.toArray ty (0,0))) (j:Nat):w.cell? ⟨b,j,none⟩=cs[j]?:=by
 unfold World.cell?
 simp[h]
theorem z6z {w:World} {b:Nat} {cs:List Value} {ty:TypeId} (h:w.heap[b]? = some (.cells cs.toArray ty (0,0))) (j:Nat):w.frozen? ⟨b,j,none⟩=false:=by
 unfold World.frozen?
 simp[h]
theorem z55 {w:World} {b:Nat} {cs:List Value} {ty:TypeId} (h:w.heap[b]? = some (.cells cs.toArray ty (0,0))):w.shape? b=some (ty,cs.length):=by
 unfold World.shape?
 simp[h]
theorem z5q {w:World} {b j:Nat} {v:Value} (h:w.cell? ⟨b,j,none⟩=some v):∃ty k,w.shape? b=some (ty,k)∧k≠0:=by
 unfold World.cell? at h
 split at h
 ·rename_i c ty fr hq
  have h:c[j]? = some v:=by simpa using h
  refine⟨ty,c.size,?_,fun h0=>?_⟩
  ·unfold World.shape?
   have hq:w.heap[b]? = some (.cells c ty fr):=hq
   rw[hq]
  ·rw[Array.getElem?_eq_none (by omega)]at h;cases h
 ·cases h
theorem z57 {W w':World} {I:Nat→Prop} {g:Gam} {x z:C} {k:Nat} {cz:List Value} {bo:Option Nat} {e:Ending} (hI:∀b,I b→b<W.heap.size) (hh:HOk I g 1 W [(0,.arr x)])
  (hbo:∀b,bo=some b→∃cl,g 0=some (b,cl)) (hz:∀{g':Gam} {w:World},FlO g' w 0 k z.len cz→RO I g' 1 w 0 (.arr z)) (h:z5f W bo k z.len cz e w') :
  zte W I g [(0,.arr x)] 1 (.slc 0) [(0,.arr z)] e w':=by
 obtain⟨b,cap,rest,ty,rfl,hb,hl,hcap,hw,h1,h2,h3,h4,h5⟩:=h
 have own:∀id o c,(id,o)∈[(0,O.arr z)]→Own (fun i=>if i=0 then some (b,cap,z.len)else none) w' id o c→c=b:=by
  intro id o c hm hc
  cases List.mem_singleton.1 hm
  rcases hc with ⟨cl,hc⟩|hc
  ·simp at hc;exact hc.1.symm
  ·exact hc.elim
 have hbs:b<w'.heap.size:=(Array.getElem?_eq_some_iff.1 hb).1
 have dom:∀b,bo=some b→Dom g W [(0,.arr x)] b:=fun b hb=>⟨0,_,List.mem_singleton.2 rfl,.inl (hbo b hb)⟩
 refine⟨_,I,fun i=>if i=0 then some (b,cap,z.len)else none,rfl,fun b h=>h,fun b h=>.inl h,(fun b h=>by have:=hI b h;omega),⟨fun id o hm=>?_,(fun id o c hm hc=>?_),by simp,fun id o id' o' c hm hm' _ _=>?_⟩,.slc 0 _ b cap (by omega) rfl,(fun id o o' hm hm' hbx=>by cases List.mem_singleton.1 hm';cases hbx),(fun c hc=>?_),⟨h1,h2,h3,h4,fun j hj hd=>h5 j hj fun e=>hd (dom j e.symm)⟩⟩
 ·cases List.mem_singleton.1 hm
  exact⟨by omega,hz (.inr ⟨b,cap,rest,ty,rfl,hb,hl,hcap⟩)⟩
 ·have:=own id o c hm hc
  subst this
  refine⟨fun hi=>?_,hbs⟩
  rcases hw with hw|hw
  ·exact(hh.apart 0 _ c (List.mem_singleton.2 rfl) (.inl (hbo c hw))).1 hi
  ·have:=hI c hi;omega
 ·cases List.mem_singleton.1 hm
  cases List.mem_singleton.1 hm'
  rfl
 ·obtain⟨id,o,hm,hc⟩:=hc
  have:=own id o c hm hc
  subst this
  rcases hw with hw|hw
  ·exact .inr (dom c hw)
  ·exact .inl hw
end Go.VL
