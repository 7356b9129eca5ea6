/- V-logic -/
import Derived.Test.YtdbhfajlffaneaaGreatVW4
import Derived.Test.YtdbhfajlffaneaaGreatVEG
import Derived.Test.YtdbhfajlffaneaaGreatVW2
import Derived.Test.YtdbhfajlffaneaaGreatVW1
import Derived.Test.YtdbhfajlffaneaaGreatVMA
import Derived.Test.YtdbhfajlffaneaaGreatVPD
import Derived.Test.YtdbhfajlffaneaaGreatVT1
import Derived.Shelf.RegionOpenPlain
import Derived.WalkKit
import Derived.Lib.Walk
import Derived.Lib.SliceRun
import Derived.Lib.AppendZerosOnto
import Derived.Test.YtdbhfajlffaneaaGreatVPE
namespace Go.VL
open Go.Proofs
set_option maxRecDepth 10000
set_option linter.unusedSimpArgs false
set_option linter.unusedVariables false
theorem z8s (x:Pr):zr Tryz.prog 80 0 [prV x] [] 0 (.c (.bool (zdb [x]))) []:=by
 obtain⟨k,v⟩:=x
 have hk:=z2a k
 have hv:=zrb v
 have e:zdb [⟨k,v⟩]=(decide (0≤k∧k≤99)&&decide (-1000≤v∧v≤1000)):=by rw[Bool.eq_iff_iff,zsq,Bool.and_eq_true,decide_eq_true_iff,decide_eq_true_iff]
 rw[e]
 generalize decide (0≤k∧k≤99)=A at *
 generalize decide (-1000≤v∧v≤1000)=B at *
 refine spi (fn:=Tryz.f80) _ ?_
 conv=>whnf
 cases A with
 |false =>
  repeat' first
   |(refine zm ?_ ?_;(focus (first|rfl|exact bne_self_eq_false _));conv=>whnf)
   |refine zd ?_
   |(refine zp (hk) rfl rfl ?_;conv=>whnf)
  rfl
 |true =>
  repeat' first
   |(refine zn ?_ ?_;(focus (first|rfl|exact beq_self_eq_true _));conv=>whnf)
   |refine zh ?_
   |(refine zp (hk) rfl rfl ?_;conv=>whnf)
   |(refine zp (hv) rfl rfl ?_;conv=>whnf)
  rfl
theorem z6m (xs:List Int) (hl:xs.length≤4294967296):zr Tryz.prog 93 0 [.c (.nums .i64 xs)] [] 0 (.c (.nums .i64 xs)) []:=zdn (zvt xs hl) rfl
theorem z6i (xs:List Pr) (hl:xs.length≤4294967296):zr Tryz.prog 130 0 [.c (.prs xs)] [] 1 (.slc 0) [(0,.arr (.prs xs))]:=by
 refine zq9 (R:=λm res hout=>(m=1∧res=.slc 0∧hout=[(0,.arr (.prs xs))])∨(m=0∧res=.nil∧hout=[]∧xs=[])) ?_ (by
  rintro m res hout (h|⟨h1,h2,h3,rfl⟩)
  ·exact .inl h
  ·exact .inr ⟨h1,h2,h3,rfl,rfl⟩)
 refine spx (fn:=Tryz.f130) _ ?_
 conv=>whnf
 refine zye (λh=>?_) ?_
 ·conv=>whnf
  skip
  refine za1 0 .nil [] (.inr ⟨rfl,rfl,rfl,List.eq_nil_of_length_eq_zero h⟩) rfl ?_
  exact(zu [] [])
 ·conv=>whnf
  repeat' (refine za (by(try simp only[wA,wL])<;>omega) ?_;conv=>whnf)
  refine za1 1 (.slc 0) [(0,.arr (.prs xs))] (.inl ⟨rfl,rfl,rfl⟩) rfl ?_
  exact(zu [] [0])
theorem yb0 (xs:List Pr) (hl:xs.length≤4294967296):zr Tryz.prog 130 0 [.c (.prs xs)] [] 0 (.c (.prs xs)) []:=zdn (z6i xs hl) rfl
theorem yak {α:Type} {xs:List α} {i:Nat} (x:α) (h:i<xs.length):xs.set i x=xs.take i++([]++[x])++xs.drop (i+1):=by
 rw[List.set_eq_take_append_cons_drop,if_pos h];simp
theorem z9g (xs:List Pr) (x:Pr) (hl:xs.length≤1000) (hv:za2 (xs.map Pr.key)=true):zr Tryz.prog 83 0 [.c (.prs xs),prV x] [] 1 (.slc 0) [(0,.arr (.prs (zbc xs x)))]:=by
 have hp:=zto xs x.key (by omega) hv
 have hc:=z6i xs (by omega)
 have hb:=zvm (xs.map Pr.key) x.key
 rw[List.length_map]at hb
 have hh:=zou (k:=x.key) (zde.1 hv).1
 rw[List.length_map,zmk]at hh
 have p1:=zvy (x:=x) (xs:=xs)
 have p2:=zqo (x:=x) (xs:=xs)
 have hi:=yap xs (belF (xs.map Pr.key) x.key) x hb (by omega)
 by_cases c:x.key∈xs.map Pr.key
 ·have hc1:=List.contains_iff_mem.2 c
  rw[hc1]at hp
  obtain⟨q1,q2⟩:=hh.1 c
  have e:=p1 q1 q2
  rw[←yak x q1]at e
  rw[←e]
  clear p1 p2 hi e hh hc1 c
  obtain⟨k,v⟩:=x
  dsimp only at *
  generalize belF (xs.map Pr.key) k=B at *
  refine spi (fn:=Tryz.f83) _ ?_
  conv=>whnf
  repeat' first
   |(refine zn ?_ ?_;(focus (first|rfl|exact beq_self_eq_true _));conv=>whnf)
   |(refine za (by(try simp only[wA,wL])<;>omega) ?_;conv=>whnf)
   |(refine zp (hp) rfl rfl ?_;conv=>whnf)
   |(refine z8 (hc) rfl ?_;conv=>whnf)
  exact(zu [] [1])
 ·have hc1:(xs.map Pr.key).contains x.key=false:=by rw[←Bool.not_eq_true,List.contains_iff_mem];exact c
  rw[hc1]at hp
  have e:=p2 λq=>c (hh.2 q)
  have e2:xs.take (belF (xs.map Pr.key) x.key)++x::xs.drop (belF (xs.map Pr.key) x.key)=zbc xs x:=by rw[←e];simp
  rw[←e2]
  clear p1 p2 e hh hc1 c e2
  obtain⟨k,v⟩:=x
  dsimp only at *
  generalize belF (xs.map Pr.key) k=B at *
  refine spi (fn:=Tryz.f83) _ ?_
  conv=>whnf
  repeat' first
   |(refine zm ?_ ?_;(focus (first|rfl|exact bne_self_eq_false _));conv=>whnf)
   |(refine zp (hp) rfl rfl ?_;conv=>whnf)
   |(refine z8 (hc) rfl ?_;conv=>whnf)
   |(refine zal [2] [1] (hi) ?_;(conv=>whnf);refine⟨rfl,rfl,rfl,(by repeat first|exact trivial|refine⟨rfl,?_⟩),⟨rfl,rfl,rfl,rfl,rfl,rfl⟩,?_⟩;conv=>whnf)
  exact(zu [] [1])
theorem z81 (xs:List Pr) (hl:xs.length≤1000) (hv:zdb xs=true):zr Tryz.prog 132 0 [.c (.prs xs)] [] 0 (.tup [.c (.prs (xs.take ((xs.length+1) / 2))),.c (.prs (xs.drop ((xs.length+1) / 2)))]) []:=by
 have hvr:=zw7 xs (by omega)
 rw[hv]at hvr
 have hd:((xs.length:Int)+1).tdiv 2=((xs.length:Int)+1) / 2:=Int.tdiv_eq_ediv_of_nonneg (by omega)
 refine spi (fn:=Tryz.f132) _ ?_
 conv=>whnf
 repeat' first
  |(refine za (by kernel_rfl) ?_;conv=>whnf)
  |(refine zm ?_ ?_;(focus (first|rfl|exact bne_self_eq_false _));conv=>whnf)
  |(refine za (by(try simp only[wA,wL])<;>omega) ?_;conv=>whnf)
  |(refine zg (by(try simp only[wA,wL])<;>omega) (by(try simp only[wA,wL])<;>omega) ?_;conv=>whnf)
  |(refine zp (hvr) rfl rfl ?_;conv=>whnf)
  |(refine zw (yb0 _ (by first|(rw[w7];omega)|(rw[w8];omega))) rfl rfl ?_;conv=>whnf)
  |(refine ze ?_;conv=>whnf)
 exact(zu [] [])
theorem z5g (p:Pg):zr Tryz.prog 85 0 [inV p] [] 0 (pgV ⟨p.keys,p.kids,[]⟩) []:=by
 refine z8m (res:=.agg [.c (.nums .i64 p.keys),.c (.nums .i64 p.kids),.nil]) (.ag ⟨.refl _,.refl _,.n0,trivial⟩) ?_
 refine spi (fn:=Tryz.f85) _ ?_
 conv=>whnf
 skip
 exact(zu [] [])
theorem z6t (xs:List Pr) (hl:xs.length≤4294967296):zr Tryz.prog 82 0 [.c (.prs xs)] [] 0 (pgV (zae xs)) []:=z8m (res:=lfV xs) (.ag ⟨.refl _,.n0,.refl _,trivial⟩) (ybc xs hl)
theorem z9i (p:Pg) (hk:p.kids.length=p.keys.length+1) (h1:1≤p.keys.length) (hl:p.keys.length≤1000):zr Tryz.prog 133 0 [inV p] [] 0 (.tup [inV ⟨p.keys.take (p.keys.length / 2),p.kids.take (p.keys.length / 2+1),[]⟩,.c (.int .i64 (p.keys.getD (p.keys.length / 2) 0)),inV ⟨p.keys.drop (p.keys.length / 2+1),p.kids.drop (p.keys.length / 2+1),[]⟩]) []:=by
 obtain⟨ks,cs,vs⟩:=p
 dsimp only[inV]at *
 have hd:(ks.length:Int).tdiv 2=(ks.length:Int) / 2:=Int.tdiv_eq_ediv_of_nonneg (by omega)
 refine spi (fn:=Tryz.f133) _ ?_
 conv=>whnf
 repeat' first
  |(refine za (by kernel_rfl) ?_;conv=>whnf)
  |(refine za (by(try simp only[wA,wL])<;>omega) ?_;conv=>whnf)
  |(refine zg (by(try simp only[wA,wL])<;>omega) (by(try simp only[wA,wL])<;>omega) ?_;conv=>whnf)
  |(refine zw (z6m _ (by first|(rw[w7];omega)|(rw[w8];omega))) rfl rfl ?_;conv=>whnf)
  |(refine ze ?_;conv=>whnf)
 exact(zu [] [])
end Go.VL
namespace Go.VL
open Go.Proofs
set_option maxRecDepth 10000
set_option linter.unusedSimpArgs false
set_option linter.unusedVariables false
theorem z9q (p:Pg) (hl:p.keys.length≤1000) (h1:2≤p.keys.length) (hlf:p.kids.length=0→p.vals.length=p.keys.length∧zdb (zab p)=true) (hin:p.kids.length≠0→p.kids.length=p.keys.length+1) :
  zr Tryz.prog 84 0 [pgV p] [] 0 (.tup [pgV (zam p).1,.c (.int .i64 (zam p).2.1),pgV (zam p).2.2]) []:=by
 unfold zam
 by_cases c:p.kids.length=0
 ·rw[if_pos c]
  obtain⟨q1,q2⟩:=hlf c
  have hr:=zby p q1
  have hpl:=zdn (zmb p q1 (by omega)) rfl
  change zr _ _ _ _ _ _ (.c (.prs (zab p))) _ at hpl
  have hsr:=z81 (zab p) (by omega) q2
  have ha:=z6t ((zab p).take (((zab p).length+1) / 2)) (by rw[List.length_take];omega)
  have hb:=z6t ((zab p).drop (((zab p).length+1) / 2)) (by rw[List.length_drop];omega)
  have hbl:0<((zab p).drop (((zab p).length+1) / 2)).length:=by rw[List.length_drop];omega
  rw[←zw5]
  generalize (zab p).take (((zab p).length+1) / 2)=A at *
  generalize (zab p).drop (((zab p).length+1) / 2)=B at *
  generalize zab p=r at *
  obtain⟨ks,cs,vs⟩:=p
  dsimp only at c hpl⊢
  refine spi (fn:=Tryz.f84) _ ?_
  conv=>whnf
  repeat' first
   |(refine za (by kernel_rfl) ?_;conv=>whnf)
   |(refine zn ?_ ?_;(focus ((try simp only[qA])<;>(try simp only[wA])<;>omega));conv=>whnf)
   |(refine za (by(try simp only[wA,wL])<;>omega) ?_;conv=>whnf)
   |(refine zp (hpl) rfl rfl ?_;conv=>whnf)
   |(refine zp (hsr) rfl rfl ?_;conv=>whnf)
   |(refine zw (ha) rfl rfl ?_;conv=>whnf)
   |(refine zw (hb) rfl rfl ?_;conv=>whnf)
   |(refine ze ?_;conv=>whnf)
  exact(zu [] [])
 ·rw[if_neg c]
  have hk:=hin c
  have hio:=zxh p
  have hh:=z9i p hk (by omega) hl
  generalize e1:p.keys.take (p.keys.length / 2)=A1 at *
  generalize e2:p.kids.take (p.keys.length / 2+1)=A2 at *
  generalize e3:p.keys.drop (p.keys.length / 2+1)=B1 at *
  generalize e4:p.kids.drop (p.keys.length / 2+1)=B2 at *
  generalize e5:p.keys.getD (p.keys.length / 2) 0=K at *
  have ha:=z5g ⟨A1,A2,[]⟩
  have hb:=z5g ⟨B1,B2,[]⟩
  clear e1 e2 e3 e4 e5
  obtain⟨ks,cs,vs⟩:=p
  dsimp only at c hio hh hk⊢
  refine spi (fn:=Tryz.f84) _ ?_
  conv=>whnf
  repeat' first
   |(refine za (by kernel_rfl) ?_;conv=>whnf)
   |(refine zm ?_ ?_;(focus ((try simp only[qA])<;>(try simp only[wA])<;>omega));conv=>whnf)
   |(refine zp (hio) rfl rfl ?_;conv=>whnf)
   |(refine zp (hh) rfl rfl ?_;conv=>whnf)
   |(refine zw (ha) rfl rfl ?_;conv=>whnf)
   |(refine zw (hb) rfl rfl ?_;conv=>whnf)
   |(refine ze ?_;conv=>whnf)
  exact(zu [] [])
theorem z76 (p:Pg) (kid:Int) (hl:p.kids.length≤4294967296) (hm:kid∈p.kids):zr Tryz.prog 86 0 [pgV p,.c (.int .i64 kid)] [] 0 (.c (.int .i64 (plN p.kids kid))) []:=by
 obtain⟨ks,cs,vs⟩:=p
 dsimp only at *
 refine spi (fn:=Tryz.f86) _ ?_
 conv=>whnf
 skip
 refine zau (λk:Nat=>k≤cs.length∧kid∉cs.take k) (λk=>⟨20,0,[(1,.c (.int .i64 kid)),(8,.c (.nums .i64 cs)),(9,.c (.int .i64 cs.length)),(10,.c (.int .i64 k))],[]⟩) (λk=>cs.length-k) 0 ⟨Nat.zero_le _,by simp⟩ (λ_=>Nat.zero_le _) zbn (λk hk=>?_)
 obtain⟨hk,hn⟩:=hk
 by_cases c:k<cs.length
 ·by_cases e:cs.getD k 0=kid
  ·have:=z3l hn c e
   conv=>whnf
   repeat' first|(refine zn ?_ ?_;(focus ((try simp only[qA])<;>(try simp only[wA])<;>omega));conv=>whnf)|(refine za (by(try simp only[wA,wL])<;>omega) ?_;conv=>whnf)|refine zi ?_
   all_goals first|exact(zu [] [])|(exfalso;omega)|(rw[←this])
  ·have:=zuq hn c e
   conv=>whnf
   repeat' first
    |(refine zn ?_ ?_;(focus ((try simp only[qA])<;>(try simp only[wA])<;>omega));conv=>whnf)
    |(refine zm ?_ ?_;(focus ((try simp only[qA])<;>(try simp only[wA])<;>omega));conv=>whnf)
    |(refine za (by(try simp only[wA,wL])<;>omega) ?_;conv=>whnf)
    |(refine zg (by(try simp only[wA,wL])<;>omega) (by(try simp only[wA,wL])<;>omega) ?_;conv=>whnf)
   all_goals first|(exfalso;exact e (by assumption))|exact⟨⟨k+1,by omega,this⟩,zbn,by dsimp only;omega⟩
 ·rw[List.take_of_length_le (by omega)]at hn
  exact absurd hm hn
theorem yar (p:Pg) (place:Nat) (key kid:Int) (hp:place<p.kids.length) (hv:zl3 p=true) (h2:p.keys.length≤1000) (h3:p.kids.length≤1000) (hk:p.kids.length=p.keys.length+1) :
  zr Tryz.prog 87 0 [inV p,.c (.int .i64 place),.c (.int .i64 key),.c (.int .i64 kid)] [] 0 (.tup (if zl3 (zfu p place key kid)=true then [inV (zfu p place key kid),.tt]else [.agg [.nil,.nil],.ff])) []:=by
 have hvi:=zuk p.keys p.kids p.vals (by omega) (by omega)
 change zr _ _ _ _ _ _ (.c (.bool (zl3 p))) _ at hvi
 rw[hv]at hvi
 have hck:=zvt p.keys (by omega)
 have hcc:=zvt p.kids (by omega)
 have hik:=z8r p.keys place key (by omega) (by omega)
 have hic:=z8r p.kids (place+1) kid (by omega) (by omega)
 have e:zfu p place key kid=⟨p.keys.take place++key::p.keys.drop place,p.kids.take (place+1)++kid::p.kids.drop (place+1),[]⟩:=rfl
 rw[e]
 have hvr:=zuk (p.keys.take place++key::p.keys.drop place) (p.kids.take (place+1)++kid::p.kids.drop (place+1)) [] (by simp only[List.length_append,List.length_cons,List.length_take,List.length_drop];omega) (by simp only[List.length_append,List.length_cons,List.length_take,List.length_drop];omega)
 have e2:((place:Int)+1)=((place+1:Nat):Int):=rfl
 rw[←e2]at hic
 generalize p.keys.take place++key::p.keys.drop place=K2 at *
 generalize p.kids.take (place+1)++kid::p.kids.drop (place+1)=C2 at *
 generalize zl3 ⟨K2,C2,[]⟩=VV at *
 obtain⟨ks,cs,vs⟩:=p
 dsimp only[inV]at *
 clear e hv hk
 refine spi (fn:=Tryz.f87) _ ?_
 conv=>whnf
 cases VV with
 |false =>
  repeat' first
   |(refine za (by kernel_rfl) ?_;conv=>whnf)
   |(refine zn ?_ ?_;(focus (first|rfl|exact beq_self_eq_true _));conv=>whnf)
   |(refine zm ?_ ?_;(focus (first|rfl|exact bne_self_eq_false _));conv=>whnf)
   |(refine zm ?_ ?_;(focus ((try simp only[qA])<;>(try simp only[wA])<;>omega));conv=>whnf)
   |(refine zg (by(try simp only[wA,wL])<;>omega) (by(try simp only[wA,wL])<;>omega) ?_;conv=>whnf)
   |(refine zp (hvi) rfl rfl ?_;conv=>whnf)
   |(refine zar (hck) rfl rfl ?_;conv=>whnf)
   |(refine zar (hcc) rfl rfl ?_;conv=>whnf)
   |(refine z5w 4 hik rfl rfl rfl rfl ?_;conv=>whnf)
   |(refine z5w 11 hic rfl rfl rfl rfl ?_;conv=>whnf)
   |(refine zp (hvr) rfl rfl ?_;conv=>whnf)
   |(refine ze ?_;conv=>whnf)
  rw[if_neg (by decide)]
  exact(zu [] [])
 |true =>
  repeat' first
   |(refine za (by kernel_rfl) ?_;conv=>whnf)
   |(refine zm ?_ ?_;(focus (first|rfl|exact bne_self_eq_false _));conv=>whnf)
   |(refine zm ?_ ?_;(focus ((try simp only[qA])<;>(try simp only[wA])<;>omega));conv=>whnf)
   |(refine zg (by(try simp only[wA,wL])<;>omega) (by(try simp only[wA,wL])<;>omega) ?_;conv=>whnf)
   |(refine zp (hvi) rfl rfl ?_;conv=>whnf)
   |(refine zar (hck) rfl rfl ?_;conv=>whnf)
   |(refine zar (hcc) rfl rfl ?_;conv=>whnf)
   |(refine z5w 4 hik rfl rfl rfl rfl ?_;conv=>whnf)
   |(refine z5w 11 hic rfl rfl rfl rfl ?_;conv=>whnf)
   |(refine zp (hvr) rfl rfl ?_;conv=>whnf)
   |(refine ze ?_;conv=>whnf)
  rw[if_pos rfl]
  exact(zu [] [])
end Go.VL
namespace Go.VL
abbrev ztV:V:=.agg [.c (.int .i64 0),.nil]
def unR:Option (Int×List Pg)→List V
 |some (r,ps)=>[trV r ps,.tt]
 |none=>[ztV,.ff]
end Go.VL
namespace Go.VL
open Go.Proofs
set_option maxRecDepth 10000
set_option linter.unusedSimpArgs false
set_option linter.unusedVariables false
theorem z68 (root:Int) (ps:List Pg) (hp:pB ps) (hl:ps.length≤1000):zr Tryz.prog 57 0 [trV root ps] [] 1 (.agg [.c (.int .i64 root),.slc 0]) [(0,.arr (.pgs ps))]:=by
 refine spi (fn:=Tryz.f57) _ ?_
 conv=>whnf
 repeat' first
  |(refine za (by kernel_rfl) ?_;conv=>whnf)
  |(refine za (by(try simp only[wA,wL])<;>omega) ?_;conv=>whnf)
  |(refine zo ?_;conv=>whnf)
  |(refine ze ?_;conv=>whnf)
 refine zd0 (λ(i:Nat) (L:List Pg)=>i≤ps.length∧L=ps.take i++List.replicate (ps.length-i) ⟨[],[],[]⟩) (λi L=>⟨37,3,[(2,.ptr 0 0 0 0),(3,.ptr 1 0 0 0),(14,.c (.pgs ps)),(15,.c (.int .i64 ps.length)),(16,.c (.int .i64 i))],[(0,.box [.c (.int .i64 0),.nil] [] []),(1,.box [.c (.int .i64 root),.slc 2] [] []),(2,.arr (.pgs L))]⟩) (λi _=>ps.length-i) 0 (List.replicate ps.length ⟨[],[],[]⟩) ⟨Nat.zero_le _,rfl⟩ (λ_ _=>Nat.zero_le _) (ydn [] [1,9,7]) (λi L hi=>?_)
 obtain⟨hi,hL⟩:=hi
 have k1:=hp.keys i
 have k2:=hp.kids i
 have k3:=hp.vals i
 dsimp only[zb,Int.toNat_natCast]at k1 k2 k3
 have hLl:=congrArg List.length hL
 rw[List.length_append,List.length_take,List.length_replicate]at hLl
 by_cases c:i<ps.length
 ·have c1:=z6m (ps.getD i ⟨[],[],[]⟩).keys k1
  have c2:=z6m (ps.getD i ⟨[],[],[]⟩).kids k2
  have c3:=z6m (ps.getD i ⟨[],[],[]⟩).vals k3
  conv=>whnf
  repeat' first
   |(refine za (by kernel_rfl) ?_;conv=>whnf)
   |(refine zn ?_ ?_;(focus ((try simp only[qA])<;>(try simp only[wA])<;>omega));conv=>whnf)
   |(refine za (by(try simp only[wA,wL])<;>omega) ?_;conv=>whnf)
   |(refine zg (by(try simp only[wA,wL])<;>omega) (by(try simp only[wA,wL])<;>omega) ?_;conv=>whnf)
   |(refine zw (c1) rfl rfl ?_;conv=>whnf)
   |(refine zw (c2) rfl rfl ?_;conv=>whnf)
   |(refine zw (c3) rfl rfl ?_;conv=>whnf)
   |(refine ze ?_;conv=>whnf)
  refine⟨⟨(i+1,L.set i (ps.getD i ⟨[],[],[]⟩)),by dsimp only;omega,?_⟩,(ydn [] [0,1,2]),by dsimp only;omega⟩
  show L.set i _=_
  rw[hL,zog _ _ c (by rw[List.length_take];omega),zat ⟨[],[],[]⟩ c]
 ·rw[List.take_of_length_le (by omega),show ps.length-i=0 by omega,List.replicate_zero,List.append_nil]at hL
  subst hL
  conv=>whnf
  repeat' (refine zm ?_ ?_;(focus ((try simp only[qA])<;>(try simp only[wA])<;>omega));conv=>whnf)
  exact(zu [] [2])
theorem yb8 {root:Int} {ps:List Pg} {x:Pr} (h1:vTree root ps=true) (h2:zdb [x]=true) {R:Int×List Pg} (hR:zer root ps (htF root ps) x=R):zqc root ps x=if vTree R.1 R.2=true then some R else none:=by
 subst hR
 unfold zqc
 by_cases c:vTree (zer root ps (htF root ps) x).1 (zer root ps (htF root ps) x).2=true
 ·rw[if_pos ⟨h1,h2,c⟩,if_pos c]
 ·rw[if_neg (λq=>c q.2.2),if_neg c]
set_option maxHeartbeats 4000000 in
theorem ya9 (root:Int) (ps:List Pg) (x:Pr) (hp:pB ps) (g1:vTree root ps=true) (g2:zdb [x]=true):zr Tryz.prog 48 0 [trV root ps,prV x] [] 0 (.tup (unR (zqc root ps x))) []:=by
 have V:=za0 g1
 have v:=V.v0
 have hb:=zsq.1 g2
 have h0:=hb.1.1
 have h9:=hb.1.2
 have hv:=hb.2
 have l16:=V.l16
 have h3:=V.h3
 obtain⟨d,hd⟩:∃d,htF root ps=d+1:=⟨htF root ps-1,by have:=V.h1;omega⟩
 rw[hd]at v h3
 have hvt:=zbi root ps hp
 have hip:=z8s x
 have hpt:=zdn (zjo root x.key ps hp g1) rfl
 change zr _ _ _ _ _ _ (.c (.nums .i64 (ptF ps x.key (htF root ps) root))) _ at hpt
 have hct:=z68 root ps hp (by omega)
 rw[g1]at hvt
 rw[g2]at hip
 rw[hd]at hpt
 have ha:=v.at h0 h9
 have hPl:(ptF ps x.key (d+1) root).length=d+1:=zg1
 have hon:=λi (hi:i<d+1)=>z21 hv ha hi
 have hst:=λi (hi:i<d+1)=>zz1 hv ha hi
 have hup:=λi (hi:i+1<d+1)=>zwd (ps:=ps) (x:=x) (root:=root) hi
 have hab:=λi (hi:i+1<d+1)=>zpt hv ha hi
 have hkid:=λi (hi:i+1<d+1)=>z0y (ps:=ps) (key:=x.key) ha hi
 have hmo:=λi (hi:i<d+1)=>yaa (ps:=ps) (x:=x) (root:=root) hi
 have hpi:∀i,i+1<d+1→(zbb ps x (d+1-i) ((ptF ps x.key (d+1) root).getD i 0)).length≤16→zl3 (zb (zbb ps x (d+1-i) ((ptF ps x.key (d+1) root).getD i 0)) ((ptF ps x.key (d+1) root).getD i 0))=true:=λi hi hl=>by
  obtain⟨e,he⟩:∃e,d+1-i=e+2:=⟨d-1-i,by omega⟩
  have hai:=zjg ha (show i<d+1 by omega)
  rw[he]at hai hl
  have:=ybg hv hai hl
  rw[←he]at this
  exact this
 have hp0:(ptF ps x.key (d+1) root).getD 0 0=root:=zfy
 have hpd:=zjg ha (show d<d+1 by omega)
 have hR1:zbb ps x (d+1-d) ((ptF ps x.key (d+1) root).getD d 0)=ps.set ((ptF ps x.key (d+1) root).getD d 0).toNat (zae (zbc (zab (zb ps ((ptF ps x.key (d+1) root).getD d 0))) x)):=by rw[show d+1-d=1 by omega];rfl
 obtain⟨R,hR⟩:∃R:Int×List Pg,zer root ps (d+1) x=R:=⟨_,rfl⟩
 have hM:=yb8 g1 g2 (R:=R) (by rw[hd];exact hR)
 have hok:=zvr v hv h0 h9
 rw[hR]at hst hok
 have hRl:R.2.length≤100:=by have q1:=hok.len;have q2:=hok.le;split at q1<;>omega
 have hvR:=zbi R.1 R.2 (hok.vt.pB (by omega))
 have hmo:∀i,i<d+1→4<(zb (zbb ps x (d+1-i) ((ptF ps x.key (d+1) root).getD i 0)) ((ptF ps x.key (d+1) root).getD i 0)).keys.length→(zbb ps x (d+1-i) ((ptF ps x.key (d+1) root).getD i 0)).length+1≤R.2.length:=λi hi ho=>by rw[←hR];exact hmo i hi ho
 have hbig:16<R.2.length→vTree R.1 R.2=false:=λq=>by
  cases c:vTree R.1 R.2 with
  |false=>rfl
  |true=>have:=(za0 c).l16;omega
 clear hok
 rw[hM]
 have hRt:4<(zb (zbb ps x (d+1) root) root).keys.length→R=(((zbb ps x (d+1) root).length:Int)+1,(zbb ps x (d+1) root).set root.toNat (zam (zb (zbb ps x (d+1) root) root)).1++[(zam (zb (zbb ps x (d+1) root) root)).2.2,⟨[(zam (zb (zbb ps x (d+1) root) root)).2.1],[root,((zbb ps x (d+1) root).length:Int)],[]⟩]):=λhc=>by
  rw[←hR];unfold zer;rw[if_pos hc]
 have hinr:∀i,0≤i→i<(ps.length:Int)→(zb ps i).kids≠[]→zl3 (zb ps i)=true:=λi i0 i1 hk=>(zl6 g1 i0 i1).inr l16 hk
 clear hR hM
 generalize vTree R.1 R.2=VR at *
 generalize ptF ps x.key (d+1) root=P at *
 rw[show d+1-d=1 by omega]at hpd hR1
 have hD:((P.length:Int)-1).toNat=d:=by omega
 rw[←hD]at hpd hR1
 obtain⟨_,_,_,hpf,_⟩:=hpd
 have hlk:LeafOk (zb ps (P.getD ((P.length:Int)-1).toNat 0)) _ _:=hpf.2.2.2.2
 have b0:=hpf.1
 have b1:=hpf.2.1
 have hln:=hlk.len
 have k1:=hpf.2.2.2.1
 have hrl:=zby _ hln
 have hil:=zok (x:=x) (l:=zab (zb ps (P.getD ((P.length:Int)-1).toNat 0))) (by rw[zdi hln];exact hlk.asc)
 have hil2:(zbc (zab (zb ps (P.getD ((P.length:Int)-1).toNat 0))) x).length≤5:=by rw[hil,hrl];split<;>omega
 have hlr:=(zl6 g1 b0 b1).row hlk.kids
 have hrk:=(zln.1 hlr.1).1
 have hpol:=zdn (zmb (zb ps (P.getD ((P.length:Int)-1).toNat 0)) hln (by omega)) rfl
 change zr _ _ _ _ _ _ (.c (.prs (zab (zb ps (P.getD ((P.length:Int)-1).toNat 0))))) _ at hpol
 have hpir:=zdn (z9g (zab (zb ps (P.getD ((P.length:Int)-1).toNat 0))) x (by omega) (zde.2 ⟨hrk.asc,λk hk=>by obtain⟨y,hy,rfl⟩:=List.mem_map.1 hk;exact hrk.rng y hy⟩)) rfl
 change zr _ _ _ _ _ _ (.c (.prs (zbc (zab (zb ps (P.getD ((P.length:Int)-1).toNat 0))) x))) _ at hpir
 have hlf:=z6t (zbc (zab (zb ps (P.getD ((P.length:Int)-1).toNat 0))) x) (by omega)
 clear hil hpf hlk hlr hrk
 dsimp only[zb]at hln k1 hrl hil2 hR1 hpol hpir hlf
 have k4:=hp.len
 refine spi (fn:=Tryz.f48) _ ?_
 conv=>whnf
 repeat' first
  |(refine za (by kernel_rfl) ?_;conv=>whnf)
  |(refine zm ?_ ?_;(focus (first|rfl|exact bne_self_eq_false _));conv=>whnf)
  |(refine za (by(try simp only[wA,wL])<;>omega) ?_;conv=>whnf)
  |(refine zg (by(try simp only[wA,wL])<;>omega) (by(try simp only[wA,wL])<;>omega) ?_;conv=>whnf)
  |(refine zp (hvt) rfl rfl ?_;conv=>whnf)
  |(refine zp (hip) rfl rfl ?_;conv=>whnf)
  |(refine zp (hpt) rfl rfl ?_;conv=>whnf)
  |(refine z8 (hct) rfl ?_;conv=>whnf)
  |(refine zw (hpol) rfl rfl ?_;conv=>whnf)
  |(refine zw (hpir) rfl rfl ?_;conv=>whnf)
  |(refine zw (hlf) rfl rfl ?_;conv=>whnf)
  |(refine ze ?_;conv=>whnf)
 refine zd0 (λ(qs:List Pg) (z:Int)=>0≤z∧z<d+1∧qs=zbb ps x (d+1-z.toNat) (P.getD z.toNat 0))
  (λqs z=>⟨154,3,[(4,.ptr 0 0 0 0),(6,.c (.nums .i64 P)),(7,.ptr 1 0 0 0),(9,.c (.int .i64 z))],[(0,.box [.c (.int .i64 0),.nil] [] []),(1,.box [.c (.int .i64 root),.slc 2] [] []),(2,.arr (.pgs qs))]⟩) (λqs z=>z.toNat)
  (ps.set (P.getD ((P.length:Int)-1).toNat 0).toNat (zae (zbc (zab (ps.getD (P.getD ((P.length:Int)-1).toNat 0).toNat ⟨[],[],[]⟩)) x))) ((P.length:Int)-1) ⟨by omega,by omega,by rw[hD]at hR1⊢;rw[show d+1-d=1 by omega];exact hR1.symm⟩ (λ_ _=>Nat.zero_le _) (ydn [] [2,4,3]) (λqs z hi=>?_)
 obtain⟨hz0,hz1,hq⟩:=hi
 clear b0 b1 hln k1 hrl hil2 hR1 hpt hpol hpir hlf hct hvt hip
 obtain⟨lo,hi',q0,q9,qf,q5,qa0,qa1,qpl,qpu⟩:=hon z.toNat (by omega)
 have hst':=hst z.toNat (by omega)
 have hmo':=hmo z.toNat (by omega)
 rw[←hq]at hst' hmo' qf q5 qa1 qpl qpu
 dsimp only[zb]at hst' q5
 clear hon hst hmo
 obtain⟨pg,hpg⟩:∃pg,qs.getD (P.getD z.toNat 0).toNat ⟨[],[],[]⟩=pg:=⟨_,rfl⟩
 have hpg':zb qs (P.getD z.toNat 0)=pg:=hpg
 rw[hpg]at hst' q5
 rw[hpg']at qf hmo'
 by_cases hov:4<pg.keys.length
 ·have hmo':=hmo' hov
  clear hst'
  obtain⟨sp,hsp⟩:∃sp,zam pg=sp:=⟨_,rfl⟩
  obtain⟨pa,kx,pb⟩:=sp
  have hfin:∀i:Nat,z.toNat=i+1→zbb ps x (d+1-i) (P.getD i 0)=(qs.set (P.getD z.toNat 0).toNat pa++([]++[pb])).set (P.getD i 0).toNat (zfu (zb ps (P.getD i 0)) (plN (zb ps (P.getD i 0)).kids (P.getD z.toNat 0)) kx qs.length):=λi hi=>by
   have e1:=hup i (by omega)
   obtain⟨e2,e3,e4,e5⟩:=hab i (by omega)
   rw[←hi,←hq]at e1 e2
   rw[e1]
   unfold zmw
   rw[hpg',if_pos hov,hsp,e2];rfl
  have hR0:z=0→R=((qs.length:Int)+1,qs.set (P.getD z.toNat 0).toNat pa++([]++[pb])++([]++[(⟨[]++[kx],[]++[P.getD z.toNat 0]++[(qs.length:Int)],[]⟩:Pg)])):=λhz=>by
   subst hz
   have e:P.getD (Int.toNat 0) 0=root:=hp0
   rw[e]at hpg' hpg⊢
   rw[show d+1-Int.toNat 0=d+1 from rfl,e]at hq
   rw[hRt (by rw[←hq,hpg'];exact hov),←hq,hpg',hsp]
   refine Prod.ext rfl ?_
   simp
  have hso:=z9q pg (by omega) (by omega) (λhk=>by
   have hL:LeafOk pg lo hi':=by
    obtain⟨e,he⟩:∃e,d+1-z.toNat=e+1:=⟨d-z.toNat,by omega⟩
    rw[he]at qf
    cases e with
    |zero=>exact qf
    |succ e=>have:=zaa.kidsLen qf;omega
   exact⟨hL.len,zln.2 ⟨hL.row.wide q0 q9,by rw[zby _ hL.len];omega⟩⟩) (λhk=>by
   obtain⟨e,he⟩:∃e,d+1-z.toNat=e+1:=⟨d-z.toNat,by omega⟩
   rw[he]at qf
   cases e with
   |zero=>have:=LeafOk.kids qf;rw[this]at hk;exact(hk rfl).elim
   |succ e=>exact zaa.kidsLen qf)
  rw[hsp]at hso
  dsimp only at hso
  clear hRt hup hsp
  have hov2:4<(qs.getD (P.getD z.toNat 0).toNat ⟨[],[],[]⟩).keys.length:=by rw[hpg];exact hov
  rw[←hpg]at hso
  by_cases hz:z=0
  ·have hR0:=hR0 hz
   subst hR0
   dsimp only at hvR
   clear hab hfin hkid hpi
   have hin0:=z5g ⟨[]++[kx],[]++[P.getD z.toNat 0]++[(qs.length:Int)],[]⟩
   conv=>whnf
   repeat' first
    |(refine zn ?_ ?_;(focus ((try simp only[qA])<;>(try simp only[wA])<;>omega));conv=>whnf)
    |(refine zm ?_ ?_;(focus ((try simp only[qA])<;>(try simp only[wA])<;>omega));conv=>whnf)
    |(refine za (by(try simp only[wA,wL])<;>omega) ?_;conv=>whnf)
    |(refine zk (λh=>?_) (λh=>?_)<;>(try simp only[qA]at h)<;>(try simp only[wA]at h)<;>conv=>whnf)
    |(refine zg (by(try simp only[wA,wL])<;>omega) (by(try simp only[wA,wL])<;>omega) ?_;conv=>whnf)
    |(refine zp (hso) rfl rfl ?_;conv=>whnf)
    |(refine zal [6,7] [] (hin0) ?_;(conv=>whnf);refine⟨rfl,rfl,rfl,(by repeat first|exact trivial|refine⟨rfl,?_⟩),⟨rfl,rfl,rfl,rfl,rfl,rfl⟩,?_⟩;conv=>whnf)
    |(refine zbo (hvR) rfl rfl rfl ?_;conv=>whnf)
    |(refine zo ?_;conv=>whnf)
   all_goals ((repeat first|rw[if_pos (by assumption)]|rw[if_neg (by assumption)]|rw[if_neg (by rw[Bool.not_eq_true];assumption)]|rw[if_neg (by rw[Bool.not_eq_false];assumption)]|rw[if_pos (by omega)]|rw[if_neg (by omega)]);first|exact(zu [] [])|exact(zu [2] []))
  ·obtain⟨i,hi⟩:∃i,z.toNat=i+1:=⟨z.toNat-1,by omega⟩
   have hfin:=hfin i hi
   obtain⟨e2,e3,e4,e5⟩:=hab i (by omega)
   have hpi:=hpi i (by omega)
   clear hab hR0
   have ez:(z-1).toNat=i:=by omega
   obtain⟨up,hup'⟩:∃up,zb ps (P.getD i 0)=up:=⟨_,rfl⟩
   rw[←hi]at e2 e5
   rw[←hq]at e2
   obtain⟨f1,f2,f3,f4⟩:=hkid i (by omega)
   have hiu:=hinr _ e3 e4 (λhc=>by rw[hc]at f2;simp at f2)
   rw[hup']at hfin e2 hiu
   have hX:(qs.set (P.getD z.toNat 0).toNat pa++([]++[pb])).getD (P.getD (z-1).toNat 0).toNat ⟨[],[],[]⟩=up:=by
    rw[ez]
    show zb (qs.set (P.getD z.toNat 0).toNat pa++[pb]) (P.getD i 0)=up
    rw[zlv e3,List.length_set,if_pos (by omega),zc9 qa0 qa1 e3,if_neg e5,e2]
   rw[hup']at f1 f2 f3 f4
   rw[←hi]at f1
   have hlt:=ztx f1
   have hpo:=z76 up (P.getD z.toNat 0) (by omega) f1
   have hak:=yar up (plN up.kids (P.getD z.toNat 0)) kx qs.length hlt hiu (by omega) (by omega) f2
   have hin:=z5g (zfu up (plN up.kids (P.getD z.toNat 0)) kx qs.length)
   rw[show pgV ⟨(zfu up (plN up.kids (P.getD z.toNat 0)) kx qs.length).keys,(zfu up (plN up.kids (P.getD z.toNat 0)) kx qs.length).kids,[]⟩=pgV (zfu up (plN up.kids (P.getD z.toNat 0)) kx qs.length)from rfl]at hin
   have hio:=zxh up
   have e3':0≤P.getD (z-1).toNat 0:=by rw[ez];exact e3
   have e4':P.getD (z-1).toNat 0<ps.length:=by rw[ez];exact e4
   have hPq:zbb ps x (d+1-i) (P.getD i 0)=(qs.set (P.getD z.toNat 0).toNat pa++([]++[pb])).set (P.getD i 0).toNat (zfu up (plN up.kids (P.getD z.toNat 0)) kx qs.length):=hfin
   have hpg2:zb ((qs.set (P.getD z.toNat 0).toNat pa++([]++[pb])).set (P.getD i 0).toNat (zfu up (plN up.kids (P.getD z.toNat 0)) kx qs.length)) (P.getD i 0)=zfu up (plN up.kids (P.getD z.toNat 0)) kx qs.length:=by
    rw[zc9 e3 (by rw[List.length_append,List.length_set];omega) e3,if_pos rfl]
   rw[hPq,hpg2]at hpi
   have hll:((qs.set (P.getD z.toNat 0).toNat pa++([]++[pb])).set (P.getD i 0).toNat (zfu up (plN up.kids (P.getD z.toNat 0)) kx qs.length)).length=qs.length+1:=by
    rw[List.length_set,List.length_append,List.length_set];rfl
   rw[hll]at hpi
   by_cases h16:qs.length+1≤16
   ·rw[if_pos (hpi h16)]at hak
    clear hpi hmo' hbig hvR hll hpg2 hinr hkid hiu
    rw[←hX]at hpo hio hak
    rw[hX]at hak
    generalize zfu up (plN up.kids (P.getD z.toNat 0)) kx qs.length=pu at *
    rw[←hX]at hak
    conv=>whnf
    repeat' first
     |(refine za (by kernel_rfl) ?_;conv=>whnf)
     |(refine zn ?_ ?_;(focus ((try simp only[qA])<;>(try simp only[wA])<;>omega));conv=>whnf)
     |(refine zm ?_ ?_;(focus ((try simp only[qA])<;>(try simp only[wA])<;>omega));conv=>whnf)
     |(refine za (by(try simp only[wA,wL])<;>omega) ?_;conv=>whnf)
     |(refine zg (by(try simp only[wA,wL])<;>omega) (by(try simp only[wA,wL])<;>omega) ?_;conv=>whnf)
     |(refine zp (hso) rfl rfl ?_;conv=>whnf)
     |(refine zp (hpo) rfl rfl ?_;conv=>whnf)
     |(refine zp (hio) rfl rfl ?_;conv=>whnf)
     |(refine zp (hak) rfl rfl ?_;conv=>whnf)
     |(refine zw (hin) rfl rfl ?_;conv=>whnf)
     |(refine zo ?_;conv=>whnf)
     |(refine ze ?_;conv=>whnf)
    refine⟨⟨((qs.set (P.getD z.toNat 0).toNat pa++([]++[pb])).set (P.getD (z-1).toNat 0).toNat pu,z-1),?_⟩,(ydn [] [0,1,2]),by dsimp only;omega⟩
    dsimp only
    refine⟨by omega,by omega,?_⟩
    rw[ez];exact hfin.symm
   ·have hno:zl3 (zfu up (plN up.kids (P.getD z.toNat 0)) kx qs.length)=false:=by
     cases c:zl3 (zfu up (plN up.kids (P.getD z.toNat 0)) kx qs.length)with
     |false=>rfl
     |true =>
      exfalso
      unfold zl3 at c
      rw[Bool.and_eq_true,Bool.and_eq_true,List.all_eq_true]at c
      have:=c.1.2 (qs.length:Int) (by unfold zfu;simp)
      rw[decide_eq_true_iff]at this
      omega
    rw[if_neg (by rw[hno];decide)]at hak
    have hRf:=hbig (by omega)
    subst hRf
    clear hpi hmo' hbig hvR hll hpg2 hinr hkid hiu hfin hPq hin
    rw[←hX]at hpo hio hak
    rw[hX]at hak
    rw[←hX]at hak
    conv=>whnf
    repeat' first
     |(refine zn ?_ ?_;(focus ((try simp only[qA])<;>(try simp only[wA])<;>omega));conv=>whnf)
     |(refine zm ?_ ?_;(focus ((try simp only[qA])<;>(try simp only[wA])<;>omega));conv=>whnf)
     |(refine za (by(try simp only[wA,wL])<;>omega) ?_;conv=>whnf)
     |(refine zg (by(try simp only[wA,wL])<;>omega) (by(try simp only[wA,wL])<;>omega) ?_;conv=>whnf)
     |(refine zp (hso) rfl rfl ?_;conv=>whnf)
     |(refine zp (hpo) rfl rfl ?_;conv=>whnf)
     |(refine zp (hio) rfl rfl ?_;conv=>whnf)
     |(refine zp (hak) rfl rfl ?_;conv=>whnf)
     |(refine zo ?_;conv=>whnf)
    rw[if_neg (by decide)]
    exact(zu [] [])
 ·have hov2:¬4<(qs.getD (P.getD z.toNat 0).toNat ⟨[],[],[]⟩).keys.length:=by rw[hpg];exact hov
  have hRR:=hst' hov
  subst hRR
  dsimp only at hvR
  conv=>whnf
  repeat' first
   |(refine zn ?_ ?_;(focus ((try simp only[qA])<;>(try simp only[wA])<;>omega));conv=>whnf)
   |(refine za (by(try simp only[wA,wL])<;>omega) ?_;conv=>whnf)
   |(refine zk (λh=>?_) (λh=>?_)<;>(try simp only[qA]at h)<;>(try simp only[wA]at h)<;>conv=>whnf)
   |(refine zbo (hvR) rfl rfl rfl ?_;conv=>whnf)
  all_goals ((repeat first|rw[if_pos (by assumption)]|rw[if_neg (by assumption)]|rw[if_neg (by rw[Bool.not_eq_true];assumption)]|rw[if_neg (by rw[Bool.not_eq_false];assumption)]|rw[if_pos (by omega)]|rw[if_neg (by omega)]);first|exact(zu [] [])|exact(zu [2] []))
theorem z60 (root:Int) (ps:List Pg) (x:Pr) (hp:pB ps):zr Tryz.prog 48 0 [trV root ps,prV x] [] 0 (.tup (unR (zqc root ps x))) []:=by
 by_cases g:vTree root ps=true∧zdb [x]=true
 ·exact ya9 root ps x hp g.1 g.2
 ·have e:zqc root ps x=none:=by unfold zqc;rw[if_neg λq=>g ⟨q.1,q.2.1⟩]
  rw[e]
  have hvt:=zbi root ps hp
  have hip:=z8s x
  cases g1:vTree root ps with
  |false =>
   rw[g1]at hvt
   refine spi (fn:=Tryz.f48) _ ?_
   conv=>whnf
   repeat' first
    |(refine zn ?_ ?_;(focus (first|rfl|exact beq_self_eq_true _));conv=>whnf)
    |(refine zp (hvt) rfl rfl ?_;conv=>whnf)
   exact(zu [] [])
  |true =>
   have g2:zdb [x]=false:=by
    cases q:zdb [x]with
    |false=>rfl
    |true=>exact(g ⟨g1,q⟩).elim
   rw[g1]at hvt
   rw[g2]at hip
   refine spi (fn:=Tryz.f48) _ ?_
   conv=>whnf
   repeat' first
    |(refine zn ?_ ?_;(focus (first|rfl|exact beq_self_eq_true _));conv=>whnf)
    |(refine zm ?_ ?_;(focus (first|rfl|exact bne_self_eq_false _));conv=>whnf)
    |(refine zp (hvt) rfl rfl ?_;conv=>whnf)
    |(refine zp (hip) rfl rfl ?_;conv=>whnf)
   exact(zu [] [])
theorem yab (root:Int) (ps:List Pg) (x:Pr) (hp:pB ps):zr Tryz.prog 138 0 [trV root ps,prV x] [] 0 (.tup (unR (zqc root ps x))) []:=by
 cases g:zqc root ps x with
 |none=>exact zzh root ps x hp g
 |some r=>exact zdn (zx7 root ps x hp r g) rfl
end Go.VL
namespace Go.Proofs
set_option linter.unusedVariables false
set_option linter.unusedSimpArgs false
open Go.RowKit Go.Lib
end Go.Proofs
namespace Go.VL
set_option linter.unusedVariables false
set_option linter.unusedSimpArgs false
open Go.Proofs
end Go.VL
namespace Go.Proofs
set_option linter.unusedVariables false
set_option linter.unusedSimpArgs false
open Go.RowKit Go.Lib
end Go.Proofs
namespace Go.VL
set_option linter.unusedVariables false
set_option linter.unusedSimpArgs false
open Go.Proofs
end Go.VL
namespace Go.VL
open Go.Proofs
set_option maxRecDepth 10000
set_option linter.unusedSimpArgs false
set_option linter.unusedVariables false
structure pgB (p:Pg):Prop where
 keys:p.keys.length≤4294967296
 kids:p.kids.length≤4294967296
 vals:p.vals.length≤4294967296
end Go.VL
