/- V-logic: TrXl TrXm TrXn -/
import Derived.Test.YtdbhfajlffaneaaVW3
import Derived.Test.YtdbhfajlffaneaaVTrPa
import Derived.Test.YtdbhfajlffaneaaVW5
import Derived.Test.YtdbhfajlffaneaaVPD
import Derived.Handy
import Derived.Test.YtdbhfajlffaneaaVT5
import Derived.Test.YtdbhfajlffaneaaVW6
import Derived.Test.YtdbhfajlffaneaaVPE
namespace Go.VL
open Go.Proofs Go.RowKit Go.Lib
set_option maxRecDepth 10000
set_option linter.unusedSimpArgs false
set_option linter.unusedVariables false
theorem yah (L:List (List Pr)) (hL:L.length≤1024) (h:L.flatten.length≤1048576):zr Try.prog 100 0 [.c (.prss L)] [] 1 (.slc 0) [(0,.arr (.prs L.flatten))]:=by
 have hs:∀k,k<L.length→(L.take k).flatten.length+(L.getD k []).length≤1048576∧(L.take (k+1)).flatten=(L.take k).flatten++L.getD k []:=fun k hk=>by
  have e:(L.take (k+1)).flatten=(L.take k).flatten++L.getD k []:=by rw[zat [] hk,List.flatten_append];simp
  have e2:=congrArg (fun M=>(List.flatten M).length) (List.take_append_drop (k+1) L)
  simp only[List.flatten_append,List.length_append,e]at e2
  exact⟨by omega,e⟩
 refine spi (fn:=Try.f100) _ ?_
 conv=>whnf
 refine zd0 (fun(k:Nat) (n:Nat)=>k≤L.length∧n=(L.take k).flatten.length) (fun k n=>⟨36,0,[(0,.c (.prss L)),(3,.c (.int .i64 n)),(9,.c (.prss L)),(10,.c (.int .i64 L.length)),(11,.c (.int .i64 k))],[]⟩) (fun k _=>L.length-k) 0 0 ⟨Nat.zero_le _,rfl⟩ (fun _ _=>Nat.zero_le _) zbn (fun k n hk=>?_)
 obtain⟨hk,hn⟩:=hk
 by_cases hk2:k<L.length
 ·obtain⟨e1,e2⟩:=hs k hk2
  rw[←hn]at e1
  replace e2:n+(L.getD k []).length=(L.take (k+1)).flatten.length:=by rw[e2,hn,List.length_append]
  conv=>whnf
  repeat' first
   |(refine zn ?_ ?_;(focus ((try simp only[qA])<;>(try simp only[wA])<;>omega));conv=>whnf)
   |(refine zm ?_ ?_;(focus ((try simp only[qA])<;>(try simp only[wA])<;>omega));conv=>whnf)
   |(refine za (by(try simp only[wA,wL])<;>omega) ?_;conv=>whnf)
   |(refine zg (by(try simp only[wA,wL])<;>omega) (by(try simp only[wA,wL])<;>omega) ?_;conv=>whnf)
  exact⟨⟨(k+1,n+(L.getD k []).length),by omega,e2⟩,zbn,by dsimp only;omega⟩
 ·rw[List.take_of_length_le (by omega)]at hn
  conv=>whnf
  repeat' first|(refine zm ?_ ?_;(focus ((try simp only[qA])<;>(try simp only[wA])<;>omega));conv=>whnf)|(refine z8 (z9r n (by omega)) rfl ?_;conv=>whnf)
  refine zd0 (fun(k:Nat) (M:List Pr)=>k≤L.length∧M=(L.take k).flatten) (fun k M=>⟨36,1,[(6,.slc 0),(25,.c (.prss L)),(26,.c (.int .i64 L.length)),(27,.c (.int .i64 k))],[(0,.arr (.prs M))]⟩) (fun k _=>L.length-k) 0 [] ⟨Nat.zero_le _,rfl⟩ (fun _ _=>Nat.zero_le _) (ydn [] [0]) (fun k M hk=>?_)
  obtain⟨hk,hM⟩:=hk
  by_cases hk2:k<L.length
  ·obtain⟨e1,e2⟩:=hs k hk2
   rw[←hM]at e1 e2
   conv=>whnf
   repeat' first
    |(refine zn ?_ ?_;(focus ((try simp only[qA])<;>(try simp only[wA])<;>omega));conv=>whnf)
    |(refine za (by(try simp only[wA,wL])<;>omega) ?_;conv=>whnf)
    |(refine zg (by(try simp only[wA,wL])<;>omega) (by(try simp only[wA,wL])<;>omega) ?_;conv=>whnf)
   exact⟨⟨(k+1,M++L.getD k []),by omega,e2.symm⟩,(ydn [] [0]),by dsimp only;omega⟩
  ·rw[List.take_of_length_le (by omega)]at hM
   subst hM
   conv=>whnf
   repeat' (refine zm ?_ ?_;(focus ((try simp only[qA])<;>(try simp only[wA])<;>omega));conv=>whnf)
   exact(zu [] [0])
theorem ydg (a b:List Pr) (h:a.length+b.length≤1000000):zr Try.prog 100 0 [.c (.prss [a,b])] [] 1 (.slc 0) [(0,.arr (.prs (a++b)))]:=by
 have:=yah [a,b] (by simp) (by simp;omega)
 rwa [show [a,b].flatten=a++b by simp]at this
theorem ybj (a b:List Int) (h:a.length+b.length≤1000000):zr Try.prog 111 0 [.c (.numss [a,b])] [] 1 (.slc 0) [(0,.arr (.nums .i64 (a++b)))]:=by
 have:=z8v [a,b] (by simp) (by simp;omega)
 rwa [show [a,b].flatten=a++b by simp]at this
theorem ydp (W:World) (A B:Obj):ydj W ((W.alloc A).alloc B):=by
 refine⟨rfl,rfl,rfl,?_,fun b hb=>?_⟩
 ·show _≤((W.heap.push A).push B).size
  rw[Array.size_push,Array.size_push];omega
 ·show((W.heap.push A).push B)[b]? = _
  rw[Array.getElem?_push,if_neg (by rw[Array.size_push];omega),Array.getElem?_push,if_neg (by omega)]
theorem ydh (a1 a2 a3:Option Addr) (l1 l2 l3 c1 c2 c3:Nat) (W:World):Calls Try.prog 25 #[.agg #[.slice a1 l1 c1,.slice a2 l2 c2,.slice a3 l3 c3]] W fun e w'=>e=.returned (.agg #[.slice a1 l1 c1,.slice a2 l2 c2])∧ydj W w':=by
 go_enter Try.func25,Try.ntmps25
 go_wp2
 go_returns
 exact⟨rfl,ydp _ _ _⟩
theorem ydi (a1 a2:Option Addr) (l1 l2 c1 c2:Nat) (W:World):Calls Try.prog 76 #[.agg #[.slice a1 l1 c1,.slice a2 l2 c2]] W fun e w'=>e=.returned (.agg #[.slice a1 l1 c1,.slice a2 l2 c2,.slice none 0 0])∧ydj W w':=by
 go_enter Try.func76,Try.ntmps76
 go_wp2
 go_returns
 exact⟨rfl,ydp _ _ _⟩
theorem ydo {I:Nat→Prop} {g:Gam} {n:Nat} {w:World} {id:Nat} {v:Value} (h:RV I g n w (.slc id) v):(∃a l c,v=.slice a l c)∧∀w',RV I g n w' (.slc id) v:=by
 obtain⟨h1,⟨b,cap,len,h2,rfl⟩|⟨h2,rfl⟩⟩:=RV.slc_inv h
 ·exact⟨⟨_,_,_,rfl⟩,fun w'=>.slc id len b cap h1 h2⟩
 ·exact⟨⟨_,_,_,rfl⟩,fun w'=>.slc0 id h1 h2⟩
theorem ycu (a b c:Nat):z7c Try.prog 25 [.agg [.slc a,.slc b,.slc c]] (.agg [.slc a,.slc b]):=by
 refine⟨⟨_,Try.func25,by kernel_rfl,by kernel_rfl⟩,fun W I g n argv hI hl ha=>?_⟩
 obtain⟨v,rfl⟩:∃v,argv=[v]:=by
  match argv,hl with
  |[v],_=>exact⟨v,rfl⟩
 obtain⟨vs,rfl,h1,h2⟩:=RV.agg_inv (ha 0 _ _ rfl rfl)
 obtain⟨x,y,z,rfl⟩:∃x y z,vs=[x,y,z]:=by
  match vs,h1 with
  |[x,y,z],_=>exact⟨x,y,z,rfl⟩
 obtain⟨⟨a1,l1,c1,rfl⟩,k1⟩:=ydo (h2 0 _ _ rfl rfl)
 obtain⟨⟨a2,l2,c2,rfl⟩,k2⟩:=ydo (h2 1 _ _ rfl rfl)
 obtain⟨⟨a3,l3,c3,rfl⟩,_⟩:=ydo (h2 2 _ _ rfl rfl)
 refine(ydh a1 a2 a3 l1 l2 l3 c1 c2 c3 W).mono fun e w'=>?_
 rintro⟨rfl,hg⟩
 refine⟨_,rfl,hg,?_⟩
 refine .agg _ [.slice a1 l1 c1,.slice a2 l2 c2] rfl fun i p q hp hq=>?_
 match i with
 |0=>cases hp;cases hq;exact k1 w'
 |1=>cases hp;cases hq;exact k2 w'
 |i+2=>cases hp
theorem ycp (a b:Nat):z7c Try.prog 76 [.agg [.slc a,.slc b]] (.agg [.slc a,.slc b,.nil]):=by
 refine⟨⟨_,Try.func76,by kernel_rfl,by kernel_rfl⟩,fun W I g n argv hI hl ha=>?_⟩
 obtain⟨v,rfl⟩:∃v,argv=[v]:=by
  match argv,hl with
  |[v],_=>exact⟨v,rfl⟩
 obtain⟨vs,rfl,h1,h2⟩:=RV.agg_inv (ha 0 _ _ rfl rfl)
 obtain⟨x,y,rfl⟩:∃x y,vs=[x,y]:=by
  match vs,h1 with
  |[x,y],_=>exact⟨x,y,rfl⟩
 obtain⟨⟨a1,l1,c1,rfl⟩,k1⟩:=ydo (h2 0 _ _ rfl rfl)
 obtain⟨⟨a2,l2,c2,rfl⟩,k2⟩:=ydo (h2 1 _ _ rfl rfl)
 refine(ydi a1 a2 l1 l2 c1 c2 W).mono fun e w'=>?_
 rintro⟨rfl,hg⟩
 refine⟨_,rfl,hg,?_⟩
 refine .agg _ [.slice a1 l1 c1,.slice a2 l2 c2,.slice none 0 0] rfl fun i p q hp hq=>?_
 match i with
 |0=>cases hp;cases hq;exact k1 w'
 |1=>cases hp;cases hq;exact k2 w'
 |2=>cases hp;cases hq;exact .nil
 |i+3=>cases hp
theorem ydk (xs:List Pr) (hl:xs.length≤4294967296):zr Try.prog 43 0 [.c (.prs xs)] [] 2 (.agg [.slc 0,.nil,.slc 1]) [(0,.arr (.nums .i64 (xs.map Pr.key))),(1,.arr (.nums .i64 (xs.map Pr.value)))]:=by
 refine spi (fn:=Try.f43) _ ?_
 conv=>whnf
 repeat' first|(refine z8 (zko xs hl) rfl ?_;conv=>whnf)|(refine z8 (zr8 xs hl) rfl ?_;conv=>whnf)
 exact(zu [] [1,2])
theorem ycz (p:Pg) (hk:p.kids.length=p.keys.length+1) (h1:1≤p.keys.length) (hl:p.keys.length≤1000):zr Try.prog 103 0 [inV p] [] 4 (.tup [.agg [.slc 0,.slc 1],.c (.int .i64 (p.keys.getD (p.keys.length / 2) 0)),.agg [.slc 2,.slc 3]])
  [(0,.arr (.nums .i64 (p.keys.take (p.keys.length / 2)))),(1,.arr (.nums .i64 (p.kids.take (p.keys.length / 2+1)))),(2,.arr (.nums .i64 (p.keys.drop (p.keys.length / 2+1)))),(3,.arr (.nums .i64 (p.kids.drop (p.keys.length / 2+1))))]:=by
 obtain⟨ks,cs,vs⟩:=p
 dsimp only[inV]at *
 have hd:(ks.length:Int).tdiv 2=(ks.length:Int) / 2:=Int.tdiv_eq_ediv_of_nonneg (by omega)
 refine spi (fn:=Try.f103) _ ?_
 conv=>whnf
 repeat' first
  |(refine za (by kernel_rfl) ?_;conv=>whnf)
  |(refine za (by(try simp only[wA,wL])<;>omega) ?_;conv=>whnf)
  |(refine zg (by(try simp only[wA,wL])<;>omega) (by(try simp only[wA,wL])<;>omega) ?_;conv=>whnf)
  |(refine zar (zvt _ (by first|(rw[w7];omega)|(rw[w8];omega))) rfl rfl ?_;conv=>whnf)
  |(refine ze ?_;conv=>whnf)
 exact(zu [] [7,13,108,114])
theorem ydm (p:Pg) (place:Nat) (h0:1≤place) (h1:place≤p.keys.length) (hk:p.kids.length=p.keys.length+1) (hl:p.keys.length≤1000) :
  zr Try.prog 77 0 [inV p,.c (.int .i64 place)] [] 2 (.agg [.slc 0,.slc 1]) [(0,.arr (.nums .i64 (zf9 p place).keys)),(1,.arr (.nums .i64 (zf9 p place).kids))]:=by
 have hck:=zvt p.keys (by omega)
 have hcc:=zvt p.kids (by omega)
 have hik:=z8p p.keys (place-1) ((place:Int)-1) place (by omega) (by omega) (by omega)
 have hic:=z8p p.kids place place ((place:Int)+1) rfl rfl (by omega)
 rw[show place-1+1=place by omega]at hik
 unfold zf9
 dsimp only
 generalize p.keys.take (place-1)++p.keys.drop place=K2 at *
 generalize p.kids.take place++p.kids.drop (place+1)=C2 at *
 obtain⟨ks,cs,vs⟩:=p
 dsimp only[inV]at *
 refine spi (fn:=Try.f77) _ ?_
 conv=>whnf
 repeat' first
  |(refine za (by kernel_rfl) ?_;conv=>whnf)
  |(refine zg (by(try simp only[wA,wL])<;>omega) (by(try simp only[wA,wL])<;>omega) ?_;conv=>whnf)
  |(refine zar (hck) rfl rfl ?_;conv=>whnf)
  |(refine zar (hcc) rfl rfl ?_;conv=>whnf)
  |(refine z7v 4 hik rfl rfl rfl rfl ?_;conv=>whnf)
  |(refine z7v 11 hic rfl rfl rfl rfl ?_;conv=>whnf)
  |(refine ze ?_;conv=>whnf)
 exact(zu [] [8,15])
theorem ydl (p q:Pg) (key:Int) (hl:p.keys.length+q.keys.length≤1000) (hl2:p.kids.length+q.kids.length≤1000) :
  zr Try.prog 102 0 [inV p,.c (.int .i64 key),inV q] [] 2 (.agg [.slc 0,.slc 1]) [(0,.arr (.nums .i64 (p.keys++key::q.keys))),(1,.arr (.nums .i64 (p.kids++q.kids)))]:=by
 have h1:=yaz p.keys [key] q.keys (by simp;omega)
 have h2:=ybj p.kids q.kids (by omega)
 rw[show p.keys++([key]++q.keys)=p.keys++key::q.keys from rfl]at h1
 obtain⟨ks,cs,vs⟩:=p
 obtain⟨ks2,cs2,vs2⟩:=q
 dsimp only[inV]at *
 generalize ks++key::ks2=K2 at *
 generalize cs++cs2=C2 at *
 refine spi (fn:=Try.f102) _ ?_
 conv=>whnf
 repeat' first
  |(refine za (by kernel_rfl) ?_;conv=>whnf)
  |(refine zar (h1) rfl rfl ?_;conv=>whnf)
  |(refine zar (h2) rfl rfl ?_;conv=>whnf)
  |(refine zo ?_;conv=>whnf)
  |(refine ze ?_;conv=>whnf)
 exact(zu [] [10,16])
theorem z71 (xs:List Pr) (key:Int) (hl:xs.length≤1000) (hv:za2 (xs.map Pr.key)=true) (hm:key∈xs.map Pr.key):zr Try.prog 70 0 [.c (.prs xs),.c (.int .i64 key)] [] 1 (.tup [.slc 0,.tt]) [(0,.arr (.prs (zbq xs key)))]:=by
 have hp:=zto xs key (by omega) hv
 have hc:=z6i xs (by omega)
 obtain⟨e1,e2,e3⟩:=zs7 hm (zde.1 hv).1
 rw[List.contains_iff_mem.2 hm]at hp
 have hd:=yas xs (belF (xs.map Pr.key) key) (belF (xs.map Pr.key) key) ((belF (xs.map Pr.key) key:Int)+1) rfl rfl e2
 rw[e1]at hd
 clear e1 e3
 generalize belF (xs.map Pr.key) key=B at *
 generalize zbq xs key=D at *
 refine spi (fn:=Try.f70) _ ?_
 conv=>whnf
 repeat' first
  |(refine zm ?_ ?_;(focus (first|rfl|exact bne_self_eq_false _));conv=>whnf)
  |(refine zg (by(try simp only[wA,wL])<;>omega) (by(try simp only[wA,wL])<;>omega) ?_;conv=>whnf)
  |(refine zp (hp) rfl rfl ?_;conv=>whnf)
  |(refine z8 (hc) rfl ?_;conv=>whnf)
  |(refine zal [] [0] (hd) ⟨rfl,rfl,rfl,(by repeat first|exact trivial|refine⟨rfl,?_⟩),⟨rfl,rfl,rfl,rfl,rfl,rfl⟩,?_⟩;conv=>whnf)
 exact(zu [] [0])
theorem z7l (xs:List Pr) (key:Int) (hl:xs.length≤1000) (hv:za2 (xs.map Pr.key)=true) (hm:key∉xs.map Pr.key):zr Try.prog 70 0 [.c (.prs xs),.c (.int .i64 key)] [] 1 (.tup [.slc 0,.ff]) [(0,.arr (.prs xs))]:=by
 have hp:=zto xs key (by omega) hv
 have hc:=z6i xs (by omega)
 rw[show(xs.map Pr.key).contains key=false by rw[Bool.eq_false_iff];exact fun q=>hm (List.contains_iff_mem.1 q)]at hp
 generalize belF (xs.map Pr.key) key=B at *
 refine spi (fn:=Try.f70) _ ?_
 conv=>whnf
 repeat' first
  |(refine zn ?_ ?_;(focus (first|rfl|exact beq_self_eq_true _));conv=>whnf)
  |(refine zp (hp) rfl rfl ?_;conv=>whnf)
  |(refine z8 (hc) rfl ?_;conv=>whnf)
 exact(zu [] [0])
theorem yco (xs:List Pr) (key:Int) (hl:xs.length≤1000) (hv:zdb xs=true) (hm:key∈xs.map Pr.key):zr Try.prog 41 0 [.c (.prs xs),.c (.int .i64 key)] [] 1 (.tup [.slc 0,.tt]) [(0,.arr (.prs (zbq xs key)))]:=by
 have hvr:=zw7 xs (by omega)
 rw[hv]at hvr
 have hrk:=(zln.1 hv).1
 have h:=z71 xs key hl (zde.2 ⟨hrk.asc,fun k hk=>by obtain⟨y,hy,rfl⟩:=List.mem_map.1 hk;exact hrk.rng y hy⟩) hm
 refine spi (fn:=Try.f41) _ ?_
 conv=>whnf
 repeat' first
  |(refine zm ?_ ?_;(focus (first|rfl|exact bne_self_eq_false _));conv=>whnf)
  |(refine zp (hvr) rfl rfl ?_;conv=>whnf)
  |(refine z8 (h) rfl ?_;conv=>whnf)
 exact(zu [] [0])
theorem yci (xs:List Pr) (key:Int) (hl:xs.length≤1000) (hv:zdb xs=true) (hm:key∉xs.map Pr.key):zr Try.prog 41 0 [.c (.prs xs),.c (.int .i64 key)] [] 0 (.tup [.nil,.ff]) []:=by
 have hvr:=zw7 xs (by omega)
 rw[hv]at hvr
 have hrk:=(zln.1 hv).1
 have h:=z7l xs key hl (zde.2 ⟨hrk.asc,fun k hk=>by obtain⟨y,hy,rfl⟩:=List.mem_map.1 hk;exact hrk.rng y hy⟩) hm
 refine spi (fn:=Try.f41) _ ?_
 conv=>whnf
 repeat' first
  |(refine zm ?_ ?_;(focus (first|rfl|exact bne_self_eq_false _));conv=>whnf)
  |(refine zp (hvr) rfl rfl ?_;conv=>whnf)
  |(refine z8 (h) rfl ?_;conv=>whnf)
 exact(zu [] [])
theorem yct (root:Int) (ps:List Pg) (hp:pB ps) (hl:ps.length≤1000):zr Try.prog 38 0 [trV root ps] [] 1 (.agg [.c (.int .i64 root),.slc 0]) [(0,.deep false 0 (.pgs ps) [])]:=by
 refine spi (fn:=Try.f38) _ ?_
 conv=>whnf
 repeat' first
  |(refine za (by kernel_rfl) ?_;conv=>whnf)
  |(refine za (by(try simp only[wA,wL])<;>omega) ?_;conv=>whnf)
  |(refine zlj ?_;conv=>whnf)
  |(refine ze ?_;conv=>whnf)
 refine zd0 (fun(i:Nat) (L:List Pg)=>i≤ps.length∧L=ps.take i++List.replicate (ps.length-i) ⟨[],[],[]⟩) (fun i L=>⟨37,3,[(2,.ptr 0 0 0 0),(3,.ptr 1 0 0 0),(14,.c (.pgs ps)),(15,.c (.int .i64 ps.length)),(16,.c (.int .i64 i))],[(0,.box [.c (.int .i64 0),.nil] [] []),(1,.box [.c (.int .i64 root),.slc 2] [] []),(2,.deep false 0 (.pgs L) [])]⟩) (fun i _=>ps.length-i) 0 (List.replicate ps.length ⟨[],[],[]⟩) ⟨Nat.zero_le _,rfl⟩ (fun _ _=>Nat.zero_le _) (ydn [] [1,9,7]) (fun i L hi=>?_)
 obtain⟨hi,hL⟩:=hi
 have k1:=hp.keys i
 have k2:=hp.kids i
 have k3:=hp.vals i
 dsimp only[zb,Int.toNat_natCast]at k1 k2 k3
 have hLl:=congrArg List.length hL
 rw[List.length_append,List.length_take,List.length_replicate]at hLl
 by_cases c:i<ps.length
 ·have c1:=zvt (ps.getD i ⟨[],[],[]⟩).keys k1
  have c2:=zvt (ps.getD i ⟨[],[],[]⟩).kids k2
  have c3:=zvt (ps.getD i ⟨[],[],[]⟩).vals k3
  conv=>whnf
  repeat' first
   |(refine za (by kernel_rfl) ?_;conv=>whnf)
   |(refine zn ?_ ?_;(focus ((try simp only[qA])<;>(try simp only[wA])<;>omega));conv=>whnf)
   |(refine za (by(try simp only[wA,wL])<;>omega) ?_;conv=>whnf)
   |(refine zg (by(try simp only[wA,wL])<;>omega) (by(try simp only[wA,wL])<;>omega) ?_;conv=>whnf)
   |(refine zar (c1) rfl rfl ?_;conv=>whnf)
   |(refine zar (c2) rfl rfl ?_;conv=>whnf)
   |(refine zar (c3) rfl rfl ?_;conv=>whnf)
   |(refine ze ?_;conv=>whnf)
  have hst:L.set i (ps.getD i ⟨[],[],[]⟩)=ps.take (i+1)++List.replicate (ps.length-(i+1)) ⟨[],[],[]⟩:=by rw[hL,zog _ _ c (by rw[List.length_take];omega),zat ⟨[],[],[]⟩ c]
  refine⟨⟨(i+1,L.set i (ps.getD i ⟨[],[],[]⟩)),⟨by dsimp only;omega,hst⟩⟩,(zsg [.cl 2] [] [0,1,2] ?_),by dsimp only;omega⟩
  conv=>whnf
  exact⟨by repeat first|exact trivial|refine⟨rfl,?_⟩,⟨rfl,rfl,rfl,trivial⟩,rfl,rfl,rfl,rfl,rfl,rfl,rfl⟩
 ·rw[List.take_of_length_le (by omega),show ps.length-i=0 by omega,List.replicate_zero,List.append_nil]at hL
  subst hL
  conv=>whnf
  repeat' first|(refine zm ?_ ?_;(focus ((try simp only[qA])<;>(try simp only[wA])<;>omega));conv=>whnf)|(refine ze ?_;conv=>whnf)
  exact(zu [] [2])
end Go.VL
namespace Go.VL
open Go.Proofs
set_option maxRecDepth 10000
set_option linter.unusedSimpArgs false
set_option linter.unusedVariables false
theorem vkp {n0:Nat} {s:S} {K:S→Prop} {l:List Gh} {ks:List Nat} (h:vgh n0 l {s with env:=keepE ks s.env} K):vgh n0 (.kp ks::l) s K:=by
 show S.force {s with env:=keepE ks s.env} fun s=>vgh n0 l s K
 rw[S.force_eq]
 exact h
theorem yd3 {n0:Nat} {s:S} {K:S→Prop} {l:List Gh} {id:Nat} {p:Bool} {f:Nat} {x x':C} {i:Nat} {us:List V} (hl:zq s.hp id=some (.deep p f x [(i,us)])) (h1:zfw (zq s.hp) us=true)
  (hN:x.isNest=true) (h2:C.setEl x i (zbf (zq s.hp) us)=some x') (h3:zav (id::zad us)=true)
  (h:vgh n0 l {zeq (zad us) {s with hp:=zac s.hp id (.deep p f x' [])} with hp:=zi5 (zad us) (zeq (zad us) {s with hp:=zac s.hp id (.deep p f x' [])}).hp} K):vgh n0 (.cl id::l) s K:=by
 unfold vgh ydt
 simp only[hl,h1,hN,h2,h3]
 unfold zfp
 rw[S.force_eq]
 exact h
theorem ydr {n0:Nat} {s:S} {K:S→Prop} {l:List Gh} {id:Nat} {p:Bool} {f:Nat} {x x':C} {i j:Nat} {us vs:List V} (hl:zq s.hp id=some (.deep p f x [(i,us),(j,vs)])) (h1:zfw (zq s.hp) us=true)
  (hN:x.isNest=true) (h2:C.setEl x i (zbf (zq s.hp) us)=some x') (h3:zav (id::zad us)=true) (hne:i≠j)
  (h:vgh n0 l {zeq (zad us) {s with hp:=zac s.hp id (.deep p f x' [(j,vs)])} with hp:=zi5 (zad us) (zeq (zad us) {s with hp:=zac s.hp id (.deep p f x' [(j,vs)])}).hp} K):vgh n0 (.cl id::l) s K:=by
 unfold vgh ydt
 simp only[hl,h1,hN,h2,h3]
 unfold zfp
 refine zj hne ?_
 unfold zfp
 rw[S.force_eq]
 exact h
theorem yd2 {n0:Nat} {s:S} {K:S→Prop} {l:List Gh} {id:Nat} {p:Bool} {f:Nat} {x:C} {i:Nat} (hl:zq s.hp id=some (.deep p f x [])) (h1:f≤i∧i<x.len)
  (h:vgh n0 l {s with nx:=s.nx+x.stride,hp:=zc6 s.nx (x.row i)++zac s.hp id (.deep p f x [(i,zb5 s.nx (x.row i))])} K):vgh n0 (.op id i::l) s K:=by
 unfold vgh ydt
 simp only[hl]
 refine za h1 ?_
 unfold zfp
 rw[S.force_eq]
 exact h
theorem yds {n0:Nat} {s:S} {K:S→Prop} {l:List Gh} {id:Nat} {p:Bool} {f:Nat} {x:C} {i j:Nat} {vs:List V} (hl:zq s.hp id=some (.deep p f x [(j,vs)])) (h1:f≤i∧i<x.len) (hne:i≠j)
  (h:vgh n0 l {s with nx:=s.nx+x.stride,hp:=zc6 s.nx (x.row i)++zac s.hp id (.deep p f x [(j,vs),(i,zb5 s.nx (x.row i))])} K):vgh n0 (.op id i::l) s K:=by
 unfold vgh ydt
 simp only[hl]
 refine za h1 ?_
 unfold zfp
 refine zj hne ?_
 unfold zfp
 rw[S.force_eq]
 exact h
theorem ydv {p:Bool} {f:Nat} {x:C} {ti:TI} {i j k m:Nat} {v:V} {us vs:List V} {K:O→Prop} (hk:i≠k) (hm:i=m) (c1:zhr v.cells=true) (c2:Nat.beq v.cells.length ti.size=true) (c3:zhg x v.cells=true) (c4:Nat.ble (j+ti.size) vs.length=true)
  (h:K (.deep p f x [(k,us),(m,zbj vs j v.cells)])):zgc p f x [(k,us),(m,vs)] ti i j v K:=by
 unfold zgc zfp
 refine zj hk ?_
 unfold zfp
 refine zl hm ?_
 simp only[c1,c2,c3,c4]
 exact h
abbrev mdH (qs:List Pg) (gone:List Bool) (j:Int):List (Nat×O):=[(0,.box [.slc 1] gone [.c (.int .i64 j)]),(1,.deep true 0 (.pgs qs) [])]
abbrev mdU (qs:List Pg) (u:Nat) (gone:List Bool) (j:Int) (p:Pg):List (Nat×O):=[(0,.box [.slc 1] gone [.c (.int .i64 j)]),(1,.deep true 0 (.pgs qs) [(u,[.slc 2,.slc 3,.slc 4])]),(2,.arr (.nums .i64 p.keys)),(3,.arr (.nums .i64 p.kids)),(4,.arr (.nums .i64 p.vals))]
theorem ydy (l:List Pg) (w:Nat):l.set w ⟨(l.getD w ⟨[],[],[]⟩).keys,(l.getD w ⟨[],[],[]⟩).kids,(l.getD w ⟨[],[],[]⟩).vals⟩=l:=by
 by_cases c:w<l.length
 ·rw[List.getD_eq_getElem?_getD,List.getElem?_eq_getElem c]
  exact List.set_getElem_self c
 ·exact List.set_eq_of_length_le (by omega)
theorem ydw {l:List Pg} {a b:Nat} (L:Pg) (h:b≠a):(l.set a L).getD b ⟨[],[],[]⟩=l.getD b ⟨[],[],[]⟩:=by
 rw[List.getD_eq_getElem?_getD,List.getD_eq_getElem?_getD,List.getElem?_set_ne (fun q=>h q.symm)]
theorem ydu {l:List Pg} {a b:Nat} (L:Pg) (h:b≠a):(l.set a L).set b ⟨(l.getD b ⟨[],[],[]⟩).keys,(l.getD b ⟨[],[],[]⟩).kids,(l.getD b ⟨[],[],[]⟩).vals⟩=l.set a L:=by
 rw[←ydw L h];exact ydy _ _
set_option maxHeartbeats 4000000 in
theorem ydx (qs:List Pg) (gone:List Bool) (j:Int) (a b:Nat) (hp:pB qs) (a1:a<qs.length) (b1:b<qs.length) (hne:b≠a) (ka:(qs.getD a ⟨[],[],[]⟩).keys.length≤100) (kb:(qs.getD b ⟨[],[],[]⟩).keys.length≤100)
  (va:(qs.getD a ⟨[],[],[]⟩).vals.length=(qs.getD a ⟨[],[],[]⟩).keys.length) (vb:(qs.getD b ⟨[],[],[]⟩).vals.length=(qs.getD b ⟨[],[],[]⟩).keys.length) (row:List Pr) (hrow:zab (qs.getD a ⟨[],[],[]⟩)++zab (qs.getD b ⟨[],[],[]⟩)=row) (h4:row.length≤4) :
  zr Try.prog 74 2 [.ptr 0 0 0 0,.c (.int .i64 a),.c (.int .i64 b)] (mdH qs gone j) 2 (.tup [.tt,.c (.int .i64 0)]) (mdH (qs.set a (zae row)) gone j):=by
 have hpa:=zmb (qs.getD a ⟨[],[],[]⟩) va (by omega)
 have hpb:=zmb (qs.getD b ⟨[],[],[]⟩) vb (by omega)
 have la:=zby _ va
 have lb:=zby _ vb
 have hcc:=ydg (zab (qs.getD a ⟨[],[],[]⟩)) (zab (qs.getD b ⟨[],[],[]⟩)) (by omega)
 rw[hrow]at hcc
 have hll:row.length≤200:=by rw[←hrow,List.length_append];omega
 generalize zab (qs.getD a ⟨[],[],[]⟩)=ra at *
 generalize zab (qs.getD b ⟨[],[],[]⟩)=rb at *
 have hlo:=ydk row (by omega)
 refine spi (fn:=Try.f74) _ ?_
 conv=>whnf
 refine ze9 [.kp [0,1,2],.op 1 a] ?_
 conv=>whnf
 refine za ⟨by omega,a1⟩ ?_
 conv=>whnf
 conv=>arg 2;dsimp only[Nat.reduceAdd,C.stride]
 refine ze9 [.op 1 b] (yds rfl ⟨Nat.zero_le _,b1⟩ hne ?_)
 conv=>whnf
 repeat' first
  |(refine za (by kernel_rfl) ?_;conv=>whnf)
  |(refine za (by(try simp only[wA,wN,wL])<;>omega) ?_;conv=>whnf)
  |(refine yc9 (hpa) rfl rfl rfl ?_;conv=>whnf)
  |(refine yc9 (hpb) rfl rfl rfl ?_;conv=>whnf)
  |(refine zw ((zdn hcc rfl)) rfl rfl ?_;conv=>whnf)
  |(refine zj (by omega) ?_;conv=>whnf)
  |(refine zl (by first|rfl|omega) ?_;conv=>whnf)
 conv=>arg 2;dsimp only[Nat.reduceAdd,C.stride]
 refine ze9 [.kp [0,1,2,6,7,8]] ?_
 conv=>whnf
 repeat' first
  |(refine za (by kernel_rfl) ?_;conv=>whnf)
  |(refine zn ?_ ?_;(focus ((try simp only[qA])<;>(try simp only[wA])<;>omega));conv=>whnf)
  |(refine za (by(try simp only[wA,wL])<;>omega) ?_;conv=>whnf)
  |((refine ze9 [.cl 1,.cl 1] (ydr rfl rfl rfl rfl rfl (fun q=>hne q.symm) ?_);(conv=>whnf);refine z45 ?_);conv=>whnf)
  |(refine zlg [.arr (.nums .i64 (row.map Pr.key)),.arr (.nums .i64 (row.map Pr.value))] (hlo) rfl rfl rfl rfl rfl rfl rfl ?_;conv=>whnf)
  |(refine zl (by first|rfl|omega) ?_;conv=>whnf)
  |(refine ze ?_;conv=>whnf)
 refine zbg [] [0,1] ⟨rfl,⟨rfl,congrArg (fun z=>some (O.deep true 0 (C.pgs z) [])) ?_,trivial⟩,rfl,rfl,rfl,rfl,rfl,rfl⟩
 exact ydu _ hne
set_option maxHeartbeats 4000000 in
theorem yd0 (qs:List Pg) (gone:List Bool) (j:Int) (a b:Nat) (hp:pB qs) (a1:a<qs.length) (b1:b<qs.length) (hne:b≠a) (ka:(qs.getD a ⟨[],[],[]⟩).keys.length≤100) (kb:(qs.getD b ⟨[],[],[]⟩).keys.length≤100)
  (va:(qs.getD a ⟨[],[],[]⟩).vals.length=(qs.getD a ⟨[],[],[]⟩).keys.length) (vb:(qs.getD b ⟨[],[],[]⟩).vals.length=(qs.getD b ⟨[],[],[]⟩).keys.length) (row:List Pr) (hrow:zab (qs.getD a ⟨[],[],[]⟩)++zab (qs.getD b ⟨[],[],[]⟩)=row) (h4:¬row.length≤4) (hv:zdb row=true) :
  zr Try.prog 74 2 [.ptr 0 0 0 0,.c (.int .i64 a),.c (.int .i64 b)] (mdH qs gone j) 2 (.tup [.ff,.c (.int .i64 (row.getD ((row.length+1) / 2) ⟨0,0⟩).key)]) (mdH ((qs.set a (zae (row.take ((row.length+1) / 2)))).set b (zae (row.drop ((row.length+1) / 2)))) gone j):=by
 have hpa:=zmb (qs.getD a ⟨[],[],[]⟩) va (by omega)
 have hpb:=zmb (qs.getD b ⟨[],[],[]⟩) vb (by omega)
 have la:=zby _ va
 have lb:=zby _ vb
 have hcc:=ydg (zab (qs.getD a ⟨[],[],[]⟩)) (zab (qs.getD b ⟨[],[],[]⟩)) (by omega)
 rw[hrow]at hcc
 have hll:row.length≤200:=by rw[←hrow,List.length_append];omega
 generalize zab (qs.getD a ⟨[],[],[]⟩)=ra at *
 generalize zab (qs.getD b ⟨[],[],[]⟩)=rb at *
 have hsr:=z81 row (by omega) hv
 have hla:=ydk (row.take ((row.length+1) / 2)) (by rw[List.length_take];omega)
 have hlb:=ydk (row.drop ((row.length+1) / 2)) (by rw[List.length_drop];omega)
 have hbl:0<(row.drop ((row.length+1) / 2)).length:=by rw[List.length_drop];omega
 rw[←zw5]
 generalize row.take ((row.length+1) / 2)=A at *
 generalize row.drop ((row.length+1) / 2)=B at *
 refine spi (fn:=Try.f74) _ ?_
 conv=>whnf
 refine ze9 [.kp [0,1,2],.op 1 a] ?_
 conv=>whnf
 refine za ⟨by omega,a1⟩ ?_
 conv=>whnf
 conv=>arg 2;dsimp only[Nat.reduceAdd,C.stride]
 refine ze9 [.op 1 b] (yds rfl ⟨Nat.zero_le _,b1⟩ hne ?_)
 conv=>whnf
 repeat' first
  |(refine za (by kernel_rfl) ?_;conv=>whnf)
  |(refine za (by(try simp only[wA,wN,wL])<;>omega) ?_;conv=>whnf)
  |(refine yc9 (hpa) rfl rfl rfl ?_;conv=>whnf)
  |(refine yc9 (hpb) rfl rfl rfl ?_;conv=>whnf)
  |(refine zw ((zdn hcc rfl)) rfl rfl ?_;conv=>whnf)
  |(refine zj (by omega) ?_;conv=>whnf)
  |(refine zl (by first|rfl|omega) ?_;conv=>whnf)
 conv=>arg 2;dsimp only[Nat.reduceAdd,C.stride]
 refine ze9 [.kp [0,1,2,6,7,8]] ?_
 conv=>whnf
 repeat' first
  |(refine za (by kernel_rfl) ?_;conv=>whnf)
  |(refine zm ?_ ?_;(focus ((try simp only[qA])<;>(try simp only[wA])<;>omega));conv=>whnf)
  |(refine za (by(try simp only[wA,wL])<;>omega) ?_;conv=>whnf)
  |((refine ze9 [.cl 1,.cl 1] (ydr rfl rfl rfl rfl rfl (fun q=>hne q.symm) ?_);(conv=>whnf);refine z45 ?_);conv=>whnf)
  |(refine zp (hsr) rfl rfl ?_;conv=>whnf)
  |(refine zlg [.arr (.nums .i64 (A.map Pr.key)),.arr (.nums .i64 (A.map Pr.value))] (hla) rfl rfl rfl rfl rfl rfl rfl ?_;conv=>whnf)
  |(refine zlg [.arr (.nums .i64 (B.map Pr.key)),.arr (.nums .i64 (B.map Pr.value))] (hlb) rfl rfl rfl rfl rfl rfl rfl ?_;conv=>whnf)
  |(refine zj (by omega) ?_;conv=>whnf)
  |(refine zl (by first|rfl|omega) ?_;conv=>whnf)
  |(refine ze ?_;conv=>whnf)
 exact(zu [] [0,1])
set_option maxHeartbeats 4000000 in
theorem yd1 (gone:List Bool) (j:Int) (a b:Nat) (k:Int) (qs:List Pg) (u:Nat) (u1:u<qs.length) (hua:u≠a) (hub:u≠b)  (a1:a<qs.length) (b1:b<qs.length) (hne:b≠a) (ka:(qs.getD a ⟨[],[],[]⟩).keys.length≤100) (kb:(qs.getD b ⟨[],[],[]⟩).keys.length≤100)
  (la:(qs.getD a ⟨[],[],[]⟩).kids.length=(qs.getD a ⟨[],[],[]⟩).keys.length+1) (lb:(qs.getD b ⟨[],[],[]⟩).kids.length=(qs.getD b ⟨[],[],[]⟩).keys.length+1) (K D:List Int) (hK:(qs.getD a ⟨[],[],[]⟩).keys++k::(qs.getD b ⟨[],[],[]⟩).keys=K) (hC:(qs.getD a ⟨[],[],[]⟩).kids++(qs.getD b ⟨[],[],[]⟩).kids=D) (h4:K.length≤4) :
  zr Try.prog 75 5 [.ptr 0 0 0 0,.c (.int .i64 a),.c (.int .i64 k),.c (.int .i64 b)] (mdU qs u gone j (qs.getD u ⟨[],[],[]⟩)) 5 (.tup [.tt,.c (.int .i64 0)]) (mdU (qs.set a ⟨K,D,[]⟩) u gone j ((qs.set a ⟨K,D,[]⟩).getD u ⟨[],[],[]⟩)):=by
 have hbo:=ydl (qs.getD a ⟨[],[],[]⟩) (qs.getD b ⟨[],[],[]⟩) k (by omega) (by omega)
 rw[hK,hC]at hbo
 have hKl:K.length≤300∧1≤K.length:=by rw[←hK,List.length_append,List.length_cons];omega
 have hCl:D.length=K.length+1:=by rw[←hK,←hC,List.length_append,List.length_append,List.length_cons];omega
 clear hK hC
 refine spi (fn:=Try.f75) _ ?_
 conv=>whnf
 refine ze9 [.kp [0,1,2,3],.cl 1] ?_
 conv=>whnf
 conv=>arg 2;simp only[ydy,Nat.reduceAdd,C.stride]
 refine ze9 [.op 1 a,.op 1 b] (yd2 rfl ⟨Nat.zero_le _,a1⟩ (yds rfl ⟨Nat.zero_le _,b1⟩ hne ?_))
 conv=>whnf
 repeat' first
  |(refine za (by kernel_rfl) ?_;conv=>whnf)
  |(refine za (by(try simp only[wA,wN,wL])<;>omega) ?_;conv=>whnf)
  |(refine ydq (ycu _ _ _) ?_;conv=>whnf)
  |(refine zlg [.arr (.nums .i64 K),.arr (.nums .i64 D)] (hbo) rfl rfl rfl rfl rfl rfl rfl ?_;conv=>whnf)
  |(refine zj (by omega) ?_;conv=>whnf)
  |(refine zl (by first|rfl|omega) ?_;conv=>whnf)
 conv=>arg 2;dsimp only[Nat.reduceAdd,C.stride]
 refine ze9 [.kp [0,1,2,3,8,9,10]] ?_
 conv=>whnf
 repeat' (refine zn ?_ ?_;(focus ((try simp only[qA])<;>(try simp only[wA])<;>omega));conv=>whnf)
 refine ze ?_
 conv=>whnf
 repeat' first
  |(refine za (by kernel_rfl) ?_;conv=>whnf)
  |(refine za (by(try simp only[wA,wL])<;>omega) ?_;conv=>whnf)
  |(refine ydq (ycp _ _) ?_;conv=>whnf)
  |(refine zl (by first|rfl|omega) ?_;conv=>whnf)
 conv=>arg 2;dsimp only[Nat.reduceAdd,C.stride]
 refine ze9 [.cl 1,.cl 1,.op 1 u] (ydr rfl rfl rfl rfl rfl (fun q=>hne q.symm) (yd3 rfl rfl rfl rfl rfl (yd2 (x:=.pgs (qs.set a ⟨K,D,[]⟩)) (congrArg (fun z=>some (O.deep true 0 (C.pgs z) [])) (ydu _ hne)) ⟨Nat.zero_le _,by show u<(qs.set a _).length;rw[List.length_set];exact u1⟩ ?_)))
 conv=>whnf
 repeat' (refine ze ?_;conv=>whnf)
 exact(zu [] [0,1,211,212,213])
set_option maxHeartbeats 4000000 in
theorem ydz (gone:List Bool) (j:Int) (a b:Nat) (k:Int) (qs:List Pg) (u:Nat) (u1:u<qs.length) (hua:u≠a) (hub:u≠b)  (a1:a<qs.length) (b1:b<qs.length) (hne:b≠a) (ka:(qs.getD a ⟨[],[],[]⟩).keys.length≤100) (kb:(qs.getD b ⟨[],[],[]⟩).keys.length≤100)
  (la:(qs.getD a ⟨[],[],[]⟩).kids.length=(qs.getD a ⟨[],[],[]⟩).keys.length+1) (lb:(qs.getD b ⟨[],[],[]⟩).kids.length=(qs.getD b ⟨[],[],[]⟩).keys.length+1) (K D:List Int) (hK:(qs.getD a ⟨[],[],[]⟩).keys++k::(qs.getD b ⟨[],[],[]⟩).keys=K) (hC:(qs.getD a ⟨[],[],[]⟩).kids++(qs.getD b ⟨[],[],[]⟩).kids=D) (h4:¬K.length≤4) :
  zr Try.prog 75 5 [.ptr 0 0 0 0,.c (.int .i64 a),.c (.int .i64 k),.c (.int .i64 b)] (mdU qs u gone j (qs.getD u ⟨[],[],[]⟩)) 5 (.tup [.ff,.c (.int .i64 (K.getD (K.length / 2) 0))]) (mdU ((qs.set a ⟨K.take (K.length / 2),D.take (K.length / 2+1),[]⟩).set b ⟨K.drop (K.length / 2+1),D.drop (K.length / 2+1),[]⟩) u gone j (((qs.set a ⟨K.take (K.length / 2),D.take (K.length / 2+1),[]⟩).set b ⟨K.drop (K.length / 2+1),D.drop (K.length / 2+1),[]⟩).getD u ⟨[],[],[]⟩)):=by
 have hbo:=ydl (qs.getD a ⟨[],[],[]⟩) (qs.getD b ⟨[],[],[]⟩) k (by omega) (by omega)
 rw[hK,hC]at hbo
 have hKl:K.length≤300∧1≤K.length:=by rw[←hK,List.length_append,List.length_cons];omega
 have hCl:D.length=K.length+1:=by rw[←hK,←hC,List.length_append,List.length_append,List.length_cons];omega
 clear hK hC
 have hhv:=ycz ⟨K,D,[]⟩ hCl hKl.2 (by dsimp only;omega)
 dsimp only at hhv
 refine spi (fn:=Try.f75) _ ?_
 conv=>whnf
 refine ze9 [.kp [0,1,2,3],.cl 1] ?_
 conv=>whnf
 conv=>arg 2;simp only[ydy,Nat.reduceAdd,C.stride]
 refine ze9 [.op 1 a,.op 1 b] (yd2 rfl ⟨Nat.zero_le _,a1⟩ (yds rfl ⟨Nat.zero_le _,b1⟩ hne ?_))
 conv=>whnf
 repeat' first
  |(refine za (by kernel_rfl) ?_;conv=>whnf)
  |(refine za (by(try simp only[wA,wN,wL])<;>omega) ?_;conv=>whnf)
  |(refine ydq (ycu _ _ _) ?_;conv=>whnf)
  |(refine zlg [.arr (.nums .i64 K),.arr (.nums .i64 D)] (hbo) rfl rfl rfl rfl rfl rfl rfl ?_;conv=>whnf)
  |(refine zj (by omega) ?_;conv=>whnf)
  |(refine zl (by first|rfl|omega) ?_;conv=>whnf)
 conv=>arg 2;dsimp only[Nat.reduceAdd,C.stride]
 refine ze9 [.kp [0,1,2,3,8,9,10]] ?_
 conv=>whnf
 repeat' (refine zm ?_ ?_;(focus ((try simp only[qA])<;>(try simp only[wA])<;>omega));conv=>whnf)
 refine ze ?_
 conv=>whnf
 repeat' (refine zbe (hhv) rfl rfl rfl rfl ?_;conv=>whnf)
 conv=>arg 2;dsimp only[Nat.reduceAdd,C.stride]
 refine ze9 [.kp [0,1,2,3,8,9,11,12,13]] ?_
 conv=>whnf
 repeat' first
  |(refine za (by kernel_rfl) ?_;conv=>whnf)
  |(refine za (by(try simp only[wA,wL])<;>omega) ?_;conv=>whnf)
  |(refine ydq (ycp _ _) ?_;conv=>whnf)
  |(refine zl (by first|rfl|omega) ?_;conv=>whnf)
 conv=>arg 2;dsimp only[Nat.reduceAdd,C.stride]
 refine ze ?_
 conv=>whnf
 skip
 refine ydq (ycp _ _) ?_
 conv=>whnf
 refine za (by(try simp only[wA,wN,wL])<;>omega) ?_
 conv=>whnf
 refine za (by(try simp only[wA,wN,wL])<;>omega) ?_
 refine ydv (by omega) (by omega) rfl rfl rfl rfl ?_
 conv=>whnf
 repeat' (refine za (by kernel_rfl) ?_;conv=>whnf)
 conv=>arg 2;dsimp only[Nat.reduceAdd,C.stride]
 refine ze9 [.cl 1,.cl 1,.op 1 u] (ydr rfl rfl rfl rfl rfl (fun q=>hne q.symm) (yd3 rfl rfl rfl rfl rfl (yd2 rfl ⟨Nat.zero_le _,by show u<((qs.set a _).set b _).length;rw[List.length_set,List.length_set];exact u1⟩ ?_)))
 conv=>whnf
 repeat' (refine ze ?_;conv=>whnf)
 exact(zu [] [0,1,317,318,319])
end Go.VL
namespace Go.VL
open Go.Proofs
set_option maxRecDepth 10000
set_option linter.unusedSimpArgs false
set_option linter.unusedVariables false
structure MeN (qs:List Pg) (u a b f:Nat) (c:Int):Prop where
 hp:pB qs
 u1:u<qs.length
 a1:a<qs.length
 b1:b<qs.length
 b16:b<16
 hua:u≠a
 hub:u≠b
 hne:b≠a
 ha:(qs.getD u ⟨[],[],[]⟩).kids.getD f 0=a
 hb:(qs.getD u ⟨[],[],[]⟩).kids.getD (f+1) 0=b
 hkl:f<(qs.getD u ⟨[],[],[]⟩).keys.length
 hcl:(qs.getD u ⟨[],[],[]⟩).kids.length=(qs.getD u ⟨[],[],[]⟩).keys.length+1
 hk9:(qs.getD u ⟨[],[],[]⟩).keys.length≤100
 hvs:(qs.getD u ⟨[],[],[]⟩).vals=[]
 cm:c∈(qs.getD u ⟨[],[],[]⟩).kids
 hz:plN (qs.getD u ⟨[],[],[]⟩).kids c=f+1∨plN (qs.getD u ⟨[],[],[]⟩).kids c=0∧f=0
 ka:(qs.getD a ⟨[],[],[]⟩).keys.length≤100
 kb:(qs.getD b ⟨[],[],[]⟩).keys.length≤100
set_option maxHeartbeats 4000000 in
theorem yf2 (qs:List Pg) (u a b f:Nat) (c:Int) (M:MeN qs u a b f c) (g g2:Nat→Bool) (hg2:(tab g).set b true=tab g2) (j:Int) (j0:0≤j) (j1:j≤1000) (lf:(qs.getD a ⟨[],[],[]⟩).kids.length=0)
  (va:(qs.getD a ⟨[],[],[]⟩).vals.length=(qs.getD a ⟨[],[],[]⟩).keys.length) (vb:(qs.getD b ⟨[],[],[]⟩).vals.length=(qs.getD b ⟨[],[],[]⟩).keys.length) (row:List Pr) (hrow:zab (qs.getD a ⟨[],[],[]⟩)++zab (qs.getD b ⟨[],[],[]⟩)=row) (h4:row.length≤4) :
  zr Try.prog 44 2 [.ptr 0 0 0 0,.c (.int .i64 u),.c (.int .i64 c)] (mdH qs (tab g) j) 2 (.tup []) (mdH ((qs.set a (zae row)).set u (zf9 (qs.getD u ⟨[],[],[]⟩) (f+1))) (tab g2) (j+1)):=by
 obtain⟨hp,u1,a1,b1,b16,hua,hub,hne,ha,hb,hkl,hcl,hk9,hvs,cm,hz,ka,kb⟩:=M
 have hmx:(if 1>(plN (qs.getD u ⟨[],[],[]⟩).kids c:Int)then(1:Int)else plN (qs.getD u ⟨[],[],[]⟩).kids c)=(f:Int)+1:=by
  rcases hz with h|⟨h,h2⟩<;>rw[h]<;>split<;>omega
 have e1:((f:Int)+1-1).toNat=f:=by omega
 have e2:((f:Int)+1).toNat=f+1:=by omega
 have hpo:=z76 (qs.getD u ⟨[],[],[]⟩) c (by omega) cm
 have hml:=ydx qs (tab g) j a b hp a1 b1 hne ka kb va vb row hrow h4
 have eu:=ydw (l:=qs) (zae row) hua
 rw[←eu]
 have hcut:=ydm ((qs.set a (zae row)).getD u ⟨[],[],[]⟩) (f+1) (by omega) (by rw[eu];omega) (by rw[eu];exact hcl) (by rw[eu];omega)
 refine spi (fn:=Try.f44) _ ?_
 conv=>whnf
 refine ze9 [.kp [0,1,2],.op 1 u] ?_
 conv=>whnf
 refine za ⟨Nat.zero_le _,u1⟩ ?_
 conv=>whnf
 repeat' first
  |(refine za (by(try simp only[wA,wL])<;>omega) ?_;conv=>whnf)
  |(refine zbo (hpo) rfl rfl rfl ?_;conv=>whnf)
  |(refine zl (by first|rfl|omega) ?_;conv=>whnf)
 conv=>arg 2;simp only[hmx,Nat.reduceAdd,C.stride]
 refine ze9 [.kp [0,1,2,6]] ?_
 conv=>whnf
 repeat' first
  |(refine za (by kernel_rfl) ?_;conv=>whnf)
  |(refine za (by(try simp only[wA,wL])<;>omega) ?_;conv=>whnf)
  |(refine zg (by(try simp only[wA,wL])<;>omega) (by(try simp only[wA,wL])<;>omega) ?_;conv=>whnf)
  |(refine zl (by first|rfl|omega) ?_;conv=>whnf)
 conv=>arg 2;simp only[e1,e2,ha,hb,Nat.reduceAdd,C.stride]
 refine ze9 [.kp [0,1,2,6,7,8],.cl 1] ?_
 conv=>whnf
 skip
 conv=>arg 2;simp only[ydy,Nat.reduceAdd,C.stride]
 refine ze ?_
 conv=>whnf
 skip
 conv=>arg 2;simp only[ydy,Nat.reduceAdd,C.stride]
 refine ze9 [.op 1 a] (yd2 rfl ⟨Nat.zero_le _,a1⟩ ?_)
 conv=>whnf
 repeat' first
  |(refine zn ?_ ?_;(focus ((try simp only[qA])<;>(try simp only[wA])<;>omega));conv=>whnf)
  |(refine za (by(try simp only[wA,wL])<;>omega) ?_;conv=>whnf)
  |(refine zl (by first|rfl|omega) ?_;conv=>whnf)
 conv=>arg 2;simp only[ydy,Nat.reduceAdd,C.stride]
 refine ze9 [.kp [0,1,2,6,7,8,9,10],.cl 1] ?_
 refine vkp ?_
 refine yd3 (x':=.pgs qs) rfl rfl rfl (congrArg (fun z=>some (C.pgs z)) (ydy qs a)) rfl ?_
 conv=>whnf
 repeat' (refine zal [] [0,1] (hml) ⟨rfl,rfl,rfl,(by repeat first|exact trivial|refine⟨rfl,?_⟩),⟨rfl,rfl,rfl,rfl,rfl,rfl⟩,?_⟩;conv=>whnf)
 conv=>arg 2;simp only[Nat.reduceAdd,C.stride]
 refine ze ?_
 conv=>whnf
 skip
 conv=>arg 2;simp only[Nat.reduceAdd,C.stride]
 refine ze9 [.kp [0,1,2,6,7,8,9,10],.op 1 u] ?_
 refine vkp ?_
 refine yd2 rfl ⟨Nat.zero_le _,by show u<(qs.set a _).length;rw[List.length_set];exact u1⟩ ?_
 conv=>whnf
 repeat' first
  |(refine za (by kernel_rfl) ?_;conv=>whnf)
  |(refine za (by(try simp only[wA,wL])<;>omega) ?_;conv=>whnf)
  |(refine ydq (ycu _ _ _) ?_;conv=>whnf)
  |(refine zlg [.arr (.nums .i64 (zf9 ((qs.set a (zae row)).getD u ⟨[],[],[]⟩) (f+1)).keys),.arr (.nums .i64 (zf9 ((qs.set a (zae row)).getD u ⟨[],[],[]⟩) (f+1)).kids)] (hcut) rfl rfl rfl rfl rfl rfl rfl ?_;conv=>whnf)
  |(refine ydq (ycp _ _) ?_;conv=>whnf)
  |(refine zl (by first|rfl|omega) ?_;conv=>whnf)
 conv=>arg 2;simp only[Nat.reduceAdd,C.stride]
 refine ze9 [.cl 1] ?_
 conv=>whnf
 repeat' (refine za (by(try simp only[wA,wL])<;>omega) ?_;conv=>whnf)
 conv=>arg 2;simp only[Int.toNat_natCast,hg2]
 refine ze ?_
 conv=>whnf
 repeat' first|(refine zg (by(try simp only[wA,wL])<;>omega) (by(try simp only[wA,wL])<;>omega) ?_;conv=>whnf)|(refine ze ?_;conv=>whnf)
 exact(zu [] [0,1])
set_option maxHeartbeats 4000000 in
theorem yf0 (qs:List Pg) (u a b f:Nat) (c:Int) (M:MeN qs u a b f c) (g g2:Nat→Bool) (hg2:(tab g).set b true=tab g2) (j:Int) (j0:0≤j) (j1:j≤1000) (lf:(qs.getD a ⟨[],[],[]⟩).kids.length=0)
  (va:(qs.getD a ⟨[],[],[]⟩).vals.length=(qs.getD a ⟨[],[],[]⟩).keys.length) (vb:(qs.getD b ⟨[],[],[]⟩).vals.length=(qs.getD b ⟨[],[],[]⟩).keys.length) (row:List Pr) (hrow:zab (qs.getD a ⟨[],[],[]⟩)++zab (qs.getD b ⟨[],[],[]⟩)=row) (h4:¬row.length≤4) (hv:zdb row=true) (q2:List Pg) (hq2:(qs.set a (zae (row.take ((row.length+1) / 2)))).set b (zae (row.drop ((row.length+1) / 2)))=q2) :
  zr Try.prog 44 2 [.ptr 0 0 0 0,.c (.int .i64 u),.c (.int .i64 c)] (mdH qs (tab g) j) 2 (.tup []) (mdH (q2.set u ⟨(qs.getD u ⟨[],[],[]⟩).keys.set f (row.getD ((row.length+1) / 2) ⟨0,0⟩).key,(qs.getD u ⟨[],[],[]⟩).kids,(qs.getD u ⟨[],[],[]⟩).vals⟩) (tab g) j):=by
 obtain⟨hp,u1,a1,b1,b16,hua,hub,hne,ha,hb,hkl,hcl,hk9,hvs,cm,hz,ka,kb⟩:=M
 have hmx:(if 1>(plN (qs.getD u ⟨[],[],[]⟩).kids c:Int)then(1:Int)else plN (qs.getD u ⟨[],[],[]⟩).kids c)=(f:Int)+1:=by
  rcases hz with h|⟨h,h2⟩<;>rw[h]<;>split<;>omega
 have e1:((f:Int)+1-1).toNat=f:=by omega
 have e2:((f:Int)+1).toNat=f+1:=by omega
 have hpo:=z76 (qs.getD u ⟨[],[],[]⟩) c (by omega) cm
 have hml:=yd0 qs (tab g) j a b hp a1 b1 hne ka kb va vb row hrow h4 hv
 have eu:q2.getD u ⟨[],[],[]⟩=qs.getD u ⟨[],[],[]⟩:=by rw[←hq2,ydw _ hub,ydw _ hua]
 have ul:u<q2.length:=by rw[←hq2,List.length_set,List.length_set];exact u1
 rw[←eu]
 rw[hq2]at hml
 have hkl2:f<(q2.getD u ⟨[],[],[]⟩).keys.length:=by rw[eu];exact hkl
 generalize (row.getD ((row.length+1) / 2) ⟨0,0⟩).key=kx at *
 refine spi (fn:=Try.f44) _ ?_
 conv=>whnf
 refine ze9 [.kp [0,1,2],.op 1 u] ?_
 conv=>whnf
 refine za ⟨Nat.zero_le _,u1⟩ ?_
 conv=>whnf
 repeat' first
  |(refine za (by(try simp only[wA,wL])<;>omega) ?_;conv=>whnf)
  |(refine zbo (hpo) rfl rfl rfl ?_;conv=>whnf)
  |(refine zl (by first|rfl|omega) ?_;conv=>whnf)
 conv=>arg 2;simp only[hmx,Nat.reduceAdd,C.stride]
 refine ze9 [.kp [0,1,2,6]] ?_
 conv=>whnf
 repeat' first
  |(refine za (by kernel_rfl) ?_;conv=>whnf)
  |(refine za (by(try simp only[wA,wL])<;>omega) ?_;conv=>whnf)
  |(refine zg (by(try simp only[wA,wL])<;>omega) (by(try simp only[wA,wL])<;>omega) ?_;conv=>whnf)
  |(refine zl (by first|rfl|omega) ?_;conv=>whnf)
 conv=>arg 2;simp only[e1,e2,ha,hb,Nat.reduceAdd,C.stride]
 refine ze9 [.kp [0,1,2,6,7,8],.cl 1] ?_
 conv=>whnf
 skip
 conv=>arg 2;simp only[ydy,Nat.reduceAdd,C.stride]
 refine ze ?_
 conv=>whnf
 skip
 conv=>arg 2;simp only[ydy,Nat.reduceAdd,C.stride]
 refine ze9 [.op 1 a] (yd2 rfl ⟨Nat.zero_le _,a1⟩ ?_)
 conv=>whnf
 repeat' first
  |(refine zn ?_ ?_;(focus ((try simp only[qA])<;>(try simp only[wA])<;>omega));conv=>whnf)
  |(refine za (by(try simp only[wA,wL])<;>omega) ?_;conv=>whnf)
  |(refine zl (by first|rfl|omega) ?_;conv=>whnf)
 conv=>arg 2;simp only[ydy,Nat.reduceAdd,C.stride]
 refine ze9 [.kp [0,1,2,6,7,8,9,10],.cl 1] ?_
 refine vkp ?_
 refine yd3 (x':=.pgs qs) rfl rfl rfl (congrArg (fun z=>some (C.pgs z)) (ydy qs a)) rfl ?_
 conv=>whnf
 repeat' (refine zal [] [0,1] (hml) ⟨rfl,rfl,rfl,(by repeat first|exact trivial|refine⟨rfl,?_⟩),⟨rfl,rfl,rfl,rfl,rfl,rfl⟩,?_⟩;conv=>whnf)
 conv=>arg 2;simp only[Nat.reduceAdd,C.stride]
 refine ze ?_
 conv=>whnf
 skip
 conv=>arg 2;simp only[Nat.reduceAdd,C.stride]
 refine ze9 [.kp [0,1,2,6,7,8,9,10],.op 1 u] ?_
 refine vkp ?_
 refine yd2 rfl ⟨Nat.zero_le _,ul⟩ ?_
 conv=>whnf
 repeat' first
  |(refine za (by(try simp only[wA,wL])<;>omega) ?_;conv=>whnf)
  |(refine zg (by(try simp only[wA,wL])<;>omega) (by(try simp only[wA,wL])<;>omega) ?_;conv=>whnf)
  |(refine zl (by first|rfl|omega) ?_;conv=>whnf)
 conv=>arg 2;simp only[e1,Nat.reduceAdd,C.stride]
 refine ze9 [.cl 1] ?_
 conv=>whnf
 skip
 exact(zu [] [0,1])
set_option maxHeartbeats 4000000 in
theorem yf5 (qs:List Pg) (u a b f:Nat) (c:Int) (M:MeN qs u a b f c) (g g2:Nat→Bool) (hg2:(tab g).set b true=tab g2) (j:Int) (j0:0≤j) (j1:j≤1000) (lf:(qs.getD a ⟨[],[],[]⟩).kids.length≠0)
  (la:(qs.getD a ⟨[],[],[]⟩).kids.length=(qs.getD a ⟨[],[],[]⟩).keys.length+1) (lb:(qs.getD b ⟨[],[],[]⟩).kids.length=(qs.getD b ⟨[],[],[]⟩).keys.length+1) (k:Int) (hk:(qs.getD u ⟨[],[],[]⟩).keys.getD f 0=k) (K D:List Int) (hK:(qs.getD a ⟨[],[],[]⟩).keys++k::(qs.getD b ⟨[],[],[]⟩).keys=K) (hD:(qs.getD a ⟨[],[],[]⟩).kids++(qs.getD b ⟨[],[],[]⟩).kids=D) (h4:K.length≤4) :
  zr Try.prog 44 2 [.ptr 0 0 0 0,.c (.int .i64 u),.c (.int .i64 c)] (mdH qs (tab g) j) 2 (.tup []) (mdH ((qs.set a ⟨K,D,[]⟩).set u (zf9 (qs.getD u ⟨[],[],[]⟩) (f+1))) (tab g2) (j+1)):=by
 obtain⟨hp,u1,a1,b1,b16,hua,hub,hne,ha,hb,hkl,hcl,hk9,hvs,cm,hz,ka,kb⟩:=M
 have hmx:(if 1>(plN (qs.getD u ⟨[],[],[]⟩).kids c:Int)then(1:Int)else plN (qs.getD u ⟨[],[],[]⟩).kids c)=(f:Int)+1:=by
  rcases hz with h|⟨h,h2⟩<;>rw[h]<;>split<;>omega
 have e1:((f:Int)+1-1).toNat=f:=by omega
 have e2:((f:Int)+1).toNat=f+1:=by omega
 have hpo:=z76 (qs.getD u ⟨[],[],[]⟩) c (by omega) cm
 have hml:=yd1 (tab g) j a b k qs u u1 hua hub a1 b1 hne ka kb la lb K D hK hD h4
 rw[show k=(qs.getD u ⟨[],[],[]⟩).keys.getD ((f:Int)+1-1).toNat 0 by rw[e1,hk]]at hml
 have eu:=ydw (l:=qs) ⟨K,D,[]⟩ hua
 rw[←eu]
 have hcut:=ydm ((qs.set a ⟨K,D,[]⟩).getD u ⟨[],[],[]⟩) (f+1) (by omega) (by rw[eu];omega) (by rw[eu];exact hcl) (by rw[eu];omega)
 refine spi (fn:=Try.f44) _ ?_
 conv=>whnf
 refine ze9 [.kp [0,1,2],.op 1 u] ?_
 conv=>whnf
 refine za ⟨Nat.zero_le _,u1⟩ ?_
 conv=>whnf
 repeat' first
  |(refine za (by(try simp only[wA,wL])<;>omega) ?_;conv=>whnf)
  |(refine zbo (hpo) rfl rfl rfl ?_;conv=>whnf)
  |(refine zl (by first|rfl|omega) ?_;conv=>whnf)
 conv=>arg 2;simp only[hmx,Nat.reduceAdd,C.stride]
 refine ze9 [.kp [0,1,2,6]] ?_
 conv=>whnf
 repeat' first
  |(refine za (by kernel_rfl) ?_;conv=>whnf)
  |(refine za (by(try simp only[wA,wL])<;>omega) ?_;conv=>whnf)
  |(refine zg (by(try simp only[wA,wL])<;>omega) (by(try simp only[wA,wL])<;>omega) ?_;conv=>whnf)
  |(refine zl (by first|rfl|omega) ?_;conv=>whnf)
 conv=>arg 2;simp only[e1,e2,ha,hb,Nat.reduceAdd,C.stride]
 refine ze9 [.kp [0,1,2,6,7,8],.cl 1] ?_
 conv=>whnf
 skip
 conv=>arg 2;simp only[ydy,Nat.reduceAdd,C.stride]
 refine ze ?_
 conv=>whnf
 skip
 conv=>arg 2;simp only[ydy,Nat.reduceAdd,C.stride]
 refine ze9 [.op 1 a] (yd2 rfl ⟨Nat.zero_le _,a1⟩ ?_)
 conv=>whnf
 repeat' first
  |(refine zm ?_ ?_;(focus ((try simp only[qA])<;>(try simp only[wA])<;>omega));conv=>whnf)
  |(refine za (by(try simp only[wA,wL])<;>omega) ?_;conv=>whnf)
  |(refine zl (by first|rfl|omega) ?_;conv=>whnf)
 conv=>arg 2;simp only[ydy,Nat.reduceAdd,C.stride]
 refine ze9 [.kp [0,1,2,6,7,8,9,10],.cl 1,.op 1 u] ?_
 refine vkp ?_
 refine yd3 (x':=.pgs qs) rfl rfl rfl (congrArg (fun z=>some (C.pgs z)) (ydy qs a)) rfl ?_
 refine yd2 rfl ⟨Nat.zero_le _,u1⟩ ?_
 conv=>whnf
 repeat' first
  |(refine za (by(try simp only[wA,wL])<;>omega) ?_;conv=>whnf)
  |(refine zg (by(try simp only[wA,wL])<;>omega) (by(try simp only[wA,wL])<;>omega) ?_;conv=>whnf)
  |(refine zal [] [0,1,108,109,110] (hml) ⟨rfl,rfl,rfl,(by repeat first|exact trivial|refine⟨rfl,?_⟩),⟨rfl,rfl,rfl,rfl,rfl,rfl⟩,?_⟩;conv=>whnf)
  |(refine zl (by first|rfl|omega) ?_;conv=>whnf)
 conv=>arg 2;simp only[Nat.reduceAdd,C.stride]
 refine ze9 [.kp [0,1,2,6,7,8,9,10]] ?_
 conv=>whnf
 skip
 conv=>arg 2;simp only[Nat.reduceAdd,C.stride]
 refine ze ?_
 conv=>whnf
 repeat' first
  |(refine za (by kernel_rfl) ?_;conv=>whnf)
  |(refine za (by(try simp only[wA,wL])<;>omega) ?_;conv=>whnf)
  |(refine ydq (ycu _ _ _) ?_;conv=>whnf)
  |(refine zlg [.arr (.nums .i64 (zf9 ((qs.set a ⟨K,D,[]⟩).getD u ⟨[],[],[]⟩) (f+1)).keys),.arr (.nums .i64 (zf9 ((qs.set a ⟨K,D,[]⟩).getD u ⟨[],[],[]⟩) (f+1)).kids)] (hcut) rfl rfl rfl rfl rfl rfl rfl ?_;conv=>whnf)
  |(refine ydq (ycp _ _) ?_;conv=>whnf)
  |(refine zl (by first|rfl|omega) ?_;conv=>whnf)
 conv=>arg 2;simp only[Nat.reduceAdd,C.stride]
 refine ze9 [.cl 1] ?_
 conv=>whnf
 repeat' (refine za (by(try simp only[wA,wL])<;>omega) ?_;conv=>whnf)
 conv=>arg 2;simp only[Int.toNat_natCast,hg2]
 refine ze ?_
 conv=>whnf
 repeat' first|(refine zg (by(try simp only[wA,wL])<;>omega) (by(try simp only[wA,wL])<;>omega) ?_;conv=>whnf)|(refine ze ?_;conv=>whnf)
 exact(zu [] [0,1])
set_option maxHeartbeats 4000000 in
theorem yfw (qs:List Pg) (u a b f:Nat) (c:Int) (M:MeN qs u a b f c) (g:Nat→Bool) (j:Int) (j0:0≤j) (j1:j≤1000) (lf:(qs.getD a ⟨[],[],[]⟩).kids.length≠0)
  (la:(qs.getD a ⟨[],[],[]⟩).kids.length=(qs.getD a ⟨[],[],[]⟩).keys.length+1) (lb:(qs.getD b ⟨[],[],[]⟩).kids.length=(qs.getD b ⟨[],[],[]⟩).keys.length+1) (k:Int) (hk:(qs.getD u ⟨[],[],[]⟩).keys.getD f 0=k) (K D:List Int) (hK:(qs.getD a ⟨[],[],[]⟩).keys++k::(qs.getD b ⟨[],[],[]⟩).keys=K) (hD:(qs.getD a ⟨[],[],[]⟩).kids++(qs.getD b ⟨[],[],[]⟩).kids=D) (h4:¬K.length≤4) (q2:List Pg) (hq2:(qs.set a ⟨K.take (K.length / 2),D.take (K.length / 2+1),[]⟩).set b ⟨K.drop (K.length / 2+1),D.drop (K.length / 2+1),[]⟩=q2) :
  zr Try.prog 44 2 [.ptr 0 0 0 0,.c (.int .i64 u),.c (.int .i64 c)] (mdH qs (tab g) j) 2 (.tup []) (mdH (q2.set u ⟨(qs.getD u ⟨[],[],[]⟩).keys.set f (K.getD (K.length / 2) 0),(qs.getD u ⟨[],[],[]⟩).kids,(qs.getD u ⟨[],[],[]⟩).vals⟩) (tab g) j):=by
 obtain⟨hp,u1,a1,b1,b16,hua,hub,hne,ha,hb,hkl,hcl,hk9,hvs,cm,hz,ka,kb⟩:=M
 have hmx:(if 1>(plN (qs.getD u ⟨[],[],[]⟩).kids c:Int)then(1:Int)else plN (qs.getD u ⟨[],[],[]⟩).kids c)=(f:Int)+1:=by
  rcases hz with h|⟨h,h2⟩<;>rw[h]<;>split<;>omega
 have e1:((f:Int)+1-1).toNat=f:=by omega
 have e2:((f:Int)+1).toNat=f+1:=by omega
 have hpo:=z76 (qs.getD u ⟨[],[],[]⟩) c (by omega) cm
 have hml:=ydz (tab g) j a b k qs u u1 hua hub a1 b1 hne ka kb la lb K D hK hD h4
 rw[show k=(qs.getD u ⟨[],[],[]⟩).keys.getD ((f:Int)+1-1).toNat 0 by rw[e1,hk]]at hml
 have eu:q2.getD u ⟨[],[],[]⟩=qs.getD u ⟨[],[],[]⟩:=by rw[←hq2,ydw _ hub,ydw _ hua]
 have ul:u<q2.length:=by rw[←hq2,List.length_set,List.length_set];exact u1
 rw[←eu]
 rw[hq2]at hml
 have hkl2:f<(q2.getD u ⟨[],[],[]⟩).keys.length:=by rw[eu];exact hkl
 generalize K.getD (K.length / 2) 0=kx at *
 refine spi (fn:=Try.f44) _ ?_
 conv=>whnf
 refine ze9 [.kp [0,1,2],.op 1 u] ?_
 conv=>whnf
 refine za ⟨Nat.zero_le _,u1⟩ ?_
 conv=>whnf
 repeat' first
  |(refine za (by(try simp only[wA,wL])<;>omega) ?_;conv=>whnf)
  |(refine zbo (hpo) rfl rfl rfl ?_;conv=>whnf)
  |(refine zl (by first|rfl|omega) ?_;conv=>whnf)
 conv=>arg 2;simp only[hmx,Nat.reduceAdd,C.stride]
 refine ze9 [.kp [0,1,2,6]] ?_
 conv=>whnf
 repeat' first
  |(refine za (by kernel_rfl) ?_;conv=>whnf)
  |(refine za (by(try simp only[wA,wL])<;>omega) ?_;conv=>whnf)
  |(refine zg (by(try simp only[wA,wL])<;>omega) (by(try simp only[wA,wL])<;>omega) ?_;conv=>whnf)
  |(refine zl (by first|rfl|omega) ?_;conv=>whnf)
 conv=>arg 2;simp only[e1,e2,ha,hb,Nat.reduceAdd,C.stride]
 refine ze9 [.kp [0,1,2,6,7,8],.cl 1] ?_
 conv=>whnf
 skip
 conv=>arg 2;simp only[ydy,Nat.reduceAdd,C.stride]
 refine ze ?_
 conv=>whnf
 skip
 conv=>arg 2;simp only[ydy,Nat.reduceAdd,C.stride]
 refine ze9 [.op 1 a] (yd2 rfl ⟨Nat.zero_le _,a1⟩ ?_)
 conv=>whnf
 repeat' first
  |(refine zm ?_ ?_;(focus ((try simp only[qA])<;>(try simp only[wA])<;>omega));conv=>whnf)
  |(refine za (by(try simp only[wA,wL])<;>omega) ?_;conv=>whnf)
  |(refine zl (by first|rfl|omega) ?_;conv=>whnf)
 conv=>arg 2;simp only[ydy,Nat.reduceAdd,C.stride]
 refine ze9 [.kp [0,1,2,6,7,8,9,10],.cl 1,.op 1 u] ?_
 refine vkp ?_
 refine yd3 (x':=.pgs qs) rfl rfl rfl (congrArg (fun z=>some (C.pgs z)) (ydy qs a)) rfl ?_
 refine yd2 rfl ⟨Nat.zero_le _,u1⟩ ?_
 conv=>whnf
 repeat' first
  |(refine za (by(try simp only[wA,wL])<;>omega) ?_;conv=>whnf)
  |(refine zg (by(try simp only[wA,wL])<;>omega) (by(try simp only[wA,wL])<;>omega) ?_;conv=>whnf)
  |(refine zal [] [0,1,108,109,110] (hml) ⟨rfl,rfl,rfl,(by repeat first|exact trivial|refine⟨rfl,?_⟩),⟨rfl,rfl,rfl,rfl,rfl,rfl⟩,?_⟩;conv=>whnf)
  |(refine zl (by first|rfl|omega) ?_;conv=>whnf)
 conv=>arg 2;simp only[Nat.reduceAdd,C.stride]
 refine ze9 [.kp [0,1,2,6,7,8,9,10]] ?_
 conv=>whnf
 skip
 conv=>arg 2;simp only[Nat.reduceAdd,C.stride]
 refine ze ?_
 conv=>whnf
 repeat' first
  |(refine za (by(try simp only[wA,wL])<;>omega) ?_;conv=>whnf)
  |(refine zg (by(try simp only[wA,wL])<;>omega) (by(try simp only[wA,wL])<;>omega) ?_;conv=>whnf)
  |(refine zl (by first|rfl|omega) ?_;conv=>whnf)
 conv=>arg 2;simp only[e1,Nat.reduceAdd,C.stride]
 refine ze9 [.cl 1] ?_
 conv=>whnf
 skip
 exact(zu [] [0,1])
end Go.VL
