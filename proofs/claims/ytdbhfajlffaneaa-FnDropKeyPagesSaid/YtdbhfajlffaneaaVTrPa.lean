/- V-logic: TrPa -/
import Derived.Test.YtdbhfajlffaneaaVW3
import Derived.Test.YtdbhfajlffaneaaVPE
namespace Go.VL
open Go.Proofs
set_option maxRecDepth 10000
set_option linter.unusedSimpArgs false
set_option linter.unusedVariables false
theorem z8v (L:List (List Int)) (hL:L.length≤1024) (h:L.flatten.length≤1048576):zr Try.prog 111 0 [.c (.numss L)] [] 1 (.slc 0) [(0,.arr (.nums .i64 L.flatten))]:=by
 have hs:∀k,k<L.length→(L.take k).flatten.length+(L.getD k []).length≤1048576∧(L.take (k+1)).flatten=(L.take k).flatten++L.getD k []:=fun k hk=>by
  have e:(L.take (k+1)).flatten=(L.take k).flatten++L.getD k []:=by rw[zat [] hk,List.flatten_append];simp
  have e2:=congrArg (fun M=>(List.flatten M).length) (List.take_append_drop (k+1) L)
  simp only[List.flatten_append,List.length_append,e]at e2
  exact⟨by omega,e⟩
 refine spi (fn:=Try.f111) _ ?_
 conv=>whnf
 refine zd0 (fun(k:Nat) (n:Nat)=>k≤L.length∧n=(L.take k).flatten.length) (fun k n=>⟨36,0,[(0,.c (.numss L)),(3,.c (.int .i64 n)),(9,.c (.numss L)),(10,.c (.int .i64 L.length)),(11,.c (.int .i64 k))],[]⟩) (fun k _=>L.length-k) 0 0 ⟨Nat.zero_le _,rfl⟩ (fun _ _=>Nat.zero_le _) zbn (fun k n hk=>?_)
 obtain⟨hk,hn⟩:=hk
 by_cases hk2:k<L.length
 ·obtain⟨e1,e2⟩:=hs k hk2
  rw[←hn]at e1
  replace e2:n+(L.getD k []).length=(L.take (k+1)).flatten.length:=by rw[e2,hn,List.length_append]
  conv=>whnf
  repeat' first
   |(refine zn ?_ ?_;(focus ((try simp only[qA])<;>(try simp only[wA])<;>omega));conv=>whnf)
   |(refine zm ?_ ?_;(focus ((try simp only[qA])<;>(try simp only[wA])<;>omega));conv=>whnf)
   |(refine za (by(try simp only[wA,wL])<;>omega) ?_;conv=>whnf)
   |(refine zg (by(try simp only[wA,wL])<;>omega) (by(try simp only[wA,wL])<;>omega) ?_;conv=>whnf)
  exact⟨⟨(k+1,n+(L.getD k []).length),by omega,e2⟩,zbn,by dsimp only;omega⟩
 ·rw[List.take_of_length_le (by omega)]at hn
  conv=>whnf
  repeat' first|(refine zm ?_ ?_;(focus ((try simp only[qA])<;>(try simp only[wA])<;>omega));conv=>whnf)|(refine z8 (ya0 n (by omega)) rfl ?_;conv=>whnf)
  refine zd0 (fun(k:Nat) (M:List Int)=>k≤L.length∧M=(L.take k).flatten) (fun k M=>⟨36,1,[(6,.slc 0),(25,.c (.numss L)),(26,.c (.int .i64 L.length)),(27,.c (.int .i64 k))],[(0,.arr (.nums .i64 M))]⟩) (fun k _=>L.length-k) 0 [] ⟨Nat.zero_le _,rfl⟩ (fun _ _=>Nat.zero_le _) (ydn [] [0]) (fun k M hk=>?_)
  obtain⟨hk,hM⟩:=hk
  by_cases hk2:k<L.length
  ·obtain⟨e1,e2⟩:=hs k hk2
   rw[←hM]at e1 e2
   conv=>whnf
   repeat' first
    |(refine zn ?_ ?_;(focus ((try simp only[qA])<;>(try simp only[wA])<;>omega));conv=>whnf)
    |(refine za (by(try simp only[wA,wL])<;>omega) ?_;conv=>whnf)
    |(refine zg (by(try simp only[wA,wL])<;>omega) (by(try simp only[wA,wL])<;>omega) ?_;conv=>whnf)
   exact⟨⟨(k+1,M++L.getD k []),by omega,e2.symm⟩,(ydn [] [0]),by dsimp only;omega⟩
  ·rw[List.take_of_length_le (by omega)]at hM
   subst hM
   conv=>whnf
   repeat' (refine zm ?_ ?_;(focus ((try simp only[qA])<;>(try simp only[wA])<;>omega));conv=>whnf)
   exact(zu [] [0])
theorem yaz (a b c:List Int) (h:a.length+b.length+c.length≤1048576):zr Try.prog 111 0 [.c (.numss [a,b,c])] [] 1 (.slc 0) [(0,.arr (.nums .i64 (a++(b++c))))]:=by
 have:=z8v [a,b,c] (by simp) (by simp;omega)
 rwa [show [a,b,c].flatten=a++(b++c) by simp]at this
structure pgB (p:Pg):Prop where
 keys:p.keys.length≤4294967296
 kids:p.kids.length≤4294967296
 vals:p.vals.length≤4294967296
end Go.VL
