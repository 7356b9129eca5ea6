/- V-logic: TrF TrG TrH TrI -/
import Derived.Test.YtfogmgldlemngaaVPD
import Derived.Test.YtfogmgldlemngaaVT1
namespace Go.VL
open Go.Proofs
set_option maxRecDepth 10000
set_option linter.unusedSimpArgs false
set_option linter.unusedVariables false
theorem zoq {α β:Type} (f:α→β) (d:α) {xs:List α} {i:Nat} (h:i<xs.length):(xs.take i).map f++[f (xs.getD i d)]=(xs.take (i+1)).map f:=by
 rw[zat d h,List.map_append];rfl
theorem zov:zr Try.prog 47 0 [.tt] [] 0 (.c (.int .i64 1)) []:=by
 refine spi (fn:=Try.f47) _ ?_
 conv=>whnf
 repeat' refine zi ?_
 rfl
theorem zor:zr Try.prog 47 0 [.ff] [] 0 (.c (.int .i64 0)) []:=by
 refine spi (fn:=Try.f47) _ ?_
 conv=>whnf
 repeat' refine zi ?_
 rfl
theorem zid (xs:List Pr) (hl:xs.length≤4294967296):zr Try.prog 61 0 [.c (.prs xs)] [] 1 (.slc 0) [(0,.arr (.prs xs))]:=by
 refine spi (fn:=Try.f61) _ ?_
 conv=>whnf
 repeat' (refine za (by(try simp only[wA,wN,wL])<;>omega) ?_;conv=>whnf)
 exact(zu [] [0])
theorem zdt (xs:List Pr) (hl:xs.length≤4294967296):zr Try.prog 36 0 [.c (.prs xs)] [] 1 (.slc 0) [(0,.arr (.nums .i64 (xs.map Pr.key)))]:=by
 refine spi (fn:=Try.f36) _ ?_
 conv=>whnf
 skip
 refine zau (fun i:Nat=>i≤xs.length) (fun i=>⟨21,1,[(0,.c (.prs xs)),(3,.slc 0),(4,.c (.int .i64 i))],[(0,.arr (.nums .i64 ((xs.take i).map Pr.key)))]⟩) (fun i=>xs.length-i) 0 (Nat.zero_le _) (fun _=>Nat.zero_le _) (ydn [] [0]) (fun i hi=>?_)
 conv=>whnf
 repeat' first
  |(refine za (by(try simp only[wA,wN,wL])<;>omega) ?_;conv=>whnf)
  |(refine zk (fun h=>?_) (fun h=>?_)<;>(try simp only[qA]at h)<;>(try simp only[wA,wN]at h)<;>conv=>whnf)
  |(refine zg (by(try simp only[wA,wN,wL])<;>omega) (by(try simp only[wA,wN,wL])<;>omega) ?_;conv=>whnf)
 ·refine⟨⟨i+1,?_⟩,(zbd [] [0] ⟨by repeat first|exact trivial|refine⟨rfl,?_⟩,?_,rfl,rfl,rfl,rfl,rfl,rfl,rfl⟩),by dsimp only;omega⟩;(try dsimp only)
  ·omega
  ·exact⟨congrArg (fun z=>some (O.arr (C.nums .i64 z))) (zoq Pr.key ⟨0,0⟩ (by omega)),trivial⟩
 ·rw[List.take_of_length_le (by omega)]
  exact(zu [] [0])
theorem z3t (xs:List Int) (n:Int) (hl:xs.length≤4294967296):zr Try.prog 73 0 [.c (.nums .i64 xs),.c (.int .i64 n)] [] 0 (.c (.int .i64 (upF xs n))) []:=by
 refine spi (fn:=Try.f73) _ ?_
 conv=>whnf
 refine zau (fun k:Nat=>k≤xs.length∧(xs.take k).all (fun x=>decide (x≤n))=true) (fun k=>⟨21,0,[(0,.c (.nums .i64 xs)),(1,.c (.int .i64 n)),(5,.c (.int .i64 k))],[]⟩) (fun k=>xs.length-k) 0 ⟨by omega,by simp⟩ (fun _=>Nat.zero_le _) zbn (fun k hk=>?_)
 obtain⟨hk,hk2⟩:=hk
 conv=>whnf
 repeat' first
  |(refine za (by(try simp only[wA,wN,wL])<;>omega) ?_;conv=>whnf)
  |(refine zk (fun h=>?_) (fun h=>?_)<;>(try simp only[qA]at h)<;>(try simp only[wA,wN]at h)<;>conv=>whnf)
  |refine zi ?_
  |(refine zg (by(try simp only[wA,wN,wL])<;>omega) (by(try simp only[wA,wN,wL])<;>omega) ?_;conv=>whnf)
 ·refine⟨⟨k+1,?_⟩,zbn,by dsimp only;omega⟩;(try dsimp only)
  exact⟨by omega,zeg 0 hk2 (by omega) (by exact decide_eq_true (by omega))⟩
 ·rw[zy1 n xs k hk2 hk (fun _=>h)]
 ·rw[zy1 n xs k hk2 hk (fun h2=>absurd h2 (by omega))]
theorem zms (xs:List Int) (n:Int) (hl:xs.length≤4294967296):zr Try.prog 68 0 [.c (.nums .i64 xs),.c (.int .i64 n)] [] 0 (.c (.int .i64 (if n∈xs then(plN xs n:Int)else -1))) []:=by
 refine spi (fn:=Try.f68) _ ?_
 conv=>whnf
 refine zau (fun k:Nat=>k≤xs.length∧n∉xs.take k) (fun k=>⟨19,0,[(0,.c (.nums .i64 xs)),(1,.c (.int .i64 n)),(5,.c (.int .i64 k))],[]⟩) (fun k=>xs.length-k) 0 ⟨by omega,by simp⟩ (fun _=>Nat.zero_le _) zbn (fun k hk=>?_)
 obtain⟨hk,hk2⟩:=hk
 conv=>whnf
 repeat' first
  |(refine za (by(try simp only[wA,wN,wL])<;>omega) ?_;conv=>whnf)
  |(refine zk (fun h=>?_) (fun h=>?_)<;>(try simp only[qA]at h)<;>(try simp only[wA,wN]at h)<;>conv=>whnf)
  |refine zi ?_
  |(refine zg (by(try simp only[wA,wN,wL])<;>omega) (by(try simp only[wA,wN,wL])<;>omega) ?_;conv=>whnf)
 ·have hx:n∈xs:=by rw[←h];exact zaq 0 (by omega)
  rw[if_pos hx,z3l hk2 (by omega) h]
 ·refine⟨⟨k+1,?_⟩,zbn,by dsimp only;omega⟩;(try dsimp only)
  exact⟨by omega,zuq hk2 (by omega) h⟩
 ·rw[List.take_of_length_le (by omega)]at hk2
  rw[if_neg hk2]
theorem zhe (xs:List Pr) (hl:xs.length≤4294967296):zr Try.prog 53 0 [.c (.prs xs)] [] 0 (.c (.bool (zdb xs))) []:=by
 refine spi (fn:=Try.f53) _ ?_
 conv=>whnf
 refine zau (fun k:Nat=>k≤xs.length∧(xs.take k).all (fun x=>decide (-1000≤x.value∧x.value≤1000))=true) (fun k=>⟨25,0,[(0,.c (.prs xs)),(3,.c (.int .i64 k))],[]⟩) (fun k=>xs.length-k) 0 ⟨by omega,by simp⟩ (fun _=>Nat.zero_le _) zbn (fun k hk=>?_)
 obtain⟨hk,hk2⟩:=hk
 conv=>whnf
 repeat' first
  |(refine za (by(try simp only[wA,wN,wL])<;>omega) ?_;conv=>whnf)
  |(refine zk (fun h=>?_) (fun h=>?_)<;>(try simp only[qA]at h)<;>(try simp only[wA,wN]at h)<;>conv=>whnf)
  |refine zd ?_
  |refine zh ?_
  |(refine zg (by(try simp only[wA,wN,wL])<;>omega) (by(try simp only[wA,wN,wL])<;>omega) ?_;conv=>whnf)
  |(refine yhk (zgy _ _ _) rfl rfl ?_;conv=>whnf)
  |(refine z8 (zdt _ hl) rfl ?_;conv=>whnf)
  |(refine zbo (zkj _ (by rw[w11];exact hl)) rfl rfl rfl ?_;conv=>whnf)
 ·unfold zdb
  rw[zf6 (⟨0,0⟩:Pr) (k:=k) (by omega) (decide_eq_false h),Bool.false_and]
 ·refine⟨⟨k+1,?_⟩,zbn,by dsimp only;omega⟩;(try dsimp only)
  exact⟨by omega,zeg (⟨0,0⟩:Pr) hk2 (by omega) (decide_eq_true h)⟩
 ·unfold zdb
  rw[zh3 hk2 (by omega),decide_eq_true (by omega),Bool.true_and,Bool.true_and]
 ·unfold zdb
  rw[decide_eq_false (by omega),Bool.false_and,Bool.and_false]
end Go.VL
namespace Go.VL
open Go.Proofs
set_option maxRecDepth 10000
set_option linter.unusedSimpArgs false
set_option linter.unusedVariables false
theorem zg4 (p:Pg) (h:p.keys.length≤p.vals.length) (hl:p.keys.length≤4294967296):zr Try.prog 56 0 [pgV p] [] 1 (.slc 0) [(0,.arr (.prs (zab p)))]:=by
 obtain⟨ks,cs,vs⟩:=p
 dsimp only at h hl
 refine spi (fn:=Try.f56) _ ?_
 conv=>whnf
 skip
 refine zau (fun i:Nat=>i≤ks.length) (fun i=>⟨28,2,[(1,.ptr 0 0 0 0),(3,.slc 1),(4,.c (.int .i64 i))],[(0,.box [.c (.nums .i64 ks),.c (.nums .i64 cs),.c (.nums .i64 vs)] [] []),(1,.arr (.prs ((zab ⟨ks,cs,vs⟩).take i)))]⟩) (fun i=>ks.length-i) 0 (Nat.zero_le _) (fun _=>Nat.zero_le _) (ydn [] [0,1]) (fun i hi=>?_)
 have hz:(zab ⟨ks,cs,vs⟩).length=ks.length:=by unfold zab;rw[List.length_zipWith];exact Nat.min_eq_left h
 conv=>whnf
 repeat' first
  |(refine za (by kernel_rfl) ?_;conv=>whnf)
  |(refine za (by(try simp only[wA,wN,wL])<;>omega) ?_;conv=>whnf)
  |(refine zk (fun h=>?_) (fun h=>?_)<;>(try simp only[qA]at h)<;>(try simp only[wA,wN]at h)<;>conv=>whnf)
  |(refine zg (by(try simp only[wA,wN,wL])<;>omega) (by(try simp only[wA,wN,wL])<;>omega) ?_;conv=>whnf)
  |(refine zo ?_;conv=>whnf)
  |(refine ze ?_;conv=>whnf)
 ·refine⟨⟨i+1,?_⟩,(zbd [] [0,1] ⟨by repeat first|exact trivial|refine⟨rfl,?_⟩,?_,rfl,rfl,rfl,rfl,rfl,rfl,rfl⟩),by dsimp only;omega⟩;(try dsimp only)
  ·omega
  ·refine⟨rfl,congrArg (fun z=>some (O.arr (C.prs z))) ?_,trivial⟩
   exact(zro ⟨ks,cs,vs⟩ (by dsimp only;omega) (by dsimp only;omega)).symm
 ·rw[List.take_of_length_le (by omega)]
  exact(zu [] [1])
theorem z1r (xs:List Pr) (x:Pr) (hl:xs.length≤4294967):zr Try.prog 52 0 [.c (.prs xs),prV x] [] 1 (.slc 0) [(0,.arr (.prs (zbc xs x)))]:=by
 obtain⟨k,v⟩:=x
 have hb:=zvm (xs.map Pr.key) k
 rw[List.length_map]at hb
 refine spi (fn:=Try.f52) _ ?_
 conv=>whnf
 repeat' first
  |(refine za (by kernel_rfl) ?_;conv=>whnf)
  |(refine za (by(try simp only[wA,wN,wL])<;>omega) ?_;conv=>whnf)
  |(refine zk (fun h=>?_) (fun h=>?_)<;>(try simp only[qA]at h)<;>(try simp only[wA,wN]at h)<;>conv=>whnf)
  |(refine zg (by(try simp only[wA,wN,wL])<;>omega) (by(try simp only[wA,wN,wL])<;>omega) ?_;conv=>whnf)
  |(refine zar (zdt _ (by omega)) rfl rfl ?_;conv=>whnf)
  |(refine zly (znk _ _ (by rw[w11];omega)) rfl rfl rfl ?_;conv=>whnf)
  |(refine zar (zid _ (by rw[w7];omega)) rfl rfl ?_;conv=>whnf)
  |(refine zo ?_;conv=>whnf)
  |(refine ze ?_;conv=>whnf)
 all_goals (refine zbg [] [104] ⟨rfl,?_,rfl,rfl,rfl,rfl,rfl,rfl⟩)
 ·exact⟨congrArg (fun z=>some (O.arr (C.prs z))) (zvy (x:=⟨k,v⟩) (by dsimp only;omega) h),trivial⟩
 ·exact⟨congrArg (fun z=>some (O.arr (C.prs z))) (zqo (x:=⟨k,v⟩) fun c=>h c.2),trivial⟩
 ·exact⟨congrArg (fun z=>some (O.arr (C.prs z))) (zqo (x:=⟨k,v⟩) fun c=>by dsimp only at c;omega),trivial⟩
theorem zxq (xs:List Pr) (hl:xs.length≤4294967) (hv:zdb xs=true):zr Try.prog 64 0 [.c (.prs xs)] [] 2 (.tup [.slc 0,.slc 1]) [(0,.arr (.prs (xs.take ((xs.length+1) / 2)))),(1,.arr (.prs (xs.drop ((xs.length+1) / 2))))]:=by
 have hd:((xs.length:Int)+1).tdiv 2=(((xs.length+1) / 2:Nat):Int):=rfl
 refine spi (fn:=Try.f64) _ ?_
 conv=>whnf
 repeat' first
  |(refine za (by kernel_rfl) ?_;conv=>whnf)
  |(refine za (by(try simp only[wA,wN,wL])<;>omega) ?_;conv=>whnf)
  |(refine zk (fun h=>?_) (fun h=>?_)<;>(try simp only[qA]at h)<;>(try simp only[wA,wN]at h)<;>conv=>whnf)
  |(refine zg (by(try simp only[wA,wN,wL])<;>omega) (by(try simp only[wA,wN,wL])<;>omega) ?_;conv=>whnf)
  |(refine yhk (zhe _ (by omega)) rfl rfl ?_;conv=>whnf)
  |(refine zar (zid _ (by rw[w7];omega)) rfl rfl ?_;conv=>whnf)
  |(refine zar (zid _ (by rw[w8];omega)) rfl rfl ?_;conv=>whnf)
  |(refine ze ?_;conv=>whnf)
 ·rw[hv]at h;cases h
 exact(zu [] [3,7])
theorem zxb (xs:List Pr) (k:Int) (hl:xs.length≤4294967) (hv:zdb xs=true) (hk:(xs.map Pr.key).contains k=true):zr Try.prog 69 0 [.c (.prs xs),.c (.int .i64 k)] [] 1 (.tup [.slc 0,.tt]) [(0,.arr (.prs (zbq xs k)))]:=by
 obtain⟨hd,hb,-⟩:=zs7 (List.contains_iff_mem.1 hk) (zln.1 hv).1.asc
 refine spi (fn:=Try.f69) _ ?_
 conv=>whnf
 repeat' first
  |(refine za (by kernel_rfl) ?_;conv=>whnf)
  |(refine za (by(try simp only[wA,wN,wL])<;>omega) ?_;conv=>whnf)
  |(refine zk (fun h=>?_) (fun h=>?_)<;>(try simp only[qA]at h)<;>(try simp only[wA,wN]at h)<;>conv=>whnf)
  |(refine zg (by(try simp only[wA,wN,wL])<;>omega) (by(try simp only[wA,wN,wL])<;>omega) ?_;conv=>whnf)
  |(refine yhk (zhe _ (by omega)) rfl rfl ?_;conv=>whnf)
  |(refine z8 (zdt _ (by omega)) rfl ?_;conv=>whnf)
  |(refine zbo (zo5 _ _ (by rw[w11];omega)) rfl rfl rfl ?_;conv=>whnf)
  |(refine zbo (znk _ _ (by rw[w11];omega)) rfl rfl rfl ?_;conv=>whnf)
  |(refine zar (zid _ (by rw[w7];omega)) rfl rfl ?_;conv=>whnf)
  |(refine zo ?_;conv=>whnf)
  |(refine ze ?_;conv=>whnf)
 ·rw[hv]at h;cases h
 ·rw[hk]at h;cases h
 ·(refine zbg [] [5] ⟨rfl,?_,rfl,rfl,rfl,rfl,rfl,rfl⟩)
  exact⟨congrArg (fun z=>some (O.arr (C.prs z))) hd,trivial⟩
end Go.VL
namespace Go.VL
open Go.Proofs
set_option maxRecDepth 10000
set_option linter.unusedSimpArgs false
set_option linter.unusedVariables false
theorem zll (p:Pg) (h1:p.keys.length≤4294967296) (h2:p.kids.length≤4294967296) (h3:p.vals.length≤4294967296):zr Try.prog 72 0 [pgV p] [] 0 (pgV p) []:=by
 refine spi (fn:=Try.f72) _ ?_
 conv=>whnf
 repeat' first
  |(refine za (by kernel_rfl) ?_;conv=>whnf)
  |(refine zar (zcn _ (by assumption)) rfl rfl ?_;conv=>whnf)
  |(refine ze ?_;conv=>whnf)
 (refine zbg [4,7,10] [] ?_;(conv=>whnf);exact⟨rfl,by repeat first|exact trivial|refine⟨rfl,?_⟩,rfl,rfl,rfl,rfl,rfl,rfl⟩)
theorem zfz (xs:List Pr) (hl:xs.length≤4294967296):zr Try.prog 50 0 [.c (.prs xs)] [] 0 (pgV (zae xs)) []:=by
 refine spi (fn:=Try.f50) _ ?_
 conv=>whnf
 repeat' (refine z8 (zdt _ (by assumption)) rfl ?_;conv=>whnf)
 refine zau (fun i:Nat=>i≤xs.length) (fun i=>⟨27,3,[(0,.c (.prs xs)),(2,.ptr 0 0 0 0),(3,.ptr 1 0 0 0),(4,.c (.int .i64 i))],[(0,.box [.nil,.nil,.nil] [] []),(1,.box [.c (.nums .i64 (xs.map Pr.key)),.c (.nums .i64 []),.slc 2] [] []),(2,.arr (.nums .i64 ((xs.take i).map Pr.value)))]⟩) (fun i=>xs.length-i) 0 (Nat.zero_le _) (fun _=>Nat.zero_le _) (ydn [1,2] [0,4,3]) (fun i hi=>?_)
 conv=>whnf
 repeat' first
  |(refine za (by kernel_rfl) ?_;conv=>whnf)
  |(refine za (by(try simp only[wA,wN,wL])<;>omega) ?_;conv=>whnf)
  |(refine zk (fun h=>?_) (fun h=>?_)<;>(try simp only[qA]at h)<;>(try simp only[wA,wN]at h)<;>conv=>whnf)
  |(refine zg (by(try simp only[wA,wN,wL])<;>omega) (by(try simp only[wA,wN,wL])<;>omega) ?_;conv=>whnf)
  |(refine zo ?_;conv=>whnf)
  |(refine ze ?_;conv=>whnf)
 ·refine⟨⟨i+1,?_⟩,(zbd [] [0,1,2] ⟨by repeat first|exact trivial|refine⟨rfl,?_⟩,?_,rfl,rfl,rfl,rfl,rfl,rfl,rfl⟩),by dsimp only;omega⟩;(try dsimp only)
  ·omega
  ·exact⟨rfl,rfl,congrArg (fun z=>some (O.arr (C.nums .i64 z))) (zoq Pr.value ⟨0,0⟩ (by omega)),trivial⟩
 ·rw[List.take_of_length_le (by omega)]
  (refine zbg [2] [] ?_;(conv=>whnf);exact⟨rfl,by repeat first|exact trivial|refine⟨rfl,?_⟩,rfl,rfl,rfl,rfl,rfl,rfl⟩)
theorem zb6 (x:Pg):zr Try.prog 51 0 [inV x] [] 0 (pgV ⟨x.keys,x.kids,[]⟩) []:=by
 refine spi (fn:=Try.f51) _ ?_
 conv=>whnf
 skip
 (refine zbg [2] [] ?_;(conv=>whnf);exact⟨rfl,by repeat first|exact trivial|refine⟨rfl,?_⟩,rfl,rfl,rfl,rfl,rfl,rfl⟩)
theorem ze2 (x:Pg):zr Try.prog 66 0 [pgV x] [] 0 (inV x) []:=by
 refine spi (fn:=Try.f66) _ ?_
 conv=>whnf
 skip
 exact(zu [] [])
theorem zp1 (root:Int) (ps:List Pg) (hp:pB ps):zr Try.prog 62 0 [trV root ps] [] 1 (.agg [.c (.int .i64 root),.slc 0]) [(0,.arr (.pgs ps))]:=by
 have k4:=hp.len
 refine spi (fn:=Try.f62) _ ?_
 conv=>whnf
 repeat' (refine zo ?_;conv=>whnf)
 refine zau (fun i:Nat=>i≤ps.length) (fun i=>⟨28,4,[(1,.ptr 0 0 0 0),(2,.ptr 1 0 0 0),(3,.ptr 2 0 0 0),(4,.c (.int .i64 i))],[(0,.box [.c (.int .i64 root),.c (.pgs ps)] [] []),(1,.box [.c (.int .i64 0),.nil] [] []),(2,.box [.c (.int .i64 root),.slc 3] [] []),(3,.arr (.pgs (ps.take i)))]⟩) (fun i=>ps.length-i) 0 (Nat.zero_le _) (fun _=>Nat.zero_le _) (ydn [] [0,1,3,2]) (fun i hi=>?_)
 have k1:=hp.keys i
 have k2:=hp.kids i
 have k3:=hp.vals i
 dsimp only[zb]at k1 k2 k3
 conv=>whnf
 repeat' first
  |(refine za (by kernel_rfl) ?_;conv=>whnf)
  |(refine za (by(try simp only[wA,wN,wL])<;>omega) ?_;conv=>whnf)
  |(refine zk (fun h=>?_) (fun h=>?_)<;>(try simp only[qA]at h)<;>(try simp only[wA,wN]at h)<;>conv=>whnf)
  |(refine zg (by(try simp only[wA,wN,wL])<;>omega) (by(try simp only[wA,wN,wL])<;>omega) ?_;conv=>whnf)
  |(refine zw (zll (ps.getD i ⟨[],[],[]⟩) k1 k2 k3) rfl rfl ?_;conv=>whnf)
  |(refine zo ?_;conv=>whnf)
  |(refine ze ?_;conv=>whnf)
 ·refine⟨⟨i+1,?_⟩,(zbd [] [0,1,2,3] ⟨by repeat first|exact trivial|refine⟨rfl,?_⟩,?_,rfl,rfl,rfl,rfl,rfl,rfl,rfl⟩),by dsimp only;omega⟩;(try dsimp only)
  ·omega
  ·exact⟨rfl,rfl,rfl,congrArg (fun z=>some (O.arr (C.pgs z))) (zat (⟨[],[],[]⟩:Pg) (by omega)).symm,trivial⟩
 ·rw[List.take_of_length_le (by omega)]
  exact(zu [] [3])
theorem zt5 (x:Pg) (place:Nat) (key kid:Int) (h1:place≤x.keys.length) (h2:place+1≤x.kids.length) (h3:x.keys.length≤1000) (h4:x.kids.length≤1000):zr Try.prog 67 0 [inV x,.c (.int .i64 place),.c (.int .i64 key),.c (.int .i64 kid)] [] 0 (inV (zfu x place key kid)) []:=by
 have e:inV (zfu x place key kid)=.agg [.c (.nums .i64 (x.keys.take place++([]++[key])++x.keys.drop place)),.c (.nums .i64 (x.kids.take (place+1)++([]++[kid])++x.kids.drop (place+1)))]:=by simp[zfu]
 rw[e]
 refine spi (fn:=Try.f67) _ ?_
 conv=>whnf
 repeat' first
  |(refine za (by kernel_rfl) ?_;conv=>whnf)
  |(refine za (by(try simp only[wA,wN,wL])<;>omega) ?_;conv=>whnf)
  |(refine zg (by(try simp only[wA,wN,wL])<;>omega) (by(try simp only[wA,wN,wL])<;>omega) ?_;conv=>whnf)
  |(refine zlj ?_;conv=>whnf)
  |(refine z8 (zcn _ (by rw[w7];omega)) rfl ?_;conv=>whnf)
  |(refine ze ?_;conv=>whnf)
 (refine zbg [11,18] [] ?_;(conv=>whnf);exact⟨rfl,by repeat first|exact trivial|refine⟨rfl,?_⟩,rfl,rfl,rfl,rfl,rfl,rfl⟩)
theorem zsj (x:Pg) (place:Nat) (h0:1≤place) (h1:place≤x.keys.length) (h2:place+1≤x.kids.length) (h3:x.keys.length≤1000) (h4:x.kids.length≤1000):zr Try.prog 74 0 [inV x,.c (.int .i64 place)] [] 0 (inV (zf9 x place)) []:=by
 obtain⟨p,rfl⟩:∃p,place=p+1:=⟨place-1,by omega⟩
 have e:((p+1:Nat):Int)-1=p:=by omega
 have e2:(((p+1:Nat):Int)-1).toNat=p+1-1:=by omega
 refine spi (fn:=Try.f74) _ ?_
 conv=>whnf
 repeat' first
  |(refine za (by kernel_rfl) ?_;conv=>whnf)
  |(refine za (by(try simp only[wA,wN,wL])<;>omega) ?_;conv=>whnf)
  |(refine zg (by(try simp only[wA,wN,wL])<;>omega) (by(try simp only[wA,wN,wL])<;>omega) ?_;conv=>whnf)
  |(refine zar (zcn _ (by rw[w7];omega)) rfl rfl ?_;conv=>whnf)
  |(refine zo ?_;conv=>whnf)
  |(refine ze ?_;conv=>whnf)
 refine zbg [7,106] [] ?_
 conv=>whnf
 refine⟨?_,trivial,rfl,rfl,rfl,rfl,rfl,rfl⟩
 exact congrArg (fun n=>V.agg [.c (.nums .i64 (x.keys.take n++x.keys.drop (p+1))),.c (.nums .i64 (x.kids.take (p+1)++x.kids.drop (p+1+1)))]) e2
theorem zmh (x:Pg) (h1:1≤x.keys.length) (h2:x.kids.length=x.keys.length+1) (h3:x.keys.length≤1000):zr Try.prog 65 0 [inV x] [] 0 (.tup [inV ⟨x.keys.take (x.keys.length / 2),x.kids.take (x.keys.length / 2+1),[]⟩,.c (.int .i64 (x.keys.getD (x.keys.length / 2) 0)),inV ⟨x.keys.drop (x.keys.length / 2+1),x.kids.drop (x.keys.length / 2+1),[]⟩]) []:=by
 have hd:(x.keys.length:Int).tdiv 2=((x.keys.length / 2:Nat):Int):=rfl
 refine spi (fn:=Try.f65) _ ?_
 conv=>whnf
 repeat' first
  |(refine za (by kernel_rfl) ?_;conv=>whnf)
  |(refine za (by(try simp only[wA,wN,wL])<;>omega) ?_;conv=>whnf)
  |(refine zg (by(try simp only[wA,wN,wL])<;>omega) (by(try simp only[wA,wN,wL])<;>omega) ?_;conv=>whnf)
  |(refine zar (zcn _ (by first|(rw[w7];omega)|(rw[w8];omega))) rfl rfl ?_;conv=>whnf)
  |(refine ze ?_;conv=>whnf)
 (refine zbg [7,13,108,114] [] ?_;(conv=>whnf);exact⟨rfl,by repeat first|exact trivial|refine⟨rfl,?_⟩,rfl,rfl,rfl,rfl,rfl,rfl⟩)
end Go.VL
namespace Go.VL
open Go.Proofs
set_option maxRecDepth 10000
set_option linter.unusedSimpArgs false
set_option linter.unusedVariables false
theorem zy4 (l:List Int) (x:Int):(l++[x]).getD (((l++[x]).length:Int)-1).toNat 0=x:=by
 have e:(((l++[x]).length:Int)-1).toNat=l.length:=by simp
 rw[e];exact zlw 0 l x []
theorem zri {l:List Int} (h:1≤l.length):l.take (l.length-1)++[l.getD ((l.length:Int)-1).toNat 0]=l:=by
 have e:((l.length:Int)-1).toNat=l.length-1:=by omega
 rw[e,←zat 0 (by omega),List.take_of_length_le (by omega)]
theorem zlz (root key:Int) (ps:List Pg) (hp:pB ps) (d mn mx:Nat) (lo hi:Int) (hf:Fit ps (d+1) mn mx root lo hi) (hd:d≤8):zr Try.prog 63 0 [trV root ps,.c (.int .i64 key)] [] 1 (.slc 0) [(0,.arr (.nums .i64 (ptF ps key (d+1) root)))]:=by
 have k4:=hp.len
 obtain⟨V,hV⟩:∃V,ptF ps key (d+1) root=V:=⟨_,rfl⟩
 rw[hV]
 refine spi (fn:=Try.f63) _ ?_
 conv=>whnf
 skip
 refine zd0 (fun(out:List Int) (e:Nat)=>1≤out.length∧out.length+e≤20∧(∃mn mx lo hi,Fit ps (e+1) mn mx (out.getD ((out.length:Int)-1).toNat 0) lo hi)∧out.take (out.length-1)++ptF ps key (e+1) (out.getD ((out.length:Int)-1).toNat 0)=V)
  (fun out e=>⟨45,2,[(1,.c (.int .i64 key)),(2,.ptr 0 0 0 0),(5,.slc 1)],[(0,.box [.c (.int .i64 root),.c (.pgs ps)] [] []),(1,.arr (.nums .i64 out))]⟩) (fun out e=>e) [root] d ⟨by simp,by simp;omega,⟨_,_,_,_,hf⟩,hV⟩ (fun _ _=>Nat.zero_le _) (ydn [] [0,1]) (fun out e hi=>?_)
 obtain⟨hl,hle,⟨mn',mx',lo',hi',hf'⟩,hv⟩:=hi
 have h0:=hf'.1
 have h1:=hf'.2.1
 have k1:=hp.keys (out.getD ((out.length:Int)-1).toNat 0)
 have k2:=hp.kids (out.getD ((out.length:Int)-1).toNat 0)
 dsimp only[zb]at k1 k2
 conv=>whnf
 by_cases he:e=0
 ·subst he
  have hk:=LeafOk.kids hf'.2.2.2.2
  dsimp only[zb]at hk
  have hv':out=V:=by rw[←hv];exact(zri hl).symm
  repeat' first
   |(refine za (by kernel_rfl) ?_;conv=>whnf)
   |(refine za (by(try simp only[wA,wL])<;>omega) ?_;conv=>whnf)
   |(refine zk (fun h=>?_) (fun h=>?_)<;>(try simp only[qA]at h)<;>(try simp only[wA]at h)<;>conv=>whnf)
   |(refine zg (by(try simp only[wA,wL])<;>omega) (by(try simp only[wA,wL])<;>omega) ?_;conv=>whnf)
   |(refine ze ?_;conv=>whnf)
  ·exfalso;rw[hk]at h;simp at h
  ·rw[hv']
   exact(zu [] [1])
 ·obtain⟨e,rfl⟩:∃e',e=e'+1:=⟨e-1,by omega⟩
  have hkl:=zaa.kidsLen hf'.2.2.2.2
  obtain⟨hu,l,r,hk⟩:=hf'.kid (key:=key)
  dsimp only[zb]at hkl hu hk
  repeat' first
   |(refine za (by kernel_rfl) ?_;conv=>whnf)
   |(refine zn ?_ ?_;(focus ((try simp only[qA])<;>(try simp only[wA])<;>omega));conv=>whnf)
   |(refine za (by(try simp only[wA,wL])<;>omega) ?_;conv=>whnf)
   |(refine zg (by(try simp only[wA,wL])<;>omega) (by(try simp only[wA,wL])<;>omega) ?_;conv=>whnf)
   |(refine zw (z3t _ _ (by assumption)) rfl rfl ?_;conv=>whnf)
   |(refine zo ?_;conv=>whnf)
   |(refine ze ?_;conv=>whnf)
  ·refine⟨⟨(out++[(ps.getD (out.getD ((out.length:Int)-1).toNat 0).toNat ⟨[],[],[]⟩).kids.getD (upF (ps.getD (out.getD ((out.length:Int)-1).toNat 0).toNat ⟨[],[],[]⟩).keys key) 0],e),?_⟩,(ydn [] [0,1]),by dsimp only;omega⟩
   dsimp only
   rw[zy4]
   refine⟨by simp,by simp;omega,⟨_,_,_,_,hk⟩,?_⟩
   rw[←hv,List.length_append,List.length_singleton,Nat.add_sub_cancel,List.take_left' rfl]
   refine(congrArg (·++_) (zri hl)).symm.trans ?_
   rw[List.append_assoc];rfl
theorem zo3 (root:Int) (ps:List Pg) (hp:pB ps) (d mn mx:Nat) (lo hi:Int) (hf:Fit ps (d+1) mn mx root lo hi) (hd:d≤4) (hm:mx≤4):zr Try.prog 55 0 [trV root ps] [] 1 (.slc 0) [(0,.arr (.nums .i64 (lvF ps (d+1) root)))]:=by
 have k4:=hp.len
 have hw:=hf.wkOk hm
 have hwl:=zg5 _ hw
 have hw4:wkB (d+1)≤97656:=Nat.le_trans (zfs (show d+1≤8 by omega)) (by decide)
 have hwk:=zyt root ps hp (d+1) root (by omega) hw
 have hlt:=hf.wkLt
 obtain⟨V,hV⟩:∃V,lvF ps (d+1) root=V:=⟨_,rfl⟩
 rw[hV]
 rw[←zgq hf]at hV
 generalize wkF ps (d+1) root=L at *
 refine spi (fn:=Try.f55) _ ?_
 conv=>whnf
 repeat' (refine z8 (hwk) rfl ?_;conv=>whnf)
 refine zau (fun i:Nat=>i≤L.length) (fun i=>⟨36,2,[(1,.ptr 0 0 0 0),(3,.slc 1),(4,.c (.nums .i64 L)),(5,.c (.int .i64 i))],[(0,.box [.c (.int .i64 root),.c (.pgs ps)] [] []),(1,.arr (.nums .i64 ((L.take i).filter fun x=>decide ((zb ps x).kids.length=0))))]⟩) (fun i=>L.length-i) 0 (Nat.zero_le _) (fun _=>Nat.zero_le _) (ydn [2] [0,1]) (fun i hi=>?_)
 have hfl:=List.length_filter_le (fun x=>decide ((zb ps x).kids.length=0)) (L.take i)
 rw[List.length_take]at hfl
 by_cases hil:i<L.length
 ·have hb:=hlt (L.getD i 0) (zaq 0 hil)
  have k2:=hp.kids (L.getD i 0)
  dsimp only[zb]at k2
  conv=>whnf
  repeat' first
   |(refine za (by kernel_rfl) ?_;conv=>whnf)
   |(refine za (by(try simp only[wA,wN,wL])<;>omega) ?_;conv=>whnf)
   |(refine zk (fun h=>?_) (fun h=>?_)<;>(try simp only[qA]at h)<;>(try simp only[wA,wN]at h)<;>conv=>whnf)
   |(refine zg (by(try simp only[wA,wN,wL])<;>omega) (by(try simp only[wA,wN,wL])<;>omega) ?_;conv=>whnf)
   |(refine ze ?_;conv=>whnf)
  ·refine⟨⟨i+1,?_⟩,(zbd [] [0,1] ⟨by repeat first|exact trivial|refine⟨rfl,?_⟩,?_,rfl,rfl,rfl,rfl,rfl,rfl,rfl⟩),by dsimp only;omega⟩;(try dsimp only)
   ·omega
   ·refine⟨rfl,congrArg (fun z=>some (O.arr (C.nums .i64 z))) ?_,trivial⟩
    rw[zat 0 hil,List.filter_append,List.filter_cons,if_pos (by rw[decide_eq_true_eq];exact_mod_cast h)];rfl
  ·refine⟨⟨i+1,?_⟩,(zbd [] [0,1] ⟨by repeat first|exact trivial|refine⟨rfl,?_⟩,?_,rfl,rfl,rfl,rfl,rfl,rfl,rfl⟩),by dsimp only;omega⟩;(try dsimp only)
   ·omega
   ·refine⟨rfl,congrArg (fun z=>some (O.arr (C.nums .i64 z))) ?_,trivial⟩
    rw[zat 0 hil,List.filter_append,List.filter_cons,if_neg (by rw[decide_eq_true_eq];exact_mod_cast h),List.filter_nil,List.append_nil]
  ·exfalso;omega
 ·rw[List.take_of_length_le (by omega),hV]
  conv=>whnf
  repeat' first
   |(refine za (by kernel_rfl) ?_;conv=>whnf)
   |(refine za (by(try simp only[wA,wN,wL])<;>omega) ?_;conv=>whnf)
   |(refine zk (fun h=>?_) (fun h=>?_)<;>(try simp only[qA]at h)<;>(try simp only[wA,wN]at h)<;>conv=>whnf)
   |(refine zg (by(try simp only[wA,wN,wL])<;>omega) (by(try simp only[wA,wN,wL])<;>omega) ?_;conv=>whnf)
   |(refine ze ?_;conv=>whnf)
  all_goals first|(exfalso;omega)|exact(zu [] [1])
theorem zrf (root:Int) (ps:List Pg) (hp:pB ps) (d mn mx:Nat) (lo hi:Int) (hf:Fit ps (d+1) mn mx root lo hi) (hd:d≤4) (hm:mx≤4):zr Try.prog 37 0 [trV root ps] [] 1 (.slc 0) [(0,.arr (.prs (prF ps (d+1) (zb ps root))))]:=by
 have k4:=hp.len
 have hll:(lvF ps (d+1) root).length≤97656:=by
  have hwl:=zg5 _ (hf.wkOk hm)
  have hw4:wkB (d+1)≤97656:=Nat.le_trans (zfs (show d+1≤8 by omega)) (by decide)
  rw[←zgq hf]
  exact Nat.le_trans (List.length_filter_le _ _) (by omega)
 have hlv:=zo3 root ps hp d mn mx lo hi hf hd hm
 have hlf:=zec hf
 have hl4:=znl hf hm
 have hfin:=zft hf
 obtain⟨V,hV⟩:∃V,prF ps (d+1) (zb ps root)=V:=⟨_,rfl⟩
 rw[hV]at hfin⊢
 generalize lvF ps (d+1) root=L at *
 refine spi (fn:=Try.f37) _ ?_
 conv=>whnf
 repeat' (refine z8 (hlv) rfl ?_;conv=>whnf)
 refine zau (fun i:Nat=>i≤L.length) (fun i=>⟨27,2,[(1,.ptr 0 0 0 0),(3,.slc 1),(4,.c (.nums .i64 L)),(5,.c (.int .i64 i))],[(0,.box [.c (.int .i64 root),.c (.pgs ps)] [] []),(1,.arr (.prs ((L.take i).flatMap fun x=>zab (zb ps x))))]⟩) (fun i=>L.length-i) 0 (Nat.zero_le _) (fun _=>Nat.zero_le _) (ydn [2] [0,1]) (fun i hi=>?_)
 by_cases hil:i<L.length
 ·obtain⟨hb0,hb1,_,_,hlk⟩:=hlf (L.getD i 0) (zaq 0 hil)
  have k1:=hl4 (L.getD i 0) (zaq 0 hil)
  have hln:=hlk.len
  have hrl:=zby _ hln
  have hfl:=zki (n:=4) (f:=fun x=>zab (zb ps x)) (l:=L.take i) fun x hx=>by
   obtain⟨_,_,_,_,hk⟩:=hlf x (List.mem_of_mem_take hx)
   have:=hl4 x (List.mem_of_mem_take hx)
   rw[zby _ hk.len];exact this
  rw[List.length_take]at hfl
  dsimp only[zb]at k1 hln hrl
  conv=>whnf
  repeat' first
   |(refine za (by kernel_rfl) ?_;conv=>whnf)
   |(refine za (by(try simp only[wA,wN,wL])<;>omega) ?_;conv=>whnf)
   |(refine zk (fun h=>?_) (fun h=>?_)<;>(try simp only[qA]at h)<;>(try simp only[wA,wN]at h)<;>conv=>whnf)
   |(refine zg (by(try simp only[wA,wN,wL])<;>omega) (by(try simp only[wA,wN,wL])<;>omega) ?_;conv=>whnf)
   |(refine zar (zg4 (ps.getD (L.getD i 0).toNat ⟨[],[],[]⟩) (by omega) (by omega)) rfl rfl ?_;conv=>whnf)
   |(refine zo ?_;conv=>whnf)
   |(refine ze ?_;conv=>whnf)
  ·refine⟨⟨i+1,?_⟩,(zbd [] [0,1] ⟨by repeat first|exact trivial|refine⟨rfl,?_⟩,?_,rfl,rfl,rfl,rfl,rfl,rfl,rfl⟩),by dsimp only;omega⟩;(try dsimp only)
   ·omega
   ·exact⟨rfl,congrArg (fun z=>some (O.arr (C.prs z))) (zhn 0 (fun x=>zab (zb ps x)) L i hil).symm,trivial⟩
  ·exfalso;omega
 ·rw[List.take_of_length_le (by omega),hfin]
  conv=>whnf
  repeat' first
   |(refine za (by kernel_rfl) ?_;conv=>whnf)
   |(refine za (by(try simp only[wA,wN,wL])<;>omega) ?_;conv=>whnf)
   |(refine zk (fun h=>?_) (fun h=>?_)<;>(try simp only[qA]at h)<;>(try simp only[wA,wN]at h)<;>conv=>whnf)
   |(refine zg (by(try simp only[wA,wN,wL])<;>omega) (by(try simp only[wA,wN,wL])<;>omega) ?_;conv=>whnf)
   |(refine zar (zg4 _ (by omega) (by omega)) rfl rfl ?_;conv=>whnf)
   |(refine zo ?_;conv=>whnf)
   |(refine ze ?_;conv=>whnf)
  all_goals first|(exfalso;omega)|exact(zu [] [1])
end Go.VL
