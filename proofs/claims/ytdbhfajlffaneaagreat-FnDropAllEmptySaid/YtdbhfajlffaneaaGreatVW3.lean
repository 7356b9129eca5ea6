/- V-logic: Gr TrPa TrZb TrPd TrPe TrDp TrHb PT30 PT31 -/
import Derived.Test.YtdbhfajlffaneaaGreatVEG
import Derived.Test.YtdbhfajlffaneaaGreatVT1
import Derived.Shelf.RegionOpenPlain
import Derived.WalkKit
import Derived.Lib.Walk
import Derived.Lib.SliceRun
import Derived.Lib.AppendZerosOnto
import Derived.Test.YtdbhfajlffaneaaGreatVW2
import Derived.Test.YtdbhfajlffaneaaGreatVW1
import Derived.Test.YtdbhfajlffaneaaGreatVPE
import Derived.Test.YtdbhfajlffaneaaGreatVT7
namespace Go.Proofs
set_option linter.unusedVariables false
set_option linter.unusedSimpArgs false
open Go.RowKit Go.Lib
set_option maxHeartbeats 2000000 in
set_option maxRecDepth 100000 in
theorem ycf (w:World):Calls Tryz.prog 190 #[.slice none 0 0,.int .i64 0] w fun e w'=>e=.returned (.slice none 0 0)∧w'=w:=by
 go_enter Tryz.func190,Tryz.ntmps190
 go_wp2
 go_ret
 exact⟨rfl,rfl⟩
set_option maxHeartbeats 4000000 in
set_option maxRecDepth 100000 in
theorem ycm (n:Nat) (w:World) (h0:0<n) (hn:n≤1099511627776):Calls Tryz.prog 190 #[.slice none 0 0,.int .i64 n] w fun e w' =>
  e=.returned (.slice (some ⟨w.heap.size,0,none⟩) 0 (grownCap w n 0 3)) ∧
  w'=w.drew.alloc (.cells (#[]++Builtin.zeroCells (Value.int .i64 0).cells n++Builtin.zeroCells (Value.int .i64 0).cells (grownCap w n 0 3-n)) 3):=by
 obtain⟨i0,hi0,hz0,hs0,hb0⟩:=info_parts (P:=Tryz.prog) (e:=3) (z:=Value.int .i64 0) (size:=1) (bytes:=8) (by kernel_rfl)
 have h1:¬((n:Int)<0):=by omega
 have h4:(n:Int)>0:=by omega
 have hrz:∀ty,(Builtin.append_ #[26,3] ty #[.slice none 0 0,.int .i64 (n:Int)]).run Tryz.prog w =
   .ok (.slice (some ⟨w.heap.size,0,none⟩) n (grownCap w n 0 3)) (w.drew.alloc (.cells (#[]++Builtin.zeroCells (Value.int .i64 0).cells n++Builtin.zeroCells (Value.int .i64 0).cells (grownCap w n 0 3-n)) 3)):=fun ty=>by
  have h:=Lib.run_append_grow_zeros (P:=Tryz.prog) w 26 3 ty 3 i0 (Value.int .i64 0) .i64 .i64 Tryz.underlying26 Tryz.underlying3 hi0 hz0 none 0 0 [] (run_firstCells_none w.drew i0.size 0 0 0) n h0 (by omega) (by omega) (by omega)
   (by rw[hb0];omega) (by have:=growslice_fits (need:=0+n) (old:=0) (bytes:=i0.bytes) (by omega) (by rw[hb0];omega);exact this)
  rw[Nat.zero_add]at h
  exact h
 have hGn:n≤grownCap w n 0 3:=grownCap_ge w _ _ _
 obtain⟨G,hG⟩:∃G,G=grownCap w n 0 3:=⟨_,rfl⟩
 rw[←hG]at hrz hGn⊢
 have hG63:G≤9223372036854775807:=by
  have:=grownCap_le_maxLen w n 0 3 (by unfold maxLen;omega)
  rw[←hG]at this
  unfold maxLen at this
  omega
 clear hG
 go_enter Tryz.func190,Tryz.ntmps190
 go_wp2_with (at_builtin;refine Lib.wpList_append_run _ rfl _ _ _ _ rfl _ _ rfl rfl _ _ (hrz _) ?_)
 all_goals (go_ret;exact⟨rfl,rfl⟩)
end Go.Proofs
namespace Go.VL
set_option linter.unusedVariables false
set_option linter.unusedSimpArgs false
open Go.Proofs
theorem ya0 (n:Nat) (hn:n≤1099511627776):zr Tryz.prog 190 0 [.nil,.c (.int .i64 n)] [] 1 (.slc 0) [(0,.arr (.nums .i64 []))]:=by
 refine⟨⟨_,Tryz.func190,by kernel_rfl,by kernel_rfl⟩,fun W I g argv hI hh hl ha=>?_⟩
 obtain⟨a,b,rfl⟩:∃a b,argv=[a,b]:=by
  match argv,hl with
  |[a,b],_=>exact⟨a,b,rfl⟩
 have e0:=RV.nil_inv' (ha 0 _ _ rfl rfl)
 have e1:=RV.int_inv (ha 1 _ _ rfl rfl)
 subst e0;subst e1
 rcases Nat.eq_zero_or_pos n with h0|h0
 ·subst h0
  refine(ycf W).mono ?_
  rintro e w' ⟨rfl,rfl⟩
  have no:∀id o b,(id,o)∈[(0,O.arr (.nums .i64 []))]→¬Own (fun _=>none) w' id o b:=by
   intro id o b hm hb
   cases List.mem_singleton.1 hm
   rcases hb with ⟨cl,hb⟩|hb
   ·cases hb
   ·exact hb
  refine⟨_,I,fun _=>none,rfl,fun b h=>h,fun b h=>.inl h,hI,⟨fun id o hm=>?_,fun id o b hm hb=>absurd hb (no id o b hm),by simp,fun id o id' o' b hm hm' hb _=>absurd hb (no id o b hm)⟩,.slc0 0 (by omega) rfl,(fun id o o' hm=>by cases hm),(fun b hb=>?_),⟨rfl,rfl,rfl,Nat.le_refl _,fun _ _ _=>rfl⟩⟩
  ·cases List.mem_singleton.1 hm
   exact⟨by omega,.none _ rfl rfl rfl⟩
  ·obtain⟨id,o,hm,hb⟩:=hb
   exact absurd hb (no id o b hm)
 ·refine(ycm n W h0 hn).mono ?_
  rintro e w' ⟨rfl,rfl⟩
  have hGn:n≤grownCap W n 0 3:=grownCap_ge W _ _ _
  generalize grownCap W n 0 3=G at hGn⊢
  obtain⟨cells,hc⟩:∃cells:List Value,(#[]++Builtin.zeroCells (Value.int .i64 0).cells n++Builtin.zeroCells (Value.int .i64 0).cells (G-n))=cells.toArray:=⟨_,rfl⟩
  have hcl:cells.length=G*1:=by
   have:=congrArg Array.size hc
   simp[Builtin.zeroCells,Value.cells]at this
   omega
  rw[hc]
  clear hc
  have hb:(W.drew.alloc (.cells cells.toArray 3)).heap[W.heap.size]? = some (.cells cells.toArray 3 (0,0)):=by
   show(W.heap.push _)[W.heap.size]? = _
   simp
  have own:∀id o b,(id,o)∈[(0,O.arr (.nums .i64 []))]→Own (fun i=>if i=0 then some (W.heap.size,G,0)else none) (W.drew.alloc (.cells cells.toArray 3)) id o b→b=W.heap.size:=by
   intro id o b hm hb
   cases List.mem_singleton.1 hm
   rcases hb with ⟨cl,hb⟩|hb
   ·simp at hb;exact hb.1.symm
   ·exact hb.elim
  have hsz:(W.drew.alloc (.cells cells.toArray 3)).heap.size=W.heap.size+1:=by
   show(W.heap.push _).size=_
   simp
  refine⟨_,I,fun i=>if i=0 then some (W.heap.size,G,0)else none,rfl,fun b h=>h,fun b h=>.inl h,(fun b h=>by have:=hI b h;omega),⟨fun id o hm=>?_,(fun id o b hm hb=>?_),by simp,fun id o id' o' b hm hm' _ _=>?_⟩,.slc 0 0 _ _ (by omega) rfl,(fun id o o' hm=>by cases hm),(fun b hb=>?_),⟨rfl,rfl,rfl,by omega,fun b hb _=>?_⟩⟩
  ·cases List.mem_singleton.1 hm
   exact⟨by omega,.arr _ _ _ cells 3 rfl rfl hb (by show _=G*1;omega) (Nat.zero_le _) (fun i j y hi=>absurd hi (Nat.not_lt_zero _)) (fun h=>by cases h)⟩
  ·have:=own id o b hm hb
   subst this
   exact⟨fun h=>absurd (hI _ h) (Nat.lt_irrefl _),by omega⟩
  ·cases List.mem_singleton.1 hm
   cases List.mem_singleton.1 hm'
   rfl
  ·obtain⟨id,o,hm,hb⟩:=hb
   exact .inl (Nat.le_of_eq (own id o b hm hb).symm)
  ·show(W.heap.push _)[b]? = _
   rw[Array.getElem?_push]
   have:b≠W.heap.size:=by omega
   simp[this]
end Go.VL
namespace Go.Proofs
set_option linter.unusedVariables false
set_option linter.unusedSimpArgs false
open Go.RowKit Go.Lib
set_option maxHeartbeats 2000000 in
set_option maxRecDepth 100000 in
theorem yb4 (w:World):Calls Tryz.prog 186 #[.slice none 0 0,.int .i64 0] w fun e w'=>e=.returned (.slice none 0 0)∧w'=w:=by
 go_enter Tryz.func186,Tryz.ntmps186
 go_wp2
 go_ret
 exact⟨rfl,rfl⟩
set_option maxHeartbeats 4000000 in
set_option maxRecDepth 100000 in
theorem yb1 (n:Nat) (w:World) (h0:0<n) (hn:n≤1099511627776):Calls Tryz.prog 186 #[.slice none 0 0,.int .i64 n] w fun e w' =>
  e=.returned (.slice (some ⟨w.heap.size,0,none⟩) 0 (grownCap w n 0 71)) ∧
  w'=w.drew.alloc (.cells (#[]++Builtin.zeroCells (Value.agg #[.int .i64 0,.int .i64 0]).cells n++Builtin.zeroCells (Value.agg #[.int .i64 0,.int .i64 0]).cells (grownCap w n 0 71-n)) 71):=by
 obtain⟨i0,hi0,hz0,hs0,hb0⟩:=info_parts (P:=Tryz.prog) (e:=71) (z:=Value.agg #[.int .i64 0,.int .i64 0]) (size:=2) (bytes:=16) (by kernel_rfl)
 have h1:¬((n:Int)<0):=by omega
 have h4:(n:Int)>0:=by omega
 have hrz:∀ty,(Builtin.append_ #[33,3] ty #[.slice none 0 0,.int .i64 (n:Int)]).run Tryz.prog w =
   .ok (.slice (some ⟨w.heap.size,0,none⟩) n (grownCap w n 0 71)) (w.drew.alloc (.cells (#[]++Builtin.zeroCells (Value.agg #[.int .i64 0,.int .i64 0]).cells n++Builtin.zeroCells (Value.agg #[.int .i64 0,.int .i64 0]).cells (grownCap w n 0 71-n)) 71)):=fun ty=>by
  have h:=Lib.run_append_grow_zeros (P:=Tryz.prog) w 33 3 ty 71 i0 (Value.agg #[.int .i64 0,.int .i64 0]) .i64 .i64 Tryz.underlying33 Tryz.underlying3 hi0 hz0 none 0 0 [] (run_firstCells_none w.drew i0.size 0 0 0) n h0 (by omega) (by omega) (by omega)
   (by rw[hb0];omega) (by have:=growslice_fits (need:=0+n) (old:=0) (bytes:=i0.bytes) (by omega) (by rw[hb0];omega);exact this)
  rw[Nat.zero_add]at h
  exact h
 have hGn:n≤grownCap w n 0 71:=grownCap_ge w _ _ _
 obtain⟨G,hG⟩:∃G,G=grownCap w n 0 71:=⟨_,rfl⟩
 rw[←hG]at hrz hGn⊢
 have hG63:G≤9223372036854775807:=by
  have:=grownCap_le_maxLen w n 0 71 (by unfold maxLen;omega)
  rw[←hG]at this
  unfold maxLen at this
  omega
 clear hG
 go_enter Tryz.func186,Tryz.ntmps186
 go_wp2_with (at_builtin;refine Lib.wpList_append_run _ rfl _ _ _ _ rfl _ _ rfl rfl _ _ (hrz _) ?_)
 all_goals (go_ret;exact⟨rfl,rfl⟩)
end Go.Proofs
namespace Go.VL
set_option linter.unusedVariables false
set_option linter.unusedSimpArgs false
open Go.Proofs
theorem z9r (n:Nat) (hn:n≤1099511627776):zr Tryz.prog 186 0 [.nil,.c (.int .i64 n)] [] 1 (.slc 0) [(0,.arr (.prs []))]:=by
 refine⟨⟨_,Tryz.func186,by kernel_rfl,by kernel_rfl⟩,fun W I g argv hI hh hl ha=>?_⟩
 obtain⟨a,b,rfl⟩:∃a b,argv=[a,b]:=by
  match argv,hl with
  |[a,b],_=>exact⟨a,b,rfl⟩
 have e0:=RV.nil_inv' (ha 0 _ _ rfl rfl)
 have e1:=RV.int_inv (ha 1 _ _ rfl rfl)
 subst e0;subst e1
 rcases Nat.eq_zero_or_pos n with h0|h0
 ·subst h0
  refine(yb4 W).mono ?_
  rintro e w' ⟨rfl,rfl⟩
  have no:∀id o b,(id,o)∈[(0,O.arr (.prs []))]→¬Own (fun _=>none) w' id o b:=by
   intro id o b hm hb
   cases List.mem_singleton.1 hm
   rcases hb with ⟨cl,hb⟩|hb
   ·cases hb
   ·exact hb
  refine⟨_,I,fun _=>none,rfl,fun b h=>h,fun b h=>.inl h,hI,⟨fun id o hm=>?_,fun id o b hm hb=>absurd hb (no id o b hm),by simp,fun id o id' o' b hm hm' hb _=>absurd hb (no id o b hm)⟩,.slc0 0 (by omega) rfl,(fun id o o' hm=>by cases hm),(fun b hb=>?_),⟨rfl,rfl,rfl,Nat.le_refl _,fun _ _ _=>rfl⟩⟩
  ·cases List.mem_singleton.1 hm
   exact⟨by omega,.none _ rfl rfl rfl⟩
  ·obtain⟨id,o,hm,hb⟩:=hb
   exact absurd hb (no id o b hm)
 ·refine(yb1 n W h0 hn).mono ?_
  rintro e w' ⟨rfl,rfl⟩
  have hGn:n≤grownCap W n 0 71:=grownCap_ge W _ _ _
  generalize grownCap W n 0 71=G at hGn⊢
  obtain⟨cells,hc⟩:∃cells:List Value,(#[]++Builtin.zeroCells (Value.agg #[.int .i64 0,.int .i64 0]).cells n++Builtin.zeroCells (Value.agg #[.int .i64 0,.int .i64 0]).cells (G-n))=cells.toArray:=⟨_,rfl⟩
  have hcl:cells.length=G*2:=by
   have:=congrArg Array.size hc
   simp[Builtin.zeroCells,Value.cells]at this
   omega
  rw[hc]
  clear hc
  have hb:(W.drew.alloc (.cells cells.toArray 71)).heap[W.heap.size]? = some (.cells cells.toArray 71 (0,0)):=by
   show(W.heap.push _)[W.heap.size]? = _
   simp
  have own:∀id o b,(id,o)∈[(0,O.arr (.prs []))]→Own (fun i=>if i=0 then some (W.heap.size,G,0)else none) (W.drew.alloc (.cells cells.toArray 71)) id o b→b=W.heap.size:=by
   intro id o b hm hb
   cases List.mem_singleton.1 hm
   rcases hb with ⟨cl,hb⟩|hb
   ·simp at hb;exact hb.1.symm
   ·exact hb.elim
  have hsz:(W.drew.alloc (.cells cells.toArray 71)).heap.size=W.heap.size+1:=by
   show(W.heap.push _).size=_
   simp
  refine⟨_,I,fun i=>if i=0 then some (W.heap.size,G,0)else none,rfl,fun b h=>h,fun b h=>.inl h,(fun b h=>by have:=hI b h;omega),⟨fun id o hm=>?_,(fun id o b hm hb=>?_),by simp,fun id o id' o' b hm hm' _ _=>?_⟩,.slc 0 0 _ _ (by omega) rfl,(fun id o o' hm=>by cases hm),(fun b hb=>?_),⟨rfl,rfl,rfl,by omega,fun b hb _=>?_⟩⟩
  ·cases List.mem_singleton.1 hm
   exact⟨by omega,.arr _ _ _ cells 71 rfl rfl hb (by show _=G*2;omega) (Nat.zero_le _) (fun i j y hi=>absurd hi (Nat.not_lt_zero _)) (fun h=>by cases h)⟩
  ·have:=own id o b hm hb
   subst this
   exact⟨fun h=>absurd (hI _ h) (Nat.lt_irrefl _),by omega⟩
  ·cases List.mem_singleton.1 hm
   cases List.mem_singleton.1 hm'
   rfl
  ·obtain⟨id,o,hm,hb⟩:=hb
   exact .inl (Nat.le_of_eq (own id o b hm hb).symm)
  ·show(W.heap.push _)[b]? = _
   rw[Array.getElem?_push]
   have:b≠W.heap.size:=by omega
   simp[this]
end Go.VL
namespace Go.VL
open Go.Proofs
set_option maxRecDepth 10000
set_option linter.unusedSimpArgs false
set_option linter.unusedVariables false
theorem z8v (L:List (List Int)) (hL:L.length≤1024) (h:L.flatten.length≤1048576):zr Tryz.prog 187 0 [.c (.numss L)] [] 1 (.slc 0) [(0,.arr (.nums .i64 L.flatten))]:=by
 have hs:∀k,k<L.length→(L.take k).flatten.length+(L.getD k []).length≤1048576∧(L.take (k+1)).flatten=(L.take k).flatten++L.getD k []:=fun k hk=>by
  have e:(L.take (k+1)).flatten=(L.take k).flatten++L.getD k []:=by rw[zat [] hk,List.flatten_append];simp
  have e2:=congrArg (fun M=>(List.flatten M).length) (List.take_append_drop (k+1) L)
  simp only[List.flatten_append,List.length_append,e]at e2
  exact⟨by omega,e⟩
 refine spi (fn:=Tryz.f187) _ ?_
 conv=>whnf
 refine zd0 (fun(k:Nat) (n:Nat)=>k≤L.length∧n=(L.take k).flatten.length) (fun k n=>⟨36,0,[(0,.c (.numss L)),(3,.c (.int .i64 n)),(9,.c (.numss L)),(10,.c (.int .i64 L.length)),(11,.c (.int .i64 k))],[]⟩) (fun k _=>L.length-k) 0 0 ⟨Nat.zero_le _,rfl⟩ (fun _ _=>Nat.zero_le _) zbn (fun k n hk=>?_)
 obtain⟨hk,hn⟩:=hk
 by_cases hk2:k<L.length
 ·obtain⟨e1,e2⟩:=hs k hk2
  rw[←hn]at e1
  replace e2:n+(L.getD k []).length=(L.take (k+1)).flatten.length:=by rw[e2,hn,List.length_append]
  conv=>whnf
  repeat' first
   |(refine zn ?_ ?_;(focus ((try simp only[qA])<;>(try simp only[wA])<;>omega));conv=>whnf)
   |(refine zm ?_ ?_;(focus ((try simp only[qA])<;>(try simp only[wA])<;>omega));conv=>whnf)
   |(refine za (by(try simp only[wA,wL])<;>omega) ?_;conv=>whnf)
   |(refine zg (by(try simp only[wA,wL])<;>omega) (by(try simp only[wA,wL])<;>omega) ?_;conv=>whnf)
  exact⟨⟨(k+1,n+(L.getD k []).length),by omega,e2⟩,zbn,by dsimp only;omega⟩
 ·rw[List.take_of_length_le (by omega)]at hn
  conv=>whnf
  repeat' first|(refine zm ?_ ?_;(focus ((try simp only[qA])<;>(try simp only[wA])<;>omega));conv=>whnf)|(refine z8 (ya0 n (by omega)) rfl ?_;conv=>whnf)
  refine zd0 (fun(k:Nat) (M:List Int)=>k≤L.length∧M=(L.take k).flatten) (fun k M=>⟨36,1,[(6,.slc 0),(25,.c (.numss L)),(26,.c (.int .i64 L.length)),(27,.c (.int .i64 k))],[(0,.arr (.nums .i64 M))]⟩) (fun k _=>L.length-k) 0 [] ⟨Nat.zero_le _,rfl⟩ (fun _ _=>Nat.zero_le _) (ydn [] [0]) (fun k M hk=>?_)
  obtain⟨hk,hM⟩:=hk
  by_cases hk2:k<L.length
  ·obtain⟨e1,e2⟩:=hs k hk2
   rw[←hM]at e1 e2
   conv=>whnf
   repeat' first
    |(refine zn ?_ ?_;(focus ((try simp only[qA])<;>(try simp only[wA])<;>omega));conv=>whnf)
    |(refine za (by(try simp only[wA,wL])<;>omega) ?_;conv=>whnf)
    |(refine zg (by(try simp only[wA,wL])<;>omega) (by(try simp only[wA,wL])<;>omega) ?_;conv=>whnf)
   exact⟨⟨(k+1,M++L.getD k []),by omega,e2.symm⟩,(ydn [] [0]),by dsimp only;omega⟩
  ·rw[List.take_of_length_le (by omega)]at hM
   subst hM
   conv=>whnf
   repeat' (refine zm ?_ ?_;(focus ((try simp only[qA])<;>(try simp only[wA])<;>omega));conv=>whnf)
   exact(zu [] [0])
theorem yaz (a b c:List Int) (h:a.length+b.length+c.length≤1048576):zr Tryz.prog 187 0 [.c (.numss [a,b,c])] [] 1 (.slc 0) [(0,.arr (.nums .i64 (a++(b++c))))]:=by
 have:=z8v [a,b,c] (by simp) (by simp;omega)
 rwa [show [a,b,c].flatten=a++(b++c) by simp]at this
structure pgB (p:Pg):Prop where
 keys:p.keys.length≤4294967296
 kids:p.kids.length≤4294967296
 vals:p.vals.length≤4294967296
end Go.VL
namespace Go.VL
open Go.Proofs
set_option maxRecDepth 10000
set_option linter.unusedSimpArgs false
set_option linter.unusedVariables false
theorem zj2 (ps:List Pg) (hp:pB ps):zr Tryz.prog 60 0 [.c (.pgs ps),.c (.pgs ps)] [] 0 (.c (.bool true)) []:=by
 have k4:=hp.len
 refine spi (fn:=Tryz.f60) _ ?_
 conv=>whnf
 repeat' (refine zm ?_ ?_;(focus ((try simp only[qA])<;>(try simp only[wA])<;>omega));conv=>whnf)
 refine zau (fun i:Nat=>i≤ps.length) (fun i=>⟨57,0,[(0,.c (.pgs ps)),(1,.c (.pgs ps)),(5,.c (.int .i64 i))],[]⟩) (fun i=>ps.length-i) 0 (Nat.zero_le _) (fun _=>Nat.zero_le _) zbn (fun i hi=>?_)
 have k1:=zbh _ (hp.keys i)
 have k2:=zbh _ (hp.kids i)
 have k3:=zbh _ (hp.vals i)
 dsimp only[zb,Int.toNat_natCast]at k1 k2 k3
 conv=>whnf
 repeat' first
  |(refine za (by kernel_rfl) ?_;conv=>whnf)
  |(refine zn ?_ ?_;(focus ((try simp only[qA])<;>(try simp only[wA])<;>omega));conv=>whnf)
  |(refine za (by(try simp only[wA,wL])<;>omega) ?_;conv=>whnf)
  |(refine zk (fun h=>?_) (fun h=>?_)<;>(try simp only[qA]at h)<;>(try simp only[wA]at h)<;>conv=>whnf)
  |refine zc ?_
  |(refine zg (by(try simp only[wA,wL])<;>omega) (by(try simp only[wA,wL])<;>omega) ?_;conv=>whnf)
  |(refine zw (k1) rfl rfl ?_;conv=>whnf)
  |(refine zw (k2) rfl rfl ?_;conv=>whnf)
  |(refine zw (k3) rfl rfl ?_;conv=>whnf)
  |(refine ze ?_;conv=>whnf)
 ·refine⟨⟨i+1,?_⟩,zbn,by dsimp only;omega⟩;(try dsimp only)
  omega
 ·rfl
theorem zqk:zr Tryz.prog 60 0 [.nil,.nil] [] 0 (.c (.bool true)) [] :=
 zkb (args:=[.c (.pgs []),.c (.pgs [])]) ⟨.inr ⟨rfl,_,rfl,rfl,rfl⟩,.inr ⟨rfl,_,rfl,rfl,rfl⟩,trivial⟩ (zj2 [] ⟨by decide,by intro i;simp[zb],by intro i;simp[zb],by intro i;simp[zb]⟩)
theorem z2b (root:Int) (ps:List Pg) (hp:pB ps):zr Tryz.prog 13 0 [trV root ps,trV root ps] [] 0 (.c (.bool true)) []:=by
 refine spi (fn:=Tryz.f13) _ ?_
 conv=>whnf
 repeat' first
  |(refine zn ?_ ?_;(focus ((try simp only[qA])<;>(try simp only[wA])<;>omega));conv=>whnf)
  |refine zh ?_
  |(refine zp (zj2 _ hp) rfl rfl ?_;conv=>whnf)
 all_goals rfl
theorem z3a:zr Tryz.prog 13 0 [.agg [.c (.int .i64 0),.nil],.agg [.c (.int .i64 0),.nil]] [] 0 (.c (.bool true)) []:=by
 refine spi (fn:=Tryz.f13) _ ?_
 conv=>whnf
 repeat' first|(refine zn ?_ ?_;(focus ((try simp only[qA])<;>(try simp only[wA])<;>omega));conv=>whnf)|refine zh ?_|(refine zp (zqk) rfl rfl ?_;conv=>whnf)
 all_goals rfl
end Go.VL
namespace Go.VL
open Go.Proofs
set_option maxRecDepth 10000
set_option linter.unusedSimpArgs false
set_option linter.unusedVariables false
end Go.VL
namespace Go.VL
open Go.Proofs
set_option maxRecDepth 10000
set_option linter.unusedSimpArgs false
set_option linter.unusedVariables false
end Go.VL
namespace Go.VL
open Go.Proofs
set_option maxRecDepth 10000
set_option linter.unusedSimpArgs false
set_option linter.unusedVariables false
end Go.VL
namespace Go.VL
open Go.Proofs
set_option maxRecDepth 10000
set_option linter.unusedSimpArgs false
set_option linter.unusedVariables false
end Go.VL
namespace Go.VL
set_option linter.unusedVariables false
set_option linter.unusedSimpArgs false
structure RS where
 root:Int
 ps:List Pg
 held:List (List Int)
 done:List Int
 got:List Int
abbrev z4e (ops:List Opn) (w:Nat):Opn:=ops.getD w ⟨0,0,0⟩
def laF (h:List Int):Int:=h.getD (h.length-1) 0
def nxF (root:Int) (ps:List Pg) (h:List Int) (key:Int):Int :=
 if h.length=0 then root else(zb ps (laF h)).kids.getD (upF (zb ps (laF h)).keys key) 0
def z4j (ops:List Opn) (held:List (List Int)) (w:Nat) (page:Int):Bool :=
 (List.range ops.length).any fun i=>decide (i≠w)&&(held.getD i []).contains page&&decide ((z4e ops i).kind=1∨(z4e ops w).kind=1)
def fiF (ops:List Opn) (s:RS) (w:Nat):RS :=
 if (z4e ops w).kind=0 then
  ⟨s.root,s.ps,s.held.set w [],s.done++[(w:Int)],s.got.set w (if (z4e ops w).key∈(psF s.root s.ps).map Pr.key then zei (psF s.root s.ps) (z4e ops w).key else 9999)⟩
 else match zqc s.root s.ps ⟨(z4e ops w).key,(z4e ops w).value⟩with
  |some r=>⟨r.1,r.2,s.held.set w [],s.done++[(w:Int)],s.got.set w (z4e ops w).value⟩
  |none=>⟨s.root,s.ps,s.held.set w [],s.done++[(w:Int)],s.got.set w 9999⟩
def h2F (root:Int) (ps:List Pg) (h:List Int) (kind page:Int):List Int:=if sfF root ps kind page=true then [page]else h++[page]
def piF (ops:List Opn) (s:RS) (w:Nat):RS :=
 if (w:Int)∈s.done then s
 else if z4j ops s.held w (nxF s.root s.ps (s.held.getD w []) (z4e ops w).key)=true then s
 else if (zb s.ps (nxF s.root s.ps (s.held.getD w []) (z4e ops w).key)).kids.length=0 then fiF ops s w
 else⟨s.root,s.ps,s.held.set w (h2F s.root s.ps (s.held.getD w []) (z4e ops w).kind (nxF s.root s.ps (s.held.getD w []) (z4e ops w).key)),s.done,s.got⟩
def r0F (root:Int) (ps:List Pg) (n:Nat):RS:=⟨root,ps,List.replicate n [],[],List.replicate n 0⟩
def ruF (root:Int) (ps:List Pg) (ops:List Opn) (picks:List Int):RS:=picks.foldl (fun s w=>piF ops s w.toNat) (r0F root ps ops.length)
def vOp (o:Opn):Bool:=decide ((0≤o.kind∧o.kind≤1)∧(0≤o.key∧o.key≤99)∧(-1000≤o.value∧o.value≤1000)∧(o.kind=0→o.value=0))
def z4m (ops:List Opn):Bool:=ops.all vOp&&decide (ops.length≤4)
def InP (ps:List Pg) (h:List Int):Prop:=∀a∈h,0≤a∧a<ps.length∧(zb ps a).kids.length≠0
structure RunI (ops:List Opn) (k:Nat) (s:RS):Prop where
 vt:vTree s.root s.ps=true
 hl:s.held.length=ops.length
 gl:s.got.length=ops.length
 hin:∀w,InP s.ps (s.held.getD w [])
 hk:∀w,(s.held.getD w []).length≤k
 dn:∀x∈s.done,0≤x∧x<ops.length∧s.held.getD x.toNat []=[]
 nd:s.done.Nodup
 dl:s.done.length≤k
 gb:∀i,-1000≤s.got.getD i 0∧s.got.getD i 0≤9999
theorem z62 {ps:List Pg} {x:Pr} (hv:-1000≤x.value∧x.value≤1000):∀{d:Nat} {a:Int},At ps x.key (d+1) a→∀i:Int,0≤i→i<ps.length→((zb (zbb ps x (d+1) a) i).kids.length=0↔(zb ps i).kids.length=0)
 |0,a,h,i,h0,h1=>by
  obtain⟨_,_,_,hf,_⟩:=h
  show(zb (ps.set a.toNat _) i).kids.length=0↔_
  rw[zc9 hf.1 hf.2.1 h0]
  split
  ·rename_i e
   subst e
   rw[LeafOk.kids hf.2.2.2.2]
   exact⟨fun _=>rfl,fun _=>rfl⟩
  ·exact Iff.rfl
 |d+1,a,h,i,h0,h1=>by
  obtain⟨hd,hna⟩:=h.down
  obtain⟨_,_,_,hf,_⟩:=h
  have ih:=z62 hv hd
  obtain⟨mn,lo,hi,_,_,P⟩:=At.put hv hd
  obtain⟨_,_,_,hfc,_⟩:=hd
  rw[show d+1+1=d+2 from rfl,zz5]
  have hPl:=P.len
  have hkl:(zb ps a).kids.length≠0:=by have:=zaa.kidsLen hf.2.2.2.2;omega
  generalize (zb ps a).kids.getD (upF (zb ps a).keys x.key) 0=c at *
  generalize zbb ps x (d+1) c=ps1 at *
  have l1:(ps1.length:Int)≥ps.length:=by split at hPl<;>omega
  unfold zmw
  split
  ·rw[zc9 hf.1 (by rw[List.length_append,List.length_set];have:=hf.2.1;simp;omega) h0]
   split
   ·rename_i e
    subst e
    constructor
    ·intro q
     unfold zfu at q
     simp at q
    ·intro q;exact absurd q hkl
   ·rw[zlv h0,List.length_set,if_pos (by omega),zc9 hfc.1 (by have:=hfc.2.1;omega) h0]
    split
    ·rename_i e
     subst e
     rw[←ih i h0 h1]
     unfold zam
     split
     ·rename_i q
      rw[q];simp[zae]
     ·rename_i q
      constructor
      ·intro hq
       simp only[List.length_take]at hq
       omega
      ·intro hq;exact absurd hq q
    ·exact ih i h0 h1
  ·exact ih i h0 h1
theorem z9k {root:Int} {ps:List Pg} {x:Pr} {r:Int×List Pg} (h:zqc root ps x=some r) {i:Int} (h0:0≤i) (h1:i<ps.length):(zb r.2 i).kids.length=0↔(zb ps i).kids.length=0:=by
 have F:=z4k h
 obtain⟨_,_,rfl,_⟩:=zrm h
 have v:=za0 F.v0
 obtain⟨d,hd⟩:∃d,htF root ps=d+1:=⟨htF root ps-1,by have:=v.h1;omega⟩
 rw[hd]at v⊢
 have ha:=v.v0.at F.rng.1.1 F.rng.1.2
 have hi:=z62 F.rng.2 ha i h0 h1
 obtain⟨mn,lo,hi',_,_,P⟩:=At.put F.rng.2 ha
 have hPf:=P.fit
 have hPl:=P.len
 unfold zer
 generalize zbb ps x (d+1) root=ps1 at *
 have l1:(ps1.length:Int)≥ps.length:=by split at hPl<;>omega
 split
 ·show(zb (ps1.set root.toNat (zam (zb ps1 root)).1++_) i).kids.length=0↔_
  rw[zlv h0,List.length_set,if_pos (by omega),zc9 hPf.1 hPf.2.1 h0]
  split
  ·rename_i e
   subst e
   rw[←hi]
   unfold zam
   split
   ·rename_i q
    rw[q];simp[zae]
   ·rename_i q
    constructor
    ·intro hq
     simp only[List.length_take]at hq
     omega
    ·intro hq;exact absurd hq q
  ·exact hi
 ·exact hi
theorem ya8 {root:Int} {ps:List Pg} {x:Pr} {r:Int×List Pg} (h:zqc root ps x=some r):ps.length≤r.2.length:=by
 have:=(z4k h).len
 omega
theorem z7p {root:Int} {ps:List Pg} (h:vTree root ps=true) {a:Int} (h0:0≤a) (h1:a<ps.length) (hk:(zb ps a).kids.length≠0) (key:Int) :
  upF (zb ps a).keys key<(zb ps a).kids.length∧0≤(zb ps a).kids.getD (upF (zb ps a).keys key) 0∧(zb ps a).kids.getD (upF (zb ps a).keys key) 0<ps.length:=by
 have v:=za0 h
 obtain⟨d',mn',lo',hi',q⟩:=ztr v.fit (v.v0.cover h0 h1)
 match d',q with
 |0,q=>exact q.2.2.2.2.elim
 |1,q=>rw[LeafOk.kids q.2.2.2.2]at hk;exact absurd rfl hk
 |d+2,q =>
  obtain⟨g1,l,r,g2⟩:=q.kid (key:=key)
  exact⟨g1,g2.1,g2.2.1⟩
theorem z7d {h:List Int} (hn:h.length≠0):laF h∈h:=zaq 0 (by omega)
theorem z8h {root:Int} {ps:List Pg} (h:vTree root ps=true) {hs:List Int} (hi:InP ps hs) (key:Int):0≤nxF root ps hs key∧nxF root ps hs key<ps.length:=by
 unfold nxF
 split
 ·exact(za0 h).v0.pos
 ·rename_i c
  obtain⟨a0,a1,a2⟩:=hi _ (z7d c)
  exact(z7p h a0 a1 a2 key).2
theorem z4s {α:Type} (d:α) (l:List α) (i j:Nat) (x:α):(l.set i x).getD j d=if j=i∧i<l.length then x else l.getD j d:=by
 by_cases c:i<l.length
 ·rw[z7 _ _ _ _ _ c]
  by_cases e:j=i
  ·rw[if_pos e,if_pos ⟨e,c⟩]
  ·rw[if_neg e,if_neg fun q=>e q.1]
 ·rw[List.set_eq_of_length_le (by omega),if_neg fun q=>c q.2]
theorem InP.put {root:Int} {ps:List Pg} {x:Pr} {r:Int×List Pg} (h:zqc root ps x=some r) {hs:List Int} (hi:InP ps hs):InP r.2 hs:=fun a ha=>by
 obtain⟨a0,a1,a2⟩:=hi a ha
 have:=ya8 h
 exact⟨a0,by omega,fun q=>a2 ((z9k h a0 a1).1 q)⟩
inductive PiC (ops:List Opn) (s:RS) (w:Nat):RS→Prop
 |same (h:(w:Int)∈s.done∨z4j ops s.held w (nxF s.root s.ps (s.held.getD w []) (z4e ops w).key)=true):PiC ops s w s
 |down (h1:(w:Int)∉s.done) (h2:z4j ops s.held w (nxF s.root s.ps (s.held.getD w []) (z4e ops w).key)=false) (h3:(zb s.ps (nxF s.root s.ps (s.held.getD w []) (z4e ops w).key)).kids.length≠0) :
   PiC ops s w ⟨s.root,s.ps,s.held.set w (h2F s.root s.ps (s.held.getD w []) (z4e ops w).kind (nxF s.root s.ps (s.held.getD w []) (z4e ops w).key)),s.done,s.got⟩
 |get (h1:(w:Int)∉s.done) (h2:z4j ops s.held w (nxF s.root s.ps (s.held.getD w []) (z4e ops w).key)=false) (h3:(zb s.ps (nxF s.root s.ps (s.held.getD w []) (z4e ops w).key)).kids.length=0) (h4:(z4e ops w).kind=0) :
   PiC ops s w ⟨s.root,s.ps,s.held.set w [],s.done++[(w:Int)],s.got.set w (if (z4e ops w).key∈(psF s.root s.ps).map Pr.key then zei (psF s.root s.ps) (z4e ops w).key else 9999)⟩
 |put (h1:(w:Int)∉s.done) (h2:z4j ops s.held w (nxF s.root s.ps (s.held.getD w []) (z4e ops w).key)=false) (h3:(zb s.ps (nxF s.root s.ps (s.held.getD w []) (z4e ops w).key)).kids.length=0) (h4:(z4e ops w).kind≠0) (r:Int×List Pg) (h5:zqc s.root s.ps ⟨(z4e ops w).key,(z4e ops w).value⟩=some r) :
   PiC ops s w ⟨r.1,r.2,s.held.set w [],s.done++[(w:Int)],s.got.set w (z4e ops w).value⟩
 |putNo (h1:(w:Int)∉s.done) (h2:z4j ops s.held w (nxF s.root s.ps (s.held.getD w []) (z4e ops w).key)=false) (h3:(zb s.ps (nxF s.root s.ps (s.held.getD w []) (z4e ops w).key)).kids.length=0) (h4:(z4e ops w).kind≠0) (h5:zqc s.root s.ps ⟨(z4e ops w).key,(z4e ops w).value⟩=none) :
   PiC ops s w ⟨s.root,s.ps,s.held.set w [],s.done++[(w:Int)],s.got.set w 9999⟩
theorem z74 (ops:List Opn) (s:RS) (w:Nat):PiC ops s w (piF ops s w):=by
 unfold piF
 split
 ·rename_i h;exact .same (.inl h)
 ·rename_i h1
  split
  ·rename_i h;exact .same (.inr h)
  ·rename_i h2
   have h2:=eq_false_of_ne_true h2
   split
   ·rename_i h3
    unfold fiF
    split
    ·rename_i h4;exact .get h1 h2 h3 h4
    ·rename_i h4
     split
     ·rename_i r h5;exact .put h1 h2 h3 h4 r h5
     ·rename_i h5;exact .putNo h1 h2 h3 h4 h5
   ·rename_i h3;exact .down h1 h2 h3
theorem z5c {ops:List Opn} (h:z4m ops=true) {w:Nat} (hw:w<ops.length):(0≤(z4e ops w).kind∧(z4e ops w).kind≤1)∧(0≤(z4e ops w).key∧(z4e ops w).key≤99)∧(-1000≤(z4e ops w).value∧(z4e ops w).value≤1000)∧((z4e ops w).kind=0→(z4e ops w).value=0):=by
 unfold z4m at h
 rw[Bool.and_eq_true,List.all_eq_true]at h
 have:=h.1 _ (zaq ⟨0,0,0⟩ hw)
 unfold vOp at this
 exact of_decide_eq_true this
theorem ybi {root:Int} {ps:List Pg} (h:vTree root ps=true) (k:Int):-1000≤zei (psF root ps) k∧zei (psF root ps) k≤1000:=by
 have hr:=zaa.row (za0 h).fit.2.2.2.2
 by_cases c:k∈(psF root ps).map Pr.key
 ·obtain⟨y,hy,rfl⟩:=List.mem_map.1 c
  rw[zhx (ybt h) hy]
  exact hr.vrng y hy
 ·rw[z6w c];omega
theorem RunI.zero {root:Int} {ps:List Pg} {ops:List Opn} (h:vTree root ps=true):RunI ops 0 (r0F root ps ops.length):=by
 have e:∀w,(r0F root ps ops.length).held.getD w []=[]:=fun w=>by
  unfold r0F
  rw[List.getD_eq_getElem?_getD,List.getElem?_replicate]
  split<;>rfl
 refine⟨h,List.length_replicate,List.length_replicate,fun w=>?_,fun w=>?_,fun x hx=>(by cases hx),List.nodup_nil,Nat.le_refl _,fun i=>?_⟩
 ·rw[e];exact fun a ha=>by cases ha
 ·rw[e];exact Nat.le_refl _
 ·unfold r0F
  rw[List.getD_eq_getElem?_getD,List.getElem?_replicate]
  split<;>exact⟨by decide,by decide⟩
theorem RunI.step {ops:List Opn} {k:Nat} {s:RS} (h:RunI ops k s) (ho:z4m ops=true) {w:Nat} (hw:w<ops.length):RunI ops (k+1) (piF ops s w):=by
 have hvo:=z5c ho hw
 have hset:∀(x:List Int) (j:Nat),(s.held.set w x).getD j []=if j=w then x else s.held.getD j []:=fun x j=>by
  rw[z4s]
  by_cases e:j=w
  ·rw[if_pos e,if_pos ⟨e,by rw[h.hl];exact hw⟩]
  ·rw[if_neg e,if_neg fun q=>e q.1]
 have hgs:∀(x:Int),-1000≤x∧x≤9999→∀i,-1000≤(s.got.set w x).getD i 0∧(s.got.set w x).getD i 0≤9999:=fun x hx i=>by
  rw[z4s]
  split
  ·exact hx
  ·exact h.gb i
 have fin:∀(R:Int) (P:List Pg) (x:Int),(w:Int)∉s.done→vTree R P=true→(∀hs,InP s.ps hs→InP P hs)→(-1000≤x∧x≤9999)→RunI ops (k+1) ⟨R,P,s.held.set w [],s.done++[(w:Int)],s.got.set w x⟩:=fun R P x h1 hv hp hx=>by
  refine⟨hv,by rw[List.length_set];exact h.hl,by rw[List.length_set];exact h.gl,fun j=>?_,fun j=>?_,fun y hy=>?_,?_,?_,hgs x hx⟩
  ·show InP P ((s.held.set w []).getD j [])
   rw[hset]
   split
   ·exact fun a ha=>by cases ha
   ·exact hp _ (h.hin j)
  ·show((s.held.set w []).getD j []).length≤k+1
   rw[hset]
   split
   ·exact Nat.zero_le _
   ·exact Nat.le_succ_of_le (h.hk j)
  ·show 0≤y∧y<ops.length∧(s.held.set w []).getD y.toNat []=[]
   rw[hset]
   rcases List.mem_append.1 hy with hy|hy
   ·obtain⟨q1,q2,q3⟩:=h.dn y hy
    refine⟨q1,q2,?_⟩
    split
    ·rfl
    ·exact q3
   ·rw[List.mem_singleton]at hy
    subst hy
    exact⟨by omega,by omega,by rw[if_pos (by omega)]⟩
  ·refine List.nodup_append.2 ⟨h.nd,by simp,fun a ha b hb=>?_⟩
   rw[List.mem_singleton]at hb
   subst hb
   exact fun e=>h1 (e▸ha)
  ·show(s.done++[(w:Int)]).length≤k+1
   rw[List.length_append]
   have:=h.dl
   simp;omega
 have hc:=z74 ops s w
 generalize piF ops s w=t at hc
 cases hc with
 |same q=>exact⟨h.vt,h.hl,h.gl,h.hin,fun j=>by have:=h.hk j;omega,h.dn,h.nd,by have:=h.dl;omega,h.gb⟩
 |down h1 h2 h3 =>
  have hn:=z8h h.vt (h.hin w) (z4e ops w).key
  refine⟨h.vt,by rw[List.length_set];exact h.hl,h.gl,fun j=>?_,fun j=>?_,fun y hy=>?_,h.nd,by have:=h.dl;show s.done.length≤k+1;omega,h.gb⟩
  ·show InP s.ps ((s.held.set w _).getD j [])
   rw[hset]
   split
   ·unfold h2F
    split
    ·intro a ha
     rw[List.mem_singleton]at ha
     subst ha
     exact⟨hn.1,hn.2,h3⟩
    ·intro a ha
     rcases List.mem_append.1 ha with ha|ha
     ·exact h.hin w a ha
     ·rw[List.mem_singleton]at ha
      subst ha
      exact⟨hn.1,hn.2,h3⟩
   ·exact h.hin j
  ·show((s.held.set w _).getD j []).length≤k+1
   rw[hset]
   split
   ·unfold h2F
    have:=h.hk w
    split
    ·simp
    ·rw[List.length_append,List.length_singleton];omega
   ·exact Nat.le_succ_of_le (h.hk j)
  ·show 0≤y∧y<ops.length∧(s.held.set w _).getD y.toNat []=[]
   obtain⟨q1,q2,q3⟩:=h.dn y hy
   refine⟨q1,q2,?_⟩
   rw[hset,if_neg]
   ·exact q3
   ·intro e
    exact h1 (by rw[show(w:Int)=y by omega];exact hy)
 |get h1 h2 h3 h4 =>
  refine fin _ _ _ h1 h.vt (fun _ q=>q) ?_
  split
  ·have:=ybi h.vt (z4e ops w).key;omega
  ·omega
 |put h1 h2 h3 h4 r h5=>exact fin _ _ _ h1 (z4k h5).vt (fun hs q=>q.put h5) (by omega)
 |putNo h1 h2 h3 h4 h5=>exact fin _ _ _ h1 h.vt (fun _ q=>q) (by omega)
end Go.VL
namespace Go.VL
set_option linter.unusedVariables false
set_option linter.unusedSimpArgs false
theorem z44 (a:Int) (t:List Int) (n:Int):upF (a::t) n=if a≤n then upF t n+1 else 0:=by
 unfold upF
 rw[List.takeWhile_cons]
 by_cases c:a≤n
 ·rw[decide_eq_true c,if_pos rfl,if_pos c,List.length_cons]
 ·rw[decide_eq_false c,if_neg (by decide),if_neg c];rfl
theorem z46 {k:Int} {B:List Int}:∀{A:List Int},(∀x∈A,x≤k)→upF (A++B) k=A.length+upF B k
 |[],_=>by simp
 |a::t,h=>by
  rw[List.cons_append,z44,if_pos (h a List.mem_cons_self),z46 fun x hx=>h x (List.mem_cons_of_mem _ hx),List.length_cons];omega
theorem z5l {k:Int} {B:List Int}:∀{A:List Int},(¬∀x∈A,x≤k)→upF (A++B) k=upF A k∧upF A k<A.length
 |[],h=>absurd (fun x hx=>by cases hx) h
 |a::t,h=>by
  rw[List.cons_append,z44,z44,List.length_cons]
  by_cases c:a≤k
  ·obtain⟨i1,i2⟩:=z5l (k:=k) (B:=B) (A:=t) fun q=>h fun x hx=>by
    rcases List.mem_cons.1 hx with rfl|hx
    ·exact c
    ·exact q x hx
   rw[if_pos c,if_pos c,i1]
   exact⟨rfl,by omega⟩
  ·rw[if_neg c,if_neg c]
   exact⟨rfl,by omega⟩
theorem yaw {k:Int} {A:List Int} (h:∀x∈A,k<x):upF A k=0:=by
 cases A with
 |nil=>rfl
 |cons a t=>rw[z44,if_neg (by have:=h a List.mem_cons_self;omega)]
theorem z9v {KA KB A B:List Int} {key c n k:Int} (hA:A.length=KA.length) (hasc:Asc (KA++key::KB)) :
  (upF (KA++KB) k=A.length∧(A++c::B).getD (upF (KA++KB) k) 0=c∧(A++c::n::B).getD (upF (KA++key::KB) k) 0=if k<key then c else n) ∨
  (upF (KA++KB) k≠A.length∧(A++c::n::B).getD (upF (KA++key::KB) k) 0=(A++c::B).getD (upF (KA++KB) k) 0):=by
 by_cases h:∀x∈KA,x≤k
 ·rw[z46 h,z46 h,z44,←hA]
  have g:∀(l:List Int) (i:Nat),(A++l).getD (A.length+i) 0=l.getD i 0:=fun l i=>by
   rw[zdp,if_neg (by omega)];congr 1;omega
  have gs:∀i,(A++c::n::B).getD (A.length+i) 0=(c::n::B).getD i 0:=fun i=>g _ i
  have gt:∀i,(A++c::B).getD (A.length+i) 0=(c::B).getD i 0:=fun i=>g _ i
  rw[gs,gt]
  by_cases hk:key≤k
  ·rw[if_pos hk]
   by_cases h0:upF KB k=0
   ·refine .inl ⟨by omega,by rw[h0];rfl,?_⟩
    rw[h0,if_neg (by omega)];rfl
   ·refine .inr ⟨by omega,?_⟩
    obtain⟨u,hu⟩:∃u,upF KB k=u+1:=⟨upF KB k-1,by omega⟩
    rw[hu];rfl
  ·rw[if_neg hk]
   have h0:upF KB k=0:=yaw fun x hx=>by
    rw[z2x]at hasc
    have:=(zcf.1 hasc.2.1).1 x hx
    omega
   refine .inl ⟨by omega,by rw[h0];rfl,?_⟩
   rw[if_pos (by omega)];rfl
 ·obtain⟨e1,e2⟩:=z5l (B:=KB) h
  obtain⟨e3,_⟩:=z5l (B:=key::KB) h
  refine .inr ⟨by omega,?_⟩
  rw[e1,e3,zdp,zdp,if_pos (by omega),if_pos (by omega)]
theorem z8y {K1 K2 C1 C2:List Int} {mid k:Int} (h1:C1.length=K1.length+1) (hasc:Asc (K1++mid::K2)) :
  (C1++C2).getD (upF (K1++mid::K2) k) 0=if k<mid then C1.getD (upF K1 k) 0 else C2.getD (upF K2 k) 0:=by
 rw[z2x]at hasc
 by_cases h:∀x∈K1,x≤k
 ·have e1:upF K1 k=K1.length:=by
   have:=z46 (B:=[]) h
   rw[List.append_nil]at this
   rw[this];rfl
  rw[z46 h,z44,e1]
  by_cases c:mid≤k
  ·rw[if_pos c,if_neg (by omega),zdp,if_neg (by omega)]
   congr 1;omega
  ·rw[if_neg c,if_pos (by omega),zdp,if_pos (by omega)];rfl
 ·obtain⟨e1,e2⟩:=z5l (B:=mid::K2) h
  have c:k<mid:=by
   apply Classical.byContradiction
   intro hc
   exact h fun x hx=>by have:=hasc.2.2 x hx mid (by simp);omega
  rw[e1,if_pos c,zdp,if_pos (by omega)]
theorem z64 {ps:List Pg} {k:Int}:∀{d mn mx:Nat} {a lo hi:Int} {i:Nat},Fit ps (d+1) mn mx a lo hi→i≤d→(ptF ps k (d+1) a).getD i 0∈wkF ps (d+1) a
 |0,_,_,a,_,_,i,h,hi=>by
  have:i=0:=by omega
  subst this;exact zas
 |d+1,_,_,a,lo,hi',i,h,hi=>by
  cases i with
  |zero=>rw[zfy];exact zas
  |succ i =>
   rw[zgs]
   obtain⟨g1,l,r,g2⟩:=h.kid (key:=k)
   refine List.mem_cons_of_mem _ (List.mem_flatMap.2 ⟨_,zaq 0 g1,?_⟩)
   exact z64 (d:=d) g2 (by omega)
theorem z5q {ps qs:List Pg} {k:Int}:∀{d mn mx:Nat} {a lo hi:Int},Fit ps (d+1) mn mx a lo hi→(∀y∈wkF ps (d+1) a,zb qs y=zb ps y)→ptF qs k (d+1) a=ptF ps k (d+1) a
 |0,_,_,a,_,_,_,_=>rfl
 |d+1,_,_,a,lo,hi,h,hs=>by
  obtain⟨g1,l,r,g2⟩:=h.kid (key:=k)
  show a::ptF qs k (d+1) _=a::ptF ps k (d+1) _
  rw[hs a zas,z5q (d:=d) g2 fun y hy=>hs y (List.mem_cons_of_mem _ (List.mem_flatMap.2 ⟨_,zaq 0 g1,hy⟩))]
theorem z5v {ps:List Pg} {x:Int}:∀{d:Nat} {a:Int},zea ps x (d+1) a≤d+1∧(zea ps x (d+1) a=d+1→(zb ps a).keys.length=4)
 |0,a=>by
  have e:zea ps x (0+1) a=if x∉(zb ps a).keys∧(zb ps a).keys.length=4 then 1 else 0:=rfl
  rw[e]
  split
  ·rename_i h;exact⟨by omega,fun _=>h.2⟩
  ·exact⟨by omega,fun h=>by omega⟩
 |d+1,a=>by
  have e:zea ps x (d+1+1) a=if zea ps x (d+1) ((zb ps a).kids.getD (upF (zb ps a).keys x) 0)=d+1∧(zb ps a).keys.length=4 then d+2 else zea ps x (d+1) ((zb ps a).kids.getD (upF (zb ps a).keys x) 0):=rfl
  have i:=z5v (ps:=ps) (x:=x) (d:=d) (a:=(zb ps a).kids.getD (upF (zb ps a).keys x) 0)
  rw[e]
  split
  ·rename_i h;exact⟨by omega,fun _=>h.2⟩
  ·exact⟨by omega,fun h=>by omega⟩
theorem z5y {p:Pg} (h:p.keys.length≤5):(zam p).1.keys.length≤3:=by
 have:=zng p
 unfold zam
 split
 ·simp only[zae,List.length_map,List.length_take];omega
 ·simp only[List.length_take];omega
theorem z78 {ps qs:List Pg} {d:Nat} {mn:Nat} {c n lo hi k:Int} {j:Nat} (hf:Fit ps (d+2) mn 5 c lo hi) (h5:5≤(zb ps c).keys.length) (hj:j≤d)
  (hc:zb qs c=(zam (zb ps c)).1) (hn:zb qs n=(zam (zb ps c)).2.2) (hs:∀y∈bw ps (d+2) (zb ps c),zb qs y=zb ps y) :
  (ptF qs k (d+2) (if k<(zam (zb ps c)).2.1 then c else n)).getD (j+1) 0=(ptF ps k (d+2) c).getD (j+1) 0:=by
 have hkl:=zaa.kidsLen hf.2.2.2.2
 have ha:=(zaa.keys hf.2.2.2.2).1
 obtain⟨g1,l,r,g2⟩:=hf.kid (key:=k)
 rw[zgs,zgs]
 have hs':∀y∈wkF ps (d+1) ((zb ps c).kids.getD (upF (zb ps c).keys k) 0),zb qs y=zb ps y:=fun y hy=>hs y (List.mem_flatMap.2 ⟨_,zaq 0 g1,hy⟩)
 have hfr:=z5q (k:=k) g2 hs'
 have h4:=hf.2.2.2.1
 have key:(zb qs (if k<(zam (zb ps c)).2.1 then c else n)).kids.getD (upF (zb qs (if k<(zam (zb ps c)).2.1 then c else n)).keys k) 0=(zb ps c).kids.getD (upF (zb ps c).keys k) 0:=by
  generalize zb ps c=p at *
  have hne:¬p.kids.length=0:=by omega
  have x1:(zam p).1=⟨p.keys.take (p.keys.length / 2),p.kids.take (p.keys.length / 2+1),[]⟩:=by unfold zam;rw[if_neg hne]
  have x2:(zam p).2.1=p.keys.getD (p.keys.length / 2) 0:=by unfold zam;rw[if_neg hne]
  have x3:(zam p).2.2=⟨p.keys.drop (p.keys.length / 2+1),p.kids.drop (p.keys.length / 2+1),[]⟩:=by unfold zam;rw[if_neg hne]
  rw[x1]at hc
  rw[x3]at hn
  rw[x2]
  have e:p.keys=p.keys.take (p.keys.length / 2)++p.keys.getD (p.keys.length / 2) 0::p.keys.drop (p.keys.length / 2+1):=by
   rw[←zg0 0 (by omega),List.take_append_drop]
  have e2:p.kids=p.kids.take (p.keys.length / 2+1)++p.kids.drop (p.keys.length / 2+1):=(List.take_append_drop _ _).symm
  have hr:=z8y (k:=k) (K1:=p.keys.take (p.keys.length / 2)) (mid:=p.keys.getD (p.keys.length / 2) 0) (K2:=p.keys.drop (p.keys.length / 2+1)) (C1:=p.kids.take (p.keys.length / 2+1)) (C2:=p.kids.drop (p.keys.length / 2+1)) (by simp only[List.length_take];omega) (by rw[←e];exact ha)
  rw[←e,←e2]at hr
  rw[hr]
  split
  ·rw[hc]
  ·rw[hn]
 rw[key,hfr]
theorem z7m {ps:List Pg} {x:Pr} (hv:-1000≤x.value∧x.value≤1000):∀{d:Nat} {a:Int},At ps x.key (d+1) a→∀(k:Int) (j:Nat),j≤d →
  zb (zbb ps x (d+1) a) ((ptF ps k (d+1) a).getD j 0)=zb ps ((ptF ps k (d+1) a).getD j 0)→(ptF (zbb ps x (d+1) a) k (d+1) a).getD j 0=(ptF ps k (d+1) a).getD j 0
 |0,a,h,k,j,hj,hu=>by
  have:j=0:=by omega
  subst this;rfl
 |d+1,a,h,k,0,hj,hu=>by rw[zfy,zfy]
 |d+1,a,h,k,j+1,hj,hu=>by
  have hdn:=h.down
  have hk2:Asc (zb (zbb ps x (d+2) a) a).keys:=by
   obtain⟨_,_,_,_,_,P2⟩:=At.put hv h
   exact(zaa.keys P2.fit.2.2.2.2).1
  obtain⟨mn,lo,hi,hf,hn,hl,hh,h0,h9,hm⟩:=h
  have hseg:Seg (Fit ps (d+1) 2 4) lo hi (zb ps a).keys (zb ps a).kids:=hf.2.2.2.2.2
  have hasc:=(zaa.keys hf.2.2.2.2).1
  have hpw:=z64 (k:=k) (i:=j+1) hf hj
  obtain⟨KA,KB,A,B,c,l,r,e1,e2,e3,e4,e5,e6,s1,s2,s3,g1,g2⟩:=Seg.route hh hl hseg
  have m:Mid ps d a lo hi KA KB A B c l r:=zp5 hn hseg e1 e2 e4 e5 s1 s3
  obtain⟨ck1,lk,rk,ck2⟩:=hf.kid (key:=k)
  rw[e6]at hdn
  obtain⟨mn',lo',hi',_,_,P⟩:=At.put hv hdn.1
  have ih:=z7m hv hdn.1
  have hpr:zbb ps x (d+2) a=zmw (zbb ps x (d+1) c) a c:=by rw[zz5,e6]
  obtain⟨sf1,sf2⟩:=z5v (ps:=ps) (x:=x.key) (d:=d) (a:=c)
  have hsN:=P.over
  have hout:=P.out
  have hPf:=P.fit
  have hPl:=P.len
  have hpm:=P.perm
  rw[show d+1+1=d+2 from rfl,hpr]at hu⊢
  rw[show d+1+1=d+2 from rfl]at hpw
  have hpj:=(hf.wkLt _ hpw)
  rw[zgs]at hu hpw hpj⊢
  rw[zgs]
  generalize zbb ps x (d+1) c=ps1 at *
  have hac:a≠c:=fun e=>m.na (e▸List.mem_append_right _ (List.mem_append_left _ zas))
  have haW:a∉wkF ps (d+1) c:=hdn.2
  have pa1:zb ps1 a=zb ps a:=hout a hf.1 hf.2.1 haW
  have l1:(ps.length:Int)≤ps1.length:=by split at hPl<;>omega
  have oth:∀z,z∈A∨z∈B→∀y∈wkF ps (d+1) z,0≤y∧y<ps.length∧y≠a∧y∉wkF ps (d+1) c:=fun z hz y hy=>by
   rcases hz with hz|hz
   ·exact m.lt (.inl (List.mem_flatMap.2 ⟨z,hz,hy⟩))
   ·exact m.lt (.inr (List.mem_flatMap.2 ⟨z,hz,hy⟩))
  have kidAB:upF (zb ps a).keys k≠A.length→((zb ps a).kids.getD (upF (zb ps a).keys k) 0∈A∨(zb ps a).kids.getD (upF (zb ps a).keys k) 0∈B):=fun hq=>by
   generalize upF (zb ps a).keys k=q at *
   rw[e2]at ck1⊢
   rw[zdp]
   by_cases c1:q<A.length
   ·rw[if_pos c1];exact .inl (zaq 0 c1)
   ·rw[if_neg c1]
    obtain⟨t,ht⟩:∃t,q-A.length=t+1:=⟨q-A.length-1,by omega⟩
    rw[ht,List.getD_cons_succ]
    rw[List.length_append,List.length_cons]at ck1
    exact .inr (zaq 0 (by omega))
  unfold zmw at hu⊢
  by_cases h4:4<(zb ps1 c).keys.length
  ·rw[if_pos h4]at hu⊢
   have hs:zea ps x.key (d+1) c=d+1:=hsN.1 (by have:=hPf.2.2.2.1;omega)
   have hc4:=sf2 hs
   have h5:=hPf.2.2.2.1
   obtain⟨q1,q2,q3,q4,q5,q6⟩:=zla hPf.2.2.2.2 (by omega) (by omega)
   have ek:zfu (zb ps1 a) (plN (zb ps1 a).kids c) (zam (zb ps1 c)).2.1 ps1.length=⟨KA++(zam (zb ps1 c)).2.1::KB,A++c::(ps1.length:Int)::B,[]⟩:=by
    have hcA:c∉A:=fun q=>m.dA c (List.mem_flatMap.2 ⟨c,q,zas⟩) (List.mem_append_left _ zas)
    rw[pa1,e2,zqf hcA]
    exact z1m e1 e2 e4
   rw[ek]at hu⊢
   obtain⟨ps2,hps2⟩:∃ps2,(ps1.set c.toNat (zam (zb ps1 c)).1++[(zam (zb ps1 c)).2.2]).set a.toNat ⟨KA++(zam (zb ps1 c)).2.1::KB,A++c::(ps1.length:Int)::B,[]⟩=ps2:=⟨_,rfl⟩
   rw[hps2]at hu⊢
   have get:∀y:Int,0≤y→zb ps2 y=if y=a then⟨KA++(zam (zb ps1 c)).2.1::KB,A++c::(ps1.length:Int)::B,[]⟩else if y<ps1.length then(if y=c then(zam (zb ps1 c)).1 else zb ps1 y)else zb [(zam (zb ps1 c)).2.2] (y-ps1.length):=fun y hy=>by
    rw[←hps2,zc9 hf.1 (by rw[List.length_append,List.length_set];have:=hf.2.1;simp;omega) hy]
    split
    ·rfl
    ·rw[zlv hy,List.length_set]
     split
     ·rw[zc9 hPf.1 hPf.2.1 hy]
     ·rfl
   have ga:zb ps2 a=⟨KA++(zam (zb ps1 c)).2.1::KB,A++c::(ps1.length:Int)::B,[]⟩:=by rw[get a hf.1,if_pos rfl]
   have gc:zb ps2 c=(zam (zb ps1 c)).1:=by rw[get c hPf.1,if_neg (fun e=>hac e.symm),if_pos hPf.2.1,if_pos rfl]
   have gn:zb ps2 ps1.length=(zam (zb ps1 c)).2.2:=by
    rw[get _ (by omega),if_neg (by have:=hf.2.1;omega),if_neg (by omega),Int.sub_self];rfl
   have go:∀y:Int,0≤y→y<ps1.length→y≠a→y≠c→zb ps2 y=zb ps1 y:=fun y y0 y1 y2 y3=>by rw[get y y0,if_neg y2,if_pos y1,if_neg y3]
   have hasc2:Asc (KA++(zam (zb ps1 c)).2.1::KB):=by
    rw[hpr]at hk2
    unfold zmw at hk2
    rw[if_pos h4,ek,hps2,ga]at hk2
    exact hk2
   have hnc:(wkF ps1 (d+1) c).Nodup:=hpm.nodup_iff.2 (List.nodup_append.2 ⟨m.nc,nw_nodup _ _,fun y hy z hz e=>by
    have:=(s2.wkLt y hy).2
    rw[zpj]at hz
    omega⟩)
   have hac1:a∉wkF ps1 (d+1) c:=fun q=>by
    rcases List.mem_append.1 (hpm.mem_iff.1 q)with q|q
    ·exact haW q
    ·rw[zpj]at q
     have:=hf.2.1
     omega
   have nec:zb ps2 c≠zb ps c:=fun e=>by
    have h3:=z5y h5
    rw[←gc,e]at h3
    omega
   have nea:zb ps2 a≠zb ps a:=fun e=>by
    have:=congrArg (fun p=>p.keys.length) e
    rw[ga]at this
    dsimp only at this
    rw[e1]at this
    simp only[List.length_append,List.length_cons]at this
    omega
   rw[ga]
   dsimp only
   rcases z9v (c:=c) (n:=(ps1.length:Int)) (k:=k) (B:=B) e4 hasc2 with ⟨r1,r2,r3⟩|⟨r1,r2⟩
   ·rw[e1,e2]at hu hpw hpj⊢
    rw[r2]at hu hpw hpj⊢
    rw[r3]
    match d,j,hj,hu,hpj,hPf,hnc,hac1,ih with
    |_,0,_,hu,_,_,_,_,_ =>
     rw[zfy]at hu
     exact absurd hu nec
    |e+1,i+1,hj,hu,hpj,hPf,hnc,hac1,ih =>
     rw[zaf,List.nodup_cons]at hnc
     rw[zaf]at hac1
     have sp:=z78 (qs:=ps2) (n:=(ps1.length:Int)) (k:=k) (j:=i) hPf (by omega) (by omega) gc gn fun y hy=>by
      obtain⟨y0,y1⟩:=zaa.bwLt hPf.2.2.2.2 y hy
      exact go y y0 y1 (fun q=>hac1 (q▸List.mem_cons_of_mem _ hy)) (fun q=>hnc.1 (q▸hy))
     rw[sp]
     refine ih k (i+1) (by omega) ?_
     have pa:(ptF ps k (e+1+1) c).getD (i+1) 0≠a:=fun q=>by rw[q]at hu;exact nea hu
     have pc:(ptF ps k (e+1+1) c).getD (i+1) 0≠c:=fun q=>by rw[q]at hu;exact nec hu
     rw[←go _ hpj.1 (by omega) pa pc]
     exact hu
   ·have hz:=oth _ (kidAB (by rw[e1];exact r1))
    rw[r2,←e1,←e2]
    rw[z5q ck2 fun y hy=>by
     obtain⟨y0,y1,y2,y3⟩:=hz y hy
     rw[go y y0 (by omega) y2 (fun q=>y3 (q▸zas))]
     exact hout y y0 y1 y3]
  ·rw[if_neg h4]at hu⊢
   rw[pa1]
   by_cases hq:upF (zb ps a).keys k=A.length
   ·have ec:(zb ps a).kids.getD (upF (zb ps a).keys k) 0=c:=by rw[hq,e2];exact zlw 0 A c B
    rw[ec]at hu⊢
    exact ih k j (by omega) hu
   ·have hz:=oth _ (kidAB hq)
    rw[z5q ck2 fun y hy=>by obtain⟨y0,y1,y2,y3⟩:=hz y hy;exact hout y y0 y1 y3]
theorem z90 {root:Int} {ps:List Pg} {x:Pr} {r:Int×List Pg} (h:zqc root ps x=some r) (k:Int) {j:Nat} (hj:j<htF root ps)
  (hu:zb r.2 ((ptF ps k (htF root ps) root).getD j 0)=zb ps ((ptF ps k (htF root ps) root).getD j 0)) :
  (ptF r.2 k (htF r.1 r.2) r.1).getD (j+(htF r.1 r.2-htF root ps)) 0=(ptF ps k (htF root ps) root).getD j 0:=by
 have F:=z4k h
 have hht:=F.ht
 obtain⟨_,_,hR,_⟩:=zrm h
 have v:=za0 F.v0
 obtain⟨d,hd⟩:∃d,htF root ps=d+1:=⟨htF root ps-1,by have:=v.h1;omega⟩
 rw[hd]at v hj hu hht hR⊢
 have ha:=v.v0.at F.rng.1.1 F.rng.1.2
 have hp:=z7m F.rng.2 ha k j (by omega)
 obtain⟨mn,lo,hi,_,_,P⟩:=At.put F.rng.2 ha
 obtain⟨sf1,sf2⟩:=z5v (ps:=ps) (x:=x.key) (d:=d) (a:=root)
 have hov:=P.over
 have hPf:=P.fit
 have hPl:=P.len
 have hpm:=P.perm
 have hpw:=z64 (k:=k) (i:=j) v.fit (by omega)
 have hpj:=v.fit.wkLt _ hpw
 have hnd:=v.nd
 have hwl:=v.fit.wkLt
 unfold zer at hR
 generalize zbb ps x (d+1) root=ps1 at *
 have l1:(ps.length:Int)≤ps1.length:=by split at hPl<;>omega
 by_cases h4:4<(zb ps1 root).keys.length
 ·rw[if_pos h4]at hR
  have h5:=hPf.2.2.2.1
  have hs:zea ps x.key (d+1) root=d+1:=hov.1 (by omega)
  have hc4:=sf2 hs
  rw[if_pos hs]at hht
  obtain⟨ps2,hps2⟩:∃ps2,ps1.set root.toNat (zam (zb ps1 root)).1++[(zam (zb ps1 root)).2.2,⟨[(zam (zb ps1 root)).2.1],[root,(ps1.length:Int)],[]⟩]=ps2:=⟨_,rfl⟩
  rw[hps2]at hR
  subst hR
  dsimp only at hu hht⊢
  rw[hht,show j+(d+1+1-(d+1))=j+1 by omega,show d+1+1=d+2 from rfl,zgs]
  have get:∀y:Int,0≤y→zb ps2 y=if y<ps1.length then(if y=root then(zam (zb ps1 root)).1 else zb ps1 y)else zb [(zam (zb ps1 root)).2.2,⟨[(zam (zb ps1 root)).2.1],[root,(ps1.length:Int)],[]⟩] (y-ps1.length):=fun y hy=>by
   rw[←hps2,zlv hy,List.length_set]
   split
   ·rw[zc9 hPf.1 hPf.2.1 hy]
   ·rfl
  have gc:zb ps2 root=(zam (zb ps1 root)).1:=by rw[get root hPf.1,if_pos hPf.2.1,if_pos rfl]
  have gn:zb ps2 ps1.length=(zam (zb ps1 root)).2.2:=by rw[get _ (by omega),if_neg (by omega),Int.sub_self];rfl
  have gt:zb ps2 ((ps1.length:Int)+1)=⟨[(zam (zb ps1 root)).2.1],[root,(ps1.length:Int)],[]⟩:=by rw[get _ (by omega),if_neg (by omega),show(ps1.length:Int)+1-ps1.length=1 by omega];rfl
  have go:∀y:Int,0≤y→y<ps1.length→y≠root→zb ps2 y=zb ps1 y:=fun y y0 y1 y2=>by rw[get y y0,if_pos y1,if_neg y2]
  have nec:zb ps2 root≠zb ps root:=fun e=>by
   have h3:=z5y h5
   rw[←gc,e]at h3
   omega
  rw[gt]
  dsimp only
  have er:([root,(ps1.length:Int)]:List Int).getD (upF [(zam (zb ps1 root)).2.1] k) 0=if k<(zam (zb ps1 root)).2.1 then root else(ps1.length:Int):=by
   rw[z44]
   by_cases c:(zam (zb ps1 root)).2.1≤k
   ·rw[if_pos c,if_neg (by omega)];rfl
   ·rw[if_neg c,if_pos (by omega)];rfl
  rw[er]
  match d,j,hj,hu,hpj,hPf,hpm,hnd,hwl,hp with
  |_,0,_,hu,_,_,_,_,_,_ =>
   rw[zfy]at hu
   exact absurd hu nec
  |e+1,i+1,hj,hu,hpj,hPf,hpm,hnd,hwl,hp =>
   have hnc:(wkF ps1 (e+1+1) root).Nodup:=hpm.nodup_iff.2 (List.nodup_append.2 ⟨hnd,nw_nodup _ _,fun y hy z hz e=>by
    have:=(hwl y hy).2
    rw[zpj]at hz
    omega⟩)
   rw[zaf,List.nodup_cons]at hnc
   have sp:=z78 (qs:=ps2) (n:=(ps1.length:Int)) (k:=k) (j:=i) hPf (by omega) (by omega) gc gn fun y hy=>by
    obtain⟨y0,y1⟩:=zaa.bwLt hPf.2.2.2.2 y hy
    exact go y y0 y1 (fun q=>hnc.1 (q▸hy))
   rw[sp]
   refine hp ?_
   have pc:(ptF ps k (e+1+1) root).getD (i+1) 0≠root:=fun q=>by rw[q]at hu;exact nec hu
   rw[←go _ hpj.1 (by omega) pc]
   exact hu
 ·rw[if_neg h4]at hR
  have hs:¬zea ps x.key (d+1) root=d+1:=fun q=>by have:=hov.2 q;omega
  rw[if_neg hs]at hht
  subst hR
  dsimp only at hu hht⊢
  rw[hht,show j+(d+1+0-(d+1))=j by omega]
  exact hp hu
theorem ya2 {root:Int} {ps:List Pg} {x:Pr} {r:Int×List Pg} (h:zqc root ps x=some r) (hu:zb r.2 root=zb ps root):htF r.1 r.2=htF root ps:=by
 have F:=z4k h
 have hht:=F.ht
 obtain⟨_,_,hR,_⟩:=zrm h
 have v:=za0 F.v0
 obtain⟨d,hd⟩:∃d,htF root ps=d+1:=⟨htF root ps-1,by have:=v.h1;omega⟩
 rw[hd]at v hht hR⊢
 have ha:=v.v0.at F.rng.1.1 F.rng.1.2
 obtain⟨mn,lo,hi,_,_,P⟩:=At.put F.rng.2 ha
 obtain⟨sf1,sf2⟩:=z5v (ps:=ps) (x:=x.key) (d:=d) (a:=root)
 have hov:=P.over
 have hPf:=P.fit
 by_cases hs:zea ps x.key (d+1) root=d+1
 ·exfalso
  have hc4:=sf2 hs
  have h5:=hov.2 hs
  unfold zer at hR
  generalize zbb ps x (d+1) root=ps1 at *
  rw[if_pos (by omega)]at hR
  subst hR
  have e:zb (ps1.set root.toNat (zam (zb ps1 root)).1++[(zam (zb ps1 root)).2.2,⟨[(zam (zb ps1 root)).2.1],[root,(ps1.length:Int)],[]⟩]) root=(zam (zb ps1 root)).1:=by
   rw[zlv hPf.1,List.length_set,if_pos hPf.2.1,zc9 hPf.1 hPf.2.1 hPf.1,if_pos rfl]
  have hu:zb (ps1.set root.toNat (zam (zb ps1 root)).1++[(zam (zb ps1 root)).2.2,⟨[(zam (zb ps1 root)).2.1],[root,(ps1.length:Int)],[]⟩]) root=zb ps root:=hu
  rw[e]at hu
  have h3:=z5y (p:=zb ps1 root) (by omega)
  rw[hu]at h3
  omega
 ·rw[if_neg hs]at hht
  omega
theorem z5f {ps:List Pg} {key:Int}:∀{d mn mx:Nat} {a lo hi:Int} {i:Nat},Fit ps (d+1) mn mx a lo hi→i≤d→((zb ps ((ptF ps key (d+1) a).getD i 0)).kids.length=0↔i=d)
 |0,_,_,a,_,_,i,h,hi=>by
  have:i=0:=by omega
  subst this
  rw[zfy,LeafOk.kids h.2.2.2.2]
  exact⟨fun _=>rfl,fun _=>rfl⟩
 |d+1,_,_,a,lo,hi',i,h,hi=>by
  cases i with
  |zero =>
   rw[zfy]
   have:=zaa.kidsLen h.2.2.2.2
   exact⟨fun q=>by omega,fun q=>by omega⟩
  |succ i =>
   rw[zgs]
   obtain⟨g1,l,r,g2⟩:=h.kid (key:=key)
   rw[z5f (d:=d) g2 (by omega)]
   omega
end Go.VL
