/- V-logic: Gr -/
import Derived.Test.YtfogmgldlemngaaVEG
import Derived.Test.YtfogmgldlemngaaVT1
import Derived.Shelf.RegionOpenPlain
import Derived.WalkKit
import Derived.Lib.Walk
import Derived.Lib.SliceRun
import Derived.Lib.AppendZerosOnto
namespace Go.Proofs
set_option linter.unusedVariables false
set_option linter.unusedSimpArgs false
open Go.RowKit Go.Lib
set_option maxHeartbeats 2000000 in
set_option maxRecDepth 100000 in
theorem ycf (w:World):Calls Try.prog 44 #[.slice none 0 0,.int .i64 0] w fun e w'=>e=.returned (.slice none 0 0)∧w'=w:=by
 go_enter Try.func44,Try.ntmps44
 go_wp2
 go_ret
 exact⟨rfl,rfl⟩
set_option maxHeartbeats 4000000 in
set_option maxRecDepth 100000 in
theorem ycm (n:Nat) (w:World) (h0:0<n) (hn:n≤1099511627776):Calls Try.prog 44 #[.slice none 0 0,.int .i64 n] w fun e w' =>
  e=.returned (.slice (some ⟨w.heap.size,0,none⟩) 0 (grownCap w n 0 3)) ∧
  w'=w.drew.alloc (.cells (#[]++Builtin.zeroCells (Value.int .i64 0).cells n++Builtin.zeroCells (Value.int .i64 0).cells (grownCap w n 0 3-n)) 3):=by
 obtain⟨i0,hi0,hz0,hs0,hb0⟩:=info_parts (P:=Try.prog) (e:=3) (z:=Value.int .i64 0) (size:=1) (bytes:=8) (by kernel_rfl)
 have h1:¬((n:Int)<0):=by omega
 have h4:(n:Int)>0:=by omega
 have hrz:∀ty,(Builtin.append_ #[27,3] ty #[.slice none 0 0,.int .i64 (n:Int)]).run Try.prog w =
   .ok (.slice (some ⟨w.heap.size,0,none⟩) n (grownCap w n 0 3)) (w.drew.alloc (.cells (#[]++Builtin.zeroCells (Value.int .i64 0).cells n++Builtin.zeroCells (Value.int .i64 0).cells (grownCap w n 0 3-n)) 3)):=fun ty=>by
  have h:=Lib.run_append_grow_zeros (P:=Try.prog) w 27 3 ty 3 i0 (Value.int .i64 0) .i64 .i64 Try.underlying27 Try.underlying3 hi0 hz0 none 0 0 [] (run_firstCells_none w.drew i0.size 0 0 0) n h0 (by omega) (by omega) (by omega)
   (by rw[hb0];omega) (by have:=growslice_fits (need:=0+n) (old:=0) (bytes:=i0.bytes) (by omega) (by rw[hb0];omega);exact this)
  rw[Nat.zero_add]at h
  exact h
 have hGn:n≤grownCap w n 0 3:=grownCap_ge w _ _ _
 obtain⟨G,hG⟩:∃G,G=grownCap w n 0 3:=⟨_,rfl⟩
 rw[←hG]at hrz hGn⊢
 have hG63:G≤9223372036854775807:=by
  have:=grownCap_le_maxLen w n 0 3 (by unfold maxLen;omega)
  rw[←hG]at this
  unfold maxLen at this
  omega
 clear hG
 go_enter Try.func44,Try.ntmps44
 go_wp2_with (at_builtin;refine Lib.wpList_append_run _ rfl _ _ _ _ rfl _ _ rfl rfl _ _ (hrz _) ?_)
 all_goals (go_ret;exact⟨rfl,rfl⟩)
end Go.Proofs
namespace Go.VL
set_option linter.unusedVariables false
set_option linter.unusedSimpArgs false
open Go.Proofs
theorem ya0 (n:Nat) (hn:n≤1099511627776):zr Try.prog 44 0 [.nil,.c (.int .i64 n)] [] 1 (.slc 0) [(0,.arr (.nums .i64 []))]:=by
 refine⟨⟨_,Try.func44,by kernel_rfl,by kernel_rfl⟩,fun W I g argv hI hh hl ha=>?_⟩
 obtain⟨a,b,rfl⟩:∃a b,argv=[a,b]:=by
  match argv,hl with
  |[a,b],_=>exact⟨a,b,rfl⟩
 have e0:=RV.nil_inv' (ha 0 _ _ rfl rfl)
 have e1:=RV.int_inv (ha 1 _ _ rfl rfl)
 subst e0;subst e1
 rcases Nat.eq_zero_or_pos n with h0|h0
 ·subst h0
  refine(ycf W).mono ?_
  rintro e w' ⟨rfl,rfl⟩
  have no:∀id o b,(id,o)∈[(0,O.arr (.nums .i64 []))]→¬Own (fun _=>none) w' id o b:=by
   intro id o b hm hb
   cases List.mem_singleton.1 hm
   rcases hb with ⟨cl,hb⟩|hb
   ·cases hb
   ·exact hb
  refine⟨_,I,fun _=>none,rfl,fun b h=>h,fun b h=>.inl h,hI,⟨fun id o hm=>?_,fun id o b hm hb=>absurd hb (no id o b hm),by simp,fun id o id' o' b hm hm' hb _=>absurd hb (no id o b hm)⟩,.slc0 0 (by omega) rfl,(fun id o o' hm=>by cases hm),(fun b hb=>?_),⟨rfl,rfl,rfl,Nat.le_refl _,fun _ _ _=>rfl⟩⟩
  ·cases List.mem_singleton.1 hm
   exact⟨by omega,.none _ rfl rfl rfl⟩
  ·obtain⟨id,o,hm,hb⟩:=hb
   exact absurd hb (no id o b hm)
 ·refine(ycm n W h0 hn).mono ?_
  rintro e w' ⟨rfl,rfl⟩
  have hGn:n≤grownCap W n 0 3:=grownCap_ge W _ _ _
  generalize grownCap W n 0 3=G at hGn⊢
  obtain⟨cells,hc⟩:∃cells:List Value,(#[]++Builtin.zeroCells (Value.int .i64 0).cells n++Builtin.zeroCells (Value.int .i64 0).cells (G-n))=cells.toArray:=⟨_,rfl⟩
  have hcl:cells.length=G*1:=by
   have:=congrArg Array.size hc
   simp[Builtin.zeroCells,Value.cells]at this
   omega
  rw[hc]
  clear hc
  have hb:(W.drew.alloc (.cells cells.toArray 3)).heap[W.heap.size]? = some (.cells cells.toArray 3 (0,0)):=by
   show(W.heap.push _)[W.heap.size]? = _
   simp
  have own:∀id o b,(id,o)∈[(0,O.arr (.nums .i64 []))]→Own (fun i=>if i=0 then some (W.heap.size,G,0)else none) (W.drew.alloc (.cells cells.toArray 3)) id o b→b=W.heap.size:=by
   intro id o b hm hb
   cases List.mem_singleton.1 hm
   rcases hb with ⟨cl,hb⟩|hb
   ·simp at hb;exact hb.1.symm
   ·exact hb.elim
  have hsz:(W.drew.alloc (.cells cells.toArray 3)).heap.size=W.heap.size+1:=by
   show(W.heap.push _).size=_
   simp
  refine⟨_,I,fun i=>if i=0 then some (W.heap.size,G,0)else none,rfl,fun b h=>h,fun b h=>.inl h,(fun b h=>by have:=hI b h;omega),⟨fun id o hm=>?_,(fun id o b hm hb=>?_),by simp,fun id o id' o' b hm hm' _ _=>?_⟩,.slc 0 0 _ _ (by omega) rfl,(fun id o o' hm=>by cases hm),(fun b hb=>?_),⟨rfl,rfl,rfl,by omega,fun b hb _=>?_⟩⟩
  ·cases List.mem_singleton.1 hm
   exact⟨by omega,.arr _ _ _ cells 3 rfl rfl hb (by show _=G*1;omega) (Nat.zero_le _) (fun i j y hi=>absurd hi (Nat.not_lt_zero _)) (fun h=>by cases h)⟩
  ·have:=own id o b hm hb
   subst this
   exact⟨fun h=>absurd (hI _ h) (Nat.lt_irrefl _),by omega⟩
  ·cases List.mem_singleton.1 hm
   cases List.mem_singleton.1 hm'
   rfl
  ·obtain⟨id,o,hm,hb⟩:=hb
   exact .inl (Nat.le_of_eq (own id o b hm hb).symm)
  ·show(W.heap.push _)[b]? = _
   rw[Array.getElem?_push]
   have:b≠W.heap.size:=by omega
   simp[this]
end Go.VL
