/- V-logic -/
import Derived.Test.YtdbhfajlffaneaaGreatVW1
import Derived.Test.YtdbhfajlffaneaaGreatVT1
import Derived.Test.YtdbhfajlffaneaaGreatProg
namespace Go.Proofs
open Go.RowKit Go.Lib Go.VL
set_option linter.unusedVariables false
set_option linter.unusedSimpArgs false
set_option maxHeartbeats 4000000 in
set_option maxRecDepth 100000 in
theorem z9h (b off n c i vb voff m vc:Nat) (cs vs:List Value) (w:World) (hi:i<n) (hm:0<m) (hroom:n+m≤c) (hc63:n+m≤9223372036854775807) (hvb:vb≠b)
  (hcl:cs.length=n*1) (hvl:vs.length=m*1)
  (hcs:∀j v,cs[j]? = some v→w.cell? ⟨b,off+j,none⟩=some v) (hsp:∀j,j<(n+m)*1→(w.cell? ⟨b,off+j,none⟩).isSome=true) (hfz:∀j,j<(n+m)*1→w.frozen? ⟨b,off+j,none⟩=false)
  (hvs:∀j v,vs[j]? = some v→w.cell? ⟨vb,voff+j,none⟩=some v) (h1c:∀v∈cs,v.oneCell'=true) (h1v:∀v∈vs,v.oneCell'=true)
  (tA tB:TypeId) (kA kB:Nat) (hsa:w.shape? vb=some (tA,kA)) (hsb:w.shape? b=some (tB,kB)) (hkA:kA≠0) (hkB:kB≠0) (hfr:∀j,w.frozen? ⟨b,j,none⟩=false) :
  Calls Tryz.prog 135 #[.slice (some ⟨b,off,none⟩) n c,.int .i64 i,.slice (some ⟨vb,voff,none⟩) m vc] w λe w' =>
   e=.returned (.slice (some ⟨b,off,none⟩) (n+m) c)∧w'=(w.drew.setCells b (off+(i+m)) (cs.drop (i))).setCells b (off+i) vs:=by
 obtain⟨i0,hi0,hz0,hzs,hzb⟩:=info_parts (P:=Tryz.prog) (e:=3) (z:=.int .i64 0) (size:=1) (bytes:=8) (by kernel_rfl)
 have mixed:Tryz.prog.follows .mixedOrders=true:=Go.VL.mix
 have hz1:¬((m:Int)=0):=by omega
 have hz2:¬((i:Int)=(n:Int)):=by omega
 have hsz:(Tryz.prog.info? 3).map (·.size)=some 1:=by rw[hi0];simp[hzs]
 have hszr:∀w,(Go.sizeOf 3).run Tryz.prog w=.ok 1 w:=λw=>by
  simp[Go.sizeOf,typeInfo,hi0,hzs]
 have hov:∀lb cb,(callFunc 167 #[.slice (some ⟨vb,voff,none⟩) m vc,.slice (some ⟨b,off+(i+m),none⟩) lb cb]).run Tryz.prog w=.ok (.value (.bool false)) w:=λlb cb=>by
  rw[run_callFunc_extern Tryz.func167 (by kernel_rfl) (by kernel_rfl) (by kernel_rfl) (e:=Extern.SlicesOverlaps.overlaps #[26,26] #[4]) (by kernel_rfl),
   z51 w 26 4 3 Tryz.underlying26 1 hszr ⟨vb,voff,none⟩ ⟨b,off+(i+m),none⟩ m vc lb cb hvb tA tB kA kB hsa hsb hkA hkB (hfr _) (hfr _)]
  rfl
 have hdl:(cs.drop (i)).length=(n-i):=by rw[List.length_drop,hcl];omega
 have hw1:IntKind.i64.wrap ((i:Int)+(m:Int))=(i:Int)+(m:Int):=by rw[IntKind.wrap_i64];omega
 have hb1:(0:Int)≤(i:Int)+(m:Int):=by omega
 have hin:i≤n:=by omega
 have htn:((i:Int)+(m:Int)).toNat=i+m:=by omega
 have hb2:¬(c=i+m):=by omega
 have hb3:(i:Int)≤(n:Int)+(m:Int):=by omega
 have hb4:¬(c=i):=by omega
 have hcp1:∀ty dc sc,(Builtin.copy_ #[26,26] ty #[.slice (some ⟨b,off+(i+m),none⟩) (n+m-(i+m)) dc,.slice (some ⟨b,off+i,none⟩) (n+m-i) sc]).run Tryz.prog w.drew=.ok (goInt (Nat.min (n+m-i) (n+m-(i+m)))) (w.drew.setCells b (off+(i+m)) (cs.drop (i))):=λty dc sc =>
  z4r 1 w.drew _ _ ty 3 b (off+(i+m)) (n+m-(i+m)) dc ⟨b,off+i,none⟩ (n+m-i) sc (cs.drop (i)) Tryz.underlying26 hsz (by rw[hdl];simp only[Nat.min_def];split<;>omega)
   (λj v hj=>by rw[Addr.add_lit,Nat.add_assoc];exact hcs (i+j) v (by rwa [List.getElem?_drop]at hj))
   (λj hj=>by rw[Nat.add_assoc];exact hsp _ (by omega)) (λj hj=>by rw[Nat.add_assoc];exact hfz _ (by omega)) (λv hv=>h1c v (List.mem_of_mem_drop hv))
 obtain⟨W1,hW1⟩:∃W1,W1=w.drew.setCells b (off+(i+m)) (cs.drop (i)):=⟨_,rfl⟩
 have hsp1:∀k,k<(n+m)*1→(W1.cell? ⟨b,off+k,none⟩).isSome=true:=λk hk=>by
  rw[hW1]
  exact z4y b _ _ _ (λj hj=>by rw[Nat.add_assoc];exact hsp _ (by omega)) _ (hsp k hk)
 have hcp2:∀(W:World),(∀x,W.cell? x=W1.cell? x)→(∀x,W.frozen? x=W1.frozen? x)→∀ty dc,(Builtin.copy_ #[26,26] ty #[.slice (some ⟨b,off+i,none⟩) (n+m-i) dc,.slice (some ⟨vb,voff,none⟩) m vc]).run Tryz.prog W=.ok (goInt (Nat.min m (n+m-i))) (W.setCells b (off+i) vs):=λW hWc hWf ty dc =>
  z4r 1 W _ _ ty 3 b (off+i) (n+m-i) dc ⟨vb,voff,none⟩ m vc vs Tryz.underlying26 hsz (by rw[hvl];simp only[Nat.min_def];split<;>omega)
   (λj v hj=>by
    rw[Addr.add_lit,hWc,hW1,World.cell?_setCells_out b _ _ _ _ (λh _=>absurd h hvb)]
    exact hvs j v hj)
   (λj hj=>by rw[hWc,Nat.add_assoc];exact hsp1 _ (by omega)) (λj hj=>by rw[hWf,hW1,World.frozen?_setCells,Nat.add_assoc];exact hfz _ (by omega)) h1v
 rw[←hW1]at hcp1
 go_enter Tryz.func135,Tryz.ntmps135
 go_wp2_with (simp only[hov])
 go_region_law_o (refine z5h rfl _ _ 26 26 rfl _ _ (by simp[Act.eval,Act.put]) (by simp[Act.eval,Act.put]) (hcp1 _ _ _) ?_)
 go_wp2_with (at_builtin;refine z4p _ rfl _ _ 26 26 rfl _ _ rfl rfl (hcp2 _ (λ_=>rfl) (λ_=>rfl) _ _) ?_)
 go_ret
 first|exact⟨rfl,rfl⟩|exact⟨rfl,by rw[hW1]⟩
set_option maxHeartbeats 4000000 in
set_option maxRecDepth 100000 in
theorem z7y (b off n c vb voff m vc:Nat) (vs:List Value) (w:World) (hm:0<m) (hroom:n+m≤c) (hc63:n+m≤9223372036854775807)
  (hvl:vs.length=m*1) (hsp:∀j,j<m*1→(w.cell? ⟨b,off+n*1+j,none⟩).isSome=true) (hfz:∀j,j<m*1→w.frozen? ⟨b,off+n*1+j,none⟩=false)
  (hvs:∀j v,vs[j]? = some v→w.cell? ⟨vb,voff+j,none⟩=some v) (h1v:∀v∈vs,v.oneCell'=true) :
  Calls Tryz.prog 135 #[.slice (some ⟨b,off,none⟩) n c,.int .i64 n,.slice (some ⟨vb,voff,none⟩) m vc] w λe w' =>
   e=.returned (.slice (some ⟨b,off,none⟩) (n+m) c)∧w'=w.setCells b (off+n) vs:=by
 obtain⟨i0,hi0,hz0,hzs,hzb⟩:=info_parts (P:=Tryz.prog) (e:=3) (z:=.int .i64 0) (size:=1) (bytes:=8) (by kernel_rfl)
 have mixed:Tryz.prog.follows .mixedOrders=true:=Go.VL.mix
 have hz1:¬((m:Int)=0):=by omega
 have hsrc:Src Tryz.prog i0.size 26 (.slice (some ⟨vb,voff,none⟩) m vc) m vs w:=by
  rw[hzs]
  exact Src.ofSlice w Tryz.underlying26 ⟨vb,voff,none⟩ m vc vs (by omega) (λj u hj=>by rw[Addr.add_lit];exact hvs j u hj) h1v
 have hrun:∀ty,(Builtin.append_ #[26,26] ty #[.slice (some ⟨b,off,none⟩) n c,.slice (some ⟨vb,voff,none⟩) m vc]).run Tryz.prog w=_:=λty =>
  run_append_room_src w 26 26 ty 3 i0 Tryz.underlying26 hi0 b off n c _ m vs hsrc hroom (by rw[hvl,hzs];exact hsp) (by rw[hvl,hzs];exact hfz)
 rw[hzs]at hrun
 try simp only[Nat.mul_one]at hrun
 clear hsp hfz hvs hsrc
 go_enter Tryz.func135,Tryz.ntmps135
 go_wp2_with (at_builtin;refine Lib.wpList_append_run _ rfl _ _ _ _ rfl _ _ rfl rfl _ _ (hrun _) ?_)
 go_ret
 exact⟨rfl,rfl⟩
set_option maxHeartbeats 4000000 in
set_option maxRecDepth 100000 in
theorem z70 (base:Option Addr) (n c vb voff m vc:Nat) (cs vs:List Value) (w:World) (hm:0<m) (hnc:n≤c) (hroom:c<n+m) (hbig:(n+m)*8≤140737488355328)
  (hcl:cs.length=n*1) (hvl:vs.length=m*1) (hnil:base=none→n=0)
  (hcs:∀a,base=some a→∀j v,cs[j]? = some v→w.cell? (a.add j)=some v)
  (hvs:∀j v,vs[j]? = some v→w.cell? ⟨vb,voff+j,none⟩=some v) (h1v:∀v∈vs,v.oneCell'=true) :
  Calls Tryz.prog 135 #[.slice base n c,.int .i64 n,.slice (some ⟨vb,voff,none⟩) m vc] w λe w' =>
   e=.returned (.slice (some ⟨w.heap.size,0,none⟩) (n+m) (grownCap w (n+m) c 3)) ∧
   w'=w.drew.alloc (.cells ((cs++vs).toArray++Builtin.zeroCells (.int .i64 0:Value).cells (grownCap w (n+m) c 3-(n+m))) 3):=by
 obtain⟨i0,hi0,hz0,hzs,hzb⟩:=info_parts (P:=Tryz.prog) (e:=3) (z:=.int .i64 0) (size:=1) (bytes:=8) (by kernel_rfl)
 have mixed:Tryz.prog.follows .mixedOrders=true:=Go.VL.mix
 have hz1:¬((m:Int)=0):=by omega
 have hsrc:Src Tryz.prog i0.size 26 (.slice (some ⟨vb,voff,none⟩) m vc) m vs w:=by
  rw[hzs]
  exact Src.ofSlice w Tryz.underlying26 ⟨vb,voff,none⟩ m vc vs (by omega) (λj u hj=>by rw[Addr.add_lit];exact hvs j u hj) h1v
 have hold:(Builtin.firstCells i0.size n (.slice base n c)).run Tryz.prog w.drew=.ok cs.toArray w.drew:=by
  rw[hzs]
  cases base with
  |none =>
   have h0:=hnil rfl
   subst h0
   rw[List.length_eq_zero_iff.1 (show cs.length=0 by omega)]
   exact run_firstCells_none w.drew 1 0 0 c
  |some a=>exact run_firstCells_some w.drew 1 n a n c cs (by omega) (λj v hj=>hcs a rfl j v hj)
 have hrun:∀ty,(Builtin.append_ #[26,26] ty #[.slice base n c,.slice (some ⟨vb,voff,none⟩) m vc]).run Tryz.prog w=_:=λty =>
  run_append_grow_src w 26 26 ty 3 i0 _ Tryz.underlying26 hi0 hz0 base n c cs hold _ m vs hsrc hroom (by omega) (by rw[hzb];exact growslice_fits hroom hbig)
 go_enter Tryz.func135,Tryz.ntmps135
 cases base with
 |none =>
  have h0:=hnil rfl
  subst h0
  go_wp2_with (at_builtin;refine Lib.wpList_append_run _ rfl _ _ _ _ rfl _ _ rfl rfl _ _ (hrun _) ?_)
  go_ret
  exact⟨rfl,rfl⟩
 |some a =>
  obtain⟨ab,ao,asp⟩:=a
  go_wp2_with (at_builtin;refine Lib.wpList_append_run _ rfl _ _ _ _ rfl _ _ rfl rfl _ _ (hrun _) ?_)
  all_goals (go_ret;exact⟨rfl,rfl⟩)
set_option maxHeartbeats 4000000 in
set_option maxRecDepth 100000 in
theorem z9z (b off n c i vb voff m vc:Nat) (cs vs:List Value) (w:World) (hi:i<n) (hm:0<m) (hnc:n≤c) (hroom:c<n+m) (hbig:(n+m)*8≤140737488355328)
  (hcl:cs.length=n*1) (hvl:vs.length=m*1)
  (hcs:∀j v,cs[j]? = some v→w.cell? ⟨b,off+j,none⟩=some v)
  (hvs:∀j v,vs[j]? = some v→w.cell? ⟨vb,voff+j,none⟩=some v) (h1c:∀v∈cs,v.oneCell'=true) (h1v:∀v∈vs,v.oneCell'=true) :
  Calls Tryz.prog 135 #[.slice (some ⟨b,off,none⟩) n c,.int .i64 i,.slice (some ⟨vb,voff,none⟩) m vc] w λe w' =>
   e=.returned (.slice (some ⟨w.heap.size,0,none⟩) (n+m) (grownCap w (n+m) c 3)) ∧
   w'=(((w.alloc (.cells ((cs.take (i)).toArray++Builtin.zeroCells (.int .i64 0:Value).cells (n+m-i)++Builtin.zeroCells (.int .i64 0:Value).cells (grownCap w (n+m) c 3-(n+m))) 3)).drew.setCells w.heap.size (i) vs).drew).setCells w.heap.size ((i+m)) (cs.drop (i)):=by
 obtain⟨i0,hi0,hz0,hzs,hzb⟩:=info_parts (P:=Tryz.prog) (e:=3) (z:=.int .i64 0) (size:=1) (bytes:=8) (by kernel_rfl)
 have mixed:Tryz.prog.follows .mixedOrders=true:=Go.VL.mix
 have hz1:¬((m:Int)=0):=by omega
 have hz2:¬((i:Int)=(n:Int)):=by omega
 have hz3:(c:Int)<(n:Int)+(m:Int):=by omega
 have hsz:(Tryz.prog.info? 3).map (·.size)=some 1:=by rw[hi0];simp[hzs]
 have hbw:b<w.heap.size:=block_lt_of_cell (hcs 0 _ (List.getElem?_eq_getElem (by omega)))
 have hvw:vb<w.heap.size:=block_lt_of_cell (hvs 0 _ (List.getElem?_eq_getElem (by omega)))
 have hkk:(n:Int)+(m:Int)-(i:Int)=((n+m-i:Nat):Int):=by omega
 have hik:i+(n+m-i)=n+m:=by omega
 have hold:(Builtin.firstCells i0.size i (.slice (some ⟨b,off,none⟩) i c)).run Tryz.prog w.drew=.ok (cs.take (i)).toArray w.drew:=by
  rw[hzs]
  exact run_firstCells_some w.drew 1 i ⟨b,off,none⟩ i c (cs.take (i)) (by rw[List.length_take];omega) (λj v hj=>by
   rw[Addr.add_lit]
   rw[List.getElem?_take]at hj
   split at hj
   ·exact hcs j v hj
   ·cases hj)
 have hrz:∀ty,(Builtin.append_ #[26,3] ty #[.slice (some ⟨b,off,none⟩) i c,.int .i64 ((n:Int)+(m:Int)-(i:Int))]).run Tryz.prog w =
   .ok (.slice (some ⟨w.heap.size,0,none⟩) (n+m) (grownCap w (n+m) c 3)) (w.drew.alloc (.cells ((cs.take (i)).toArray++Builtin.zeroCells (.int .i64 0:Value).cells (n+m-i)++Builtin.zeroCells (.int .i64 0:Value).cells (grownCap w (n+m) c 3-(n+m))) 3)):=λty=>by
  have h:=Lib.run_append_grow_zeros w 26 3 ty 3 i0 _ .i64 .i64 Tryz.underlying26 Tryz.underlying3 hi0 hz0 (some ⟨b,off,none⟩) i c (cs.take (i)) hold (n+m-i) (by omega) (by omega) (by omega) (by omega) (by rw[hzb];omega) (by rw[hzb,hik];exact growslice_fits hroom hbig)
  rw[hik]at h
  rw[hkk]
  exact h
 obtain⟨G,hG⟩:∃G,G=grownCap w (n+m) c 3:=⟨_,rfl⟩
 obtain⟨ROW,hROW⟩:∃ROW:Array Value,ROW=(cs.take (i)).toArray++Builtin.zeroCells (.int .i64 0:Value).cells (n+m-i)++Builtin.zeroCells (.int .i64 0:Value).cells (G-(n+m)):=⟨_,rfl⟩
 rw[←hG]at hrz⊢
 rw[←hROW]at hrz⊢
 have hRl:(n+m)*1≤ROW.size:=by
  rw[hROW]
  simp[Builtin.zeroCells,Value.cells]
  omega
 obtain⟨W1,hW1⟩:∃W1,W1=w.drew.alloc (.cells ROW 3):=⟨_,rfl⟩
 rw[←hW1]at hrz
 have hN:∀j,j<(n+m)*1→(W1.cell? ⟨w.heap.size,j,none⟩).isSome=true:=λj hj=>by
  rw[hW1,World.cell?_alloc_at (w:=w.drew) ROW _ w.heap.size j rfl,Array.getElem?_eq_getElem (by omega)];rfl
 have hNf:∀j,W1.frozen? ⟨w.heap.size,j,none⟩=false:=λj=>by rw[hW1];exact World.frozen?_alloc_at (w:=w.drew) ROW _ w.heap.size j rfl
 have hOb:∀j v,w.cell? ⟨b,j,none⟩=some v→W1.cell? ⟨b,j,none⟩=some v:=λj v h=>by rw[hW1,World.cell?_alloc_past (w:=w.drew) _ b j hbw];exact h
 have hOv:∀j v,w.cell? ⟨vb,j,none⟩=some v→W1.cell? ⟨vb,j,none⟩=some v:=λj v h=>by rw[hW1,World.cell?_alloc_past (w:=w.drew) _ vb j hvw];exact h
 have hcpA:∀(W:World),(∀x,W.cell? x=W1.cell? x)→(∀x,W.frozen? x=W1.frozen? x)→∀ty dc,(Builtin.copy_ #[26,26] ty #[.slice (some ⟨w.heap.size,i,none⟩) (n+m-i) dc,.slice (some ⟨vb,voff,none⟩) m vc]).run Tryz.prog W=.ok (goInt (Nat.min m (n+m-i))) (W.setCells w.heap.size (i) vs):=λW hWc hWf ty dc =>
  z4r 1 W _ _ ty 3 w.heap.size (i) (n+m-i) dc ⟨vb,voff,none⟩ m vc vs Tryz.underlying26 hsz (by rw[hvl];simp only[Nat.min_def];split<;>omega)
   (λj v hj=>by rw[Addr.add_lit,hWc];exact hOv _ v (hvs j v hj))
   (λj hj=>by rw[hWc];exact hN _ (by omega)) (λj hj=>by rw[hWf];exact hNf _) h1v
 have hGn:n+m≤G:=by rw[hG];exact grownCap_ge w _ _ _
 have hG63:G≤9223372036854775807:=by
  have:=grownCap_le_maxLen w (n+m) c 3 (by unfold maxLen;omega)
  rw[←hG]at this
  unfold maxLen at this
  omega
 have hGi:¬(G=i):=by omega
 have hGim:¬(G=i+m):=by omega
 have hci:¬(c=i):=by omega
 have hbN:b≠w.heap.size:=by omega
 have hdl:(cs.drop (i)).length=(n-i):=by rw[List.length_drop,hcl];omega
 have hcpB:∀(W:World),(∀x,W.cell? x=(W1.setCells w.heap.size (i) vs).cell? x)→(∀x,W.frozen? x=(W1.setCells w.heap.size (i) vs).frozen? x)→∀ty dc sc,(Builtin.copy_ #[26,26] ty #[.slice (some ⟨w.heap.size,(i+m),none⟩) (n+m-(i+m)) dc,.slice (some ⟨b,off+i,none⟩) (n-i) sc]).run Tryz.prog W=.ok (goInt (Nat.min (n-i) (n+m-(i+m)))) (W.setCells w.heap.size ((i+m)) (cs.drop (i))):=λW hWc hWf ty dc sc =>
  z4r 1 W _ _ ty 3 w.heap.size ((i+m)) (n+m-(i+m)) dc ⟨b,off+i,none⟩ (n-i) sc (cs.drop (i)) Tryz.underlying26 hsz (by rw[hdl];simp only[Nat.min_def];split<;>omega)
   (λj v hj=>by
    rw[Addr.add_lit,hWc,World.cell?_setCells_out _ _ _ _ _ (λh _=>absurd h hbN),Nat.add_assoc]
    exact hOb _ v (hcs (i+j) v (by rwa [List.getElem?_drop]at hj)))
   (λj hj=>by rw[hWc];exact z4y _ _ _ _ (λt ht=>hN _ (by omega)) _ (hN _ (by omega)))
   (λj hj=>by rw[hWf,World.frozen?_setCells];exact hNf _) (λv hv=>h1c v (List.mem_of_mem_drop hv))
 subst hW1
 have hE1:∀x,((w.alloc (.cells ROW 3)).drew).cell? x=(w.drew.alloc (.cells ROW 3)).cell? x:=λx=>rfl
 have hE2:∀x,((w.alloc (.cells ROW 3)).drew).frozen? x=(w.drew.alloc (.cells ROW 3)).frozen? x:=λx=>rfl
 have hF1:∀x,(((w.alloc (.cells ROW 3)).drew.setCells w.heap.size (i) vs).drew).cell? x=((w.drew.alloc (.cells ROW 3)).setCells w.heap.size (i) vs).cell? x:=λx=>rfl
 have hF2:∀x,(((w.alloc (.cells ROW 3)).drew.setCells w.heap.size (i) vs).drew).frozen? x=((w.drew.alloc (.cells ROW 3)).setCells w.heap.size (i) vs).frozen? x:=λx=>rfl
 have hw1:IntKind.i64.wrap ((i:Int)+(m:Int))=(i:Int)+(m:Int):=by rw[IntKind.wrap_i64];omega
 have hb1:(0:Int)≤(i:Int)+(m:Int):=by omega
 have hin:i≤n:=by omega
 have htn:((i:Int)+(m:Int)).toNat=i+m:=by omega
 have hb3:(i:Int)≤(n:Int):=by omega
 clear hkk hik hold hROW hG hRl
 go_enter Tryz.func135,Tryz.ntmps135
 go_wp2_with (first
  |(at_builtin;refine Lib.wpList_append_run _ rfl _ _ _ _ rfl _ _ rfl rfl _ _ (hrz _) ?_)
  |(at_builtin;refine z4p _ rfl _ _ 26 26 rfl _ _ rfl rfl (hcpA _ hE1 hE2 _ _) ?_)
  |(at_builtin;refine z4p _ rfl _ _ 26 26 rfl _ _ rfl rfl (hcpB _ (λ_=>rfl) (λ_=>rfl) _ _ _) ?_))
 go_region_law_o (refine z5h rfl _ _ 26 26 rfl (.slice (some ⟨w.heap.size,(i+m),none⟩) (n+m-(i+m)) (G-(i+m))) (.slice (some ⟨b,off+i,none⟩) (n-i) (c-i)) (by simp[Act.eval,Act.put]) (by simp[Act.eval,Act.put]) (hcpB _ hF1 hF2 3 (G-(i+m)) (c-i)) ?_)
 go_wp2
 go_ret
 exact⟨rfl,rfl⟩
set_option maxHeartbeats 4000000 in
set_option maxRecDepth 100000 in
theorem z9l (b off n c i vb voff m vc:Nat) (cs vs:List Value) (w:World) (hi:i<n) (hm:0<m) (hroom:n+m≤c) (hc63:n+m≤9223372036854775807) (hvb:vb≠b)
  (hcl:cs.length=n*2) (hvl:vs.length=m*2)
  (hcs:∀j v,cs[j]? = some v→w.cell? ⟨b,off+j,none⟩=some v) (hsp:∀j,j<(n+m)*2→(w.cell? ⟨b,off+j,none⟩).isSome=true) (hfz:∀j,j<(n+m)*2→w.frozen? ⟨b,off+j,none⟩=false)
  (hvs:∀j v,vs[j]? = some v→w.cell? ⟨vb,voff+j,none⟩=some v) (h1c:∀v∈cs,v.oneCell'=true) (h1v:∀v∈vs,v.oneCell'=true)
  (tA tB:TypeId) (kA kB:Nat) (hsa:w.shape? vb=some (tA,kA)) (hsb:w.shape? b=some (tB,kB)) (hkA:kA≠0) (hkB:kB≠0) (hfr:∀j,w.frozen? ⟨b,j,none⟩=false) :
  Calls Tryz.prog 131 #[.slice (some ⟨b,off,none⟩) n c,.int .i64 i,.slice (some ⟨vb,voff,none⟩) m vc] w λe w' =>
   e=.returned (.slice (some ⟨b,off,none⟩) (n+m) c)∧w'=(w.drew.setCells b (off+(i+m)*2) (cs.drop (i*2))).setCells b (off+i*2) vs:=by
 obtain⟨i0,hi0,hz0,hzs,hzb⟩:=info_parts (P:=Tryz.prog) (e:=71) (z:=.agg #[.int .i64 0,.int .i64 0]) (size:=2) (bytes:=16) (by kernel_rfl)
 have mixed:Tryz.prog.follows .mixedOrders=true:=Go.VL.mix
 have hz1:¬((m:Int)=0):=by omega
 have hz2:¬((i:Int)=(n:Int)):=by omega
 have hsz:(Tryz.prog.info? 71).map (·.size)=some 2:=by rw[hi0];simp[hzs]
 have hszr:∀w,(Go.sizeOf 71).run Tryz.prog w=.ok 2 w:=λw=>by
  simp[Go.sizeOf,typeInfo,hi0,hzs]
 have hov:∀lb cb,(callFunc 165 #[.slice (some ⟨vb,voff,none⟩) m vc,.slice (some ⟨b,off+(i+m)*2,none⟩) lb cb]).run Tryz.prog w=.ok (.value (.bool false)) w:=λlb cb=>by
  rw[run_callFunc_extern Tryz.func165 (by kernel_rfl) (by kernel_rfl) (by kernel_rfl) (e:=Extern.SlicesOverlaps.overlaps #[33,33] #[4]) (by kernel_rfl),
   z51 w 33 4 71 Tryz.underlying33 2 hszr ⟨vb,voff,none⟩ ⟨b,off+(i+m)*2,none⟩ m vc lb cb hvb tA tB kA kB hsa hsb hkA hkB (hfr _) (hfr _)]
  rfl
 have hdl:(cs.drop (i*2)).length=(n-i)*2:=by rw[List.length_drop,hcl];omega
 have hw1:IntKind.i64.wrap ((i:Int)+(m:Int))=(i:Int)+(m:Int):=by rw[IntKind.wrap_i64];omega
 have hb1:(0:Int)≤(i:Int)+(m:Int):=by omega
 have hin:i≤n:=by omega
 have htn:((i:Int)+(m:Int)).toNat=i+m:=by omega
 have hb2:¬(c=i+m):=by omega
 have hb3:(i:Int)≤(n:Int)+(m:Int):=by omega
 have hb4:¬(c=i):=by omega
 have hcp1:∀ty dc sc,(Builtin.copy_ #[33,33] ty #[.slice (some ⟨b,off+(i+m)*2,none⟩) (n+m-(i+m)) dc,.slice (some ⟨b,off+i*2,none⟩) (n+m-i) sc]).run Tryz.prog w.drew=.ok (goInt (Nat.min (n+m-i) (n+m-(i+m)))) (w.drew.setCells b (off+(i+m)*2) (cs.drop (i*2))):=λty dc sc =>
  z4r 2 w.drew _ _ ty 71 b (off+(i+m)*2) (n+m-(i+m)) dc ⟨b,off+i*2,none⟩ (n+m-i) sc (cs.drop (i*2)) Tryz.underlying33 hsz (by rw[hdl];simp only[Nat.min_def];split<;>omega)
   (λj v hj=>by rw[Addr.add_lit,Nat.add_assoc];exact hcs (i*2+j) v (by rwa [List.getElem?_drop]at hj))
   (λj hj=>by rw[Nat.add_assoc];exact hsp _ (by omega)) (λj hj=>by rw[Nat.add_assoc];exact hfz _ (by omega)) (λv hv=>h1c v (List.mem_of_mem_drop hv))
 obtain⟨W1,hW1⟩:∃W1,W1=w.drew.setCells b (off+(i+m)*2) (cs.drop (i*2)):=⟨_,rfl⟩
 have hsp1:∀k,k<(n+m)*2→(W1.cell? ⟨b,off+k,none⟩).isSome=true:=λk hk=>by
  rw[hW1]
  exact z4y b _ _ _ (λj hj=>by rw[Nat.add_assoc];exact hsp _ (by omega)) _ (hsp k hk)
 have hcp2:∀(W:World),(∀x,W.cell? x=W1.cell? x)→(∀x,W.frozen? x=W1.frozen? x)→∀ty dc,(Builtin.copy_ #[33,33] ty #[.slice (some ⟨b,off+i*2,none⟩) (n+m-i) dc,.slice (some ⟨vb,voff,none⟩) m vc]).run Tryz.prog W=.ok (goInt (Nat.min m (n+m-i))) (W.setCells b (off+i*2) vs):=λW hWc hWf ty dc =>
  z4r 2 W _ _ ty 71 b (off+i*2) (n+m-i) dc ⟨vb,voff,none⟩ m vc vs Tryz.underlying33 hsz (by rw[hvl];simp only[Nat.min_def];split<;>omega)
   (λj v hj=>by
    rw[Addr.add_lit,hWc,hW1,World.cell?_setCells_out b _ _ _ _ (λh _=>absurd h hvb)]
    exact hvs j v hj)
   (λj hj=>by rw[hWc,Nat.add_assoc];exact hsp1 _ (by omega)) (λj hj=>by rw[hWf,hW1,World.frozen?_setCells,Nat.add_assoc];exact hfz _ (by omega)) h1v
 rw[←hW1]at hcp1
 go_enter Tryz.func131,Tryz.ntmps131
 go_wp2_with (simp only[hov])
 go_region_law_o (refine z5h rfl _ _ 33 33 rfl _ _ (by simp[Act.eval,Act.put]) (by simp[Act.eval,Act.put]) (hcp1 _ _ _) ?_)
 go_wp2_with (at_builtin;refine z4p _ rfl _ _ 33 33 rfl _ _ rfl rfl (hcp2 _ (λ_=>rfl) (λ_=>rfl) _ _) ?_)
 go_ret
 first|exact⟨rfl,rfl⟩|exact⟨rfl,by rw[hW1]⟩
set_option maxHeartbeats 4000000 in
set_option maxRecDepth 100000 in
theorem z7z (b off n c vb voff m vc:Nat) (vs:List Value) (w:World) (hm:0<m) (hroom:n+m≤c) (hc63:n+m≤9223372036854775807)
  (hvl:vs.length=m*2) (hsp:∀j,j<m*2→(w.cell? ⟨b,off+n*2+j,none⟩).isSome=true) (hfz:∀j,j<m*2→w.frozen? ⟨b,off+n*2+j,none⟩=false)
  (hvs:∀j v,vs[j]? = some v→w.cell? ⟨vb,voff+j,none⟩=some v) (h1v:∀v∈vs,v.oneCell'=true) :
  Calls Tryz.prog 131 #[.slice (some ⟨b,off,none⟩) n c,.int .i64 n,.slice (some ⟨vb,voff,none⟩) m vc] w λe w' =>
   e=.returned (.slice (some ⟨b,off,none⟩) (n+m) c)∧w'=w.setCells b (off+n*2) vs:=by
 obtain⟨i0,hi0,hz0,hzs,hzb⟩:=info_parts (P:=Tryz.prog) (e:=71) (z:=.agg #[.int .i64 0,.int .i64 0]) (size:=2) (bytes:=16) (by kernel_rfl)
 have mixed:Tryz.prog.follows .mixedOrders=true:=Go.VL.mix
 have hz1:¬((m:Int)=0):=by omega
 have hsrc:Src Tryz.prog i0.size 33 (.slice (some ⟨vb,voff,none⟩) m vc) m vs w:=by
  rw[hzs]
  exact Src.ofSlice w Tryz.underlying33 ⟨vb,voff,none⟩ m vc vs (by omega) (λj u hj=>by rw[Addr.add_lit];exact hvs j u hj) h1v
 have hrun:∀ty,(Builtin.append_ #[33,33] ty #[.slice (some ⟨b,off,none⟩) n c,.slice (some ⟨vb,voff,none⟩) m vc]).run Tryz.prog w=_:=λty =>
  run_append_room_src w 33 33 ty 71 i0 Tryz.underlying33 hi0 b off n c _ m vs hsrc hroom (by rw[hvl,hzs];exact hsp) (by rw[hvl,hzs];exact hfz)
 rw[hzs]at hrun
 try simp only[Nat.mul_one]at hrun
 clear hsp hfz hvs hsrc
 go_enter Tryz.func131,Tryz.ntmps131
 go_wp2_with (at_builtin;refine Lib.wpList_append_run _ rfl _ _ _ _ rfl _ _ rfl rfl _ _ (hrun _) ?_)
 go_ret
 exact⟨rfl,rfl⟩
set_option maxHeartbeats 4000000 in
set_option maxRecDepth 100000 in
theorem z72 (base:Option Addr) (n c vb voff m vc:Nat) (cs vs:List Value) (w:World) (hm:0<m) (hnc:n≤c) (hroom:c<n+m) (hbig:(n+m)*16≤140737488355328)
  (hcl:cs.length=n*2) (hvl:vs.length=m*2) (hnil:base=none→n=0)
  (hcs:∀a,base=some a→∀j v,cs[j]? = some v→w.cell? (a.add j)=some v)
  (hvs:∀j v,vs[j]? = some v→w.cell? ⟨vb,voff+j,none⟩=some v) (h1v:∀v∈vs,v.oneCell'=true) :
  Calls Tryz.prog 131 #[.slice base n c,.int .i64 n,.slice (some ⟨vb,voff,none⟩) m vc] w λe w' =>
   e=.returned (.slice (some ⟨w.heap.size,0,none⟩) (n+m) (grownCap w (n+m) c 71)) ∧
   w'=w.drew.alloc (.cells ((cs++vs).toArray++Builtin.zeroCells (.agg #[.int .i64 0,.int .i64 0]:Value).cells (grownCap w (n+m) c 71-(n+m))) 71):=by
 obtain⟨i0,hi0,hz0,hzs,hzb⟩:=info_parts (P:=Tryz.prog) (e:=71) (z:=.agg #[.int .i64 0,.int .i64 0]) (size:=2) (bytes:=16) (by kernel_rfl)
 have mixed:Tryz.prog.follows .mixedOrders=true:=Go.VL.mix
 have hz1:¬((m:Int)=0):=by omega
 have hsrc:Src Tryz.prog i0.size 33 (.slice (some ⟨vb,voff,none⟩) m vc) m vs w:=by
  rw[hzs]
  exact Src.ofSlice w Tryz.underlying33 ⟨vb,voff,none⟩ m vc vs (by omega) (λj u hj=>by rw[Addr.add_lit];exact hvs j u hj) h1v
 have hold:(Builtin.firstCells i0.size n (.slice base n c)).run Tryz.prog w.drew=.ok cs.toArray w.drew:=by
  rw[hzs]
  cases base with
  |none =>
   have h0:=hnil rfl
   subst h0
   rw[List.length_eq_zero_iff.1 (show cs.length=0 by omega)]
   exact run_firstCells_none w.drew 2 0 0 c
  |some a=>exact run_firstCells_some w.drew 2 n a n c cs (by omega) (λj v hj=>hcs a rfl j v hj)
 have hrun:∀ty,(Builtin.append_ #[33,33] ty #[.slice base n c,.slice (some ⟨vb,voff,none⟩) m vc]).run Tryz.prog w=_:=λty =>
  run_append_grow_src w 33 33 ty 71 i0 _ Tryz.underlying33 hi0 hz0 base n c cs hold _ m vs hsrc hroom (by omega) (by rw[hzb];exact growslice_fits hroom hbig)
 go_enter Tryz.func131,Tryz.ntmps131
 cases base with
 |none =>
  have h0:=hnil rfl
  subst h0
  go_wp2_with (at_builtin;refine Lib.wpList_append_run _ rfl _ _ _ _ rfl _ _ rfl rfl _ _ (hrun _) ?_)
  go_ret
  exact⟨rfl,rfl⟩
 |some a =>
  obtain⟨ab,ao,asp⟩:=a
  go_wp2_with (at_builtin;refine Lib.wpList_append_run _ rfl _ _ _ _ rfl _ _ rfl rfl _ _ (hrun _) ?_)
  all_goals (go_ret;exact⟨rfl,rfl⟩)
set_option maxHeartbeats 4000000 in
set_option maxRecDepth 100000 in
theorem yaj (b off n c i vb voff m vc:Nat) (cs vs:List Value) (w:World) (hi:i<n) (hm:0<m) (hnc:n≤c) (hroom:c<n+m) (hbig:(n+m)*16≤140737488355328)
  (hcl:cs.length=n*2) (hvl:vs.length=m*2)
  (hcs:∀j v,cs[j]? = some v→w.cell? ⟨b,off+j,none⟩=some v)
  (hvs:∀j v,vs[j]? = some v→w.cell? ⟨vb,voff+j,none⟩=some v) (h1c:∀v∈cs,v.oneCell'=true) (h1v:∀v∈vs,v.oneCell'=true) :
  Calls Tryz.prog 131 #[.slice (some ⟨b,off,none⟩) n c,.int .i64 i,.slice (some ⟨vb,voff,none⟩) m vc] w λe w' =>
   e=.returned (.slice (some ⟨w.heap.size,0,none⟩) (n+m) (grownCap w (n+m) c 71)) ∧
   w'=(((w.alloc (.cells ((cs.take (i*2)).toArray++Builtin.zeroCells (.agg #[.int .i64 0,.int .i64 0]:Value).cells (n+m-i)++Builtin.zeroCells (.agg #[.int .i64 0,.int .i64 0]:Value).cells (grownCap w (n+m) c 71-(n+m))) 71)).drew.setCells w.heap.size (i*2) vs).drew).setCells w.heap.size ((i+m)*2) (cs.drop (i*2)):=by
 obtain⟨i0,hi0,hz0,hzs,hzb⟩:=info_parts (P:=Tryz.prog) (e:=71) (z:=.agg #[.int .i64 0,.int .i64 0]) (size:=2) (bytes:=16) (by kernel_rfl)
 have mixed:Tryz.prog.follows .mixedOrders=true:=Go.VL.mix
 have hz1:¬((m:Int)=0):=by omega
 have hz2:¬((i:Int)=(n:Int)):=by omega
 have hz3:(c:Int)<(n:Int)+(m:Int):=by omega
 have hsz:(Tryz.prog.info? 71).map (·.size)=some 2:=by rw[hi0];simp[hzs]
 have hbw:b<w.heap.size:=block_lt_of_cell (hcs 0 _ (List.getElem?_eq_getElem (by omega)))
 have hvw:vb<w.heap.size:=block_lt_of_cell (hvs 0 _ (List.getElem?_eq_getElem (by omega)))
 have hkk:(n:Int)+(m:Int)-(i:Int)=((n+m-i:Nat):Int):=by omega
 have hik:i+(n+m-i)=n+m:=by omega
 have hold:(Builtin.firstCells i0.size i (.slice (some ⟨b,off,none⟩) i c)).run Tryz.prog w.drew=.ok (cs.take (i*2)).toArray w.drew:=by
  rw[hzs]
  exact run_firstCells_some w.drew 2 i ⟨b,off,none⟩ i c (cs.take (i*2)) (by rw[List.length_take];omega) (λj v hj=>by
   rw[Addr.add_lit]
   rw[List.getElem?_take]at hj
   split at hj
   ·exact hcs j v hj
   ·cases hj)
 have hrz:∀ty,(Builtin.append_ #[33,3] ty #[.slice (some ⟨b,off,none⟩) i c,.int .i64 ((n:Int)+(m:Int)-(i:Int))]).run Tryz.prog w =
   .ok (.slice (some ⟨w.heap.size,0,none⟩) (n+m) (grownCap w (n+m) c 71)) (w.drew.alloc (.cells ((cs.take (i*2)).toArray++Builtin.zeroCells (.agg #[.int .i64 0,.int .i64 0]:Value).cells (n+m-i)++Builtin.zeroCells (.agg #[.int .i64 0,.int .i64 0]:Value).cells (grownCap w (n+m) c 71-(n+m))) 71)):=λty=>by
  have h:=Lib.run_append_grow_zeros w 33 3 ty 71 i0 _ .i64 .i64 Tryz.underlying33 Tryz.underlying3 hi0 hz0 (some ⟨b,off,none⟩) i c (cs.take (i*2)) hold (n+m-i) (by omega) (by omega) (by omega) (by omega) (by rw[hzb];omega) (by rw[hzb,hik];exact growslice_fits hroom hbig)
  rw[hik]at h
  rw[hkk]
  exact h
 obtain⟨G,hG⟩:∃G,G=grownCap w (n+m) c 71:=⟨_,rfl⟩
 obtain⟨ROW,hROW⟩:∃ROW:Array Value,ROW=(cs.take (i*2)).toArray++Builtin.zeroCells (.agg #[.int .i64 0,.int .i64 0]:Value).cells (n+m-i)++Builtin.zeroCells (.agg #[.int .i64 0,.int .i64 0]:Value).cells (G-(n+m)):=⟨_,rfl⟩
 rw[←hG]at hrz⊢
 rw[←hROW]at hrz⊢
 have hRl:(n+m)*2≤ROW.size:=by
  rw[hROW]
  simp[Builtin.zeroCells,Value.cells]
  omega
 obtain⟨W1,hW1⟩:∃W1,W1=w.drew.alloc (.cells ROW 71):=⟨_,rfl⟩
 rw[←hW1]at hrz
 have hN:∀j,j<(n+m)*2→(W1.cell? ⟨w.heap.size,j,none⟩).isSome=true:=λj hj=>by
  rw[hW1,World.cell?_alloc_at (w:=w.drew) ROW _ w.heap.size j rfl,Array.getElem?_eq_getElem (by omega)];rfl
 have hNf:∀j,W1.frozen? ⟨w.heap.size,j,none⟩=false:=λj=>by rw[hW1];exact World.frozen?_alloc_at (w:=w.drew) ROW _ w.heap.size j rfl
 have hOb:∀j v,w.cell? ⟨b,j,none⟩=some v→W1.cell? ⟨b,j,none⟩=some v:=λj v h=>by rw[hW1,World.cell?_alloc_past (w:=w.drew) _ b j hbw];exact h
 have hOv:∀j v,w.cell? ⟨vb,j,none⟩=some v→W1.cell? ⟨vb,j,none⟩=some v:=λj v h=>by rw[hW1,World.cell?_alloc_past (w:=w.drew) _ vb j hvw];exact h
 have hcpA:∀(W:World),(∀x,W.cell? x=W1.cell? x)→(∀x,W.frozen? x=W1.frozen? x)→∀ty dc,(Builtin.copy_ #[33,33] ty #[.slice (some ⟨w.heap.size,i*2,none⟩) (n+m-i) dc,.slice (some ⟨vb,voff,none⟩) m vc]).run Tryz.prog W=.ok (goInt (Nat.min m (n+m-i))) (W.setCells w.heap.size (i*2) vs):=λW hWc hWf ty dc =>
  z4r 2 W _ _ ty 71 w.heap.size (i*2) (n+m-i) dc ⟨vb,voff,none⟩ m vc vs Tryz.underlying33 hsz (by rw[hvl];simp only[Nat.min_def];split<;>omega)
   (λj v hj=>by rw[Addr.add_lit,hWc];exact hOv _ v (hvs j v hj))
   (λj hj=>by rw[hWc];exact hN _ (by omega)) (λj hj=>by rw[hWf];exact hNf _) h1v
 have hGn:n+m≤G:=by rw[hG];exact grownCap_ge w _ _ _
 have hG63:G≤9223372036854775807:=by
  have:=grownCap_le_maxLen w (n+m) c 71 (by unfold maxLen;omega)
  rw[←hG]at this
  unfold maxLen at this
  omega
 have hGi:¬(G=i):=by omega
 have hGim:¬(G=i+m):=by omega
 have hci:¬(c=i):=by omega
 have hbN:b≠w.heap.size:=by omega
 have hdl:(cs.drop (i*2)).length=(n-i)*2:=by rw[List.length_drop,hcl];omega
 have hcpB:∀(W:World),(∀x,W.cell? x=(W1.setCells w.heap.size (i*2) vs).cell? x)→(∀x,W.frozen? x=(W1.setCells w.heap.size (i*2) vs).frozen? x)→∀ty dc sc,(Builtin.copy_ #[33,33] ty #[.slice (some ⟨w.heap.size,(i+m)*2,none⟩) (n+m-(i+m)) dc,.slice (some ⟨b,off+i*2,none⟩) (n-i) sc]).run Tryz.prog W=.ok (goInt (Nat.min (n-i) (n+m-(i+m)))) (W.setCells w.heap.size ((i+m)*2) (cs.drop (i*2))):=λW hWc hWf ty dc sc =>
  z4r 2 W _ _ ty 71 w.heap.size ((i+m)*2) (n+m-(i+m)) dc ⟨b,off+i*2,none⟩ (n-i) sc (cs.drop (i*2)) Tryz.underlying33 hsz (by rw[hdl];simp only[Nat.min_def];split<;>omega)
   (λj v hj=>by
    rw[Addr.add_lit,hWc,World.cell?_setCells_out _ _ _ _ _ (λh _=>absurd h hbN),Nat.add_assoc]
    exact hOb _ v (hcs (i*2+j) v (by rwa [List.getElem?_drop]at hj)))
   (λj hj=>by rw[hWc];exact z4y _ _ _ _ (λt ht=>hN _ (by omega)) _ (hN _ (by omega)))
   (λj hj=>by rw[hWf,World.frozen?_setCells];exact hNf _) (λv hv=>h1c v (List.mem_of_mem_drop hv))
 subst hW1
 have hE1:∀x,((w.alloc (.cells ROW 71)).drew).cell? x=(w.drew.alloc (.cells ROW 71)).cell? x:=λx=>rfl
 have hE2:∀x,((w.alloc (.cells ROW 71)).drew).frozen? x=(w.drew.alloc (.cells ROW 71)).frozen? x:=λx=>rfl
 have hF1:∀x,(((w.alloc (.cells ROW 71)).drew.setCells w.heap.size (i*2) vs).drew).cell? x=((w.drew.alloc (.cells ROW 71)).setCells w.heap.size (i*2) vs).cell? x:=λx=>rfl
 have hF2:∀x,(((w.alloc (.cells ROW 71)).drew.setCells w.heap.size (i*2) vs).drew).frozen? x=((w.drew.alloc (.cells ROW 71)).setCells w.heap.size (i*2) vs).frozen? x:=λx=>rfl
 have hw1:IntKind.i64.wrap ((i:Int)+(m:Int))=(i:Int)+(m:Int):=by rw[IntKind.wrap_i64];omega
 have hb1:(0:Int)≤(i:Int)+(m:Int):=by omega
 have hin:i≤n:=by omega
 have htn:((i:Int)+(m:Int)).toNat=i+m:=by omega
 have hb3:(i:Int)≤(n:Int):=by omega
 clear hkk hik hold hROW hG hRl
 go_enter Tryz.func131,Tryz.ntmps131
 go_wp2_with (first
  |(at_builtin;refine Lib.wpList_append_run _ rfl _ _ _ _ rfl _ _ rfl rfl _ _ (hrz _) ?_)
  |(at_builtin;refine z4p _ rfl _ _ 33 33 rfl _ _ rfl rfl (hcpA _ hE1 hE2 _ _) ?_)
  |(at_builtin;refine z4p _ rfl _ _ 33 33 rfl _ _ rfl rfl (hcpB _ (λ_=>rfl) (λ_=>rfl) _ _ _) ?_))
 go_region_law_o (refine z5h rfl _ _ 33 33 rfl (.slice (some ⟨w.heap.size,(i+m)*2,none⟩) (n+m-(i+m)) (G-(i+m))) (.slice (some ⟨b,off+i*2,none⟩) (n-i) (c-i)) (by simp[Act.eval,Act.put]) (by simp[Act.eval,Act.put]) (hcpB _ hF1 hF2 3 (G-(i+m)) (c-i)) ?_)
 go_wp2
 go_ret
 exact⟨rfl,rfl⟩
end Go.Proofs
namespace Go.Proofs
open Go.RowKit Go.Lib Go.VL
set_option linter.unusedVariables false
set_option linter.unusedSimpArgs false
set_option maxHeartbeats 1000000 in
theorem yat (w:World) (n i:Nat) (cs vs:List Value) (vb voff vc:Nat) (s:Value) (bo:Option Nat) (hi:i≤n) (hn:n≤1000000) (hcl:cs.length=n*1) (hvl:vs.length=1) (h1c:∀v∈cs,v.oneCell'=true) (h1v:∀v∈vs,v.oneCell'=true)
  (hv:∀j v,vs[j]? = some v→w.cell? ⟨vb,voff+j,none⟩=some v)
  (hs:(s=.slice none 0 0∧bo=none∧n=0)∨∃b cap rest ty,s=.slice (some ⟨b,0,none⟩) n cap∧bo=some b∧w.heap[b]? = some (.cells (cs++rest).toArray ty (0,0))∧(cs++rest).length=cap*1∧n≤cap∧vb≠b) :
  Calls Tryz.prog 135 #[s,.int .i64 i,.slice (some ⟨vb,voff,none⟩) 1 vc] w (z5n w bo 1 (n+1) (cs.take (i*1)++(vs++cs.drop (i*1)))):=by
 have hv0:=hv 0 _ (List.getElem?_eq_getElem (by omega))
 obtain⟨tA,kA,hsa,hkA⟩:=z67 hv0
 have endG:∀(base:Option Addr) (c:Nat),i=n→n≤c→c<n+1→(base=none→n=0)→(∀a,base=some a→∀j v,cs[j]? = some v→w.cell? (a.add j)=some v) →
   Calls Tryz.prog 135 #[.slice base n c,.int .i64 i,.slice (some ⟨vb,voff,none⟩) 1 vc] w (z5n w bo 1 (n+1) (cs.take (i*1)++(vs++cs.drop (i*1)))):=λbase c hin h1 h2 h3 h4=>by
  subst hin
  refine(z70 base i c vb voff 1 vc cs vs w (by omega) h1 h2 (by omega) hcl (by omega) h3 h4 hv h1v).mono ?_
  rintro e w' ⟨rfl,rfl⟩
  have hG:=grownCap_ge w (i+1) c 3
  generalize grownCap w (i+1) c 3=G at hG⊢
  have e1:cs.take (i*1)=cs:=List.take_of_length_le (by omega)
  have e2:cs.drop (i*1)=[]:=List.drop_eq_nil_of_le (by omega)
  rw[e1,e2,List.append_nil]
  refine⟨w.heap.size,G,(Builtin.zeroCells (.int .i64 0:Value).cells (G-(i+1))).toList,3,rfl,?_,?_,hG,.inr (Nat.le_refl _),rfl,rfl,rfl,?_,λj hj _=>?_⟩
  ·show(w.heap.push _)[w.heap.size]? = _
   simp
  ·rw[List.length_append,List.length_append,z41]
   simp only[Value.cells]
   simp
   omega
  ·show _≤(w.heap.push _).size
   simp
  ·show(w.heap.push _)[j]? = _
   rw[Array.getElem?_push,if_neg (by omega)]
 rcases hs with ⟨rfl,hbo,h0⟩|⟨b,cap,rest,ty,rfl,rfl,hb,hl,hcap,hne⟩
 ·subst h0
  have:=endG none 0 (by omega) (Nat.le_refl _) (by omega) (λ_=>rfl) (λa h=>by cases h)
  exact this
 ·have hcell:∀j v,cs[j]? = some v→w.cell? ⟨b,0+j,none⟩=some v:=λj v hj=>by
   rw[Nat.zero_add,z5b hb,List.getElem?_append_left (List.getElem?_eq_some_iff.1 hj).1];exact hj
  have hcs:∀j,j<cap*1→(w.cell? ⟨b,0+j,none⟩).isSome=true:=λj hj=>by
   rw[Nat.zero_add,z5b hb,List.getElem?_eq_getElem (by omega)];rfl
  have hfr:∀j,w.frozen? ⟨b,j,none⟩=false:=z53 hb
  have hsb:=z7u hb
  have hll:(cs++rest).length=cs.length+rest.length:=List.length_append
  by_cases hr:n+1≤cap
  ·by_cases hin:i=n
   ·subst hin
    have:=z7y b 0 i cap vb voff 1 vc vs w (by omega) hr (by omega) (by omega) (λj hj=>by rw[Nat.add_assoc];exact hcs _ (by omega)) (λj hj=>by exact hfr _) hv h1v
    refine this.mono ?_
    rintro e w' ⟨rfl,rfl⟩
    have e1:cs.take (i*1)=cs:=List.take_of_length_le (by omega)
    have e2:cs.drop (i*1)=[]:=List.drop_eq_nil_of_le (by omega)
    rw[e1,e2,List.append_nil]
    obtain⟨r1,r2⟩:=z4f vs (0+i) w _ hb (by omega)
    refine⟨b,cap,rest.drop 1,ty,rfl,?_,?_,hr,.inl rfl,r2.os,r2.tape,r2.output,Nat.le_of_eq r2.size.symm,λj hj hjb=>r2.block j λe=>hjb (by rw[e])⟩
    ·rw[r1]
     congr 3
     rw[List.take_left' (by omega),List.drop_append,List.drop_eq_nil_of_le (by omega),List.nil_append]
     congr 2
     omega
    ·rw[List.length_append,List.length_append,List.length_drop]
     omega
   ·have:=z9h b 0 n cap i vb voff 1 vc cs vs w (by omega) (by omega) hr (by omega) hne hcl (by omega) hcell (λj hj=>hcs j (by have:(n+1)*1≤cap*1:=Nat.mul_le_mul_right _ hr;omega)) (λj hj=>hfr _) hv h1c h1v tA ty kA _ hsa hsb hkA (by omega) hfr
    refine this.mono ?_
    rintro e w' ⟨rfl,rfl⟩
    have hR:1≤rest.length:=by have:(n+1)*1≤cap*1:=Nat.mul_le_mul_right _ hr;omega
    have hA:(cs.take (i*1)).length=i*1:=by rw[List.length_take];omega
    have hAB:cs.take (i*1)++cs.drop (i*1)=cs:=List.take_append_drop _ _
    obtain⟨A,hAe⟩:∃A,A=cs.take (i*1):=⟨_,rfl⟩
    obtain⟨B,hBe⟩:∃B,B=cs.drop (i*1):=⟨_,rfl⟩
    have hBe':cs.drop (i)=B:=by subst hBe;first|rfl|(congr 1;omega)
    (try rw[hBe'])
    rw[←hAe,←hBe]at hAB
    (try rw[←hAe])
    (try rw[←hBe])
    rw[←hAe]at hA
    rw[←hAB]at hb hl hll
    have hBl:B.length=(n-i)*1:=by rw[hBe,List.length_drop];omega
    obtain⟨r1,r2⟩:=z4f B (0+(i+1)) w.drew _ hb (by omega)
    obtain⟨r3,r4⟩:=z4f vs (0+i) _ _ r1 (by simp only[List.length_append,List.length_take,List.length_drop];omega)
    have r5:=r2.trans r4
    refine⟨b,cap,rest.drop 1,ty,rfl,?_,?_,hr,.inl rfl,r5.os,r5.tape,r5.output,Nat.le_of_eq r5.size.symm,λj hj hjb=>r5.block j λe=>hjb (by rw[e])⟩
    ·rw[r3]
     congr 3
     have:=z8o (A:=A) (B:=B) (R:=rest) (V:=vs) (K:=1) hvl hR rfl
     rw[←this,hA,show 0+i=i*1 by omega,show 0+(i+1)=i*1+1 by omega,show i*1+vs.length=i*1+1 by omega]
    ·rw[List.length_append,List.length_append,List.length_append,List.length_drop]
     simp only[List.length_append]at hl hll
     omega
  ·by_cases hin:i=n
   ·exact endG (some ⟨b,0,none⟩) cap hin hcap (by omega) (λh=>by cases h) (λa ha j v hj=>by cases ha;rw[Addr.add_lit];exact hcell j v hj)
   ·refine(z9z b 0 n cap i vb voff 1 vc cs vs w (by omega) (by omega) hcap (by omega) (by omega) hcl (by omega) hcell hv h1c h1v).mono ?_
    rintro e w' ⟨rfl,rfl⟩
    have hG:=grownCap_ge w (n+1) cap 3
    generalize grownCap w (n+1) cap 3=G at hG⊢
    have hA:(cs.take (i*1)).length=i*1:=by rw[List.length_take];omega
    have hAB:cs.take (i*1)++cs.drop (i*1)=cs:=List.take_append_drop _ _
    have hBl:(cs.drop (i*1)).length=(n-i)*1:=by rw[List.length_drop];omega
    obtain⟨A,hAe⟩:∃A,A=cs.take (i*1):=⟨_,rfl⟩
    obtain⟨B,hBe⟩:∃B,B=cs.drop (i*1):=⟨_,rfl⟩
    have hAe':cs.take (i)=A:=by subst hAe;first|rfl|(congr 1;omega)
    have hBe':cs.drop (i)=B:=by subst hBe;first|rfl|(congr 1;omega)
    (try rw[hAe'])
    (try rw[hBe'])
    rw[←hAe]at hA
    rw[←hBe]at hBl
    (try rw[←hAe])
    (try rw[←hBe])
    obtain⟨Z,hZ⟩:∃Z,Z=(Builtin.zeroCells (.int .i64 0:Value).cells (n+1-i)).toList++(Builtin.zeroCells (.int .i64 0:Value).cells (G-(n+1))).toList:=⟨_,rfl⟩
    have hrow:A.toArray++Builtin.zeroCells (.int .i64 0:Value).cells (n+1-i)++Builtin.zeroCells (.int .i64 0:Value).cells (G-(n+1))=(A++Z).toArray:=by
     rw[hZ]
     apply Array.ext'
     simp
    have hZl:Z.length=(n+1-i)*1+(G-(n+1))*1:=by
     rw[hZ,List.length_append,z41,z41];rfl
    rw[hrow]
    have hb0:((w.alloc (.cells (A++Z).toArray 3)).drew).heap[w.heap.size]? = some (.cells (A++Z).toArray 3 (0,0)):=by
     show(w.heap.push _)[w.heap.size]? = _
     simp
    obtain⟨r1,r2⟩:=z4f vs (i) _ _ hb0 (by rw[List.length_append];omega)
    obtain⟨r3,r4⟩:=z4f (w:=((w.alloc (.cells (A++Z).toArray 3)).drew.setCells w.heap.size (i) vs).drew) B ((i+1)) _ r1 (by simp only[List.length_append,List.length_take,List.length_drop];omega)
    have r5:=r2.trans (w:=_) ⟨r4.os,r4.tape,r4.output,r4.size,r4.block⟩
    refine⟨w.heap.size,G,Z.drop (1+B.length),3,rfl,?_,?_,hG,.inr (Nat.le_refl _),r5.os,r5.tape,r5.output,?_,λj hj hjb=>?_⟩
    ·rw[r3]
     congr 3
     refine Eq.trans ?_ (z7n (A:=A) (B:=B) (Z:=Z) (V:=vs) (K:=1) hvl (by omega) rfl)
     rw[show((i+1))=A.length+1 by omega,show(i)+vs.length=A.length+1 by omega,show(i)=A.length by omega]
    ·rw[List.length_append,List.length_append,List.length_append,List.length_drop]
     omega
    ·refine Nat.le_trans ?_ (Nat.le_of_eq r5.size.symm)
     show _≤(w.heap.push _).size
     simp
    ·refine(r5.block j (by omega)).trans ?_
     show(w.heap.push _)[j]? = _
     rw[Array.getElem?_push,if_neg (by omega)]
theorem z8r (xs:List Int) (i:Nat) (v:Int) (hi:i≤xs.length) (hl:xs.length≤1000000):Go.VL.zr Tryz.prog 135 1 [.slc 0,.c (.int .i64 i),.c (C.nums .i64 [v])] [(0,.arr (C.nums .i64 xs))] 1 (.slc 0) [(0,.arr (C.nums .i64 (xs.take i++v::xs.drop i)))]:=by
 refine⟨⟨_,Tryz.func135,by kernel_rfl,by kernel_rfl⟩,λW I g argv hI hh hla ha=>?_⟩
 obtain⟨a,b,c,rfl⟩:∃a b c,argv=[a,b,c]:=by
  match argv,hla with
  |[a,b,c],_=>exact⟨a,b,c,rfl⟩
 have e0:=RV.slc_inv (ha 0 _ _ rfl rfl)
 have e1:=RV.int_inv (ha 1 _ _ rfl rfl)
 have e2:=ha 2 _ _ rfl rfl
 subst e1
 have hro:=ro1.1 (hh.obj 0 _ (List.mem_singleton.2 rfl)).2
 have hvals:∃vb voff vc,c=.slice (some ⟨vb,voff,none⟩) 1 vc∧I vb∧∀j u,(fl1 [v])[j]? = some u→W.cell? ⟨vb,voff+j,none⟩=some u:=by
  cases e2 with
  |c _ _ hrc =>
   cases hrc with
   |empty _ _ _ hs h0=>exact absurd h0 Nat.one_ne_zero
   |sl _ vb voff cap val hs hIb hcap hc hr =>
    refine⟨vb,voff,cap,rfl,hIb,λj u hj=>?_⟩
    match j with
    |0 =>
     cases hj
     have q:=hc 0 0 _ Nat.zero_lt_one rfl
     have r:=z5z (hr 0 0 _ Nat.zero_lt_one rfl)
     rw[r]at q
     exact q
    |j+1=>cases hj
 obtain⟨vb,voff,vc,rfl,hIv,hvc⟩:=hvals
 have hlen:(fl1 xs).length=xs.length*1:=z6n xs
 have hz:fl1 (xs.take i++v::xs.drop i)=(fl1 xs).take (i*1)++(fl1 [v]++(fl1 xs).drop (i*1)):=by
  rw[z75,z8j,←z7k,←z7k];rfl
 have hzl:(C.nums .i64 (xs.take i++v::xs.drop i)).len=xs.length+1:=by
  show(xs.take i++v::xs.drop i).length=_
  simp only[List.length_append,List.length_cons,List.length_take,List.length_drop]
  omega
 have key:=yat W xs.length i (fl1 xs) (fl1 [v]) vb voff vc a ((g 0).map (·.1)) hi hl hlen rfl (z7a xs) (z7a [v]) hvc ?_
 ·refine key.mono λe w' hL=>?_
  refine z5t (k:=1) (cz:=fl1 (xs.take i++v::xs.drop i)) (bo:=(g 0).map (·.1)) hI hh (λb hb=>?_) (λh=>ro1.2 h) ?_
  ·cases hg:g 0 with
   |none=>rw[hg]at hb;cases hb
   |some q=>rw[hg]at hb;cases hb;exact⟨q.2,rfl⟩
  ·rw[hz,hzl];exact hL
 ·rcases hro with ⟨hg,h0⟩|⟨b,cap,rest,ty,hg,hb,hlc,hcap⟩
  ·left
   rcases e0.2 with ⟨b,cap,len,hg',_⟩|⟨_,ha'⟩
   ·rw[hg]at hg';cases hg'
   ·exact⟨ha',by rw[hg];rfl,h0⟩
  ·right
   rcases e0.2 with ⟨b',cap',len',hg',ha'⟩|⟨hg',_⟩
   ·rw[hg]at hg'
    cases hg'
    refine⟨b,cap,rest,ty,ha',by rw[hg];rfl,hb,hlc,hcap,λe=>?_⟩
    exact(hh.apart 0 _ b (List.mem_singleton.2 rfl) (.inl ⟨_,hg⟩)).1 (e▸hIv)
   ·rw[hg]at hg';cases hg'
set_option maxHeartbeats 1000000 in
theorem ybe (w:World) (n i:Nat) (cs vs:List Value) (vb voff vc:Nat) (s:Value) (bo:Option Nat) (hi:i≤n) (hn:n≤1000000) (hcl:cs.length=n*2) (hvl:vs.length=2) (h1c:∀v∈cs,v.oneCell'=true) (h1v:∀v∈vs,v.oneCell'=true)
  (hv:∀j v,vs[j]? = some v→w.cell? ⟨vb,voff+j,none⟩=some v)
  (hs:(s=.slice none 0 0∧bo=none∧n=0)∨∃b cap rest ty,s=.slice (some ⟨b,0,none⟩) n cap∧bo=some b∧w.heap[b]? = some (.cells (cs++rest).toArray ty (0,0))∧(cs++rest).length=cap*2∧n≤cap∧vb≠b) :
  Calls Tryz.prog 131 #[s,.int .i64 i,.slice (some ⟨vb,voff,none⟩) 1 vc] w (z5n w bo 2 (n+1) (cs.take (i*2)++(vs++cs.drop (i*2)))):=by
 have hv0:=hv 0 _ (List.getElem?_eq_getElem (by omega))
 obtain⟨tA,kA,hsa,hkA⟩:=z67 hv0
 have endG:∀(base:Option Addr) (c:Nat),i=n→n≤c→c<n+1→(base=none→n=0)→(∀a,base=some a→∀j v,cs[j]? = some v→w.cell? (a.add j)=some v) →
   Calls Tryz.prog 131 #[.slice base n c,.int .i64 i,.slice (some ⟨vb,voff,none⟩) 1 vc] w (z5n w bo 2 (n+1) (cs.take (i*2)++(vs++cs.drop (i*2)))):=λbase c hin h1 h2 h3 h4=>by
  subst hin
  refine(z72 base i c vb voff 1 vc cs vs w (by omega) h1 h2 (by omega) hcl (by omega) h3 h4 hv h1v).mono ?_
  rintro e w' ⟨rfl,rfl⟩
  have hG:=grownCap_ge w (i+1) c 71
  generalize grownCap w (i+1) c 71=G at hG⊢
  have e1:cs.take (i*2)=cs:=List.take_of_length_le (by omega)
  have e2:cs.drop (i*2)=[]:=List.drop_eq_nil_of_le (by omega)
  rw[e1,e2,List.append_nil]
  refine⟨w.heap.size,G,(Builtin.zeroCells (.agg #[.int .i64 0,.int .i64 0]:Value).cells (G-(i+1))).toList,71,rfl,?_,?_,hG,.inr (Nat.le_refl _),rfl,rfl,rfl,?_,λj hj _=>?_⟩
  ·show(w.heap.push _)[w.heap.size]? = _
   simp
  ·rw[List.length_append,List.length_append,z41]
   simp only[Value.cells]
   simp
   omega
  ·show _≤(w.heap.push _).size
   simp
  ·show(w.heap.push _)[j]? = _
   rw[Array.getElem?_push,if_neg (by omega)]
 rcases hs with ⟨rfl,hbo,h0⟩|⟨b,cap,rest,ty,rfl,rfl,hb,hl,hcap,hne⟩
 ·subst h0
  have:=endG none 0 (by omega) (Nat.le_refl _) (by omega) (λ_=>rfl) (λa h=>by cases h)
  exact this
 ·have hcell:∀j v,cs[j]? = some v→w.cell? ⟨b,0+j,none⟩=some v:=λj v hj=>by
   rw[Nat.zero_add,z5b hb,List.getElem?_append_left (List.getElem?_eq_some_iff.1 hj).1];exact hj
  have hcs:∀j,j<cap*2→(w.cell? ⟨b,0+j,none⟩).isSome=true:=λj hj=>by
   rw[Nat.zero_add,z5b hb,List.getElem?_eq_getElem (by omega)];rfl
  have hfr:∀j,w.frozen? ⟨b,j,none⟩=false:=z53 hb
  have hsb:=z7u hb
  have hll:(cs++rest).length=cs.length+rest.length:=List.length_append
  by_cases hr:n+1≤cap
  ·by_cases hin:i=n
   ·subst hin
    have:=z7z b 0 i cap vb voff 1 vc vs w (by omega) hr (by omega) (by omega) (λj hj=>by rw[Nat.add_assoc];exact hcs _ (by omega)) (λj hj=>by exact hfr _) hv h1v
    refine this.mono ?_
    rintro e w' ⟨rfl,rfl⟩
    have e1:cs.take (i*2)=cs:=List.take_of_length_le (by omega)
    have e2:cs.drop (i*2)=[]:=List.drop_eq_nil_of_le (by omega)
    rw[e1,e2,List.append_nil]
    obtain⟨r1,r2⟩:=z4f vs (0+i*2) w _ hb (by omega)
    refine⟨b,cap,rest.drop 2,ty,rfl,?_,?_,hr,.inl rfl,r2.os,r2.tape,r2.output,Nat.le_of_eq r2.size.symm,λj hj hjb=>r2.block j λe=>hjb (by rw[e])⟩
    ·rw[r1]
     congr 3
     rw[List.take_left' (by omega),List.drop_append,List.drop_eq_nil_of_le (by omega),List.nil_append]
     congr 2
     omega
    ·rw[List.length_append,List.length_append,List.length_drop]
     omega
   ·have:=z9l b 0 n cap i vb voff 1 vc cs vs w (by omega) (by omega) hr (by omega) hne hcl (by omega) hcell (λj hj=>hcs j (by have:(n+1)*2≤cap*2:=Nat.mul_le_mul_right _ hr;omega)) (λj hj=>hfr _) hv h1c h1v tA ty kA _ hsa hsb hkA (by omega) hfr
    refine this.mono ?_
    rintro e w' ⟨rfl,rfl⟩
    have hR:2≤rest.length:=by have:(n+1)*2≤cap*2:=Nat.mul_le_mul_right _ hr;omega
    have hA:(cs.take (i*2)).length=i*2:=by rw[List.length_take];omega
    have hAB:cs.take (i*2)++cs.drop (i*2)=cs:=List.take_append_drop _ _
    obtain⟨A,hAe⟩:∃A,A=cs.take (i*2):=⟨_,rfl⟩
    obtain⟨B,hBe⟩:∃B,B=cs.drop (i*2):=⟨_,rfl⟩
    have hBe':cs.drop (i*2)=B:=by subst hBe;first|rfl|(congr 1;omega)
    (try rw[hBe'])
    rw[←hAe,←hBe]at hAB
    (try rw[←hAe])
    (try rw[←hBe])
    rw[←hAe]at hA
    rw[←hAB]at hb hl hll
    have hBl:B.length=(n-i)*2:=by rw[hBe,List.length_drop];omega
    obtain⟨r1,r2⟩:=z4f B (0+(i+1)*2) w.drew _ hb (by omega)
    obtain⟨r3,r4⟩:=z4f vs (0+i*2) _ _ r1 (by simp only[List.length_append,List.length_take,List.length_drop];omega)
    have r5:=r2.trans r4
    refine⟨b,cap,rest.drop 2,ty,rfl,?_,?_,hr,.inl rfl,r5.os,r5.tape,r5.output,Nat.le_of_eq r5.size.symm,λj hj hjb=>r5.block j λe=>hjb (by rw[e])⟩
    ·rw[r3]
     congr 3
     have:=z8o (A:=A) (B:=B) (R:=rest) (V:=vs) (K:=2) hvl hR rfl
     rw[←this,hA,show 0+i*2=i*2 by omega,show 0+(i+1)*2=i*2+2 by omega,show i*2+vs.length=i*2+2 by omega]
    ·rw[List.length_append,List.length_append,List.length_append,List.length_drop]
     simp only[List.length_append]at hl hll
     omega
  ·by_cases hin:i=n
   ·exact endG (some ⟨b,0,none⟩) cap hin hcap (by omega) (λh=>by cases h) (λa ha j v hj=>by cases ha;rw[Addr.add_lit];exact hcell j v hj)
   ·refine(yaj b 0 n cap i vb voff 1 vc cs vs w (by omega) (by omega) hcap (by omega) (by omega) hcl (by omega) hcell hv h1c h1v).mono ?_
    rintro e w' ⟨rfl,rfl⟩
    have hG:=grownCap_ge w (n+1) cap 71
    generalize grownCap w (n+1) cap 71=G at hG⊢
    have hA:(cs.take (i*2)).length=i*2:=by rw[List.length_take];omega
    have hAB:cs.take (i*2)++cs.drop (i*2)=cs:=List.take_append_drop _ _
    have hBl:(cs.drop (i*2)).length=(n-i)*2:=by rw[List.length_drop];omega
    obtain⟨A,hAe⟩:∃A,A=cs.take (i*2):=⟨_,rfl⟩
    obtain⟨B,hBe⟩:∃B,B=cs.drop (i*2):=⟨_,rfl⟩
    have hAe':cs.take (i*2)=A:=by subst hAe;first|rfl|(congr 1;omega)
    have hBe':cs.drop (i*2)=B:=by subst hBe;first|rfl|(congr 1;omega)
    (try rw[hAe'])
    (try rw[hBe'])
    rw[←hAe]at hA
    rw[←hBe]at hBl
    (try rw[←hAe])
    (try rw[←hBe])
    obtain⟨Z,hZ⟩:∃Z,Z=(Builtin.zeroCells (.agg #[.int .i64 0,.int .i64 0]:Value).cells (n+1-i)).toList++(Builtin.zeroCells (.agg #[.int .i64 0,.int .i64 0]:Value).cells (G-(n+1))).toList:=⟨_,rfl⟩
    have hrow:A.toArray++Builtin.zeroCells (.agg #[.int .i64 0,.int .i64 0]:Value).cells (n+1-i)++Builtin.zeroCells (.agg #[.int .i64 0,.int .i64 0]:Value).cells (G-(n+1))=(A++Z).toArray:=by
     rw[hZ]
     apply Array.ext'
     simp
    have hZl:Z.length=(n+1-i)*2+(G-(n+1))*2:=by
     rw[hZ,List.length_append,z41,z41];rfl
    rw[hrow]
    have hb0:((w.alloc (.cells (A++Z).toArray 71)).drew).heap[w.heap.size]? = some (.cells (A++Z).toArray 71 (0,0)):=by
     show(w.heap.push _)[w.heap.size]? = _
     simp
    obtain⟨r1,r2⟩:=z4f vs (i*2) _ _ hb0 (by rw[List.length_append];omega)
    obtain⟨r3,r4⟩:=z4f (w:=((w.alloc (.cells (A++Z).toArray 71)).drew.setCells w.heap.size (i*2) vs).drew) B ((i+1)*2) _ r1 (by simp only[List.length_append,List.length_take,List.length_drop];omega)
    have r5:=r2.trans (w:=_) ⟨r4.os,r4.tape,r4.output,r4.size,r4.block⟩
    refine⟨w.heap.size,G,Z.drop (2+B.length),71,rfl,?_,?_,hG,.inr (Nat.le_refl _),r5.os,r5.tape,r5.output,?_,λj hj hjb=>?_⟩
    ·rw[r3]
     congr 3
     refine Eq.trans ?_ (z7n (A:=A) (B:=B) (Z:=Z) (V:=vs) (K:=2) hvl (by omega) rfl)
     rw[show((i+1)*2)=A.length+2 by omega,show(i*2)+vs.length=A.length+2 by omega,show(i*2)=A.length by omega]
    ·rw[List.length_append,List.length_append,List.length_append,List.length_drop]
     omega
    ·refine Nat.le_trans ?_ (Nat.le_of_eq r5.size.symm)
     show _≤(w.heap.push _).size
     simp
    ·refine(r5.block j (by omega)).trans ?_
     show(w.heap.push _)[j]? = _
     rw[Array.getElem?_push,if_neg (by omega)]
theorem yap (xs:List Pr) (i:Nat) (v:Pr) (hi:i≤xs.length) (hl:xs.length≤1000000):Go.VL.zr Tryz.prog 131 1 [.slc 0,.c (.int .i64 i),.c (C.prs [v])] [(0,.arr (C.prs xs))] 1 (.slc 0) [(0,.arr (C.prs (xs.take i++v::xs.drop i)))]:=by
 refine⟨⟨_,Tryz.func131,by kernel_rfl,by kernel_rfl⟩,λW I g argv hI hh hla ha=>?_⟩
 obtain⟨a,b,c,rfl⟩:∃a b c,argv=[a,b,c]:=by
  match argv,hla with
  |[a,b,c],_=>exact⟨a,b,c,rfl⟩
 have e0:=RV.slc_inv (ha 0 _ _ rfl rfl)
 have e1:=RV.int_inv (ha 1 _ _ rfl rfl)
 have e2:=ha 2 _ _ rfl rfl
 subst e1
 have hro:=ro2.1 (hh.obj 0 _ (List.mem_singleton.2 rfl)).2
 have hvals:∃vb voff vc,c=.slice (some ⟨vb,voff,none⟩) 1 vc∧I vb∧∀j u,(fl2 [v])[j]? = some u→W.cell? ⟨vb,voff+j,none⟩=some u:=by
  cases e2 with
  |c _ _ hrc =>
   cases hrc with
   |empty _ _ _ hs h0=>exact absurd h0 Nat.one_ne_zero
   |sl _ vb voff cap val hs hIb hcap hc hr =>
    refine⟨vb,voff,cap,rfl,hIb,λj u hj=>?_⟩
    match j with
    |0 =>
     cases hj
     have q:=hc 0 0 _ Nat.zero_lt_one rfl
     have r:=z5z (hr 0 0 _ Nat.zero_lt_one rfl)
     rw[r]at q
     exact q
    |1 =>
     cases hj
     have q:=hc 0 1 _ Nat.zero_lt_one rfl
     have r:=z5z (hr 0 1 _ Nat.zero_lt_one rfl)
     rw[r]at q
     exact q
    |j+2=>cases hj
 obtain⟨vb,voff,vc,rfl,hIv,hvc⟩:=hvals
 have hlen:(fl2 xs).length=xs.length*2:=z5m xs
 have hz:fl2 (xs.take i++v::xs.drop i)=(fl2 xs).take (i*2)++(fl2 [v]++(fl2 xs).drop (i*2)):=by
  rw[z6x,z6u,←z6k,←z6k];rfl
 have hzl:(C.prs (xs.take i++v::xs.drop i)).len=xs.length+1:=by
  show(xs.take i++v::xs.drop i).length=_
  simp only[List.length_append,List.length_cons,List.length_take,List.length_drop]
  omega
 have key:=ybe W xs.length i (fl2 xs) (fl2 [v]) vb voff vc a ((g 0).map (·.1)) hi hl hlen rfl (z6l xs) (z6l [v]) hvc ?_
 ·refine key.mono λe w' hL=>?_
  refine z5t (k:=2) (cz:=fl2 (xs.take i++v::xs.drop i)) (bo:=(g 0).map (·.1)) hI hh (λb hb=>?_) (λh=>ro2.2 h) ?_
  ·cases hg:g 0 with
   |none=>rw[hg]at hb;cases hb
   |some q=>rw[hg]at hb;cases hb;exact⟨q.2,rfl⟩
  ·rw[hz,hzl];exact hL
 ·rcases hro with ⟨hg,h0⟩|⟨b,cap,rest,ty,hg,hb,hlc,hcap⟩
  ·left
   rcases e0.2 with ⟨b,cap,len,hg',_⟩|⟨_,ha'⟩
   ·rw[hg]at hg';cases hg'
   ·exact⟨ha',by rw[hg];rfl,h0⟩
  ·right
   rcases e0.2 with ⟨b',cap',len',hg',ha'⟩|⟨hg',_⟩
   ·rw[hg]at hg'
    cases hg'
    refine⟨b,cap,rest,ty,ha',by rw[hg];rfl,hb,hlc,hcap,λe=>?_⟩
    exact(hh.apart 0 _ b (List.mem_singleton.2 rfl) (.inl ⟨_,hg⟩)).1 (e▸hIv)
   ·rw[hg]at hg';cases hg'
end Go.Proofs
