/- V-logic: TrXm TrXn TrXna TrXnb -/
import Derived.Test.YtdbhfajlffaneaaVW6
import Derived.Test.YtdbhfajlffaneaaVT5
import Derived.Test.YtdbhfajlffaneaaVPE
namespace Go.VL
open Go.Proofs
set_option maxRecDepth 10000
set_option linter.unusedSimpArgs false
set_option linter.unusedVariables false
theorem vkp {n0:Nat} {s:S} {K:S→Prop} {l:List Gh} {ks:List Nat} (h:vgh n0 l {s with env:=keepE ks s.env} K):vgh n0 (.kp ks::l) s K:=by
 show S.force {s with env:=keepE ks s.env} fun s=>vgh n0 l s K
 rw[S.force_eq]
 exact h
theorem yd3 {n0:Nat} {s:S} {K:S→Prop} {l:List Gh} {id:Nat} {p:Bool} {f:Nat} {x x':C} {i:Nat} {us:List V} (hl:zq s.hp id=some (.deep p f x [(i,us)])) (h1:zfw (zq s.hp) us=true)
  (hN:x.isNest=true) (h2:C.setEl x i (zbf (zq s.hp) us)=some x') (h3:zav (id::zad us)=true)
  (h:vgh n0 l {zeq (zad us) {s with hp:=zac s.hp id (.deep p f x' [])} with hp:=zi5 (zad us) (zeq (zad us) {s with hp:=zac s.hp id (.deep p f x' [])}).hp} K):vgh n0 (.cl id::l) s K:=by
 unfold vgh ydt
 simp only[hl,h1,hN,h2,h3]
 unfold zfp
 rw[S.force_eq]
 exact h
theorem ydr {n0:Nat} {s:S} {K:S→Prop} {l:List Gh} {id:Nat} {p:Bool} {f:Nat} {x x':C} {i j:Nat} {us vs:List V} (hl:zq s.hp id=some (.deep p f x [(i,us),(j,vs)])) (h1:zfw (zq s.hp) us=true)
  (hN:x.isNest=true) (h2:C.setEl x i (zbf (zq s.hp) us)=some x') (h3:zav (id::zad us)=true) (hne:i≠j)
  (h:vgh n0 l {zeq (zad us) {s with hp:=zac s.hp id (.deep p f x' [(j,vs)])} with hp:=zi5 (zad us) (zeq (zad us) {s with hp:=zac s.hp id (.deep p f x' [(j,vs)])}).hp} K):vgh n0 (.cl id::l) s K:=by
 unfold vgh ydt
 simp only[hl,h1,hN,h2,h3]
 unfold zfp
 refine zj hne ?_
 unfold zfp
 rw[S.force_eq]
 exact h
theorem yd2 {n0:Nat} {s:S} {K:S→Prop} {l:List Gh} {id:Nat} {p:Bool} {f:Nat} {x:C} {i:Nat} (hl:zq s.hp id=some (.deep p f x [])) (h1:f≤i∧i<x.len)
  (h:vgh n0 l {s with nx:=s.nx+x.stride,hp:=zc6 s.nx (x.row i)++zac s.hp id (.deep p f x [(i,zb5 s.nx (x.row i))])} K):vgh n0 (.op id i::l) s K:=by
 unfold vgh ydt
 simp only[hl]
 refine za h1 ?_
 unfold zfp
 rw[S.force_eq]
 exact h
theorem yds {n0:Nat} {s:S} {K:S→Prop} {l:List Gh} {id:Nat} {p:Bool} {f:Nat} {x:C} {i j:Nat} {vs:List V} (hl:zq s.hp id=some (.deep p f x [(j,vs)])) (h1:f≤i∧i<x.len) (hne:i≠j)
  (h:vgh n0 l {s with nx:=s.nx+x.stride,hp:=zc6 s.nx (x.row i)++zac s.hp id (.deep p f x [(j,vs),(i,zb5 s.nx (x.row i))])} K):vgh n0 (.op id i::l) s K:=by
 unfold vgh ydt
 simp only[hl]
 refine za h1 ?_
 unfold zfp
 refine zj hne ?_
 unfold zfp
 rw[S.force_eq]
 exact h
theorem ydv {p:Bool} {f:Nat} {x:C} {ti:TI} {i j k m:Nat} {v:V} {us vs:List V} {K:O→Prop} (hk:i≠k) (hm:i=m) (c1:zhr v.cells=true) (c2:Nat.beq v.cells.length ti.size=true) (c3:zhg x v.cells=true) (c4:Nat.ble (j+ti.size) vs.length=true)
  (h:K (.deep p f x [(k,us),(m,zbj vs j v.cells)])):zgc p f x [(k,us),(m,vs)] ti i j v K:=by
 unfold zgc zfp
 refine zj hk ?_
 unfold zfp
 refine zl hm ?_
 simp only[c1,c2,c3,c4]
 exact h
abbrev mdH (qs:List Pg) (gone:List Bool) (j:Int):List (Nat×O):=[(0,.box [.slc 1] gone [.c (.int .i64 j)]),(1,.deep true 0 (.pgs qs) [])]
abbrev mdU (qs:List Pg) (u:Nat) (gone:List Bool) (j:Int) (p:Pg):List (Nat×O):=[(0,.box [.slc 1] gone [.c (.int .i64 j)]),(1,.deep true 0 (.pgs qs) [(u,[.slc 2,.slc 3,.slc 4])]),(2,.arr (.nums .i64 p.keys)),(3,.arr (.nums .i64 p.kids)),(4,.arr (.nums .i64 p.vals))]
theorem ydy (l:List Pg) (w:Nat):l.set w ⟨(l.getD w ⟨[],[],[]⟩).keys,(l.getD w ⟨[],[],[]⟩).kids,(l.getD w ⟨[],[],[]⟩).vals⟩=l:=by
 by_cases c:w<l.length
 ·rw[List.getD_eq_getElem?_getD,List.getElem?_eq_getElem c]
  exact List.set_getElem_self c
 ·exact List.set_eq_of_length_le (by omega)
theorem ydw {l:List Pg} {a b:Nat} (L:Pg) (h:b≠a):(l.set a L).getD b ⟨[],[],[]⟩=l.getD b ⟨[],[],[]⟩:=by
 rw[List.getD_eq_getElem?_getD,List.getD_eq_getElem?_getD,List.getElem?_set_ne (fun q=>h q.symm)]
theorem ydu {l:List Pg} {a b:Nat} (L:Pg) (h:b≠a):(l.set a L).set b ⟨(l.getD b ⟨[],[],[]⟩).keys,(l.getD b ⟨[],[],[]⟩).kids,(l.getD b ⟨[],[],[]⟩).vals⟩=l.set a L:=by
 rw[←ydw L h];exact ydy _ _
set_option maxHeartbeats 4000000 in
theorem ydx (qs:List Pg) (gone:List Bool) (j:Int) (a b:Nat) (hp:pB qs) (a1:a<qs.length) (b1:b<qs.length) (hne:b≠a) (ka:(qs.getD a ⟨[],[],[]⟩).keys.length≤100) (kb:(qs.getD b ⟨[],[],[]⟩).keys.length≤100)
  (va:(qs.getD a ⟨[],[],[]⟩).vals.length=(qs.getD a ⟨[],[],[]⟩).keys.length) (vb:(qs.getD b ⟨[],[],[]⟩).vals.length=(qs.getD b ⟨[],[],[]⟩).keys.length) (row:List Pr) (hrow:zab (qs.getD a ⟨[],[],[]⟩)++zab (qs.getD b ⟨[],[],[]⟩)=row) (h4:row.length≤4) :
  zr Try.prog 74 2 [.ptr 0 0 0 0,.c (.int .i64 a),.c (.int .i64 b)] (mdH qs gone j) 2 (.tup [.tt,.c (.int .i64 0)]) (mdH (qs.set a (zae row)) gone j):=by
 have hpa:=zmb (qs.getD a ⟨[],[],[]⟩) va (by omega)
 have hpb:=zmb (qs.getD b ⟨[],[],[]⟩) vb (by omega)
 have la:=zby _ va
 have lb:=zby _ vb
 have hcc:=ydg (zab (qs.getD a ⟨[],[],[]⟩)) (zab (qs.getD b ⟨[],[],[]⟩)) (by omega)
 rw[hrow]at hcc
 have hll:row.length≤200:=by rw[←hrow,List.length_append];omega
 generalize zab (qs.getD a ⟨[],[],[]⟩)=ra at *
 generalize zab (qs.getD b ⟨[],[],[]⟩)=rb at *
 have hlo:=ydk row (by omega)
 refine spi (fn:=Try.f74) _ ?_
 conv=>whnf
 refine ze9 [.kp [0,1,2],.op 1 a] ?_
 conv=>whnf
 refine za ⟨by omega,a1⟩ ?_
 conv=>whnf
 conv=>arg 2;dsimp only[Nat.reduceAdd,C.stride]
 refine ze9 [.op 1 b] (yds rfl ⟨Nat.zero_le _,b1⟩ hne ?_)
 conv=>whnf
 repeat' first
  |(refine za (by kernel_rfl) ?_;conv=>whnf)
  |(refine za (by(try simp only[wA,wN,wL])<;>omega) ?_;conv=>whnf)
  |(refine yc9 (hpa) rfl rfl rfl ?_;conv=>whnf)
  |(refine yc9 (hpb) rfl rfl rfl ?_;conv=>whnf)
  |(refine zw ((zdn hcc rfl)) rfl rfl ?_;conv=>whnf)
  |(refine zj (by omega) ?_;conv=>whnf)
  |(refine zl (by first|rfl|omega) ?_;conv=>whnf)
 conv=>arg 2;dsimp only[Nat.reduceAdd,C.stride]
 refine ze9 [.kp [0,1,2,6,7,8]] ?_
 conv=>whnf
 repeat' first
  |(refine za (by kernel_rfl) ?_;conv=>whnf)
  |(refine zn ?_ ?_;(focus ((try simp only[qA])<;>(try simp only[wA])<;>omega));conv=>whnf)
  |(refine za (by(try simp only[wA,wL])<;>omega) ?_;conv=>whnf)
  |((refine ze9 [.cl 1,.cl 1] (ydr rfl rfl rfl rfl rfl (fun q=>hne q.symm) ?_);(conv=>whnf);refine z45 ?_);conv=>whnf)
  |(refine zlg [.arr (.nums .i64 (row.map Pr.key)),.arr (.nums .i64 (row.map Pr.value))] (hlo) rfl rfl rfl rfl rfl rfl rfl ?_;conv=>whnf)
  |(refine zl (by first|rfl|omega) ?_;conv=>whnf)
  |(refine ze ?_;conv=>whnf)
 refine zbg [] [0,1] ⟨rfl,⟨rfl,congrArg (fun z=>some (O.deep true 0 (C.pgs z) [])) ?_,trivial⟩,rfl,rfl,rfl,rfl,rfl,rfl⟩
 exact ydu _ hne
set_option maxHeartbeats 4000000 in
theorem yd0 (qs:List Pg) (gone:List Bool) (j:Int) (a b:Nat) (hp:pB qs) (a1:a<qs.length) (b1:b<qs.length) (hne:b≠a) (ka:(qs.getD a ⟨[],[],[]⟩).keys.length≤100) (kb:(qs.getD b ⟨[],[],[]⟩).keys.length≤100)
  (va:(qs.getD a ⟨[],[],[]⟩).vals.length=(qs.getD a ⟨[],[],[]⟩).keys.length) (vb:(qs.getD b ⟨[],[],[]⟩).vals.length=(qs.getD b ⟨[],[],[]⟩).keys.length) (row:List Pr) (hrow:zab (qs.getD a ⟨[],[],[]⟩)++zab (qs.getD b ⟨[],[],[]⟩)=row) (h4:¬row.length≤4) (hv:zdb row=true) :
  zr Try.prog 74 2 [.ptr 0 0 0 0,.c (.int .i64 a),.c (.int .i64 b)] (mdH qs gone j) 2 (.tup [.ff,.c (.int .i64 (row.getD ((row.length+1) / 2) ⟨0,0⟩).key)]) (mdH ((qs.set a (zae (row.take ((row.length+1) / 2)))).set b (zae (row.drop ((row.length+1) / 2)))) gone j):=by
 have hpa:=zmb (qs.getD a ⟨[],[],[]⟩) va (by omega)
 have hpb:=zmb (qs.getD b ⟨[],[],[]⟩) vb (by omega)
 have la:=zby _ va
 have lb:=zby _ vb
 have hcc:=ydg (zab (qs.getD a ⟨[],[],[]⟩)) (zab (qs.getD b ⟨[],[],[]⟩)) (by omega)
 rw[hrow]at hcc
 have hll:row.length≤200:=by rw[←hrow,List.length_append];omega
 generalize zab (qs.getD a ⟨[],[],[]⟩)=ra at *
 generalize zab (qs.getD b ⟨[],[],[]⟩)=rb at *
 have hsr:=z81 row (by omega) hv
 have hla:=ydk (row.take ((row.length+1) / 2)) (by rw[List.length_take];omega)
 have hlb:=ydk (row.drop ((row.length+1) / 2)) (by rw[List.length_drop];omega)
 have hbl:0<(row.drop ((row.length+1) / 2)).length:=by rw[List.length_drop];omega
 rw[←zw5]
 generalize row.take ((row.length+1) / 2)=A at *
 generalize row.drop ((row.length+1) / 2)=B at *
 refine spi (fn:=Try.f74) _ ?_
 conv=>whnf
 refine ze9 [.kp [0,1,2],.op 1 a] ?_
 conv=>whnf
 refine za ⟨by omega,a1⟩ ?_
 conv=>whnf
 conv=>arg 2;dsimp only[Nat.reduceAdd,C.stride]
 refine ze9 [.op 1 b] (yds rfl ⟨Nat.zero_le _,b1⟩ hne ?_)
 conv=>whnf
 repeat' first
  |(refine za (by kernel_rfl) ?_;conv=>whnf)
  |(refine za (by(try simp only[wA,wN,wL])<;>omega) ?_;conv=>whnf)
  |(refine yc9 (hpa) rfl rfl rfl ?_;conv=>whnf)
  |(refine yc9 (hpb) rfl rfl rfl ?_;conv=>whnf)
  |(refine zw ((zdn hcc rfl)) rfl rfl ?_;conv=>whnf)
  |(refine zj (by omega) ?_;conv=>whnf)
  |(refine zl (by first|rfl|omega) ?_;conv=>whnf)
 conv=>arg 2;dsimp only[Nat.reduceAdd,C.stride]
 refine ze9 [.kp [0,1,2,6,7,8]] ?_
 conv=>whnf
 repeat' first
  |(refine za (by kernel_rfl) ?_;conv=>whnf)
  |(refine zm ?_ ?_;(focus ((try simp only[qA])<;>(try simp only[wA])<;>omega));conv=>whnf)
  |(refine za (by(try simp only[wA,wL])<;>omega) ?_;conv=>whnf)
  |((refine ze9 [.cl 1,.cl 1] (ydr rfl rfl rfl rfl rfl (fun q=>hne q.symm) ?_);(conv=>whnf);refine z45 ?_);conv=>whnf)
  |(refine zp (hsr) rfl rfl ?_;conv=>whnf)
  |(refine zlg [.arr (.nums .i64 (A.map Pr.key)),.arr (.nums .i64 (A.map Pr.value))] (hla) rfl rfl rfl rfl rfl rfl rfl ?_;conv=>whnf)
  |(refine zlg [.arr (.nums .i64 (B.map Pr.key)),.arr (.nums .i64 (B.map Pr.value))] (hlb) rfl rfl rfl rfl rfl rfl rfl ?_;conv=>whnf)
  |(refine zj (by omega) ?_;conv=>whnf)
  |(refine zl (by first|rfl|omega) ?_;conv=>whnf)
  |(refine ze ?_;conv=>whnf)
 exact(zu [] [0,1])
set_option maxHeartbeats 4000000 in
theorem yd1 (gone:List Bool) (j:Int) (a b:Nat) (k:Int) (qs:List Pg) (u:Nat) (u1:u<qs.length) (hua:u≠a) (hub:u≠b)  (a1:a<qs.length) (b1:b<qs.length) (hne:b≠a) (ka:(qs.getD a ⟨[],[],[]⟩).keys.length≤100) (kb:(qs.getD b ⟨[],[],[]⟩).keys.length≤100)
  (la:(qs.getD a ⟨[],[],[]⟩).kids.length=(qs.getD a ⟨[],[],[]⟩).keys.length+1) (lb:(qs.getD b ⟨[],[],[]⟩).kids.length=(qs.getD b ⟨[],[],[]⟩).keys.length+1) (K D:List Int) (hK:(qs.getD a ⟨[],[],[]⟩).keys++k::(qs.getD b ⟨[],[],[]⟩).keys=K) (hC:(qs.getD a ⟨[],[],[]⟩).kids++(qs.getD b ⟨[],[],[]⟩).kids=D) (h4:K.length≤4) :
  zr Try.prog 75 5 [.ptr 0 0 0 0,.c (.int .i64 a),.c (.int .i64 k),.c (.int .i64 b)] (mdU qs u gone j (qs.getD u ⟨[],[],[]⟩)) 5 (.tup [.tt,.c (.int .i64 0)]) (mdU (qs.set a ⟨K,D,[]⟩) u gone j ((qs.set a ⟨K,D,[]⟩).getD u ⟨[],[],[]⟩)):=by
 have hbo:=ydl (qs.getD a ⟨[],[],[]⟩) (qs.getD b ⟨[],[],[]⟩) k (by omega) (by omega)
 rw[hK,hC]at hbo
 have hKl:K.length≤300∧1≤K.length:=by rw[←hK,List.length_append,List.length_cons];omega
 have hCl:D.length=K.length+1:=by rw[←hK,←hC,List.length_append,List.length_append,List.length_cons];omega
 clear hK hC
 refine spi (fn:=Try.f75) _ ?_
 conv=>whnf
 refine ze9 [.kp [0,1,2,3],.cl 1] ?_
 conv=>whnf
 conv=>arg 2;simp only[ydy,Nat.reduceAdd,C.stride]
 refine ze9 [.op 1 a,.op 1 b] (yd2 rfl ⟨Nat.zero_le _,a1⟩ (yds rfl ⟨Nat.zero_le _,b1⟩ hne ?_))
 conv=>whnf
 repeat' first
  |(refine za (by kernel_rfl) ?_;conv=>whnf)
  |(refine za (by(try simp only[wA,wN,wL])<;>omega) ?_;conv=>whnf)
  |(refine ydq (ycu _ _ _) ?_;conv=>whnf)
  |(refine zlg [.arr (.nums .i64 K),.arr (.nums .i64 D)] (hbo) rfl rfl rfl rfl rfl rfl rfl ?_;conv=>whnf)
  |(refine zj (by omega) ?_;conv=>whnf)
  |(refine zl (by first|rfl|omega) ?_;conv=>whnf)
 conv=>arg 2;dsimp only[Nat.reduceAdd,C.stride]
 refine ze9 [.kp [0,1,2,3,8,9,10]] ?_
 conv=>whnf
 repeat' (refine zn ?_ ?_;(focus ((try simp only[qA])<;>(try simp only[wA])<;>omega));conv=>whnf)
 refine ze ?_
 conv=>whnf
 repeat' first
  |(refine za (by kernel_rfl) ?_;conv=>whnf)
  |(refine za (by(try simp only[wA,wL])<;>omega) ?_;conv=>whnf)
  |(refine ydq (ycp _ _) ?_;conv=>whnf)
  |(refine zl (by first|rfl|omega) ?_;conv=>whnf)
 conv=>arg 2;dsimp only[Nat.reduceAdd,C.stride]
 refine ze9 [.cl 1,.cl 1,.op 1 u] (ydr rfl rfl rfl rfl rfl (fun q=>hne q.symm) (yd3 rfl rfl rfl rfl rfl (yd2 (x:=.pgs (qs.set a ⟨K,D,[]⟩)) (congrArg (fun z=>some (O.deep true 0 (C.pgs z) [])) (ydu _ hne)) ⟨Nat.zero_le _,by show u<(qs.set a _).length;rw[List.length_set];exact u1⟩ ?_)))
 conv=>whnf
 repeat' (refine ze ?_;conv=>whnf)
 exact(zu [] [0,1,211,212,213])
set_option maxHeartbeats 4000000 in
theorem ydz (gone:List Bool) (j:Int) (a b:Nat) (k:Int) (qs:List Pg) (u:Nat) (u1:u<qs.length) (hua:u≠a) (hub:u≠b)  (a1:a<qs.length) (b1:b<qs.length) (hne:b≠a) (ka:(qs.getD a ⟨[],[],[]⟩).keys.length≤100) (kb:(qs.getD b ⟨[],[],[]⟩).keys.length≤100)
  (la:(qs.getD a ⟨[],[],[]⟩).kids.length=(qs.getD a ⟨[],[],[]⟩).keys.length+1) (lb:(qs.getD b ⟨[],[],[]⟩).kids.length=(qs.getD b ⟨[],[],[]⟩).keys.length+1) (K D:List Int) (hK:(qs.getD a ⟨[],[],[]⟩).keys++k::(qs.getD b ⟨[],[],[]⟩).keys=K) (hC:(qs.getD a ⟨[],[],[]⟩).kids++(qs.getD b ⟨[],[],[]⟩).kids=D) (h4:¬K.length≤4) :
  zr Try.prog 75 5 [.ptr 0 0 0 0,.c (.int .i64 a),.c (.int .i64 k),.c (.int .i64 b)] (mdU qs u gone j (qs.getD u ⟨[],[],[]⟩)) 5 (.tup [.ff,.c (.int .i64 (K.getD (K.length / 2) 0))]) (mdU ((qs.set a ⟨K.take (K.length / 2),D.take (K.length / 2+1),[]⟩).set b ⟨K.drop (K.length / 2+1),D.drop (K.length / 2+1),[]⟩) u gone j (((qs.set a ⟨K.take (K.length / 2),D.take (K.length / 2+1),[]⟩).set b ⟨K.drop (K.length / 2+1),D.drop (K.length / 2+1),[]⟩).getD u ⟨[],[],[]⟩)):=by
 have hbo:=ydl (qs.getD a ⟨[],[],[]⟩) (qs.getD b ⟨[],[],[]⟩) k (by omega) (by omega)
 rw[hK,hC]at hbo
 have hKl:K.length≤300∧1≤K.length:=by rw[←hK,List.length_append,List.length_cons];omega
 have hCl:D.length=K.length+1:=by rw[←hK,←hC,List.length_append,List.length_append,List.length_cons];omega
 clear hK hC
 have hhv:=ycz ⟨K,D,[]⟩ hCl hKl.2 (by dsimp only;omega)
 dsimp only at hhv
 refine spi (fn:=Try.f75) _ ?_
 conv=>whnf
 refine ze9 [.kp [0,1,2,3],.cl 1] ?_
 conv=>whnf
 conv=>arg 2;simp only[ydy,Nat.reduceAdd,C.stride]
 refine ze9 [.op 1 a,.op 1 b] (yd2 rfl ⟨Nat.zero_le _,a1⟩ (yds rfl ⟨Nat.zero_le _,b1⟩ hne ?_))
 conv=>whnf
 repeat' first
  |(refine za (by kernel_rfl) ?_;conv=>whnf)
  |(refine za (by(try simp only[wA,wN,wL])<;>omega) ?_;conv=>whnf)
  |(refine ydq (ycu _ _ _) ?_;conv=>whnf)
  |(refine zlg [.arr (.nums .i64 K),.arr (.nums .i64 D)] (hbo) rfl rfl rfl rfl rfl rfl rfl ?_;conv=>whnf)
  |(refine zj (by omega) ?_;conv=>whnf)
  |(refine zl (by first|rfl|omega) ?_;conv=>whnf)
 conv=>arg 2;dsimp only[Nat.reduceAdd,C.stride]
 refine ze9 [.kp [0,1,2,3,8,9,10]] ?_
 conv=>whnf
 repeat' (refine zm ?_ ?_;(focus ((try simp only[qA])<;>(try simp only[wA])<;>omega));conv=>whnf)
 refine ze ?_
 conv=>whnf
 repeat' (refine zbe (hhv) rfl rfl rfl rfl ?_;conv=>whnf)
 conv=>arg 2;dsimp only[Nat.reduceAdd,C.stride]
 refine ze9 [.kp [0,1,2,3,8,9,11,12,13]] ?_
 conv=>whnf
 repeat' first
  |(refine za (by kernel_rfl) ?_;conv=>whnf)
  |(refine za (by(try simp only[wA,wL])<;>omega) ?_;conv=>whnf)
  |(refine ydq (ycp _ _) ?_;conv=>whnf)
  |(refine zl (by first|rfl|omega) ?_;conv=>whnf)
 conv=>arg 2;dsimp only[Nat.reduceAdd,C.stride]
 refine ze ?_
 conv=>whnf
 skip
 refine ydq (ycp _ _) ?_
 conv=>whnf
 refine za (by(try simp only[wA,wN,wL])<;>omega) ?_
 conv=>whnf
 refine za (by(try simp only[wA,wN,wL])<;>omega) ?_
 refine ydv (by omega) (by omega) rfl rfl rfl rfl ?_
 conv=>whnf
 repeat' (refine za (by kernel_rfl) ?_;conv=>whnf)
 conv=>arg 2;dsimp only[Nat.reduceAdd,C.stride]
 refine ze9 [.cl 1,.cl 1,.op 1 u] (ydr rfl rfl rfl rfl rfl (fun q=>hne q.symm) (yd3 rfl rfl rfl rfl rfl (yd2 rfl ⟨Nat.zero_le _,by show u<((qs.set a _).set b _).length;rw[List.length_set,List.length_set];exact u1⟩ ?_)))
 conv=>whnf
 repeat' (refine ze ?_;conv=>whnf)
 exact(zu [] [0,1,317,318,319])
end Go.VL
namespace Go.VL
open Go.Proofs
set_option maxRecDepth 10000
set_option linter.unusedSimpArgs false
set_option linter.unusedVariables false
structure MeN (qs:List Pg) (u a b f:Nat) (c:Int):Prop where
 hp:pB qs
 u1:u<qs.length
 a1:a<qs.length
 b1:b<qs.length
 b16:b<16
 hua:u≠a
 hub:u≠b
 hne:b≠a
 ha:(qs.getD u ⟨[],[],[]⟩).kids.getD f 0=a
 hb:(qs.getD u ⟨[],[],[]⟩).kids.getD (f+1) 0=b
 hkl:f<(qs.getD u ⟨[],[],[]⟩).keys.length
 hcl:(qs.getD u ⟨[],[],[]⟩).kids.length=(qs.getD u ⟨[],[],[]⟩).keys.length+1
 hk9:(qs.getD u ⟨[],[],[]⟩).keys.length≤100
 hvs:(qs.getD u ⟨[],[],[]⟩).vals=[]
 cm:c∈(qs.getD u ⟨[],[],[]⟩).kids
 hz:plN (qs.getD u ⟨[],[],[]⟩).kids c=f+1∨plN (qs.getD u ⟨[],[],[]⟩).kids c=0∧f=0
 ka:(qs.getD a ⟨[],[],[]⟩).keys.length≤100
 kb:(qs.getD b ⟨[],[],[]⟩).keys.length≤100
set_option maxHeartbeats 4000000 in
theorem yf2 (qs:List Pg) (u a b f:Nat) (c:Int) (M:MeN qs u a b f c) (g g2:Nat→Bool) (hg2:(tab g).set b true=tab g2) (j:Int) (j0:0≤j) (j1:j≤1000) (lf:(qs.getD a ⟨[],[],[]⟩).kids.length=0)
  (va:(qs.getD a ⟨[],[],[]⟩).vals.length=(qs.getD a ⟨[],[],[]⟩).keys.length) (vb:(qs.getD b ⟨[],[],[]⟩).vals.length=(qs.getD b ⟨[],[],[]⟩).keys.length) (row:List Pr) (hrow:zab (qs.getD a ⟨[],[],[]⟩)++zab (qs.getD b ⟨[],[],[]⟩)=row) (h4:row.length≤4) :
  zr Try.prog 44 2 [.ptr 0 0 0 0,.c (.int .i64 u),.c (.int .i64 c)] (mdH qs (tab g) j) 2 (.tup []) (mdH ((qs.set a (zae row)).set u (zf9 (qs.getD u ⟨[],[],[]⟩) (f+1))) (tab g2) (j+1)):=by
 obtain⟨hp,u1,a1,b1,b16,hua,hub,hne,ha,hb,hkl,hcl,hk9,hvs,cm,hz,ka,kb⟩:=M
 have hmx:(if 1>(plN (qs.getD u ⟨[],[],[]⟩).kids c:Int)then(1:Int)else plN (qs.getD u ⟨[],[],[]⟩).kids c)=(f:Int)+1:=by
  rcases hz with h|⟨h,h2⟩<;>rw[h]<;>split<;>omega
 have e1:((f:Int)+1-1).toNat=f:=by omega
 have e2:((f:Int)+1).toNat=f+1:=by omega
 have hpo:=z76 (qs.getD u ⟨[],[],[]⟩) c (by omega) cm
 have hml:=ydx qs (tab g) j a b hp a1 b1 hne ka kb va vb row hrow h4
 have eu:=ydw (l:=qs) (zae row) hua
 rw[←eu]
 have hcut:=ydm ((qs.set a (zae row)).getD u ⟨[],[],[]⟩) (f+1) (by omega) (by rw[eu];omega) (by rw[eu];exact hcl) (by rw[eu];omega)
 refine spi (fn:=Try.f44) _ ?_
 conv=>whnf
 refine ze9 [.kp [0,1,2],.op 1 u] ?_
 conv=>whnf
 refine za ⟨Nat.zero_le _,u1⟩ ?_
 conv=>whnf
 repeat' first
  |(refine za (by(try simp only[wA,wL])<;>omega) ?_;conv=>whnf)
  |(refine zbo (hpo) rfl rfl rfl ?_;conv=>whnf)
  |(refine zl (by first|rfl|omega) ?_;conv=>whnf)
 conv=>arg 2;simp only[hmx,Nat.reduceAdd,C.stride]
 refine ze9 [.kp [0,1,2,6]] ?_
 conv=>whnf
 repeat' first
  |(refine za (by kernel_rfl) ?_;conv=>whnf)
  |(refine za (by(try simp only[wA,wL])<;>omega) ?_;conv=>whnf)
  |(refine zg (by(try simp only[wA,wL])<;>omega) (by(try simp only[wA,wL])<;>omega) ?_;conv=>whnf)
  |(refine zl (by first|rfl|omega) ?_;conv=>whnf)
 conv=>arg 2;simp only[e1,e2,ha,hb,Nat.reduceAdd,C.stride]
 refine ze9 [.kp [0,1,2,6,7,8],.cl 1] ?_
 conv=>whnf
 skip
 conv=>arg 2;simp only[ydy,Nat.reduceAdd,C.stride]
 refine ze ?_
 conv=>whnf
 skip
 conv=>arg 2;simp only[ydy,Nat.reduceAdd,C.stride]
 refine ze9 [.op 1 a] (yd2 rfl ⟨Nat.zero_le _,a1⟩ ?_)
 conv=>whnf
 repeat' first
  |(refine zn ?_ ?_;(focus ((try simp only[qA])<;>(try simp only[wA])<;>omega));conv=>whnf)
  |(refine za (by(try simp only[wA,wL])<;>omega) ?_;conv=>whnf)
  |(refine zl (by first|rfl|omega) ?_;conv=>whnf)
 conv=>arg 2;simp only[ydy,Nat.reduceAdd,C.stride]
 refine ze9 [.kp [0,1,2,6,7,8,9,10],.cl 1] ?_
 refine vkp ?_
 refine yd3 (x':=.pgs qs) rfl rfl rfl (congrArg (fun z=>some (C.pgs z)) (ydy qs a)) rfl ?_
 conv=>whnf
 repeat' (refine zal [] [0,1] (hml) ⟨rfl,rfl,rfl,(by repeat first|exact trivial|refine⟨rfl,?_⟩),⟨rfl,rfl,rfl,rfl,rfl,rfl⟩,?_⟩;conv=>whnf)
 conv=>arg 2;simp only[Nat.reduceAdd,C.stride]
 refine ze ?_
 conv=>whnf
 skip
 conv=>arg 2;simp only[Nat.reduceAdd,C.stride]
 refine ze9 [.kp [0,1,2,6,7,8,9,10],.op 1 u] ?_
 refine vkp ?_
 refine yd2 rfl ⟨Nat.zero_le _,by show u<(qs.set a _).length;rw[List.length_set];exact u1⟩ ?_
 conv=>whnf
 repeat' first
  |(refine za (by kernel_rfl) ?_;conv=>whnf)
  |(refine za (by(try simp only[wA,wL])<;>omega) ?_;conv=>whnf)
  |(refine ydq (ycu _ _ _) ?_;conv=>whnf)
  |(refine zlg [.arr (.nums .i64 (zf9 ((qs.set a (zae row)).getD u ⟨[],[],[]⟩) (f+1)).keys),.arr (.nums .i64 (zf9 ((qs.set a (zae row)).getD u ⟨[],[],[]⟩) (f+1)).kids)] (hcut) rfl rfl rfl rfl rfl rfl rfl ?_;conv=>whnf)
  |(refine ydq (ycp _ _) ?_;conv=>whnf)
  |(refine zl (by first|rfl|omega) ?_;conv=>whnf)
 conv=>arg 2;simp only[Nat.reduceAdd,C.stride]
 refine ze9 [.cl 1] ?_
 conv=>whnf
 repeat' (refine za (by(try simp only[wA,wL])<;>omega) ?_;conv=>whnf)
 conv=>arg 2;simp only[Int.toNat_natCast,hg2]
 refine ze ?_
 conv=>whnf
 repeat' first|(refine zg (by(try simp only[wA,wL])<;>omega) (by(try simp only[wA,wL])<;>omega) ?_;conv=>whnf)|(refine ze ?_;conv=>whnf)
 exact(zu [] [0,1])
set_option maxHeartbeats 4000000 in
theorem yf0 (qs:List Pg) (u a b f:Nat) (c:Int) (M:MeN qs u a b f c) (g g2:Nat→Bool) (hg2:(tab g).set b true=tab g2) (j:Int) (j0:0≤j) (j1:j≤1000) (lf:(qs.getD a ⟨[],[],[]⟩).kids.length=0)
  (va:(qs.getD a ⟨[],[],[]⟩).vals.length=(qs.getD a ⟨[],[],[]⟩).keys.length) (vb:(qs.getD b ⟨[],[],[]⟩).vals.length=(qs.getD b ⟨[],[],[]⟩).keys.length) (row:List Pr) (hrow:zab (qs.getD a ⟨[],[],[]⟩)++zab (qs.getD b ⟨[],[],[]⟩)=row) (h4:¬row.length≤4) (hv:zdb row=true) (q2:List Pg) (hq2:(qs.set a (zae (row.take ((row.length+1) / 2)))).set b (zae (row.drop ((row.length+1) / 2)))=q2) :
  zr Try.prog 44 2 [.ptr 0 0 0 0,.c (.int .i64 u),.c (.int .i64 c)] (mdH qs (tab g) j) 2 (.tup []) (mdH (q2.set u ⟨(qs.getD u ⟨[],[],[]⟩).keys.set f (row.getD ((row.length+1) / 2) ⟨0,0⟩).key,(qs.getD u ⟨[],[],[]⟩).kids,(qs.getD u ⟨[],[],[]⟩).vals⟩) (tab g) j):=by
 obtain⟨hp,u1,a1,b1,b16,hua,hub,hne,ha,hb,hkl,hcl,hk9,hvs,cm,hz,ka,kb⟩:=M
 have hmx:(if 1>(plN (qs.getD u ⟨[],[],[]⟩).kids c:Int)then(1:Int)else plN (qs.getD u ⟨[],[],[]⟩).kids c)=(f:Int)+1:=by
  rcases hz with h|⟨h,h2⟩<;>rw[h]<;>split<;>omega
 have e1:((f:Int)+1-1).toNat=f:=by omega
 have e2:((f:Int)+1).toNat=f+1:=by omega
 have hpo:=z76 (qs.getD u ⟨[],[],[]⟩) c (by omega) cm
 have hml:=yd0 qs (tab g) j a b hp a1 b1 hne ka kb va vb row hrow h4 hv
 have eu:q2.getD u ⟨[],[],[]⟩=qs.getD u ⟨[],[],[]⟩:=by rw[←hq2,ydw _ hub,ydw _ hua]
 have ul:u<q2.length:=by rw[←hq2,List.length_set,List.length_set];exact u1
 rw[←eu]
 rw[hq2]at hml
 have hkl2:f<(q2.getD u ⟨[],[],[]⟩).keys.length:=by rw[eu];exact hkl
 generalize (row.getD ((row.length+1) / 2) ⟨0,0⟩).key=kx at *
 refine spi (fn:=Try.f44) _ ?_
 conv=>whnf
 refine ze9 [.kp [0,1,2],.op 1 u] ?_
 conv=>whnf
 refine za ⟨Nat.zero_le _,u1⟩ ?_
 conv=>whnf
 repeat' first
  |(refine za (by(try simp only[wA,wL])<;>omega) ?_;conv=>whnf)
  |(refine zbo (hpo) rfl rfl rfl ?_;conv=>whnf)
  |(refine zl (by first|rfl|omega) ?_;conv=>whnf)
 conv=>arg 2;simp only[hmx,Nat.reduceAdd,C.stride]
 refine ze9 [.kp [0,1,2,6]] ?_
 conv=>whnf
 repeat' first
  |(refine za (by kernel_rfl) ?_;conv=>whnf)
  |(refine za (by(try simp only[wA,wL])<;>omega) ?_;conv=>whnf)
  |(refine zg (by(try simp only[wA,wL])<;>omega) (by(try simp only[wA,wL])<;>omega) ?_;conv=>whnf)
  |(refine zl (by first|rfl|omega) ?_;conv=>whnf)
 conv=>arg 2;simp only[e1,e2,ha,hb,Nat.reduceAdd,C.stride]
 refine ze9 [.kp [0,1,2,6,7,8],.cl 1] ?_
 conv=>whnf
 skip
 conv=>arg 2;simp only[ydy,Nat.reduceAdd,C.stride]
 refine ze ?_
 conv=>whnf
 skip
 conv=>arg 2;simp only[ydy,Nat.reduceAdd,C.stride]
 refine ze9 [.op 1 a] (yd2 rfl ⟨Nat.zero_le _,a1⟩ ?_)
 conv=>whnf
 repeat' first
  |(refine zn ?_ ?_;(focus ((try simp only[qA])<;>(try simp only[wA])<;>omega));conv=>whnf)
  |(refine za (by(try simp only[wA,wL])<;>omega) ?_;conv=>whnf)
  |(refine zl (by first|rfl|omega) ?_;conv=>whnf)
 conv=>arg 2;simp only[ydy,Nat.reduceAdd,C.stride]
 refine ze9 [.kp [0,1,2,6,7,8,9,10],.cl 1] ?_
 refine vkp ?_
 refine yd3 (x':=.pgs qs) rfl rfl rfl (congrArg (fun z=>some (C.pgs z)) (ydy qs a)) rfl ?_
 conv=>whnf
 repeat' (refine zal [] [0,1] (hml) ⟨rfl,rfl,rfl,(by repeat first|exact trivial|refine⟨rfl,?_⟩),⟨rfl,rfl,rfl,rfl,rfl,rfl⟩,?_⟩;conv=>whnf)
 conv=>arg 2;simp only[Nat.reduceAdd,C.stride]
 refine ze ?_
 conv=>whnf
 skip
 conv=>arg 2;simp only[Nat.reduceAdd,C.stride]
 refine ze9 [.kp [0,1,2,6,7,8,9,10],.op 1 u] ?_
 refine vkp ?_
 refine yd2 rfl ⟨Nat.zero_le _,ul⟩ ?_
 conv=>whnf
 repeat' first
  |(refine za (by(try simp only[wA,wL])<;>omega) ?_;conv=>whnf)
  |(refine zg (by(try simp only[wA,wL])<;>omega) (by(try simp only[wA,wL])<;>omega) ?_;conv=>whnf)
  |(refine zl (by first|rfl|omega) ?_;conv=>whnf)
 conv=>arg 2;simp only[e1,Nat.reduceAdd,C.stride]
 refine ze9 [.cl 1] ?_
 conv=>whnf
 skip
 exact(zu [] [0,1])
set_option maxHeartbeats 4000000 in
theorem yf5 (qs:List Pg) (u a b f:Nat) (c:Int) (M:MeN qs u a b f c) (g g2:Nat→Bool) (hg2:(tab g).set b true=tab g2) (j:Int) (j0:0≤j) (j1:j≤1000) (lf:(qs.getD a ⟨[],[],[]⟩).kids.length≠0)
  (la:(qs.getD a ⟨[],[],[]⟩).kids.length=(qs.getD a ⟨[],[],[]⟩).keys.length+1) (lb:(qs.getD b ⟨[],[],[]⟩).kids.length=(qs.getD b ⟨[],[],[]⟩).keys.length+1) (k:Int) (hk:(qs.getD u ⟨[],[],[]⟩).keys.getD f 0=k) (K D:List Int) (hK:(qs.getD a ⟨[],[],[]⟩).keys++k::(qs.getD b ⟨[],[],[]⟩).keys=K) (hD:(qs.getD a ⟨[],[],[]⟩).kids++(qs.getD b ⟨[],[],[]⟩).kids=D) (h4:K.length≤4) :
  zr Try.prog 44 2 [.ptr 0 0 0 0,.c (.int .i64 u),.c (.int .i64 c)] (mdH qs (tab g) j) 2 (.tup []) (mdH ((qs.set a ⟨K,D,[]⟩).set u (zf9 (qs.getD u ⟨[],[],[]⟩) (f+1))) (tab g2) (j+1)):=by
 obtain⟨hp,u1,a1,b1,b16,hua,hub,hne,ha,hb,hkl,hcl,hk9,hvs,cm,hz,ka,kb⟩:=M
 have hmx:(if 1>(plN (qs.getD u ⟨[],[],[]⟩).kids c:Int)then(1:Int)else plN (qs.getD u ⟨[],[],[]⟩).kids c)=(f:Int)+1:=by
  rcases hz with h|⟨h,h2⟩<;>rw[h]<;>split<;>omega
 have e1:((f:Int)+1-1).toNat=f:=by omega
 have e2:((f:Int)+1).toNat=f+1:=by omega
 have hpo:=z76 (qs.getD u ⟨[],[],[]⟩) c (by omega) cm
 have hml:=yd1 (tab g) j a b k qs u u1 hua hub a1 b1 hne ka kb la lb K D hK hD h4
 rw[show k=(qs.getD u ⟨[],[],[]⟩).keys.getD ((f:Int)+1-1).toNat 0 by rw[e1,hk]]at hml
 have eu:=ydw (l:=qs) ⟨K,D,[]⟩ hua
 rw[←eu]
 have hcut:=ydm ((qs.set a ⟨K,D,[]⟩).getD u ⟨[],[],[]⟩) (f+1) (by omega) (by rw[eu];omega) (by rw[eu];exact hcl) (by rw[eu];omega)
 refine spi (fn:=Try.f44) _ ?_
 conv=>whnf
 refine ze9 [.kp [0,1,2],.op 1 u] ?_
 conv=>whnf
 refine za ⟨Nat.zero_le _,u1⟩ ?_
 conv=>whnf
 repeat' first
  |(refine za (by(try simp only[wA,wL])<;>omega) ?_;conv=>whnf)
  |(refine zbo (hpo) rfl rfl rfl ?_;conv=>whnf)
  |(refine zl (by first|rfl|omega) ?_;conv=>whnf)
 conv=>arg 2;simp only[hmx,Nat.reduceAdd,C.stride]
 refine ze9 [.kp [0,1,2,6]] ?_
 conv=>whnf
 repeat' first
  |(refine za (by kernel_rfl) ?_;conv=>whnf)
  |(refine za (by(try simp only[wA,wL])<;>omega) ?_;conv=>whnf)
  |(refine zg (by(try simp only[wA,wL])<;>omega) (by(try simp only[wA,wL])<;>omega) ?_;conv=>whnf)
  |(refine zl (by first|rfl|omega) ?_;conv=>whnf)
 conv=>arg 2;simp only[e1,e2,ha,hb,Nat.reduceAdd,C.stride]
 refine ze9 [.kp [0,1,2,6,7,8],.cl 1] ?_
 conv=>whnf
 skip
 conv=>arg 2;simp only[ydy,Nat.reduceAdd,C.stride]
 refine ze ?_
 conv=>whnf
 skip
 conv=>arg 2;simp only[ydy,Nat.reduceAdd,C.stride]
 refine ze9 [.op 1 a] (yd2 rfl ⟨Nat.zero_le _,a1⟩ ?_)
 conv=>whnf
 repeat' first
  |(refine zm ?_ ?_;(focus ((try simp only[qA])<;>(try simp only[wA])<;>omega));conv=>whnf)
  |(refine za (by(try simp only[wA,wL])<;>omega) ?_;conv=>whnf)
  |(refine zl (by first|rfl|omega) ?_;conv=>whnf)
 conv=>arg 2;simp only[ydy,Nat.reduceAdd,C.stride]
 refine ze9 [.kp [0,1,2,6,7,8,9,10],.cl 1,.op 1 u] ?_
 refine vkp ?_
 refine yd3 (x':=.pgs qs) rfl rfl rfl (congrArg (fun z=>some (C.pgs z)) (ydy qs a)) rfl ?_
 refine yd2 rfl ⟨Nat.zero_le _,u1⟩ ?_
 conv=>whnf
 repeat' first
  |(refine za (by(try simp only[wA,wL])<;>omega) ?_;conv=>whnf)
  |(refine zg (by(try simp only[wA,wL])<;>omega) (by(try simp only[wA,wL])<;>omega) ?_;conv=>whnf)
  |(refine zal [] [0,1,108,109,110] (hml) ⟨rfl,rfl,rfl,(by repeat first|exact trivial|refine⟨rfl,?_⟩),⟨rfl,rfl,rfl,rfl,rfl,rfl⟩,?_⟩;conv=>whnf)
  |(refine zl (by first|rfl|omega) ?_;conv=>whnf)
 conv=>arg 2;simp only[Nat.reduceAdd,C.stride]
 refine ze9 [.kp [0,1,2,6,7,8,9,10]] ?_
 conv=>whnf
 skip
 conv=>arg 2;simp only[Nat.reduceAdd,C.stride]
 refine ze ?_
 conv=>whnf
 repeat' first
  |(refine za (by kernel_rfl) ?_;conv=>whnf)
  |(refine za (by(try simp only[wA,wL])<;>omega) ?_;conv=>whnf)
  |(refine ydq (ycu _ _ _) ?_;conv=>whnf)
  |(refine zlg [.arr (.nums .i64 (zf9 ((qs.set a ⟨K,D,[]⟩).getD u ⟨[],[],[]⟩) (f+1)).keys),.arr (.nums .i64 (zf9 ((qs.set a ⟨K,D,[]⟩).getD u ⟨[],[],[]⟩) (f+1)).kids)] (hcut) rfl rfl rfl rfl rfl rfl rfl ?_;conv=>whnf)
  |(refine ydq (ycp _ _) ?_;conv=>whnf)
  |(refine zl (by first|rfl|omega) ?_;conv=>whnf)
 conv=>arg 2;simp only[Nat.reduceAdd,C.stride]
 refine ze9 [.cl 1] ?_
 conv=>whnf
 repeat' (refine za (by(try simp only[wA,wL])<;>omega) ?_;conv=>whnf)
 conv=>arg 2;simp only[Int.toNat_natCast,hg2]
 refine ze ?_
 conv=>whnf
 repeat' first|(refine zg (by(try simp only[wA,wL])<;>omega) (by(try simp only[wA,wL])<;>omega) ?_;conv=>whnf)|(refine ze ?_;conv=>whnf)
 exact(zu [] [0,1])
set_option maxHeartbeats 4000000 in
theorem yfw (qs:List Pg) (u a b f:Nat) (c:Int) (M:MeN qs u a b f c) (g:Nat→Bool) (j:Int) (j0:0≤j) (j1:j≤1000) (lf:(qs.getD a ⟨[],[],[]⟩).kids.length≠0)
  (la:(qs.getD a ⟨[],[],[]⟩).kids.length=(qs.getD a ⟨[],[],[]⟩).keys.length+1) (lb:(qs.getD b ⟨[],[],[]⟩).kids.length=(qs.getD b ⟨[],[],[]⟩).keys.length+1) (k:Int) (hk:(qs.getD u ⟨[],[],[]⟩).keys.getD f 0=k) (K D:List Int) (hK:(qs.getD a ⟨[],[],[]⟩).keys++k::(qs.getD b ⟨[],[],[]⟩).keys=K) (hD:(qs.getD a ⟨[],[],[]⟩).kids++(qs.getD b ⟨[],[],[]⟩).kids=D) (h4:¬K.length≤4) (q2:List Pg) (hq2:(qs.set a ⟨K.take (K.length / 2),D.take (K.length / 2+1),[]⟩).set b ⟨K.drop (K.length / 2+1),D.drop (K.length / 2+1),[]⟩=q2) :
  zr Try.prog 44 2 [.ptr 0 0 0 0,.c (.int .i64 u),.c (.int .i64 c)] (mdH qs (tab g) j) 2 (.tup []) (mdH (q2.set u ⟨(qs.getD u ⟨[],[],[]⟩).keys.set f (K.getD (K.length / 2) 0),(qs.getD u ⟨[],[],[]⟩).kids,(qs.getD u ⟨[],[],[]⟩).vals⟩) (tab g) j):=by
 obtain⟨hp,u1,a1,b1,b16,hua,hub,hne,ha,hb,hkl,hcl,hk9,hvs,cm,hz,ka,kb⟩:=M
 have hmx:(if 1>(plN (qs.getD u ⟨[],[],[]⟩).kids c:Int)then(1:Int)else plN (qs.getD u ⟨[],[],[]⟩).kids c)=(f:Int)+1:=by
  rcases hz with h|⟨h,h2⟩<;>rw[h]<;>split<;>omega
 have e1:((f:Int)+1-1).toNat=f:=by omega
 have e2:((f:Int)+1).toNat=f+1:=by omega
 have hpo:=z76 (qs.getD u ⟨[],[],[]⟩) c (by omega) cm
 have hml:=ydz (tab g) j a b k qs u u1 hua hub a1 b1 hne ka kb la lb K D hK hD h4
 rw[show k=(qs.getD u ⟨[],[],[]⟩).keys.getD ((f:Int)+1-1).toNat 0 by rw[e1,hk]]at hml
 have eu:q2.getD u ⟨[],[],[]⟩=qs.getD u ⟨[],[],[]⟩:=by rw[←hq2,ydw _ hub,ydw _ hua]
 have ul:u<q2.length:=by rw[←hq2,List.length_set,List.length_set];exact u1
 rw[←eu]
 rw[hq2]at hml
 have hkl2:f<(q2.getD u ⟨[],[],[]⟩).keys.length:=by rw[eu];exact hkl
 generalize K.getD (K.length / 2) 0=kx at *
 refine spi (fn:=Try.f44) _ ?_
 conv=>whnf
 refine ze9 [.kp [0,1,2],.op 1 u] ?_
 conv=>whnf
 refine za ⟨Nat.zero_le _,u1⟩ ?_
 conv=>whnf
 repeat' first
  |(refine za (by(try simp only[wA,wL])<;>omega) ?_;conv=>whnf)
  |(refine zbo (hpo) rfl rfl rfl ?_;conv=>whnf)
  |(refine zl (by first|rfl|omega) ?_;conv=>whnf)
 conv=>arg 2;simp only[hmx,Nat.reduceAdd,C.stride]
 refine ze9 [.kp [0,1,2,6]] ?_
 conv=>whnf
 repeat' first
  |(refine za (by kernel_rfl) ?_;conv=>whnf)
  |(refine za (by(try simp only[wA,wL])<;>omega) ?_;conv=>whnf)
  |(refine zg (by(try simp only[wA,wL])<;>omega) (by(try simp only[wA,wL])<;>omega) ?_;conv=>whnf)
  |(refine zl (by first|rfl|omega) ?_;conv=>whnf)
 conv=>arg 2;simp only[e1,e2,ha,hb,Nat.reduceAdd,C.stride]
 refine ze9 [.kp [0,1,2,6,7,8],.cl 1] ?_
 conv=>whnf
 skip
 conv=>arg 2;simp only[ydy,Nat.reduceAdd,C.stride]
 refine ze ?_
 conv=>whnf
 skip
 conv=>arg 2;simp only[ydy,Nat.reduceAdd,C.stride]
 refine ze9 [.op 1 a] (yd2 rfl ⟨Nat.zero_le _,a1⟩ ?_)
 conv=>whnf
 repeat' first
  |(refine zm ?_ ?_;(focus ((try simp only[qA])<;>(try simp only[wA])<;>omega));conv=>whnf)
  |(refine za (by(try simp only[wA,wL])<;>omega) ?_;conv=>whnf)
  |(refine zl (by first|rfl|omega) ?_;conv=>whnf)
 conv=>arg 2;simp only[ydy,Nat.reduceAdd,C.stride]
 refine ze9 [.kp [0,1,2,6,7,8,9,10],.cl 1,.op 1 u] ?_
 refine vkp ?_
 refine yd3 (x':=.pgs qs) rfl rfl rfl (congrArg (fun z=>some (C.pgs z)) (ydy qs a)) rfl ?_
 refine yd2 rfl ⟨Nat.zero_le _,u1⟩ ?_
 conv=>whnf
 repeat' first
  |(refine za (by(try simp only[wA,wL])<;>omega) ?_;conv=>whnf)
  |(refine zg (by(try simp only[wA,wL])<;>omega) (by(try simp only[wA,wL])<;>omega) ?_;conv=>whnf)
  |(refine zal [] [0,1,108,109,110] (hml) ⟨rfl,rfl,rfl,(by repeat first|exact trivial|refine⟨rfl,?_⟩),⟨rfl,rfl,rfl,rfl,rfl,rfl⟩,?_⟩;conv=>whnf)
  |(refine zl (by first|rfl|omega) ?_;conv=>whnf)
 conv=>arg 2;simp only[Nat.reduceAdd,C.stride]
 refine ze9 [.kp [0,1,2,6,7,8,9,10]] ?_
 conv=>whnf
 skip
 conv=>arg 2;simp only[Nat.reduceAdd,C.stride]
 refine ze ?_
 conv=>whnf
 repeat' first
  |(refine za (by(try simp only[wA,wL])<;>omega) ?_;conv=>whnf)
  |(refine zg (by(try simp only[wA,wL])<;>omega) (by(try simp only[wA,wL])<;>omega) ?_;conv=>whnf)
  |(refine zl (by first|rfl|omega) ?_;conv=>whnf)
 conv=>arg 2;simp only[e1,Nat.reduceAdd,C.stride]
 refine ze9 [.cl 1] ?_
 conv=>whnf
 skip
 exact(zu [] [0,1])
end Go.VL
namespace Go.VL
open Go.Proofs
set_option maxRecDepth 10000
set_option linter.unusedSimpArgs false
set_option linter.unusedVariables false
theorem yfr (qs:List Pg) (up c:Int) (f:Nat) (M:MendPre qs up c f) (hp:pB qs) (h16:qs.length≤16)
  (hrow:(zb qs ((zb qs up).kids.getD f 0)).kids.length=0→zdb (zab (zb qs ((zb qs up).kids.getD f 0))++zab (zb qs ((zb qs up).kids.getD (f+1) 0)))=true)
  (bs:List Bool) (hbs:bs.length=16) (j:Int) (j0:0≤j) (j1:j≤1000) :
  zr Try.prog 44 2 [.ptr 0 0 0 0,.c (.int .i64 up),.c (.int .i64 c)] (mdH qs bs j) 2 (.tup []) (mdH (zcd qs up f).1 ((zcd qs up f).2.foldl (fun l g=>l.set g.toNat true) bs) (j+((zcd qs up f).2.length:Nat))):=by
 obtain⟨cm,hz,u0,u1,hkl,hcl,hk9,hvs,hc0,ha0,hb0,hau,hbu,hab,ka,kb,hlf,hin⟩:=M
 obtain⟨u,rfl⟩:∃u:Nat,up=u:=⟨up.toNat,by omega⟩
 obtain⟨a,ha⟩:∃a:Nat,(zb qs u).kids.getD f 0=a:=⟨((zb qs u).kids.getD f 0).toNat,by omega⟩
 obtain⟨b,hb⟩:∃b:Nat,(zb qs u).kids.getD (f+1) 0=b:=⟨((zb qs u).kids.getD (f+1) 0).toNat,by omega⟩
 obtain⟨k,hk⟩:∃k,(zb qs u).keys.getD f 0=k:=⟨_,rfl⟩
 rw[yfl qs u f ha hb hk]
 rw[ha]at ha0 hau hab ka hlf hin hrow
 rw[hb]at hb0 hbu hab kb hlf hin hrow
 have hb16:b<16:=by omega
 have hz':((plN (qs.getD u ⟨[],[],[]⟩).kids c:Nat):Int)=(f:Int)+1∨((plN (qs.getD u ⟨[],[],[]⟩).kids c:Nat):Int)=0∧f=0:=hz
 have N:MeN qs u a b f c:=⟨hp,by omega,by omega,by omega,hb16,fun q=>hau (by rw[q]),fun q=>hbu (by rw[q]),fun q=>hab (by rw[q]),ha,hb,hkl,hcl,hk9,hvs,cm,by omega,ka,kb⟩
 obtain⟨g,hg⟩:∃g,bs=tab g:=⟨_,z3k hbs⟩
 obtain⟨g2,hg2⟩:∃g2,(tab g).set b true=tab g2:=⟨_,z23 g b true⟩
 subst hg
 have ejo:mlF qs a b k=if (zcr (qs.getD a ⟨[],[],[]⟩) k (qs.getD b ⟨[],[],[]⟩)).keys.length≤4 then(qs.set a (zcr (qs.getD a ⟨[],[],[]⟩) k (qs.getD b ⟨[],[],[]⟩)),true,0)
   else((qs.set a (zam (zcr (qs.getD a ⟨[],[],[]⟩) k (qs.getD b ⟨[],[],[]⟩))).1).set b (zam (zcr (qs.getD a ⟨[],[],[]⟩) k (qs.getD b ⟨[],[],[]⟩))).2.2,false,(zam (zcr (qs.getD a ⟨[],[],[]⟩) k (qs.getD b ⟨[],[],[]⟩))).2.1):=rfl
 change (qs.getD a ⟨[],[],[]⟩).kids.length=0→_ at hlf
 change (qs.getD a ⟨[],[],[]⟩).kids.length≠0→_ at hin
 change (qs.getD a ⟨[],[],[]⟩).kids.length=0→zdb (zab (qs.getD a ⟨[],[],[]⟩)++zab (qs.getD b ⟨[],[],[]⟩))=true at hrow
 rw[ejo]
 by_cases lf:(qs.getD a ⟨[],[],[]⟩).kids.length=0
 ·obtain⟨va,vb⟩:=hlf lf
  have hv:=hrow lf
  have e:zcr (qs.getD a ⟨[],[],[]⟩) k (qs.getD b ⟨[],[],[]⟩)=zae (zab (qs.getD a ⟨[],[],[]⟩)++zab (qs.getD b ⟨[],[],[]⟩)):=by unfold zcr;rw[if_pos lf]
  rw[e]
  obtain⟨row,hr⟩:∃row,zab (qs.getD a ⟨[],[],[]⟩)++zab (qs.getD b ⟨[],[],[]⟩)=row:=⟨_,rfl⟩
  rw[hr]at hv⊢
  have el:(zae row).keys.length=row.length:=by simp[zae]
  by_cases h4:row.length≤4
  ·have h:=yf2 qs u a b f c N g g2 hg2 j j0 j1 lf va vb row hr h4
   rw[if_pos (show(zae row).keys.length≤4 by omega),if_pos rfl]
   show zr _ _ _ _ _ _ _ (mdH _ ((tab g).set ((b:Nat):Int).toNat true) (j+1))
   rw[Int.toNat_natCast b,hg2]
   exact h
  ·have h:=yf0 qs u a b f c N g g2 hg2 j j0 j1 lf va vb row hr h4 hv _ rfl
   have hsp:zam (zae row)=(zae (row.take ((row.length+1) / 2)),(row.getD ((row.length+1) / 2) ⟨0,0⟩).key,zae (row.drop ((row.length+1) / 2))):=by
    unfold zam
    rw[if_pos (show(zae row).kids.length=0 from rfl),ze3]
   rw[if_neg (show ¬(zae row).keys.length≤4 by omega),if_neg (fun q=>by cases q),hsp]
   show zr _ _ _ _ _ _ _ (mdH _ (tab g) (j+0))
   rw[Int.add_zero]
   exact h
 ·obtain⟨la,lb⟩:=hin lf
  have e:zcr (qs.getD a ⟨[],[],[]⟩) k (qs.getD b ⟨[],[],[]⟩)=⟨(qs.getD a ⟨[],[],[]⟩).keys++k::(qs.getD b ⟨[],[],[]⟩).keys,(qs.getD a ⟨[],[],[]⟩).kids++(qs.getD b ⟨[],[],[]⟩).kids,[]⟩:=by unfold zcr;rw[if_neg lf]
  rw[e]
  obtain⟨K,hK⟩:∃K,(qs.getD a ⟨[],[],[]⟩).keys++k::(qs.getD b ⟨[],[],[]⟩).keys=K:=⟨_,rfl⟩
  obtain⟨D,hD⟩:∃D,(qs.getD a ⟨[],[],[]⟩).kids++(qs.getD b ⟨[],[],[]⟩).kids=D:=⟨_,rfl⟩
  rw[hK,hD]
  have hDl:D.length≠0:=by rw[←hD,List.length_append];omega
  by_cases h4:K.length≤4
  ·have h:=yf5 qs u a b f c N g g2 hg2 j j0 j1 lf la lb k hk K D hK hD h4
   rw[if_pos h4,if_pos rfl]
   show zr _ _ _ _ _ _ _ (mdH _ ((tab g).set ((b:Nat):Int).toNat true) (j+1))
   rw[Int.toNat_natCast b,hg2]
   exact h
  ·have h:=yfw qs u a b f c N g j j0 j1 lf la lb k hk K D hK hD h4 _ rfl
   have hsp:zam ⟨K,D,[]⟩=(⟨K.take (K.length / 2),D.take (K.length / 2+1),[]⟩,K.getD (K.length / 2) 0,⟨K.drop (K.length / 2+1),D.drop (K.length / 2+1),[]⟩):=by
    unfold zam
    rw[if_neg hDl]
   rw[if_neg h4,if_neg (fun q=>by cases q),hsp]
   show zr _ _ _ _ _ _ _ (mdH _ (tab g) (j+0))
   rw[Int.add_zero]
   exact h
end Go.VL
namespace Go.VL
open Go.Proofs
set_option maxRecDepth 10000
set_option linter.unusedSimpArgs false
set_option linter.unusedVariables false
set_option maxHeartbeats 4000000 in
theorem yeu (qs:List Pg) (bs:List Bool) (hbs:bs.length=16) (j root:Int) (hp:pB qs) (h16:qs.length≤16) (r0:0≤root) (r1:root<qs.length)
  (hkid:∀i:Nat,i<qs.length→bs.getD i false=false→∀c∈(qs.getD i ⟨[],[],[]⟩).kids,0≤c∧c<qs.length) :
  zr Try.prog 45 2 [.ptr 0 0 0 0,.c (.int .i64 root)] (mdH qs bs j) 3 (.agg [.c (.int .i64 (frk (gnB bs) root)),.slc 2])
   [(0,.box [.slc 1] bs [.c (.int .i64 j)]),(1,.deep true qs.length (.pgs qs) []),(2,.arr (.pgs (keL (gnB bs) (frk (gnB bs)) 0 qs)))]:=by
 have hgb:∀i,gnB bs i=bs.getD i false:=fun _=>rfl
 have hrk:=fun i=>yfp (gnB bs) i
 have hrs:=fun i=>yf4 (gnB bs) i
 refine spi (fn:=Try.f45) _ ?_
 conv=>whnf
 repeat' (refine ze ?_;conv=>whnf)
 refine zk5 (fun(i r:Nat) (N:List Int)=>i≤qs.length∧r=rk (gnB bs) i∧N=nuA (gnB bs) i) (fun i r N=>⟨78,4,[(0,.ptr 0 0 0 0),(1,.c (.int .i64 root)),(4,.ptr 2 0 0 0),(5,.ptr 3 0 1 0),(6,.c (.int .i64 r)),(17,.c (.int .i64 qs.length)),(18,.c (.int .i64 i))],[(0,.box [.slc 1] bs [.c (.int .i64 j)]),(1,.deep true 0 (.pgs qs) []),(2,.box [.c (.int .i64 0),.nil] [] []),(3,.arr (.nums .i64 N))]⟩) (fun i _ _=>qs.length-i) 0 0 (List.replicate 16 0) ⟨Nat.zero_le _,rfl,rfl⟩ (fun _ _ _=>Nat.le_add_left 2 2) (ydn [] [0,1,2,3]) (fun i r N hi=>?_)
 obtain⟨hi,hr,hN⟩:=hi
 have hNl:N.length=16:=by rw[hN];exact yfv (by omega)
 by_cases c:i<qs.length
 ·have hrl:=hrk i
  conv=>whnf
  repeat' first
   |(refine zn ?_ ?_;(focus ((try simp only[qA])<;>(try simp only[wA])<;>omega));conv=>whnf)
   |(refine za (by(try simp only[wA,wL])<;>omega) ?_;conv=>whnf)
   |(refine zk (fun h=>?_) (fun h=>?_)<;>(try simp only[qA]at h)<;>(try simp only[wA]at h)<;>conv=>whnf)
   |(refine zg (by(try simp only[wA,wL])<;>omega) (by(try simp only[wA,wL])<;>omega) ?_;conv=>whnf)
   |(refine ze ?_;conv=>whnf)
  ·refine⟨⟨(i+1,r+1,N.set i (r:Int)),?_⟩,(ydn [] [0,1,2,3]),by dsimp only;omega⟩;(try dsimp only)
   refine⟨c,?_,by rw[hN,hr];exact ye5 (by omega)⟩
   rw[hrs,hr,hgb]
   rw[h];rfl
  ·refine⟨⟨(i+1,r,N.set i (r:Int)),?_⟩,(ydn [] [0,1,2,3]),by dsimp only;omega⟩;(try dsimp only)
   refine⟨c,?_,by rw[hN,hr];exact ye5 (by omega)⟩
   rw[hrs,hr,hgb]
   rw[h];rfl
 ·obtain rfl:i=qs.length:=by omega
  have hroot:N.getD root.toNat 0=frk (gnB bs) root:=by rw[hN];exact ye4 r0 r1
  have hnk:∀c:Int,0≤c∧c<qs.length→N.getD c.toNat 0=frk (gnB bs) c:=fun c hc=>by rw[hN];exact ye4 hc.1 hc.2
  clear hN hr hi
  conv=>whnf
  repeat' first|(refine zm ?_ ?_;(focus ((try simp only[qA])<;>(try simp only[wA])<;>omega));conv=>whnf)|(refine za (by(try simp only[wA,wL])<;>omega) ?_;conv=>whnf)|(refine ze ?_;conv=>whnf)
  refine zd0 (fun(i:Nat) (L:List Pg)=>i≤qs.length∧L.length≤i∧L=keL (gnB bs) (frk (gnB bs)) 0 (qs.take i)) (fun i L=>⟨78,6,[(0,.ptr 0 0 0 0),(4,.ptr 2 0 0 0),(5,.ptr 3 0 1 0),(8,.ptr 4 0 0 0),(41,.slc 1),(42,.c (.int .i64 qs.length)),(43,.c (.int .i64 i))],[(0,.box [.slc 1] bs [.c (.int .i64 j)]),(1,.deep true i (.pgs qs) []),(2,.box [.c (.int .i64 0),.nil] [] []),(3,.arr (.nums .i64 N)),(4,.box [.c (.int .i64 (N.getD root.toNat 0)),.slc 5] [] []),(5,.arr (.pgs L))]⟩) (fun i _=>qs.length-i) 0 [] ⟨Nat.zero_le _,Nat.zero_le _,rfl⟩ (fun _ _=>Nat.le_add_left 2 4) (zsg [.nb 4 1 false (.pgs [])] [] [0,1,2,3,4,5] ?_) (fun i L hi=>?_)
  ·conv=>whnf
   exact⟨by repeat first|exact trivial|refine⟨rfl,?_⟩,⟨rfl,rfl,rfl,rfl,rfl,rfl,trivial⟩,rfl,rfl,rfl,rfl,rfl,rfl,rfl⟩
  obtain⟨hi,hLl,hL⟩:=hi
  by_cases ci:i<qs.length
  ·have hkt:=yfh (gn:=gnB bs) (f:=frk (gnB bs)) ci
   by_cases g:bs.getD i false=true
   ·rw[hgb,if_pos g,List.append_nil,←hL]at hkt
    conv=>whnf
    refine ze9 [.op 1 i] (yd2 rfl ⟨Nat.le_refl _,ci⟩ ?_)
    conv=>whnf
    repeat' first
     |(refine zn ?_ ?_;(focus ((try simp only[qA])<;>(try simp only[wA])<;>omega));conv=>whnf)
     |(refine za (by(try simp only[wA,wL])<;>omega) ?_;conv=>whnf)
     |(refine zg (by(try simp only[wA,wL])<;>omega) (by(try simp only[wA,wL])<;>omega) ?_;conv=>whnf)
     |(refine zl (by first|rfl|omega) ?_;conv=>whnf)
     |(refine ze ?_;conv=>whnf)
    refine⟨⟨(i+1,L),⟨by dsimp only;omega,by dsimp only;omega,hkt.symm⟩⟩,(zsg [.ad 1] [] [0,1,2,3,4,5] ?_),by dsimp only;omega⟩
    conv=>whnf
    refine za ⟨Nat.le_refl _,trivial⟩ ?_
    conv=>whnf
    exact⟨by repeat first|exact trivial|refine⟨rfl,?_⟩,⟨rfl,rfl,rfl,rfl,rfl,rfl,trivial⟩,rfl,rfl,rfl,rfl,rfl,rfl,rfl⟩
   ·have hf:bs.getD i false=false:=by
     cases q:bs.getD i false with
     |false=>rfl
     |true=>exact(g q).elim
    have hkd:=hkid i ci hf
    have hkl:=hp.kids i
    dsimp only[zb,Int.toNat_natCast]at hkl
    rw[hgb,if_neg g,←hL]at hkt
    conv=>whnf
    refine ze9 [.op 1 i] (yd2 rfl ⟨Nat.le_refl _,ci⟩ ?_)
    conv=>whnf
    repeat' first
     |(refine zn ?_ ?_;(focus ((try simp only[qA])<;>(try simp only[wA])<;>omega));conv=>whnf)
     |(refine zm ?_ ?_;(focus ((try simp only[qA])<;>(try simp only[wA])<;>omega));conv=>whnf)
     |(refine za (by(try simp only[wA,wL])<;>omega) ?_;conv=>whnf)
     |(refine zl (by first|rfl|omega) ?_;conv=>whnf)
     |(refine ze ?_;conv=>whnf)
    refine zd0 (fun(k:Nat) (CS:List Int)=>k≤(qs.getD i ⟨[],[],[]⟩).kids.length∧CS=reL (frk (gnB bs)) (qs.getD i ⟨[],[],[]⟩).kids k) (fun k CS=>⟨78,10,[(0,.ptr 0 0 0 0),(4,.ptr 2 0 0 0),(5,.ptr 3 0 1 0),(8,.ptr 4 0 0 0),(10,.ptr 9 0 0 0),(41,.slc 1),(42,.c (.int .i64 qs.length)),(43,.c (.int .i64 i)),(55,.slc 7),(56,.c (.int .i64 (qs.getD i ⟨[],[],[]⟩).kids.length)),(57,.c (.int .i64 k))],[(0,.box [.slc 1] bs [.c (.int .i64 j)]),(1,.deep true i (.pgs qs) [(i,[.slc 6,.slc 7,.slc 8])]),(2,.box [.c (.int .i64 0),.nil] [] []),(3,.arr (.nums .i64 N)),(4,.box [.c (.int .i64 (N.getD root.toNat 0)),.slc 5] [] []),(5,.arr (.pgs L)),(6,.arr (.nums .i64 (qs.getD i ⟨[],[],[]⟩).keys)),(7,.arr (.nums .i64 CS)),(8,.arr (.nums .i64 (qs.getD i ⟨[],[],[]⟩).vals)),(9,.box [.slc 6,.slc 7,.slc 8] [] [])]⟩) (fun k _=>(qs.getD i ⟨[],[],[]⟩).kids.length-k) 0 (qs.getD i ⟨[],[],[]⟩).kids ⟨Nat.zero_le _,rfl⟩ (fun _ _=>Nat.le_add_left 2 8) (ydn [] [0,1,2,3,4,5,6,7,8,9]) (fun k CS hk=>?_)
    obtain⟨hk,hCS⟩:=hk
    have hCl:CS.length=(qs.getD i ⟨[],[],[]⟩).kids.length:=by rw[hCS,yfz]
    by_cases ck:k<(qs.getD i ⟨[],[],[]⟩).kids.length
    ·have hx:=hkd _ (zaq 0 ck)
     rw[←ye3 (f:=frk (gnB bs)) ck,←hCS]at hx
     have hst:=yfu (f:=frk (gnB bs)) ck
     rw[←hnk _ (hkd _ (zaq 0 ck)),←ye3 (f:=frk (gnB bs)) ck,←hCS]at hst
     conv=>whnf
     repeat' first
      |(refine za (by kernel_rfl) ?_;conv=>whnf)
      |(refine zn ?_ ?_;(focus ((try simp only[qA])<;>(try simp only[wA])<;>omega));conv=>whnf)
      |(refine za (by(try simp only[wA,wL])<;>omega) ?_;conv=>whnf)
      |(refine zg (by(try simp only[wA,wL])<;>omega) (by(try simp only[wA,wL])<;>omega) ?_;conv=>whnf)
      |(refine ze ?_;conv=>whnf)
     refine⟨⟨(k+1,CS.set k (N.getD (CS.getD k 0).toNat 0)),?_⟩,(ydn [] [0,1,2,3,4,5,6,7,8,9]),by dsimp only;omega⟩;(try dsimp only)
     exact⟨ck,hst⟩
    ·obtain rfl:k=(qs.getD i ⟨[],[],[]⟩).kids.length:=by omega
     rw[yfx]at hCS
     conv=>whnf
     repeat' first
      |(refine zm ?_ ?_;(focus ((try simp only[qA])<;>(try simp only[wA])<;>omega));conv=>whnf)
      |(refine za (by(try simp only[wA,wL])<;>omega) ?_;conv=>whnf)
      |(refine zg (by(try simp only[wA,wL])<;>omega) (by(try simp only[wA,wL])<;>omega) ?_;conv=>whnf)
      |(refine zo ?_;conv=>whnf)
      |(refine ze ?_;conv=>whnf)
     refine⟨⟨(i+1,L++([]++[⟨(qs.getD i ⟨[],[],[]⟩).keys,CS,(qs.getD i ⟨[],[],[]⟩).vals⟩])),⟨by dsimp only;omega,by simp;omega,by dsimp only;rw[hCS];exact hkt.symm⟩⟩,(zsg [.ad 1] [] [0,1,2,3,4,5] ?_),by dsimp only;omega⟩
     conv=>whnf
     refine za ⟨Nat.le_refl _,trivial⟩ ?_
     conv=>whnf
     exact⟨by repeat first|exact trivial|refine⟨rfl,?_⟩,⟨rfl,rfl,rfl,rfl,rfl,rfl,trivial⟩,rfl,rfl,rfl,rfl,rfl,rfl,rfl⟩
  ·obtain rfl:i=qs.length:=by omega
   rw[List.take_length]at hL
   subst hL
   conv=>whnf
   repeat' first|(refine zm ?_ ?_;(focus ((try simp only[qA])<;>(try simp only[wA])<;>omega));conv=>whnf)|(refine ze ?_;conv=>whnf)
   rw[hroot]
   exact(zu [] [0,1,5])
end Go.VL
