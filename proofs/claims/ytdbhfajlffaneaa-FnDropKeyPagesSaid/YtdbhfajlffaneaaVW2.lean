/- V-logic: Ins1 Ins2 TrW -/
import Derived.Test.YtdbhfajlffaneaaVW1
import Derived.Test.YtdbhfajlffaneaaVT1
import Derived.Test.YtdbhfajlffaneaaProg
import Derived.Test.YtdbhfajlffaneaaVEF
import Derived.Test.YtdbhfajlffaneaaVMA
import Derived.Test.YtdbhfajlffaneaaVPE
namespace Go.Proofs
open Go.RowKit Go.Lib Go.VL
set_option linter.unusedVariables false
set_option linter.unusedSimpArgs false
set_option maxHeartbeats 4000000 in
set_option maxRecDepth 1000000 in
theorem yaq (b off n cap i j:Nat) (cs:List Value) (w:World) (hj1:j=i+1) (hj:j≤n) (hcap:n≤cap) (hcl:cs.length=n*1)
  (hcs:∀t v,cs[t]? = some v→w.cell? ⟨b,off+t,none⟩=some v) (hfz:∀t,w.frozen? ⟨b,t,none⟩=false) (h1c:∀v∈cs,v.oneCell'=true) :
  Calls Try.prog 104 #[.slice (some ⟨b,off,none⟩) n cap,.int .i64 i,.int .i64 j] w fun e w' =>
   e=.returned (.slice (some ⟨b,off,none⟩) (n-1) cap)∧w'=(w.drew.setCells b (off+i*1) (cs.drop (j))).setCells b (off+(i+(n-j))) (.int .i64 0:Value).cells.toList:=by
 obtain⟨i0,hi0,hz0,hzs,hzb⟩:=info_parts (P:=Try.prog) (e:=3) (z:=.int .i64 0) (size:=1) (bytes:=8) (by kernel_rfl)
 have mixed:Try.prog.follows .mixedOrders=true:=Go.VL.mix
 have hzv:∀w,(zeroValue 3).run Try.prog w=.ok (.int .i64 0) w:=fun w=>by
  simp[zeroValue,typeInfo,hi0,hz0]
 have hlt:i<j:=by omega
 have hsp:∀t,t<n*1→(w.cell? ⟨b,off+t,none⟩).isSome=true:=fun t ht=>by
  rw[hcs t _ (List.getElem?_eq_getElem (by omega))];rfl
 obtain⟨news,hnews⟩:∃news,news=cs.drop (j):=⟨_,rfl⟩
 have hlen:news.length=(n-j)*1:=by rw[hnews,List.length_drop,hcl];omega
 obtain⟨A,hA,hsrc⟩:∃A:Addr,(if cap=j then some (⟨b,off,none⟩:Addr)else some ⟨b,off+j,none⟩)=some A∧Hid (∀t u,news[t]? = some u→w.drew.cell? (A.add t)=some u):=by
  by_cases h:cap=j
  ·refine⟨⟨b,off,none⟩,by simp[h],fun t u hu=>?_⟩
   rw[List.length_eq_zero_iff.1 (show news.length=0 by rw[hlen];omega)]at hu
   simp at hu
  ·refine⟨⟨b,off+j,none⟩,by simp[h],fun t u hu=>?_⟩
   rw[hnews,List.getElem?_drop]at hu
   rw[Addr.add_lit,Nat.add_assoc]
   exact hcs _ u hu
 have s1:Hid (news.length=(n-j)*1):=hlen
 have s2:Hid (∀u∈news,u.oneCell'=true):=fun u hu=>h1c u (by rw[hnews]at hu;exact List.mem_of_mem_drop hu)
 have s3:Hid (∀t,t<news.length→(w.drew.cell? ⟨b,off+i*1+t,none⟩).isSome=true∧w.drew.frozen? ⟨b,off+i*1+t,none⟩=false):=fun t ht=>by
  rw[hlen]at ht
  rw[Nat.add_assoc]
  exact⟨hsp _ (by omega),hfz _⟩
 obtain⟨W1,hW1⟩:∃W1,W1=w.drew.setCells b (off+i*1) news:=⟨_,rfl⟩
 have hW:Hid (W1=w.drew.setCells b (off+i*1) news):=hW1
 have hclr:∀ty,(Builtin.clear_ #[29] ty #[.slice (some ⟨b,off+(i+(n-j)),none⟩) (n-(i+(n-j))) (cap-(i+(n-j)))]).run Try.prog W1=.ok (.tuple #[]) (W1.setCells b (off+(i+(n-j))) (.int .i64 0:Value).cells.toList):=fun ty=>by
  rw[show n-(i+(n-j))=1 by omega]
  refine z6p 1 W1 29 3 ty (.int .i64 0) Try.underlying29 hzv rfl (by simp[Value.cells,Value.oneCell']) b _ _ (fun t ht=>?_) (fun t ht=>?_)
  ·rw[hW1,Nat.add_assoc]
   exact z4y b _ _ w.drew (fun u hu=>by rw[Nat.add_assoc];exact hsp _ (by omega)) _ (hsp _ (by omega))
  ·rw[hW1,World.frozen?_setCells];exact hfz _
 have hic:i≤cap:=by omega
 have hjc:j≤cap:=by omega
 have hn1:n-1=i+(n-j):=by omega
 rw[←hnews]
 clear hW1 hcs hsp hfz h1c hnews hlen hj1 hcl
 go_enter Try.func104,Try.ntmps104
 go_wp2_with fail
 go_region_law_o (refine step_append_room rfl _ _ 29 rfl 3 i0 1 Try.underlying29 hi0 hzs b off i cap (by simp[Act.eval,Act.put]) A (n-j) (cap-j) news (by simp[Act.eval,Act.put]) s1.out hsrc.out s2.out (by omega) s3.out ?_;rw[←hW.out])
 go_wp2
 go_ret
 exact⟨by rw[hn1];rfl,by rw[hW.out];rfl⟩
set_option maxHeartbeats 4000000 in
set_option maxRecDepth 1000000 in
theorem ybd (b off n cap i j:Nat) (cs:List Value) (w:World) (hj1:j=i+1) (hj:j≤n) (hcap:n≤cap) (hcl:cs.length=n*2)
  (hcs:∀t v,cs[t]? = some v→w.cell? ⟨b,off+t,none⟩=some v) (hfz:∀t,w.frozen? ⟨b,t,none⟩=false) (h1c:∀v∈cs,v.oneCell'=true) :
  Calls Try.prog 99 #[.slice (some ⟨b,off,none⟩) n cap,.int .i64 i,.int .i64 j] w fun e w' =>
   e=.returned (.slice (some ⟨b,off,none⟩) (n-1) cap)∧w'=(w.drew.setCells b (off+i*2) (cs.drop (j*2))).setCells b (off+(i+(n-j))*2) (.agg #[.int .i64 0,.int .i64 0]:Value).cells.toList:=by
 obtain⟨i0,hi0,hz0,hzs,hzb⟩:=info_parts (P:=Try.prog) (e:=94) (z:=.agg #[.int .i64 0,.int .i64 0]) (size:=2) (bytes:=16) (by kernel_rfl)
 have mixed:Try.prog.follows .mixedOrders=true:=Go.VL.mix
 have hzv:∀w,(zeroValue 94).run Try.prog w=.ok (.agg #[.int .i64 0,.int .i64 0]) w:=fun w=>by
  simp[zeroValue,typeInfo,hi0,hz0]
 have hlt:i<j:=by omega
 have hsp:∀t,t<n*2→(w.cell? ⟨b,off+t,none⟩).isSome=true:=fun t ht=>by
  rw[hcs t _ (List.getElem?_eq_getElem (by omega))];rfl
 obtain⟨news,hnews⟩:∃news,news=cs.drop (j*2):=⟨_,rfl⟩
 have hlen:news.length=(n-j)*2:=by rw[hnews,List.length_drop,hcl];omega
 obtain⟨A,hA,hsrc⟩:∃A:Addr,(if cap=j then some (⟨b,off,none⟩:Addr)else some ⟨b,off+j*2,none⟩)=some A∧Hid (∀t u,news[t]? = some u→w.drew.cell? (A.add t)=some u):=by
  by_cases h:cap=j
  ·refine⟨⟨b,off,none⟩,by simp[h],fun t u hu=>?_⟩
   rw[List.length_eq_zero_iff.1 (show news.length=0 by rw[hlen];omega)]at hu
   simp at hu
  ·refine⟨⟨b,off+j*2,none⟩,by simp[h],fun t u hu=>?_⟩
   rw[hnews,List.getElem?_drop]at hu
   rw[Addr.add_lit,Nat.add_assoc]
   exact hcs _ u hu
 have s1:Hid (news.length=(n-j)*2):=hlen
 have s2:Hid (∀u∈news,u.oneCell'=true):=fun u hu=>h1c u (by rw[hnews]at hu;exact List.mem_of_mem_drop hu)
 have s3:Hid (∀t,t<news.length→(w.drew.cell? ⟨b,off+i*2+t,none⟩).isSome=true∧w.drew.frozen? ⟨b,off+i*2+t,none⟩=false):=fun t ht=>by
  rw[hlen]at ht
  rw[Nat.add_assoc]
  exact⟨hsp _ (by omega),hfz _⟩
 obtain⟨W1,hW1⟩:∃W1,W1=w.drew.setCells b (off+i*2) news:=⟨_,rfl⟩
 have hW:Hid (W1=w.drew.setCells b (off+i*2) news):=hW1
 have hclr:∀ty,(Builtin.clear_ #[64] ty #[.slice (some ⟨b,off+(i+(n-j))*2,none⟩) (n-(i+(n-j))) (cap-(i+(n-j)))]).run Try.prog W1=.ok (.tuple #[]) (W1.setCells b (off+(i+(n-j))*2) (.agg #[.int .i64 0,.int .i64 0]:Value).cells.toList):=fun ty=>by
  rw[show n-(i+(n-j))=1 by omega]
  refine z6p 2 W1 64 94 ty (.agg #[.int .i64 0,.int .i64 0]) Try.underlying64 hzv rfl (by simp[Value.cells,Value.oneCell']) b _ _ (fun t ht=>?_) (fun t ht=>?_)
  ·rw[hW1,Nat.add_assoc]
   exact z4y b _ _ w.drew (fun u hu=>by rw[Nat.add_assoc];exact hsp _ (by omega)) _ (hsp _ (by omega))
  ·rw[hW1,World.frozen?_setCells];exact hfz _
 have hic:i≤cap:=by omega
 have hjc:j≤cap:=by omega
 have hn1:n-1=i+(n-j):=by omega
 rw[←hnews]
 clear hW1 hcs hsp hfz h1c hnews hlen hj1 hcl
 go_enter Try.func99,Try.ntmps99
 go_wp2_with fail
 go_region_law_o (refine step_append_room rfl _ _ 64 rfl 94 i0 2 Try.underlying64 hi0 hzs b off i cap (by simp[Act.eval,Act.put]) A (n-j) (cap-j) news (by simp[Act.eval,Act.put]) s1.out hsrc.out s2.out (by omega) s3.out ?_;rw[←hW.out])
 go_wp2
 go_ret
 exact⟨by rw[hn1];rfl,by rw[hW.out];rfl⟩
end Go.Proofs
namespace Go.Proofs
open Go.RowKit Go.Lib Go.VL
set_option linter.unusedVariables false
set_option linter.unusedSimpArgs false
theorem ybl (w:World) (n i cap:Nat) (b:Nat) (cs rest:List Value) (ty:TypeId) (hi:i<n) (hcl:cs.length=n*1) (h1c:∀v∈cs,v.oneCell'=true)
  (hb:w.heap[b]? = some (.cells (cs++rest).toArray ty (0,0))) (hl:(cs++rest).length=cap*1) (hcap:n≤cap) :
  Calls Try.prog 104 #[.slice (some ⟨b,0,none⟩) n cap,.int .i64 i,.int .i64 ((i+1:Nat):Int)] w (z5n w (some b) 1 (n-1) (cs.take (i*1)++cs.drop ((i+1)*1))):=by
 have hll:(cs++rest).length=cs.length+rest.length:=List.length_append
 have hcell:∀j v,cs[j]? = some v→w.cell? ⟨b,0+j,none⟩=some v:=fun j v hj=>by
  rw[Nat.zero_add,z5b hb,List.getElem?_append_left (List.getElem?_eq_some_iff.1 hj).1];exact hj
 refine(yaq b 0 n cap i (i+1) cs w rfl (by omega) hcap hcl hcell (z53 hb) h1c).mono ?_
 rintro e w' ⟨rfl,rfl⟩
 obtain⟨A,hA⟩:∃A,A=cs.take (i*1):=⟨_,rfl⟩
 obtain⟨X,hX⟩:∃X,X=(cs.drop (i*1)).take 1:=⟨_,rfl⟩
 obtain⟨B,hB⟩:∃B,B=cs.drop ((i+1)*1):=⟨_,rfl⟩
 have hAl:A.length=i*1:=by rw[hA,List.length_take];omega
 have hXl:X.length=1:=by rw[hX,List.length_take,List.length_drop];omega
 have hBl:B.length=(n-(i+1))*1:=by rw[hB,List.length_drop];omega
 have hc:cs=A++(X++B):=by
  have e1:=List.take_append_drop (i*1) cs
  have e2:=List.take_append_drop 1 (cs.drop (i*1))
  rw[List.drop_drop,show i*1+1=(i+1)*1 by omega]at e2
  rw[hX,hB,e2,hA,e1]
 have hB':cs.drop ((i+1))=B:=by rw[hB];(try rfl);(try (congr 1;omega))
 (try rw[hB'])
 rw[←hA]
 (try rw[←hB])
 rw[hc]at hb hl hll
 obtain⟨r1,r2⟩:=z4f B (0+i*1) w.drew _ hb (by simp only[List.length_append];omega)
 obtain⟨r3,r4⟩:=z4f (.int .i64 0:Value).cells.toList (0+(i+(n-(i+1)))) _ _ r1 (by simp only[List.length_append,List.length_take,List.length_drop,Value.cells];(try simp);omega)
 have r5:=r2.trans r4
 refine⟨b,cap,(.int .i64 0:Value).cells.toList++rest,ty,rfl,?_,?_,by omega,.inl rfl,r5.os,r5.tape,r5.output,Nat.le_of_eq r5.size.symm,fun j hj hjb=>r5.block j fun e=>hjb (by rw[e])⟩
 ·rw[r3]
  congr 3
  have:=z8e (A:=A) (X:=X) (B:=B) (R:=rest) (Z:=(.int .i64 0:Value).cells.toList) (K:=1) hXl rfl rfl
  rw[←this]
  rw[show 0+(i+(n-(i+1)))=A.length+B.length by omega,show 0+i*1=A.length by omega]
  (try rfl)
 ·simp only[List.length_append]at hl⊢
  simp only[Value.cells]
  (try simp)
  omega
theorem z8p (xs:List Int) (i:Nat) (I J:Int) (hI:I=i) (hJ:J=i+1) (hi:i<xs.length):Go.VL.zr Try.prog 104 1 [.slc 0,.c (.int .i64 I),.c (.int .i64 J)] [(0,.arr (C.nums .i64 xs))] 1 (.slc 0) [(0,.arr (C.nums .i64 (xs.take i++xs.drop (i+1))))]:=by
 subst hI
 obtain rfl:J=((i+1:Nat):Int):=by omega
 refine⟨⟨_,Try.func104,by kernel_rfl,by kernel_rfl⟩,fun W I g argv hI hh hla ha=>?_⟩
 obtain⟨a,b,c,rfl⟩:∃a b c,argv=[a,b,c]:=by
  match argv,hla with
  |[a,b,c],_=>exact⟨a,b,c,rfl⟩
 have e0:=RV.slc_inv (ha 0 _ _ rfl rfl)
 have e1:=RV.int_inv (ha 1 _ _ rfl rfl)
 have e2:=RV.int_inv (ha 2 _ _ rfl rfl)
 subst e1;subst e2
 have hlen:(fl1 xs).length=xs.length*1:=z6n xs
 have hzl:(C.nums .i64 (xs.take i++xs.drop (i+1))).len=xs.length-1:=by
  show(xs.take i++xs.drop (i+1)).length=_
  simp only[List.length_append,List.length_take,List.length_drop]
  omega
 rcases ro1.1 (hh.obj 0 _ (List.mem_singleton.2 rfl)).2 with ⟨hg,h0⟩|⟨b,cap,rest,ty,hg,hb,hlc,hcap⟩
 ·omega
 ·rcases e0.2 with ⟨b',cap',len',hg',ha'⟩|⟨hg',_⟩
  ·rw[hg]at hg'
   cases hg'
   subst ha'
   refine(ybl W xs.length i cap b (fl1 xs) rest ty hi hlen (z7a xs) hb hlc hcap).mono fun e w' hL=>?_
   refine z5t (k:=1) (cz:=fl1 (xs.take i++xs.drop (i+1))) (bo:=some b) hI hh (fun b hb=>?_) (fun h=>ro1.2 h) ?_
   ·cases hb;exact⟨_,hg⟩
   ·rw[z7k,←z75,←z8j,hzl];exact hL
  ·rw[hg]at hg';cases hg'
theorem yay (w:World) (n i cap:Nat) (b:Nat) (cs rest:List Value) (ty:TypeId) (hi:i<n) (hcl:cs.length=n*2) (h1c:∀v∈cs,v.oneCell'=true)
  (hb:w.heap[b]? = some (.cells (cs++rest).toArray ty (0,0))) (hl:(cs++rest).length=cap*2) (hcap:n≤cap) :
  Calls Try.prog 99 #[.slice (some ⟨b,0,none⟩) n cap,.int .i64 i,.int .i64 ((i+1:Nat):Int)] w (z5n w (some b) 2 (n-1) (cs.take (i*2)++cs.drop ((i+1)*2))):=by
 have hll:(cs++rest).length=cs.length+rest.length:=List.length_append
 have hcell:∀j v,cs[j]? = some v→w.cell? ⟨b,0+j,none⟩=some v:=fun j v hj=>by
  rw[Nat.zero_add,z5b hb,List.getElem?_append_left (List.getElem?_eq_some_iff.1 hj).1];exact hj
 refine(ybd b 0 n cap i (i+1) cs w rfl (by omega) hcap hcl hcell (z53 hb) h1c).mono ?_
 rintro e w' ⟨rfl,rfl⟩
 obtain⟨A,hA⟩:∃A,A=cs.take (i*2):=⟨_,rfl⟩
 obtain⟨X,hX⟩:∃X,X=(cs.drop (i*2)).take 2:=⟨_,rfl⟩
 obtain⟨B,hB⟩:∃B,B=cs.drop ((i+1)*2):=⟨_,rfl⟩
 have hAl:A.length=i*2:=by rw[hA,List.length_take];omega
 have hXl:X.length=2:=by rw[hX,List.length_take,List.length_drop];omega
 have hBl:B.length=(n-(i+1))*2:=by rw[hB,List.length_drop];omega
 have hc:cs=A++(X++B):=by
  have e1:=List.take_append_drop (i*2) cs
  have e2:=List.take_append_drop 2 (cs.drop (i*2))
  rw[List.drop_drop,show i*2+2=(i+1)*2 by omega]at e2
  rw[hX,hB,e2,hA,e1]
 have hB':cs.drop ((i+1)*2)=B:=by rw[hB];(try rfl);(try (congr 1;omega))
 (try rw[hB'])
 rw[←hA]
 (try rw[←hB])
 rw[hc]at hb hl hll
 obtain⟨r1,r2⟩:=z4f B (0+i*2) w.drew _ hb (by simp only[List.length_append];omega)
 obtain⟨r3,r4⟩:=z4f (.agg #[.int .i64 0,.int .i64 0]:Value).cells.toList (0+(i+(n-(i+1)))*2) _ _ r1 (by simp only[List.length_append,List.length_take,List.length_drop,Value.cells];(try simp);omega)
 have r5:=r2.trans r4
 refine⟨b,cap,(.agg #[.int .i64 0,.int .i64 0]:Value).cells.toList++rest,ty,rfl,?_,?_,by omega,.inl rfl,r5.os,r5.tape,r5.output,Nat.le_of_eq r5.size.symm,fun j hj hjb=>r5.block j fun e=>hjb (by rw[e])⟩
 ·rw[r3]
  congr 3
  have:=z8e (A:=A) (X:=X) (B:=B) (R:=rest) (Z:=(.agg #[.int .i64 0,.int .i64 0]:Value).cells.toList) (K:=2) hXl rfl rfl
  rw[←this]
  rw[show 0+(i+(n-(i+1)))*2=A.length+B.length by omega,show 0+i*2=A.length by omega]
  (try rfl)
 ·simp only[List.length_append]at hl⊢
  simp only[Value.cells]
  (try simp)
  omega
theorem yas (xs:List Pr) (i:Nat) (I J:Int) (hI:I=i) (hJ:J=i+1) (hi:i<xs.length):Go.VL.zr Try.prog 99 1 [.slc 0,.c (.int .i64 I),.c (.int .i64 J)] [(0,.arr (C.prs xs))] 1 (.slc 0) [(0,.arr (C.prs (xs.take i++xs.drop (i+1))))]:=by
 subst hI
 obtain rfl:J=((i+1:Nat):Int):=by omega
 refine⟨⟨_,Try.func99,by kernel_rfl,by kernel_rfl⟩,fun W I g argv hI hh hla ha=>?_⟩
 obtain⟨a,b,c,rfl⟩:∃a b c,argv=[a,b,c]:=by
  match argv,hla with
  |[a,b,c],_=>exact⟨a,b,c,rfl⟩
 have e0:=RV.slc_inv (ha 0 _ _ rfl rfl)
 have e1:=RV.int_inv (ha 1 _ _ rfl rfl)
 have e2:=RV.int_inv (ha 2 _ _ rfl rfl)
 subst e1;subst e2
 have hlen:(fl2 xs).length=xs.length*2:=z5m xs
 have hzl:(C.prs (xs.take i++xs.drop (i+1))).len=xs.length-1:=by
  show(xs.take i++xs.drop (i+1)).length=_
  simp only[List.length_append,List.length_take,List.length_drop]
  omega
 rcases ro2.1 (hh.obj 0 _ (List.mem_singleton.2 rfl)).2 with ⟨hg,h0⟩|⟨b,cap,rest,ty,hg,hb,hlc,hcap⟩
 ·omega
 ·rcases e0.2 with ⟨b',cap',len',hg',ha'⟩|⟨hg',_⟩
  ·rw[hg]at hg'
   cases hg'
   subst ha'
   refine(yay W xs.length i cap b (fl2 xs) rest ty hi hlen (z6l xs) hb hlc hcap).mono fun e w' hL=>?_
   refine z5t (k:=2) (cz:=fl2 (xs.take i++xs.drop (i+1))) (bo:=some b) hI hh (fun b hb=>?_) (fun h=>ro2.2 h) ?_
   ·cases hb;exact⟨_,hg⟩
   ·rw[z6k,←z6x,←z6u,hzl];exact hL
  ·rw[hg]at hg';cases hg'
end Go.Proofs
namespace Go.VL
open Go.Proofs
set_option maxRecDepth 10000
set_option linter.unusedSimpArgs false
set_option linter.unusedVariables false
theorem zrb (n:Int):zr Try.prog 96 0 [.c (.int .i64 n)] [] 0 (.c (.bool (decide (-1000≤n∧n≤1000)))) []:=by
 refine spi (fn:=Try.f96) _ ?_
 conv=>whnf
 repeat' first|(refine zk (fun h=>?_) (fun h=>?_)<;>(try simp only[qA]at h)<;>(try simp only[wA,wN]at h)<;>conv=>whnf)|refine zd ?_|refine zh ?_
 ·have h:-1000≤n:=by omega
  simp[h]
 ·simp;omega
theorem zsa (root:Int) (ps:List Pg) (bs:List Bool) (ld a:Int) (hp:pB ps) (h0:0≤a) (h1:a<ps.length):zr Try.prog 78 1 [.ptr 0 0 0 0,.c (.int .i64 a)] [(0,.box [.c (.int .i64 root),.c (.pgs ps)] bs [.c (.int .i64 ld)])] 1 (.c (.bool (zir (zb ps a) (decide (a=root))))) [(0,.box [.c (.int .i64 root),.c (.pgs ps)] bs [.c (.int .i64 ld)])]:=by
 have k1:=hp.keys a
 have k2:=hp.kids a
 have k3:=hp.vals a
 have hvk:=zfj (zb ps a).keys k1
 have e:zir (zb ps a) (decide (a=root))=zir (zb ps a) (decide (a=root)):=rfl
 conv at e=>rhs;unfold zir
 obtain⟨X,hX⟩:∃X,zir (zb ps a) (decide (a=root))=X:=⟨_,rfl⟩
 rw[hX]at e⊢
 clear hX
 obtain⟨VK,hVK⟩:∃VK,za2 (zb ps a).keys=VK:=⟨_,rfl⟩
 rw[hVK]at e hvk
 obtain⟨AL,hAL⟩:∃AL,((zb ps a).vals.all fun x=>decide (-1000≤x∧x≤1000))=AL:=⟨_,rfl⟩
 rw[hAL]at e
 clear hVK
 dsimp only[zb]at e k1 k2 k3 hvk hAL
 simp only[decide_eq_false_iff_not]at e
 refine spi (fn:=Try.f78) _ ?_
 conv=>whnf
 repeat' first
  |(refine zn ?_ ?_;(focus ((try simp only[qA])<;>(try simp only[wA])<;>omega));conv=>whnf)
  |(refine za (by(try simp only[wA,wL])<;>omega) ?_;conv=>whnf)
  |(refine zk (fun h=>?_) (fun h=>?_)<;>(try simp only[qA]at h)<;>(try simp only[wA]at h)<;>conv=>whnf)
  |(refine zg (by(try simp only[wA,wL])<;>omega) (by(try simp only[wA,wL])<;>omega) ?_;conv=>whnf)
  |(refine zp (hvk) rfl rfl ?_;conv=>whnf)
 all_goals first
  |(rw[show X=false from by(rw[e];(repeat' split)<;>first|rfl|assumption|(exfalso;omega)|exact decide_eq_false (by omega)|exact decide_eq_true (by omega)|(exfalso;exact Bool.noConfusion (Eq.trans (Eq.symm ‹VK=true›) ‹VK=false›)))];exact(zu [] [0]))
  |(rw[show X=true from by(rw[e];(repeat' split)<;>first|rfl|assumption|(exfalso;omega)|exact decide_eq_false (by omega)|exact decide_eq_true (by omega)|(exfalso;exact Bool.noConfusion (Eq.trans (Eq.symm ‹VK=true›) ‹VK=false›)))];exact(zu [] [0]))
  |(rw[show X=(((ps.getD a.toNat ⟨[],[],[]⟩).kids.length:Int)==((ps.getD a.toNat ⟨[],[],[]⟩).keys.length:Int)+1)from by(rw[e];(repeat' split)<;>first|(rw[Bool.eq_iff_iff,q3,q5];omega)|assumption|(exfalso;omega)|exact decide_eq_false (by omega)|exact decide_eq_true (by omega)|(exfalso;exact Bool.noConfusion (Eq.trans (Eq.symm ‹VK=true›) ‹VK=false›)))];exact(zu [] [0]))
  |skip
 all_goals
  have e:X=AL:=by(rw[e];(repeat' split)<;>first|rfl|assumption|(exfalso;omega)|exact decide_eq_false (by omega)|exact decide_eq_true (by omega)|(exfalso;exact Bool.noConfusion (Eq.trans (Eq.symm ‹VK=true›) ‹VK=false›)))
  rw[e]
  rw[←hAL]
  clear hAL e
  generalize (ps.getD a.toNat ⟨[],[],[]⟩).vals=L at *
  refine zau (fun k:Nat=>(L.take k).all (fun x=>decide (-1000≤x∧x≤1000))=true) (fun k=>⟨81,1,[(71,.c (.nums .i64 L)),(72,.c (.int .i64 L.length)),(73,.c (.int .i64 k))],[(0,.box [.c (.int .i64 root),.c (.pgs ps)] bs [.c (.int .i64 ld)])]⟩) (fun k=>L.length-k) 0 (by simp) (fun _=>Nat.le_refl _) (ydn [] [0]) (fun k hk=>?_)
  conv=>whnf
  repeat' first
   |(refine za (by(try simp only[wA,wN,wL])<;>omega) ?_;conv=>whnf)
   |(refine zk (fun h=>?_) (fun h=>?_)<;>(try simp only[qA]at h)<;>(try simp only[wA,wN]at h)<;>conv=>whnf)
   |(refine zg (by(try simp only[wA,wN,wL])<;>omega) (by(try simp only[wA,wN,wL])<;>omega) ?_;conv=>whnf)
   |(refine zp (zrb _) rfl rfl ?_;conv=>whnf)
  ·rename_i h1
   rw[show L.all (fun x=>decide (-1000≤x∧x≤1000))=false from zf6 0 (k:=k) (by omega) (by simp at h⊢;omega)]
   exact(zu [] [0])
  ·rename_i h1
   refine⟨⟨k+1,zeg 0 hk (by omega) (by simpa using h)⟩,(ydn [] [0]),by dsimp only;omega⟩
  ·rw[show L.all (fun x=>decide (-1000≤x∧x≤1000))=true from zh3 hk (by omega)]
   exact(zu [] [0])
end Go.VL
