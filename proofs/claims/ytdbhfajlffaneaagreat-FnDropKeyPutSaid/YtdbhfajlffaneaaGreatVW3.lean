/- V-logic -/
import Derived.Test.YtdbhfajlffaneaaGreatVIns1
import Derived.Test.YtdbhfajlffaneaaGreatVT1
import Derived.Test.YtdbhfajlffaneaaGreatVEF
import Derived.Test.YtdbhfajlffaneaaGreatVMA
import Derived.Test.YtdbhfajlffaneaaGreatVPE
namespace Go.Proofs
open Go.RowKit Go.Lib Go.VL
set_option linter.unusedVariables false
set_option linter.unusedSimpArgs false
set_option maxHeartbeats 1000000 in
theorem yat (w:World) (n i:Nat) (cs vs:List Value) (vb voff vc:Nat) (s:Value) (bo:Option Nat) (hi:i≤n) (hn:n≤1000000) (hcl:cs.length=n*1) (hvl:vs.length=1) (h1c:∀v∈cs,v.oneCell'=true) (h1v:∀v∈vs,v.oneCell'=true)
  (hv:∀j v,vs[j]? = some v→w.cell? ⟨vb,voff+j,none⟩=some v)
  (hs:(s=.slice none 0 0∧bo=none∧n=0)∨∃b cap rest ty,s=.slice (some ⟨b,0,none⟩) n cap∧bo=some b∧w.heap[b]? = some (.cells (cs++rest).toArray ty (0,0))∧(cs++rest).length=cap*1∧n≤cap∧vb≠b) :
  Calls Tryz.prog 135 #[s,.int .i64 i,.slice (some ⟨vb,voff,none⟩) 1 vc] w (z5n w bo 1 (n+1) (cs.take (i*1)++(vs++cs.drop (i*1)))):=by
 have hv0:=hv 0 _ (List.getElem?_eq_getElem (by omega))
 obtain⟨tA,kA,hsa,hkA⟩:=z67 hv0
 have endG:∀(base:Option Addr) (c:Nat),i=n→n≤c→c<n+1→(base=none→n=0)→(∀a,base=some a→∀j v,cs[j]? = some v→w.cell? (a.add j)=some v) →
   Calls Tryz.prog 135 #[.slice base n c,.int .i64 i,.slice (some ⟨vb,voff,none⟩) 1 vc] w (z5n w bo 1 (n+1) (cs.take (i*1)++(vs++cs.drop (i*1)))):=λbase c hin h1 h2 h3 h4=>by
  subst hin
  refine(z70 base i c vb voff 1 vc cs vs w (by omega) h1 h2 (by omega) hcl (by omega) h3 h4 hv h1v).mono ?_
  rintro e w' ⟨rfl,rfl⟩
  have hG:=grownCap_ge w (i+1) c 3
  generalize grownCap w (i+1) c 3=G at hG⊢
  have e1:cs.take (i*1)=cs:=List.take_of_length_le (by omega)
  have e2:cs.drop (i*1)=[]:=List.drop_eq_nil_of_le (by omega)
  rw[e1,e2,List.append_nil]
  refine⟨w.heap.size,G,(Builtin.zeroCells (.int .i64 0:Value).cells (G-(i+1))).toList,3,rfl,?_,?_,hG,.inr (Nat.le_refl _),rfl,rfl,rfl,?_,λj hj _=>?_⟩
  ·show(w.heap.push _)[w.heap.size]? = _
   simp
  ·rw[List.length_append,List.length_append,z41]
   simp only[Value.cells]
   simp
   omega
  ·show _≤(w.heap.push _).size
   simp
  ·show(w.heap.push _)[j]? = _
   rw[Array.getElem?_push,if_neg (by omega)]
 rcases hs with ⟨rfl,hbo,h0⟩|⟨b,cap,rest,ty,rfl,rfl,hb,hl,hcap,hne⟩
 ·subst h0
  have:=endG none 0 (by omega) (Nat.le_refl _) (by omega) (λ_=>rfl) (λa h=>by cases h)
  exact this
 ·have hcell:∀j v,cs[j]? = some v→w.cell? ⟨b,0+j,none⟩=some v:=λj v hj=>by
   rw[Nat.zero_add,z5b hb,List.getElem?_append_left (List.getElem?_eq_some_iff.1 hj).1];exact hj
  have hcs:∀j,j<cap*1→(w.cell? ⟨b,0+j,none⟩).isSome=true:=λj hj=>by
   rw[Nat.zero_add,z5b hb,List.getElem?_eq_getElem (by omega)];rfl
  have hfr:∀j,w.frozen? ⟨b,j,none⟩=false:=z53 hb
  have hsb:=z7u hb
  have hll:(cs++rest).length=cs.length+rest.length:=List.length_append
  by_cases hr:n+1≤cap
  ·by_cases hin:i=n
   ·subst hin
    have:=z7y b 0 i cap vb voff 1 vc vs w (by omega) hr (by omega) (by omega) (λj hj=>by rw[Nat.add_assoc];exact hcs _ (by omega)) (λj hj=>by exact hfr _) hv h1v
    refine this.mono ?_
    rintro e w' ⟨rfl,rfl⟩
    have e1:cs.take (i*1)=cs:=List.take_of_length_le (by omega)
    have e2:cs.drop (i*1)=[]:=List.drop_eq_nil_of_le (by omega)
    rw[e1,e2,List.append_nil]
    obtain⟨r1,r2⟩:=z4f vs (0+i) w _ hb (by omega)
    refine⟨b,cap,rest.drop 1,ty,rfl,?_,?_,hr,.inl rfl,r2.os,r2.tape,r2.output,Nat.le_of_eq r2.size.symm,λj hj hjb=>r2.block j λe=>hjb (by rw[e])⟩
    ·rw[r1]
     congr 3
     rw[List.take_left' (by omega),List.drop_append,List.drop_eq_nil_of_le (by omega),List.nil_append]
     congr 2
     omega
    ·rw[List.length_append,List.length_append,List.length_drop]
     omega
   ·have:=z9h b 0 n cap i vb voff 1 vc cs vs w (by omega) (by omega) hr (by omega) hne hcl (by omega) hcell (λj hj=>hcs j (by have:(n+1)*1≤cap*1:=Nat.mul_le_mul_right _ hr;omega)) (λj hj=>hfr _) hv h1c h1v tA ty kA _ hsa hsb hkA (by omega) hfr
    refine this.mono ?_
    rintro e w' ⟨rfl,rfl⟩
    have hR:1≤rest.length:=by have:(n+1)*1≤cap*1:=Nat.mul_le_mul_right _ hr;omega
    have hA:(cs.take (i*1)).length=i*1:=by rw[List.length_take];omega
    have hAB:cs.take (i*1)++cs.drop (i*1)=cs:=List.take_append_drop _ _
    obtain⟨A,hAe⟩:∃A,A=cs.take (i*1):=⟨_,rfl⟩
    obtain⟨B,hBe⟩:∃B,B=cs.drop (i*1):=⟨_,rfl⟩
    have hBe':cs.drop (i)=B:=by subst hBe;first|rfl|(congr 1;omega)
    (try rw[hBe'])
    rw[←hAe,←hBe]at hAB
    (try rw[←hAe])
    (try rw[←hBe])
    rw[←hAe]at hA
    rw[←hAB]at hb hl hll
    have hBl:B.length=(n-i)*1:=by rw[hBe,List.length_drop];omega
    obtain⟨r1,r2⟩:=z4f B (0+(i+1)) w.drew _ hb (by omega)
    obtain⟨r3,r4⟩:=z4f vs (0+i) _ _ r1 (by simp only[List.length_append,List.length_take,List.length_drop];omega)
    have r5:=r2.trans r4
    refine⟨b,cap,rest.drop 1,ty,rfl,?_,?_,hr,.inl rfl,r5.os,r5.tape,r5.output,Nat.le_of_eq r5.size.symm,λj hj hjb=>r5.block j λe=>hjb (by rw[e])⟩
    ·rw[r3]
     congr 3
     have:=z8o (A:=A) (B:=B) (R:=rest) (V:=vs) (K:=1) hvl hR rfl
     rw[←this,hA,show 0+i=i*1 by omega,show 0+(i+1)=i*1+1 by omega,show i*1+vs.length=i*1+1 by omega]
    ·rw[List.length_append,List.length_append,List.length_append,List.length_drop]
     simp only[List.length_append]at hl hll
     omega
  ·by_cases hin:i=n
   ·exact endG (some ⟨b,0,none⟩) cap hin hcap (by omega) (λh=>by cases h) (λa ha j v hj=>by cases ha;rw[Addr.add_lit];exact hcell j v hj)
   ·refine(z9z b 0 n cap i vb voff 1 vc cs vs w (by omega) (by omega) hcap (by omega) (by omega) hcl (by omega) hcell hv h1c h1v).mono ?_
    rintro e w' ⟨rfl,rfl⟩
    have hG:=grownCap_ge w (n+1) cap 3
    generalize grownCap w (n+1) cap 3=G at hG⊢
    have hA:(cs.take (i*1)).length=i*1:=by rw[List.length_take];omega
    have hAB:cs.take (i*1)++cs.drop (i*1)=cs:=List.take_append_drop _ _
    have hBl:(cs.drop (i*1)).length=(n-i)*1:=by rw[List.length_drop];omega
    obtain⟨A,hAe⟩:∃A,A=cs.take (i*1):=⟨_,rfl⟩
    obtain⟨B,hBe⟩:∃B,B=cs.drop (i*1):=⟨_,rfl⟩
    have hAe':cs.take (i)=A:=by subst hAe;first|rfl|(congr 1;omega)
    have hBe':cs.drop (i)=B:=by subst hBe;first|rfl|(congr 1;omega)
    (try rw[hAe'])
    (try rw[hBe'])
    rw[←hAe]at hA
    rw[←hBe]at hBl
    (try rw[←hAe])
    (try rw[←hBe])
    obtain⟨Z,hZ⟩:∃Z,Z=(Builtin.zeroCells (.int .i64 0:Value).cells (n+1-i)).toList++(Builtin.zeroCells (.int .i64 0:Value).cells (G-(n+1))).toList:=⟨_,rfl⟩
    have hrow:A.toArray++Builtin.zeroCells (.int .i64 0:Value).cells (n+1-i)++Builtin.zeroCells (.int .i64 0:Value).cells (G-(n+1))=(A++Z).toArray:=by
     rw[hZ]
     apply Array.ext'
     simp
    have hZl:Z.length=(n+1-i)*1+(G-(n+1))*1:=by
     rw[hZ,List.length_append,z41,z41];rfl
    rw[hrow]
    have hb0:((w.alloc (.cells (A++Z).toArray 3)).drew).heap[w.heap.size]? = some (.cells (A++Z).toArray 3 (0,0)):=by
     show(w.heap.push _)[w.heap.size]? = _
     simp
    obtain⟨r1,r2⟩:=z4f vs (i) _ _ hb0 (by rw[List.length_append];omega)
    obtain⟨r3,r4⟩:=z4f (w:=((w.alloc (.cells (A++Z).toArray 3)).drew.setCells w.heap.size (i) vs).drew) B ((i+1)) _ r1 (by simp only[List.length_append,List.length_take,List.length_drop];omega)
    have r5:=r2.trans (w:=_) ⟨r4.os,r4.tape,r4.output,r4.size,r4.block⟩
    refine⟨w.heap.size,G,Z.drop (1+B.length),3,rfl,?_,?_,hG,.inr (Nat.le_refl _),r5.os,r5.tape,r5.output,?_,λj hj hjb=>?_⟩
    ·rw[r3]
     congr 3
     refine Eq.trans ?_ (z7n (A:=A) (B:=B) (Z:=Z) (V:=vs) (K:=1) hvl (by omega) rfl)
     rw[show((i+1))=A.length+1 by omega,show(i)+vs.length=A.length+1 by omega,show(i)=A.length by omega]
    ·rw[List.length_append,List.length_append,List.length_append,List.length_drop]
     omega
    ·refine Nat.le_trans ?_ (Nat.le_of_eq r5.size.symm)
     show _≤(w.heap.push _).size
     simp
    ·refine(r5.block j (by omega)).trans ?_
     show(w.heap.push _)[j]? = _
     rw[Array.getElem?_push,if_neg (by omega)]
theorem z8r (xs:List Int) (i:Nat) (v:Int) (hi:i≤xs.length) (hl:xs.length≤1000000):Go.VL.zr Tryz.prog 135 1 [.slc 0,.c (.int .i64 i),.c (C.nums .i64 [v])] [(0,.arr (C.nums .i64 xs))] 1 (.slc 0) [(0,.arr (C.nums .i64 (xs.take i++v::xs.drop i)))]:=by
 refine⟨⟨_,Tryz.func135,by kernel_rfl,by kernel_rfl⟩,λW I g argv hI hh hla ha=>?_⟩
 obtain⟨a,b,c,rfl⟩:∃a b c,argv=[a,b,c]:=by
  match argv,hla with
  |[a,b,c],_=>exact⟨a,b,c,rfl⟩
 have e0:=RV.slc_inv (ha 0 _ _ rfl rfl)
 have e1:=RV.int_inv (ha 1 _ _ rfl rfl)
 have e2:=ha 2 _ _ rfl rfl
 subst e1
 have hro:=ro1.1 (hh.obj 0 _ (List.mem_singleton.2 rfl)).2
 have hvals:∃vb voff vc,c=.slice (some ⟨vb,voff,none⟩) 1 vc∧I vb∧∀j u,(fl1 [v])[j]? = some u→W.cell? ⟨vb,voff+j,none⟩=some u:=by
  cases e2 with
  |c _ _ hrc =>
   cases hrc with
   |empty _ _ _ hs h0=>exact absurd h0 Nat.one_ne_zero
   |sl _ vb voff cap val hs hIb hcap hc hr =>
    refine⟨vb,voff,cap,rfl,hIb,λj u hj=>?_⟩
    match j with
    |0 =>
     cases hj
     have q:=hc 0 0 _ Nat.zero_lt_one rfl
     have r:=z5z (hr 0 0 _ Nat.zero_lt_one rfl)
     rw[r]at q
     exact q
    |j+1=>cases hj
 obtain⟨vb,voff,vc,rfl,hIv,hvc⟩:=hvals
 have hlen:(fl1 xs).length=xs.length*1:=z6n xs
 have hz:fl1 (xs.take i++v::xs.drop i)=(fl1 xs).take (i*1)++(fl1 [v]++(fl1 xs).drop (i*1)):=by
  rw[z75,z8j,←z7k,←z7k];rfl
 have hzl:(C.nums .i64 (xs.take i++v::xs.drop i)).len=xs.length+1:=by
  show(xs.take i++v::xs.drop i).length=_
  simp only[List.length_append,List.length_cons,List.length_take,List.length_drop]
  omega
 have key:=yat W xs.length i (fl1 xs) (fl1 [v]) vb voff vc a ((g 0).map (·.1)) hi hl hlen rfl (z7a xs) (z7a [v]) hvc ?_
 ·refine key.mono λe w' hL=>?_
  refine z5t (k:=1) (cz:=fl1 (xs.take i++v::xs.drop i)) (bo:=(g 0).map (·.1)) hI hh (λb hb=>?_) (λh=>ro1.2 h) ?_
  ·cases hg:g 0 with
   |none=>rw[hg]at hb;cases hb
   |some q=>rw[hg]at hb;cases hb;exact⟨q.2,rfl⟩
  ·rw[hz,hzl];exact hL
 ·rcases hro with ⟨hg,h0⟩|⟨b,cap,rest,ty,hg,hb,hlc,hcap⟩
  ·left
   rcases e0.2 with ⟨b,cap,len,hg',_⟩|⟨_,ha'⟩
   ·rw[hg]at hg';cases hg'
   ·exact⟨ha',by rw[hg];rfl,h0⟩
  ·right
   rcases e0.2 with ⟨b',cap',len',hg',ha'⟩|⟨hg',_⟩
   ·rw[hg]at hg'
    cases hg'
    refine⟨b,cap,rest,ty,ha',by rw[hg];rfl,hb,hlc,hcap,λe=>?_⟩
    exact(hh.apart 0 _ b (List.mem_singleton.2 rfl) (.inl ⟨_,hg⟩)).1 (e▸hIv)
   ·rw[hg]at hg';cases hg'
theorem ybl (w:World) (n i cap:Nat) (b:Nat) (cs rest:List Value) (ty:TypeId) (hi:i<n) (hcl:cs.length=n*1) (h1c:∀v∈cs,v.oneCell'=true)
  (hb:w.heap[b]? = some (.cells (cs++rest).toArray ty (0,0))) (hl:(cs++rest).length=cap*1) (hcap:n≤cap) :
  Calls Tryz.prog 177 #[.slice (some ⟨b,0,none⟩) n cap,.int .i64 i,.int .i64 ((i+1:Nat):Int)] w (z5n w (some b) 1 (n-1) (cs.take (i*1)++cs.drop ((i+1)*1))):=by
 have hll:(cs++rest).length=cs.length+rest.length:=List.length_append
 have hcell:∀j v,cs[j]? = some v→w.cell? ⟨b,0+j,none⟩=some v:=λj v hj=>by
  rw[Nat.zero_add,z5b hb,List.getElem?_append_left (List.getElem?_eq_some_iff.1 hj).1];exact hj
 refine(yaq b 0 n cap i (i+1) cs w rfl (by omega) hcap hcl hcell (z53 hb) h1c).mono ?_
 rintro e w' ⟨rfl,rfl⟩
 obtain⟨A,hA⟩:∃A,A=cs.take (i*1):=⟨_,rfl⟩
 obtain⟨X,hX⟩:∃X,X=(cs.drop (i*1)).take 1:=⟨_,rfl⟩
 obtain⟨B,hB⟩:∃B,B=cs.drop ((i+1)*1):=⟨_,rfl⟩
 have hAl:A.length=i*1:=by rw[hA,List.length_take];omega
 have hXl:X.length=1:=by rw[hX,List.length_take,List.length_drop];omega
 have hBl:B.length=(n-(i+1))*1:=by rw[hB,List.length_drop];omega
 have hc:cs=A++(X++B):=by
  have e1:=List.take_append_drop (i*1) cs
  have e2:=List.take_append_drop 1 (cs.drop (i*1))
  rw[List.drop_drop,show i*1+1=(i+1)*1 by omega]at e2
  rw[hX,hB,e2,hA,e1]
 have hB':cs.drop ((i+1))=B:=by rw[hB];(try rfl);(try (congr 1;omega))
 (try rw[hB'])
 rw[←hA]
 (try rw[←hB])
 rw[hc]at hb hl hll
 obtain⟨r1,r2⟩:=z4f B (0+i*1) w.drew _ hb (by simp only[List.length_append];omega)
 obtain⟨r3,r4⟩:=z4f (.int .i64 0:Value).cells.toList (0+(i+(n-(i+1)))) _ _ r1 (by simp only[List.length_append,List.length_take,List.length_drop,Value.cells];(try simp);omega)
 have r5:=r2.trans r4
 refine⟨b,cap,(.int .i64 0:Value).cells.toList++rest,ty,rfl,?_,?_,by omega,.inl rfl,r5.os,r5.tape,r5.output,Nat.le_of_eq r5.size.symm,λj hj hjb=>r5.block j λe=>hjb (by rw[e])⟩
 ·rw[r3]
  congr 3
  have:=z8e (A:=A) (X:=X) (B:=B) (R:=rest) (Z:=(.int .i64 0:Value).cells.toList) (K:=1) hXl rfl rfl
  rw[←this]
  rw[show 0+(i+(n-(i+1)))=A.length+B.length by omega,show 0+i*1=A.length by omega]
  (try rfl)
 ·simp only[List.length_append]at hl⊢
  simp only[Value.cells]
  (try simp)
  omega
theorem z8p (xs:List Int) (i:Nat) (I J:Int) (hI:I=i) (hJ:J=i+1) (hi:i<xs.length):Go.VL.zr Tryz.prog 177 1 [.slc 0,.c (.int .i64 I),.c (.int .i64 J)] [(0,.arr (C.nums .i64 xs))] 1 (.slc 0) [(0,.arr (C.nums .i64 (xs.take i++xs.drop (i+1))))]:=by
 subst hI
 obtain rfl:J=((i+1:Nat):Int):=by omega
 refine⟨⟨_,Tryz.func177,by kernel_rfl,by kernel_rfl⟩,λW I g argv hI hh hla ha=>?_⟩
 obtain⟨a,b,c,rfl⟩:∃a b c,argv=[a,b,c]:=by
  match argv,hla with
  |[a,b,c],_=>exact⟨a,b,c,rfl⟩
 have e0:=RV.slc_inv (ha 0 _ _ rfl rfl)
 have e1:=RV.int_inv (ha 1 _ _ rfl rfl)
 have e2:=RV.int_inv (ha 2 _ _ rfl rfl)
 subst e1;subst e2
 have hlen:(fl1 xs).length=xs.length*1:=z6n xs
 have hzl:(C.nums .i64 (xs.take i++xs.drop (i+1))).len=xs.length-1:=by
  show(xs.take i++xs.drop (i+1)).length=_
  simp only[List.length_append,List.length_take,List.length_drop]
  omega
 rcases ro1.1 (hh.obj 0 _ (List.mem_singleton.2 rfl)).2 with ⟨hg,h0⟩|⟨b,cap,rest,ty,hg,hb,hlc,hcap⟩
 ·omega
 ·rcases e0.2 with ⟨b',cap',len',hg',ha'⟩|⟨hg',_⟩
  ·rw[hg]at hg'
   cases hg'
   subst ha'
   refine(ybl W xs.length i cap b (fl1 xs) rest ty hi hlen (z7a xs) hb hlc hcap).mono λe w' hL=>?_
   refine z5t (k:=1) (cz:=fl1 (xs.take i++xs.drop (i+1))) (bo:=some b) hI hh (λb hb=>?_) (λh=>ro1.2 h) ?_
   ·cases hb;exact⟨_,hg⟩
   ·rw[z7k,←z75,←z8j,hzl];exact hL
  ·rw[hg]at hg';cases hg'
set_option maxHeartbeats 1000000 in
theorem ybe (w:World) (n i:Nat) (cs vs:List Value) (vb voff vc:Nat) (s:Value) (bo:Option Nat) (hi:i≤n) (hn:n≤1000000) (hcl:cs.length=n*2) (hvl:vs.length=2) (h1c:∀v∈cs,v.oneCell'=true) (h1v:∀v∈vs,v.oneCell'=true)
  (hv:∀j v,vs[j]? = some v→w.cell? ⟨vb,voff+j,none⟩=some v)
  (hs:(s=.slice none 0 0∧bo=none∧n=0)∨∃b cap rest ty,s=.slice (some ⟨b,0,none⟩) n cap∧bo=some b∧w.heap[b]? = some (.cells (cs++rest).toArray ty (0,0))∧(cs++rest).length=cap*2∧n≤cap∧vb≠b) :
  Calls Tryz.prog 131 #[s,.int .i64 i,.slice (some ⟨vb,voff,none⟩) 1 vc] w (z5n w bo 2 (n+1) (cs.take (i*2)++(vs++cs.drop (i*2)))):=by
 have hv0:=hv 0 _ (List.getElem?_eq_getElem (by omega))
 obtain⟨tA,kA,hsa,hkA⟩:=z67 hv0
 have endG:∀(base:Option Addr) (c:Nat),i=n→n≤c→c<n+1→(base=none→n=0)→(∀a,base=some a→∀j v,cs[j]? = some v→w.cell? (a.add j)=some v) →
   Calls Tryz.prog 131 #[.slice base n c,.int .i64 i,.slice (some ⟨vb,voff,none⟩) 1 vc] w (z5n w bo 2 (n+1) (cs.take (i*2)++(vs++cs.drop (i*2)))):=λbase c hin h1 h2 h3 h4=>by
  subst hin
  refine(z72 base i c vb voff 1 vc cs vs w (by omega) h1 h2 (by omega) hcl (by omega) h3 h4 hv h1v).mono ?_
  rintro e w' ⟨rfl,rfl⟩
  have hG:=grownCap_ge w (i+1) c 71
  generalize grownCap w (i+1) c 71=G at hG⊢
  have e1:cs.take (i*2)=cs:=List.take_of_length_le (by omega)
  have e2:cs.drop (i*2)=[]:=List.drop_eq_nil_of_le (by omega)
  rw[e1,e2,List.append_nil]
  refine⟨w.heap.size,G,(Builtin.zeroCells (.agg #[.int .i64 0,.int .i64 0]:Value).cells (G-(i+1))).toList,71,rfl,?_,?_,hG,.inr (Nat.le_refl _),rfl,rfl,rfl,?_,λj hj _=>?_⟩
  ·show(w.heap.push _)[w.heap.size]? = _
   simp
  ·rw[List.length_append,List.length_append,z41]
   simp only[Value.cells]
   simp
   omega
  ·show _≤(w.heap.push _).size
   simp
  ·show(w.heap.push _)[j]? = _
   rw[Array.getElem?_push,if_neg (by omega)]
 rcases hs with ⟨rfl,hbo,h0⟩|⟨b,cap,rest,ty,rfl,rfl,hb,hl,hcap,hne⟩
 ·subst h0
  have:=endG none 0 (by omega) (Nat.le_refl _) (by omega) (λ_=>rfl) (λa h=>by cases h)
  exact this
 ·have hcell:∀j v,cs[j]? = some v→w.cell? ⟨b,0+j,none⟩=some v:=λj v hj=>by
   rw[Nat.zero_add,z5b hb,List.getElem?_append_left (List.getElem?_eq_some_iff.1 hj).1];exact hj
  have hcs:∀j,j<cap*2→(w.cell? ⟨b,0+j,none⟩).isSome=true:=λj hj=>by
   rw[Nat.zero_add,z5b hb,List.getElem?_eq_getElem (by omega)];rfl
  have hfr:∀j,w.frozen? ⟨b,j,none⟩=false:=z53 hb
  have hsb:=z7u hb
  have hll:(cs++rest).length=cs.length+rest.length:=List.length_append
  by_cases hr:n+1≤cap
  ·by_cases hin:i=n
   ·subst hin
    have:=z7z b 0 i cap vb voff 1 vc vs w (by omega) hr (by omega) (by omega) (λj hj=>by rw[Nat.add_assoc];exact hcs _ (by omega)) (λj hj=>by exact hfr _) hv h1v
    refine this.mono ?_
    rintro e w' ⟨rfl,rfl⟩
    have e1:cs.take (i*2)=cs:=List.take_of_length_le (by omega)
    have e2:cs.drop (i*2)=[]:=List.drop_eq_nil_of_le (by omega)
    rw[e1,e2,List.append_nil]
    obtain⟨r1,r2⟩:=z4f vs (0+i*2) w _ hb (by omega)
    refine⟨b,cap,rest.drop 2,ty,rfl,?_,?_,hr,.inl rfl,r2.os,r2.tape,r2.output,Nat.le_of_eq r2.size.symm,λj hj hjb=>r2.block j λe=>hjb (by rw[e])⟩
    ·rw[r1]
     congr 3
     rw[List.take_left' (by omega),List.drop_append,List.drop_eq_nil_of_le (by omega),List.nil_append]
     congr 2
     omega
    ·rw[List.length_append,List.length_append,List.length_drop]
     omega
   ·have:=z9l b 0 n cap i vb voff 1 vc cs vs w (by omega) (by omega) hr (by omega) hne hcl (by omega) hcell (λj hj=>hcs j (by have:(n+1)*2≤cap*2:=Nat.mul_le_mul_right _ hr;omega)) (λj hj=>hfr _) hv h1c h1v tA ty kA _ hsa hsb hkA (by omega) hfr
    refine this.mono ?_
    rintro e w' ⟨rfl,rfl⟩
    have hR:2≤rest.length:=by have:(n+1)*2≤cap*2:=Nat.mul_le_mul_right _ hr;omega
    have hA:(cs.take (i*2)).length=i*2:=by rw[List.length_take];omega
    have hAB:cs.take (i*2)++cs.drop (i*2)=cs:=List.take_append_drop _ _
    obtain⟨A,hAe⟩:∃A,A=cs.take (i*2):=⟨_,rfl⟩
    obtain⟨B,hBe⟩:∃B,B=cs.drop (i*2):=⟨_,rfl⟩
    have hBe':cs.drop (i*2)=B:=by subst hBe;first|rfl|(congr 1;omega)
    (try rw[hBe'])
    rw[←hAe,←hBe]at hAB
    (try rw[←hAe])
    (try rw[←hBe])
    rw[←hAe]at hA
    rw[←hAB]at hb hl hll
    have hBl:B.length=(n-i)*2:=by rw[hBe,List.length_drop];omega
    obtain⟨r1,r2⟩:=z4f B (0+(i+1)*2) w.drew _ hb (by omega)
    obtain⟨r3,r4⟩:=z4f vs (0+i*2) _ _ r1 (by simp only[List.length_append,List.length_take,List.length_drop];omega)
    have r5:=r2.trans r4
    refine⟨b,cap,rest.drop 2,ty,rfl,?_,?_,hr,.inl rfl,r5.os,r5.tape,r5.output,Nat.le_of_eq r5.size.symm,λj hj hjb=>r5.block j λe=>hjb (by rw[e])⟩
    ·rw[r3]
     congr 3
     have:=z8o (A:=A) (B:=B) (R:=rest) (V:=vs) (K:=2) hvl hR rfl
     rw[←this,hA,show 0+i*2=i*2 by omega,show 0+(i+1)*2=i*2+2 by omega,show i*2+vs.length=i*2+2 by omega]
    ·rw[List.length_append,List.length_append,List.length_append,List.length_drop]
     simp only[List.length_append]at hl hll
     omega
  ·by_cases hin:i=n
   ·exact endG (some ⟨b,0,none⟩) cap hin hcap (by omega) (λh=>by cases h) (λa ha j v hj=>by cases ha;rw[Addr.add_lit];exact hcell j v hj)
   ·refine(yaj b 0 n cap i vb voff 1 vc cs vs w (by omega) (by omega) hcap (by omega) (by omega) hcl (by omega) hcell hv h1c h1v).mono ?_
    rintro e w' ⟨rfl,rfl⟩
    have hG:=grownCap_ge w (n+1) cap 71
    generalize grownCap w (n+1) cap 71=G at hG⊢
    have hA:(cs.take (i*2)).length=i*2:=by rw[List.length_take];omega
    have hAB:cs.take (i*2)++cs.drop (i*2)=cs:=List.take_append_drop _ _
    have hBl:(cs.drop (i*2)).length=(n-i)*2:=by rw[List.length_drop];omega
    obtain⟨A,hAe⟩:∃A,A=cs.take (i*2):=⟨_,rfl⟩
    obtain⟨B,hBe⟩:∃B,B=cs.drop (i*2):=⟨_,rfl⟩
    have hAe':cs.take (i*2)=A:=by subst hAe;first|rfl|(congr 1;omega)
    have hBe':cs.drop (i*2)=B:=by subst hBe;first|rfl|(congr 1;omega)
    (try rw[hAe'])
    (try rw[hBe'])
    rw[←hAe]at hA
    rw[←hBe]at hBl
    (try rw[←hAe])
    (try rw[←hBe])
    obtain⟨Z,hZ⟩:∃Z,Z=(Builtin.zeroCells (.agg #[.int .i64 0,.int .i64 0]:Value).cells (n+1-i)).toList++(Builtin.zeroCells (.agg #[.int .i64 0,.int .i64 0]:Value).cells (G-(n+1))).toList:=⟨_,rfl⟩
    have hrow:A.toArray++Builtin.zeroCells (.agg #[.int .i64 0,.int .i64 0]:Value).cells (n+1-i)++Builtin.zeroCells (.agg #[.int .i64 0,.int .i64 0]:Value).cells (G-(n+1))=(A++Z).toArray:=by
     rw[hZ]
     apply Array.ext'
     simp
    have hZl:Z.length=(n+1-i)*2+(G-(n+1))*2:=by
     rw[hZ,List.length_append,z41,z41];rfl
    rw[hrow]
    have hb0:((w.alloc (.cells (A++Z).toArray 71)).drew).heap[w.heap.size]? = some (.cells (A++Z).toArray 71 (0,0)):=by
     show(w.heap.push _)[w.heap.size]? = _
     simp
    obtain⟨r1,r2⟩:=z4f vs (i*2) _ _ hb0 (by rw[List.length_append];omega)
    obtain⟨r3,r4⟩:=z4f (w:=((w.alloc (.cells (A++Z).toArray 71)).drew.setCells w.heap.size (i*2) vs).drew) B ((i+1)*2) _ r1 (by simp only[List.length_append,List.length_take,List.length_drop];omega)
    have r5:=r2.trans (w:=_) ⟨r4.os,r4.tape,r4.output,r4.size,r4.block⟩
    refine⟨w.heap.size,G,Z.drop (2+B.length),71,rfl,?_,?_,hG,.inr (Nat.le_refl _),r5.os,r5.tape,r5.output,?_,λj hj hjb=>?_⟩
    ·rw[r3]
     congr 3
     refine Eq.trans ?_ (z7n (A:=A) (B:=B) (Z:=Z) (V:=vs) (K:=2) hvl (by omega) rfl)
     rw[show((i+1)*2)=A.length+2 by omega,show(i*2)+vs.length=A.length+2 by omega,show(i*2)=A.length by omega]
    ·rw[List.length_append,List.length_append,List.length_append,List.length_drop]
     omega
    ·refine Nat.le_trans ?_ (Nat.le_of_eq r5.size.symm)
     show _≤(w.heap.push _).size
     simp
    ·refine(r5.block j (by omega)).trans ?_
     show(w.heap.push _)[j]? = _
     rw[Array.getElem?_push,if_neg (by omega)]
theorem yap (xs:List Pr) (i:Nat) (v:Pr) (hi:i≤xs.length) (hl:xs.length≤1000000):Go.VL.zr Tryz.prog 131 1 [.slc 0,.c (.int .i64 i),.c (C.prs [v])] [(0,.arr (C.prs xs))] 1 (.slc 0) [(0,.arr (C.prs (xs.take i++v::xs.drop i)))]:=by
 refine⟨⟨_,Tryz.func131,by kernel_rfl,by kernel_rfl⟩,λW I g argv hI hh hla ha=>?_⟩
 obtain⟨a,b,c,rfl⟩:∃a b c,argv=[a,b,c]:=by
  match argv,hla with
  |[a,b,c],_=>exact⟨a,b,c,rfl⟩
 have e0:=RV.slc_inv (ha 0 _ _ rfl rfl)
 have e1:=RV.int_inv (ha 1 _ _ rfl rfl)
 have e2:=ha 2 _ _ rfl rfl
 subst e1
 have hro:=ro2.1 (hh.obj 0 _ (List.mem_singleton.2 rfl)).2
 have hvals:∃vb voff vc,c=.slice (some ⟨vb,voff,none⟩) 1 vc∧I vb∧∀j u,(fl2 [v])[j]? = some u→W.cell? ⟨vb,voff+j,none⟩=some u:=by
  cases e2 with
  |c _ _ hrc =>
   cases hrc with
   |empty _ _ _ hs h0=>exact absurd h0 Nat.one_ne_zero
   |sl _ vb voff cap val hs hIb hcap hc hr =>
    refine⟨vb,voff,cap,rfl,hIb,λj u hj=>?_⟩
    match j with
    |0 =>
     cases hj
     have q:=hc 0 0 _ Nat.zero_lt_one rfl
     have r:=z5z (hr 0 0 _ Nat.zero_lt_one rfl)
     rw[r]at q
     exact q
    |1 =>
     cases hj
     have q:=hc 0 1 _ Nat.zero_lt_one rfl
     have r:=z5z (hr 0 1 _ Nat.zero_lt_one rfl)
     rw[r]at q
     exact q
    |j+2=>cases hj
 obtain⟨vb,voff,vc,rfl,hIv,hvc⟩:=hvals
 have hlen:(fl2 xs).length=xs.length*2:=z5m xs
 have hz:fl2 (xs.take i++v::xs.drop i)=(fl2 xs).take (i*2)++(fl2 [v]++(fl2 xs).drop (i*2)):=by
  rw[z6x,z6u,←z6k,←z6k];rfl
 have hzl:(C.prs (xs.take i++v::xs.drop i)).len=xs.length+1:=by
  show(xs.take i++v::xs.drop i).length=_
  simp only[List.length_append,List.length_cons,List.length_take,List.length_drop]
  omega
 have key:=ybe W xs.length i (fl2 xs) (fl2 [v]) vb voff vc a ((g 0).map (·.1)) hi hl hlen rfl (z6l xs) (z6l [v]) hvc ?_
 ·refine key.mono λe w' hL=>?_
  refine z5t (k:=2) (cz:=fl2 (xs.take i++v::xs.drop i)) (bo:=(g 0).map (·.1)) hI hh (λb hb=>?_) (λh=>ro2.2 h) ?_
  ·cases hg:g 0 with
   |none=>rw[hg]at hb;cases hb
   |some q=>rw[hg]at hb;cases hb;exact⟨q.2,rfl⟩
  ·rw[hz,hzl];exact hL
 ·rcases hro with ⟨hg,h0⟩|⟨b,cap,rest,ty,hg,hb,hlc,hcap⟩
  ·left
   rcases e0.2 with ⟨b,cap,len,hg',_⟩|⟨_,ha'⟩
   ·rw[hg]at hg';cases hg'
   ·exact⟨ha',by rw[hg];rfl,h0⟩
  ·right
   rcases e0.2 with ⟨b',cap',len',hg',ha'⟩|⟨hg',_⟩
   ·rw[hg]at hg'
    cases hg'
    refine⟨b,cap,rest,ty,ha',by rw[hg];rfl,hb,hlc,hcap,λe=>?_⟩
    exact(hh.apart 0 _ b (List.mem_singleton.2 rfl) (.inl ⟨_,hg⟩)).1 (e▸hIv)
   ·rw[hg]at hg';cases hg'
theorem yay (w:World) (n i cap:Nat) (b:Nat) (cs rest:List Value) (ty:TypeId) (hi:i<n) (hcl:cs.length=n*2) (h1c:∀v∈cs,v.oneCell'=true)
  (hb:w.heap[b]? = some (.cells (cs++rest).toArray ty (0,0))) (hl:(cs++rest).length=cap*2) (hcap:n≤cap) :
  Calls Tryz.prog 174 #[.slice (some ⟨b,0,none⟩) n cap,.int .i64 i,.int .i64 ((i+1:Nat):Int)] w (z5n w (some b) 2 (n-1) (cs.take (i*2)++cs.drop ((i+1)*2))):=by
 have hll:(cs++rest).length=cs.length+rest.length:=List.length_append
 have hcell:∀j v,cs[j]? = some v→w.cell? ⟨b,0+j,none⟩=some v:=λj v hj=>by
  rw[Nat.zero_add,z5b hb,List.getElem?_append_left (List.getElem?_eq_some_iff.1 hj).1];exact hj
 refine(ybd b 0 n cap i (i+1) cs w rfl (by omega) hcap hcl hcell (z53 hb) h1c).mono ?_
 rintro e w' ⟨rfl,rfl⟩
 obtain⟨A,hA⟩:∃A,A=cs.take (i*2):=⟨_,rfl⟩
 obtain⟨X,hX⟩:∃X,X=(cs.drop (i*2)).take 2:=⟨_,rfl⟩
 obtain⟨B,hB⟩:∃B,B=cs.drop ((i+1)*2):=⟨_,rfl⟩
 have hAl:A.length=i*2:=by rw[hA,List.length_take];omega
 have hXl:X.length=2:=by rw[hX,List.length_take,List.length_drop];omega
 have hBl:B.length=(n-(i+1))*2:=by rw[hB,List.length_drop];omega
 have hc:cs=A++(X++B):=by
  have e1:=List.take_append_drop (i*2) cs
  have e2:=List.take_append_drop 2 (cs.drop (i*2))
  rw[List.drop_drop,show i*2+2=(i+1)*2 by omega]at e2
  rw[hX,hB,e2,hA,e1]
 have hB':cs.drop ((i+1)*2)=B:=by rw[hB];(try rfl);(try (congr 1;omega))
 (try rw[hB'])
 rw[←hA]
 (try rw[←hB])
 rw[hc]at hb hl hll
 obtain⟨r1,r2⟩:=z4f B (0+i*2) w.drew _ hb (by simp only[List.length_append];omega)
 obtain⟨r3,r4⟩:=z4f (.agg #[.int .i64 0,.int .i64 0]:Value).cells.toList (0+(i+(n-(i+1)))*2) _ _ r1 (by simp only[List.length_append,List.length_take,List.length_drop,Value.cells];(try simp);omega)
 have r5:=r2.trans r4
 refine⟨b,cap,(.agg #[.int .i64 0,.int .i64 0]:Value).cells.toList++rest,ty,rfl,?_,?_,by omega,.inl rfl,r5.os,r5.tape,r5.output,Nat.le_of_eq r5.size.symm,λj hj hjb=>r5.block j λe=>hjb (by rw[e])⟩
 ·rw[r3]
  congr 3
  have:=z8e (A:=A) (X:=X) (B:=B) (R:=rest) (Z:=(.agg #[.int .i64 0,.int .i64 0]:Value).cells.toList) (K:=2) hXl rfl rfl
  rw[←this]
  rw[show 0+(i+(n-(i+1)))*2=A.length+B.length by omega,show 0+i*2=A.length by omega]
  (try rfl)
 ·simp only[List.length_append]at hl⊢
  simp only[Value.cells]
  (try simp)
  omega
theorem yas (xs:List Pr) (i:Nat) (I J:Int) (hI:I=i) (hJ:J=i+1) (hi:i<xs.length):Go.VL.zr Tryz.prog 174 1 [.slc 0,.c (.int .i64 I),.c (.int .i64 J)] [(0,.arr (C.prs xs))] 1 (.slc 0) [(0,.arr (C.prs (xs.take i++xs.drop (i+1))))]:=by
 subst hI
 obtain rfl:J=((i+1:Nat):Int):=by omega
 refine⟨⟨_,Tryz.func174,by kernel_rfl,by kernel_rfl⟩,λW I g argv hI hh hla ha=>?_⟩
 obtain⟨a,b,c,rfl⟩:∃a b c,argv=[a,b,c]:=by
  match argv,hla with
  |[a,b,c],_=>exact⟨a,b,c,rfl⟩
 have e0:=RV.slc_inv (ha 0 _ _ rfl rfl)
 have e1:=RV.int_inv (ha 1 _ _ rfl rfl)
 have e2:=RV.int_inv (ha 2 _ _ rfl rfl)
 subst e1;subst e2
 have hlen:(fl2 xs).length=xs.length*2:=z5m xs
 have hzl:(C.prs (xs.take i++xs.drop (i+1))).len=xs.length-1:=by
  show(xs.take i++xs.drop (i+1)).length=_
  simp only[List.length_append,List.length_take,List.length_drop]
  omega
 rcases ro2.1 (hh.obj 0 _ (List.mem_singleton.2 rfl)).2 with ⟨hg,h0⟩|⟨b,cap,rest,ty,hg,hb,hlc,hcap⟩
 ·omega
 ·rcases e0.2 with ⟨b',cap',len',hg',ha'⟩|⟨hg',_⟩
  ·rw[hg]at hg'
   cases hg'
   subst ha'
   refine(yay W xs.length i cap b (fl2 xs) rest ty hi hlen (z6l xs) hb hlc hcap).mono λe w' hL=>?_
   refine z5t (k:=2) (cz:=fl2 (xs.take i++xs.drop (i+1))) (bo:=some b) hI hh (λb hb=>?_) (λh=>ro2.2 h) ?_
   ·cases hb;exact⟨_,hg⟩
   ·rw[z6k,←z6x,←z6u,hzl];exact hL
  ·rw[hg]at hg';cases hg'
end Go.Proofs
namespace Go.VL
open Go.Proofs
set_option maxRecDepth 10000
set_option linter.unusedSimpArgs false
set_option linter.unusedVariables false
theorem zrb (n:Int):zr Tryz.prog 126 0 [.c (.int .i64 n)] [] 0 (.c (.bool (decide (-1000≤n∧n≤1000)))) []:=by
 refine spi (fn:=Tryz.f126) _ ?_
 conv=>whnf
 repeat' first|(refine zk (λh=>?_) (λh=>?_)<;>(try simp only[qA]at h)<;>(try simp only[wA,wN]at h)<;>conv=>whnf)|refine zd ?_|refine zh ?_
 ·have h:-1000≤n:=by omega
  simp[h]
 ·simp;omega
theorem zsa (root:Int) (ps:List Pg) (bs:List Bool) (ld a:Int) (hp:pB ps) (h0:0≤a) (h1:a<ps.length):zr Tryz.prog 101 1 [.ptr 0 0 0 0,.c (.int .i64 a)] [(0,.box [.c (.int .i64 root),.c (.pgs ps)] bs [.c (.int .i64 ld)])] 1 (.c (.bool (zir (zb ps a) (decide (a=root))))) [(0,.box [.c (.int .i64 root),.c (.pgs ps)] bs [.c (.int .i64 ld)])]:=by
 have k1:=hp.keys a
 have k2:=hp.kids a
 have k3:=hp.vals a
 have hvk:=zfj (zb ps a).keys k1
 have e:zir (zb ps a) (decide (a=root))=zir (zb ps a) (decide (a=root)):=rfl
 conv at e=>rhs;unfold zir
 obtain⟨X,hX⟩:∃X,zir (zb ps a) (decide (a=root))=X:=⟨_,rfl⟩
 rw[hX]at e⊢
 clear hX
 obtain⟨VK,hVK⟩:∃VK,za2 (zb ps a).keys=VK:=⟨_,rfl⟩
 rw[hVK]at e hvk
 obtain⟨AL,hAL⟩:∃AL,((zb ps a).vals.all λx=>decide (-1000≤x∧x≤1000))=AL:=⟨_,rfl⟩
 rw[hAL]at e
 clear hVK
 dsimp only[zb]at e k1 k2 k3 hvk hAL
 simp only[decide_eq_false_iff_not]at e
 refine spi (fn:=Tryz.f101) _ ?_
 conv=>whnf
 repeat' first
  |(refine zn ?_ ?_;(focus ((try simp only[qA])<;>(try simp only[wA])<;>omega));conv=>whnf)
  |(refine za (by(try simp only[wA,wL])<;>omega) ?_;conv=>whnf)
  |(refine zk (λh=>?_) (λh=>?_)<;>(try simp only[qA]at h)<;>(try simp only[wA]at h)<;>conv=>whnf)
  |(refine zg (by(try simp only[wA,wL])<;>omega) (by(try simp only[wA,wL])<;>omega) ?_;conv=>whnf)
  |(refine zp (hvk) rfl rfl ?_;conv=>whnf)
 all_goals first
  |(rw[show X=false from by(rw[e];(repeat' split)<;>first|rfl|assumption|(exfalso;omega)|exact decide_eq_false (by omega)|exact decide_eq_true (by omega)|(exfalso;exact Bool.noConfusion (Eq.trans (Eq.symm ‹VK=true›) ‹VK=false›)))];exact(zu [] [0]))
  |(rw[show X=true from by(rw[e];(repeat' split)<;>first|rfl|assumption|(exfalso;omega)|exact decide_eq_false (by omega)|exact decide_eq_true (by omega)|(exfalso;exact Bool.noConfusion (Eq.trans (Eq.symm ‹VK=true›) ‹VK=false›)))];exact(zu [] [0]))
  |(rw[show X=(((ps.getD a.toNat ⟨[],[],[]⟩).kids.length:Int)==((ps.getD a.toNat ⟨[],[],[]⟩).keys.length:Int)+1)from by(rw[e];(repeat' split)<;>first|(rw[Bool.eq_iff_iff,q3,q5];omega)|assumption|(exfalso;omega)|exact decide_eq_false (by omega)|exact decide_eq_true (by omega)|(exfalso;exact Bool.noConfusion (Eq.trans (Eq.symm ‹VK=true›) ‹VK=false›)))];exact(zu [] [0]))
  |skip
 all_goals
  have e:X=AL:=by(rw[e];(repeat' split)<;>first|rfl|assumption|(exfalso;omega)|exact decide_eq_false (by omega)|exact decide_eq_true (by omega)|(exfalso;exact Bool.noConfusion (Eq.trans (Eq.symm ‹VK=true›) ‹VK=false›)))
  rw[e]
  rw[←hAL]
  clear hAL e
  generalize (ps.getD a.toNat ⟨[],[],[]⟩).vals=L at *
  refine zau (λk:Nat=>(L.take k).all (λx=>decide (-1000≤x∧x≤1000))=true) (λk=>⟨81,1,[(71,.c (.nums .i64 L)),(72,.c (.int .i64 L.length)),(73,.c (.int .i64 k))],[(0,.box [.c (.int .i64 root),.c (.pgs ps)] bs [.c (.int .i64 ld)])]⟩) (λk=>L.length-k) 0 (by simp) (λ_=>Nat.le_refl _) (ydn [] [0]) (λk hk=>?_)
  conv=>whnf
  repeat' first
   |(refine za (by(try simp only[wA,wN,wL])<;>omega) ?_;conv=>whnf)
   |(refine zk (λh=>?_) (λh=>?_)<;>(try simp only[qA]at h)<;>(try simp only[wA,wN]at h)<;>conv=>whnf)
   |(refine zg (by(try simp only[wA,wN,wL])<;>omega) (by(try simp only[wA,wN,wL])<;>omega) ?_;conv=>whnf)
   |(refine zp (zrb _) rfl rfl ?_;conv=>whnf)
  ·rename_i h1
   rw[show L.all (λx=>decide (-1000≤x∧x≤1000))=false from zf6 0 (k:=k) (by omega) (by simp at h⊢;omega)]
   exact(zu [] [0])
  ·rename_i h1
   refine⟨⟨k+1,zeg 0 hk (by omega) (by simpa using h)⟩,(ydn [] [0]),by dsimp only;omega⟩
  ·rw[show L.all (λx=>decide (-1000≤x∧x≤1000))=true from zh3 hk (by omega)]
   exact(zu [] [0])
end Go.VL
