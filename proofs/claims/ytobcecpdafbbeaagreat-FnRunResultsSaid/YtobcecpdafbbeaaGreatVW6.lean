/- V-logic: Ins2 TrHa TrKa TrKb Un -/
import Derived.Test.YtobcecpdafbbeaaGreatVW5
import Derived.Test.YtobcecpdafbbeaaGreatVEG
import Derived.Test.YtobcecpdafbbeaaGreatVW3
import Derived.Test.YtobcecpdafbbeaaGreatVPT26
import Derived.Test.YtobcecpdafbbeaaGreatVMA
import Derived.Test.YtobcecpdafbbeaaGreatVPD
namespace Go.Proofs
open Go.RowKit Go.Lib Go.VL
set_option linter.unusedVariables false
set_option linter.unusedSimpArgs false
set_option maxHeartbeats 1000000 in
theorem yat (w:World) (n i:Nat) (cs vs:List Value) (vb voff vc:Nat) (s:Value) (bo:Option Nat) (hi:i≤n) (hn:n≤1000000) (hcl:cs.length=n*1) (hvl:vs.length=1) (h1c:∀v∈cs,v.oneCell'=true) (h1v:∀v∈vs,v.oneCell'=true)
  (hv:∀j v,vs[j]? = some v→w.cell? ⟨vb,voff+j,none⟩=some v)
  (hs:(s=.slice none 0 0∧bo=none∧n=0)∨∃b cap rest ty,s=.slice (some ⟨b,0,none⟩) n cap∧bo=some b∧w.heap[b]? = some (.cells (cs++rest).toArray ty (0,0))∧(cs++rest).length=cap*1∧n≤cap∧vb≠b) :
  Calls Tryz.prog 157 #[s,.int .i64 i,.slice (some ⟨vb,voff,none⟩) 1 vc] w (z5n w bo 1 (n+1) (cs.take (i*1)++(vs++cs.drop (i*1)))):=by
 have hv0:=hv 0 _ (List.getElem?_eq_getElem (by omega))
 obtain⟨tA,kA,hsa,hkA⟩:=z67 hv0
 have endG:∀(base:Option Addr) (c:Nat),i=n→n≤c→c<n+1→(base=none→n=0)→(∀a,base=some a→∀j v,cs[j]? = some v→w.cell? (a.add j)=some v) →
   Calls Tryz.prog 157 #[.slice base n c,.int .i64 i,.slice (some ⟨vb,voff,none⟩) 1 vc] w (z5n w bo 1 (n+1) (cs.take (i*1)++(vs++cs.drop (i*1)))):=fun base c hin h1 h2 h3 h4=>by
  subst hin
  refine(z70 base i c vb voff 1 vc cs vs w (by omega) h1 h2 (by omega) hcl (by omega) h3 h4 hv h1v).mono ?_
  rintro e w' ⟨rfl,rfl⟩
  have hG:=grownCap_ge w (i+1) c 3
  generalize grownCap w (i+1) c 3=G at hG⊢
  have e1:cs.take (i*1)=cs:=List.take_of_length_le (by omega)
  have e2:cs.drop (i*1)=[]:=List.drop_eq_nil_of_le (by omega)
  rw[e1,e2,List.append_nil]
  refine⟨w.heap.size,G,(Builtin.zeroCells (.int .i64 0:Value).cells (G-(i+1))).toList,3,rfl,?_,?_,hG,.inr (Nat.le_refl _),rfl,rfl,rfl,?_,fun j hj _=>?_⟩
  ·show(w.heap.push _)[w.heap.size]? = _
   simp
  ·rw[List.length_append,List.length_append,z41]
   simp only[Value.cells]
   simp
   omega
  ·show _≤(w.heap.push _).size
   simp
  ·show(w.heap.push _)[j]? = _
   rw[Array.getElem?_push,if_neg (by omega)]
 rcases hs with ⟨rfl,hbo,h0⟩|⟨b,cap,rest,ty,rfl,rfl,hb,hl,hcap,hne⟩
 ·subst h0
  have:=endG none 0 (by omega) (Nat.le_refl _) (by omega) (fun _=>rfl) (fun a h=>by cases h)
  exact this
 ·have hcell:∀j v,cs[j]? = some v→w.cell? ⟨b,0+j,none⟩=some v:=fun j v hj=>by
   rw[Nat.zero_add,z5b hb,List.getElem?_append_left (List.getElem?_eq_some_iff.1 hj).1];exact hj
  have hcs:∀j,j<cap*1→(w.cell? ⟨b,0+j,none⟩).isSome=true:=fun j hj=>by
   rw[Nat.zero_add,z5b hb,List.getElem?_eq_getElem (by omega)];rfl
  have hfr:∀j,w.frozen? ⟨b,j,none⟩=false:=z53 hb
  have hsb:=z7u hb
  have hll:(cs++rest).length=cs.length+rest.length:=List.length_append
  by_cases hr:n+1≤cap
  ·by_cases hin:i=n
   ·subst hin
    have:=z7y b 0 i cap vb voff 1 vc vs w (by omega) hr (by omega) (by omega) (fun j hj=>by rw[Nat.add_assoc];exact hcs _ (by omega)) (fun j hj=>by exact hfr _) hv h1v
    refine this.mono ?_
    rintro e w' ⟨rfl,rfl⟩
    have e1:cs.take (i*1)=cs:=List.take_of_length_le (by omega)
    have e2:cs.drop (i*1)=[]:=List.drop_eq_nil_of_le (by omega)
    rw[e1,e2,List.append_nil]
    obtain⟨r1,r2⟩:=z4f vs (0+i) w _ hb (by omega)
    refine⟨b,cap,rest.drop 1,ty,rfl,?_,?_,hr,.inl rfl,r2.os,r2.tape,r2.output,Nat.le_of_eq r2.size.symm,fun j hj hjb=>r2.block j fun e=>hjb (by rw[e])⟩
    ·rw[r1]
     congr 3
     rw[List.take_left' (by omega),List.drop_append,List.drop_eq_nil_of_le (by omega),List.nil_append]
     congr 2
     omega
    ·rw[List.length_append,List.length_append,List.length_drop]
     omega
   ·have:=z9h b 0 n cap i vb voff 1 vc cs vs w (by omega) (by omega) hr (by omega) hne hcl (by omega) hcell (fun j hj=>hcs j (by have:(n+1)*1≤cap*1:=Nat.mul_le_mul_right _ hr;omega)) (fun j hj=>hfr _) hv h1c h1v tA ty kA _ hsa hsb hkA (by omega) hfr
    refine this.mono ?_
    rintro e w' ⟨rfl,rfl⟩
    have hR:1≤rest.length:=by have:(n+1)*1≤cap*1:=Nat.mul_le_mul_right _ hr;omega
    have hA:(cs.take (i*1)).length=i*1:=by rw[List.length_take];omega
    have hAB:cs.take (i*1)++cs.drop (i*1)=cs:=List.take_append_drop _ _
    obtain⟨A,hAe⟩:∃A,A=cs.take (i*1):=⟨_,rfl⟩
    obtain⟨B,hBe⟩:∃B,B=cs.drop (i*1):=⟨_,rfl⟩
    have hBe':cs.drop (i)=B:=by subst hBe;first|rfl|(congr 1;omega)
    (try rw[hBe'])
    rw[←hAe,←hBe]at hAB
    (try rw[←hAe])
    (try rw[←hBe])
    rw[←hAe]at hA
    rw[←hAB]at hb hl hll
    have hBl:B.length=(n-i)*1:=by rw[hBe,List.length_drop];omega
    obtain⟨r1,r2⟩:=z4f B (0+(i+1)) w.drew _ hb (by omega)
    obtain⟨r3,r4⟩:=z4f vs (0+i) _ _ r1 (by simp only[List.length_append,List.length_take,List.length_drop];omega)
    have r5:=r2.trans r4
    refine⟨b,cap,rest.drop 1,ty,rfl,?_,?_,hr,.inl rfl,r5.os,r5.tape,r5.output,Nat.le_of_eq r5.size.symm,fun j hj hjb=>r5.block j fun e=>hjb (by rw[e])⟩
    ·rw[r3]
     congr 3
     have:=z8o (A:=A) (B:=B) (R:=rest) (V:=vs) (K:=1) hvl hR rfl
     rw[←this,hA,show 0+i=i*1 by omega,show 0+(i+1)=i*1+1 by omega,show i*1+vs.length=i*1+1 by omega]
    ·rw[List.length_append,List.length_append,List.length_append,List.length_drop]
     simp only[List.length_append]at hl hll
     omega
  ·by_cases hin:i=n
   ·exact endG (some ⟨b,0,none⟩) cap hin hcap (by omega) (fun h=>by cases h) (fun a ha j v hj=>by cases ha;rw[Addr.add_lit];exact hcell j v hj)
   ·refine(z9z b 0 n cap i vb voff 1 vc cs vs w (by omega) (by omega) hcap (by omega) (by omega) hcl (by omega) hcell hv h1c h1v).mono ?_
    rintro e w' ⟨rfl,rfl⟩
    have hG:=grownCap_ge w (n+1) cap 3
    generalize grownCap w (n+1) cap 3=G at hG⊢
    have hA:(cs.take (i*1)).length=i*1:=by rw[List.length_take];omega
    have hAB:cs.take (i*1)++cs.drop (i*1)=cs:=List.take_append_drop _ _
    have hBl:(cs.drop (i*1)).length=(n-i)*1:=by rw[List.length_drop];omega
    obtain⟨A,hAe⟩:∃A,A=cs.take (i*1):=⟨_,rfl⟩
    obtain⟨B,hBe⟩:∃B,B=cs.drop (i*1):=⟨_,rfl⟩
    have hAe':cs.take (i)=A:=by subst hAe;first|rfl|(congr 1;omega)
    have hBe':cs.drop (i)=B:=by subst hBe;first|rfl|(congr 1;omega)
    (try rw[hAe'])
    (try rw[hBe'])
    rw[←hAe]at hA
    rw[←hBe]at hBl
    (try rw[←hAe])
    (try rw[←hBe])
    obtain⟨Z,hZ⟩:∃Z,Z=(Builtin.zeroCells (.int .i64 0:Value).cells (n+1-i)).toList++(Builtin.zeroCells (.int .i64 0:Value).cells (G-(n+1))).toList:=⟨_,rfl⟩
    have hrow:A.toArray++Builtin.zeroCells (.int .i64 0:Value).cells (n+1-i)++Builtin.zeroCells (.int .i64 0:Value).cells (G-(n+1))=(A++Z).toArray:=by
     rw[hZ]
     apply Array.ext'
     simp
    have hZl:Z.length=(n+1-i)*1+(G-(n+1))*1:=by
     rw[hZ,List.length_append,z41,z41];rfl
    rw[hrow]
    have hb0:((w.alloc (.cells (A++Z).toArray 3)).drew).heap[w.heap.size]? = some (.cells (A++Z).toArray 3 (0,0)):=by
     show(w.heap.push _)[w.heap.size]? = _
     simp
    obtain⟨r1,r2⟩:=z4f vs (i) _ _ hb0 (by rw[List.length_append];omega)
    obtain⟨r3,r4⟩:=z4f (w:=((w.alloc (.cells (A++Z).toArray 3)).drew.setCells w.heap.size (i) vs).drew) B ((i+1)) _ r1 (by simp only[List.length_append,List.length_take,List.length_drop];omega)
    have r5:=r2.trans (w:=_) ⟨r4.os,r4.tape,r4.output,r4.size,r4.block⟩
    refine⟨w.heap.size,G,Z.drop (1+B.length),3,rfl,?_,?_,hG,.inr (Nat.le_refl _),r5.os,r5.tape,r5.output,?_,fun j hj hjb=>?_⟩
    ·rw[r3]
     congr 3
     refine Eq.trans ?_ (z7n (A:=A) (B:=B) (Z:=Z) (V:=vs) (K:=1) hvl (by omega) rfl)
     rw[show((i+1))=A.length+1 by omega,show(i)+vs.length=A.length+1 by omega,show(i)=A.length by omega]
    ·rw[List.length_append,List.length_append,List.length_append,List.length_drop]
     omega
    ·refine Nat.le_trans ?_ (Nat.le_of_eq r5.size.symm)
     show _≤(w.heap.push _).size
     simp
    ·refine(r5.block j (by omega)).trans ?_
     show(w.heap.push _)[j]? = _
     rw[Array.getElem?_push,if_neg (by omega)]
theorem z8r (xs:List Int) (i:Nat) (v:Int) (hi:i≤xs.length) (hl:xs.length≤1000000):Go.VL.zr Tryz.prog 157 1 [.slc 0,.c (.int .i64 i),.c (C.nums .i64 [v])] [(0,.arr (C.nums .i64 xs))] 1 (.slc 0) [(0,.arr (C.nums .i64 (xs.take i++v::xs.drop i)))]:=by
 refine⟨⟨_,Tryz.func157,by kernel_rfl,by kernel_rfl⟩,fun W I g argv hI hh hla ha=>?_⟩
 obtain⟨a,b,c,rfl⟩:∃a b c,argv=[a,b,c]:=by
  match argv,hla with
  |[a,b,c],_=>exact⟨a,b,c,rfl⟩
 have e0:=RV.slc_inv (ha 0 _ _ rfl rfl)
 have e1:=RV.int_inv (ha 1 _ _ rfl rfl)
 have e2:=ha 2 _ _ rfl rfl
 subst e1
 have hro:=ro1.1 (hh.obj 0 _ (List.mem_singleton.2 rfl)).2
 have hvals:∃vb voff vc,c=.slice (some ⟨vb,voff,none⟩) 1 vc∧I vb∧∀j u,(fl1 [v])[j]? = some u→W.cell? ⟨vb,voff+j,none⟩=some u:=by
  cases e2 with
  |c _ _ hrc =>
   cases hrc with
   |empty _ _ _ hs h0=>exact absurd h0 Nat.one_ne_zero
   |sl _ vb voff cap val hs hIb hcap hc hr =>
    refine⟨vb,voff,cap,rfl,hIb,fun j u hj=>?_⟩
    match j with
    |0 =>
     cases hj
     have q:=hc 0 0 _ Nat.zero_lt_one rfl
     have r:=z5z (hr 0 0 _ Nat.zero_lt_one rfl)
     rw[r]at q
     exact q
    |j+1=>cases hj
 obtain⟨vb,voff,vc,rfl,hIv,hvc⟩:=hvals
 have hlen:(fl1 xs).length=xs.length*1:=z6n xs
 have hz:fl1 (xs.take i++v::xs.drop i)=(fl1 xs).take (i*1)++(fl1 [v]++(fl1 xs).drop (i*1)):=by
  rw[z75,z8j,←z7k,←z7k];rfl
 have hzl:(C.nums .i64 (xs.take i++v::xs.drop i)).len=xs.length+1:=by
  show(xs.take i++v::xs.drop i).length=_
  simp only[List.length_append,List.length_cons,List.length_take,List.length_drop]
  omega
 have key:=yat W xs.length i (fl1 xs) (fl1 [v]) vb voff vc a ((g 0).map (·.1)) hi hl hlen rfl (z7a xs) (z7a [v]) hvc ?_
 ·refine key.mono fun e w' hL=>?_
  refine z5t (k:=1) (cz:=fl1 (xs.take i++v::xs.drop i)) (bo:=(g 0).map (·.1)) hI hh (fun b hb=>?_) (fun h=>ro1.2 h) ?_
  ·cases hg:g 0 with
   |none=>rw[hg]at hb;cases hb
   |some q=>rw[hg]at hb;cases hb;exact⟨q.2,rfl⟩
  ·rw[hz,hzl];exact hL
 ·rcases hro with ⟨hg,h0⟩|⟨b,cap,rest,ty,hg,hb,hlc,hcap⟩
  ·left
   rcases e0.2 with ⟨b,cap,len,hg',_⟩|⟨_,ha'⟩
   ·rw[hg]at hg';cases hg'
   ·exact⟨ha',by rw[hg];rfl,h0⟩
  ·right
   rcases e0.2 with ⟨b',cap',len',hg',ha'⟩|⟨hg',_⟩
   ·rw[hg]at hg'
    cases hg'
    refine⟨b,cap,rest,ty,ha',by rw[hg];rfl,hb,hlc,hcap,fun e=>?_⟩
    exact(hh.apart 0 _ b (List.mem_singleton.2 rfl) (.inl ⟨_,hg⟩)).1 (e▸hIv)
   ·rw[hg]at hg';cases hg'
set_option maxHeartbeats 1000000 in
theorem ybe (w:World) (n i:Nat) (cs vs:List Value) (vb voff vc:Nat) (s:Value) (bo:Option Nat) (hi:i≤n) (hn:n≤1000000) (hcl:cs.length=n*2) (hvl:vs.length=2) (h1c:∀v∈cs,v.oneCell'=true) (h1v:∀v∈vs,v.oneCell'=true)
  (hv:∀j v,vs[j]? = some v→w.cell? ⟨vb,voff+j,none⟩=some v)
  (hs:(s=.slice none 0 0∧bo=none∧n=0)∨∃b cap rest ty,s=.slice (some ⟨b,0,none⟩) n cap∧bo=some b∧w.heap[b]? = some (.cells (cs++rest).toArray ty (0,0))∧(cs++rest).length=cap*2∧n≤cap∧vb≠b) :
  Calls Tryz.prog 154 #[s,.int .i64 i,.slice (some ⟨vb,voff,none⟩) 1 vc] w (z5n w bo 2 (n+1) (cs.take (i*2)++(vs++cs.drop (i*2)))):=by
 have hv0:=hv 0 _ (List.getElem?_eq_getElem (by omega))
 obtain⟨tA,kA,hsa,hkA⟩:=z67 hv0
 have endG:∀(base:Option Addr) (c:Nat),i=n→n≤c→c<n+1→(base=none→n=0)→(∀a,base=some a→∀j v,cs[j]? = some v→w.cell? (a.add j)=some v) →
   Calls Tryz.prog 154 #[.slice base n c,.int .i64 i,.slice (some ⟨vb,voff,none⟩) 1 vc] w (z5n w bo 2 (n+1) (cs.take (i*2)++(vs++cs.drop (i*2)))):=fun base c hin h1 h2 h3 h4=>by
  subst hin
  refine(z72 base i c vb voff 1 vc cs vs w (by omega) h1 h2 (by omega) hcl (by omega) h3 h4 hv h1v).mono ?_
  rintro e w' ⟨rfl,rfl⟩
  have hG:=grownCap_ge w (i+1) c 52
  generalize grownCap w (i+1) c 52=G at hG⊢
  have e1:cs.take (i*2)=cs:=List.take_of_length_le (by omega)
  have e2:cs.drop (i*2)=[]:=List.drop_eq_nil_of_le (by omega)
  rw[e1,e2,List.append_nil]
  refine⟨w.heap.size,G,(Builtin.zeroCells (.agg #[.int .i64 0,.int .i64 0]:Value).cells (G-(i+1))).toList,52,rfl,?_,?_,hG,.inr (Nat.le_refl _),rfl,rfl,rfl,?_,fun j hj _=>?_⟩
  ·show(w.heap.push _)[w.heap.size]? = _
   simp
  ·rw[List.length_append,List.length_append,z41]
   simp only[Value.cells]
   simp
   omega
  ·show _≤(w.heap.push _).size
   simp
  ·show(w.heap.push _)[j]? = _
   rw[Array.getElem?_push,if_neg (by omega)]
 rcases hs with ⟨rfl,hbo,h0⟩|⟨b,cap,rest,ty,rfl,rfl,hb,hl,hcap,hne⟩
 ·subst h0
  have:=endG none 0 (by omega) (Nat.le_refl _) (by omega) (fun _=>rfl) (fun a h=>by cases h)
  exact this
 ·have hcell:∀j v,cs[j]? = some v→w.cell? ⟨b,0+j,none⟩=some v:=fun j v hj=>by
   rw[Nat.zero_add,z5b hb,List.getElem?_append_left (List.getElem?_eq_some_iff.1 hj).1];exact hj
  have hcs:∀j,j<cap*2→(w.cell? ⟨b,0+j,none⟩).isSome=true:=fun j hj=>by
   rw[Nat.zero_add,z5b hb,List.getElem?_eq_getElem (by omega)];rfl
  have hfr:∀j,w.frozen? ⟨b,j,none⟩=false:=z53 hb
  have hsb:=z7u hb
  have hll:(cs++rest).length=cs.length+rest.length:=List.length_append
  by_cases hr:n+1≤cap
  ·by_cases hin:i=n
   ·subst hin
    have:=z7z b 0 i cap vb voff 1 vc vs w (by omega) hr (by omega) (by omega) (fun j hj=>by rw[Nat.add_assoc];exact hcs _ (by omega)) (fun j hj=>by exact hfr _) hv h1v
    refine this.mono ?_
    rintro e w' ⟨rfl,rfl⟩
    have e1:cs.take (i*2)=cs:=List.take_of_length_le (by omega)
    have e2:cs.drop (i*2)=[]:=List.drop_eq_nil_of_le (by omega)
    rw[e1,e2,List.append_nil]
    obtain⟨r1,r2⟩:=z4f vs (0+i*2) w _ hb (by omega)
    refine⟨b,cap,rest.drop 2,ty,rfl,?_,?_,hr,.inl rfl,r2.os,r2.tape,r2.output,Nat.le_of_eq r2.size.symm,fun j hj hjb=>r2.block j fun e=>hjb (by rw[e])⟩
    ·rw[r1]
     congr 3
     rw[List.take_left' (by omega),List.drop_append,List.drop_eq_nil_of_le (by omega),List.nil_append]
     congr 2
     omega
    ·rw[List.length_append,List.length_append,List.length_drop]
     omega
   ·have:=z9l b 0 n cap i vb voff 1 vc cs vs w (by omega) (by omega) hr (by omega) hne hcl (by omega) hcell (fun j hj=>hcs j (by have:(n+1)*2≤cap*2:=Nat.mul_le_mul_right _ hr;omega)) (fun j hj=>hfr _) hv h1c h1v tA ty kA _ hsa hsb hkA (by omega) hfr
    refine this.mono ?_
    rintro e w' ⟨rfl,rfl⟩
    have hR:2≤rest.length:=by have:(n+1)*2≤cap*2:=Nat.mul_le_mul_right _ hr;omega
    have hA:(cs.take (i*2)).length=i*2:=by rw[List.length_take];omega
    have hAB:cs.take (i*2)++cs.drop (i*2)=cs:=List.take_append_drop _ _
    obtain⟨A,hAe⟩:∃A,A=cs.take (i*2):=⟨_,rfl⟩
    obtain⟨B,hBe⟩:∃B,B=cs.drop (i*2):=⟨_,rfl⟩
    have hBe':cs.drop (i*2)=B:=by subst hBe;first|rfl|(congr 1;omega)
    (try rw[hBe'])
    rw[←hAe,←hBe]at hAB
    (try rw[←hAe])
    (try rw[←hBe])
    rw[←hAe]at hA
    rw[←hAB]at hb hl hll
    have hBl:B.length=(n-i)*2:=by rw[hBe,List.length_drop];omega
    obtain⟨r1,r2⟩:=z4f B (0+(i+1)*2) w.drew _ hb (by omega)
    obtain⟨r3,r4⟩:=z4f vs (0+i*2) _ _ r1 (by simp only[List.length_append,List.length_take,List.length_drop];omega)
    have r5:=r2.trans r4
    refine⟨b,cap,rest.drop 2,ty,rfl,?_,?_,hr,.inl rfl,r5.os,r5.tape,r5.output,Nat.le_of_eq r5.size.symm,fun j hj hjb=>r5.block j fun e=>hjb (by rw[e])⟩
    ·rw[r3]
     congr 3
     have:=z8o (A:=A) (B:=B) (R:=rest) (V:=vs) (K:=2) hvl hR rfl
     rw[←this,hA,show 0+i*2=i*2 by omega,show 0+(i+1)*2=i*2+2 by omega,show i*2+vs.length=i*2+2 by omega]
    ·rw[List.length_append,List.length_append,List.length_append,List.length_drop]
     simp only[List.length_append]at hl hll
     omega
  ·by_cases hin:i=n
   ·exact endG (some ⟨b,0,none⟩) cap hin hcap (by omega) (fun h=>by cases h) (fun a ha j v hj=>by cases ha;rw[Addr.add_lit];exact hcell j v hj)
   ·refine(yaj b 0 n cap i vb voff 1 vc cs vs w (by omega) (by omega) hcap (by omega) (by omega) hcl (by omega) hcell hv h1c h1v).mono ?_
    rintro e w' ⟨rfl,rfl⟩
    have hG:=grownCap_ge w (n+1) cap 52
    generalize grownCap w (n+1) cap 52=G at hG⊢
    have hA:(cs.take (i*2)).length=i*2:=by rw[List.length_take];omega
    have hAB:cs.take (i*2)++cs.drop (i*2)=cs:=List.take_append_drop _ _
    have hBl:(cs.drop (i*2)).length=(n-i)*2:=by rw[List.length_drop];omega
    obtain⟨A,hAe⟩:∃A,A=cs.take (i*2):=⟨_,rfl⟩
    obtain⟨B,hBe⟩:∃B,B=cs.drop (i*2):=⟨_,rfl⟩
    have hAe':cs.take (i*2)=A:=by subst hAe;first|rfl|(congr 1;omega)
    have hBe':cs.drop (i*2)=B:=by subst hBe;first|rfl|(congr 1;omega)
    (try rw[hAe'])
    (try rw[hBe'])
    rw[←hAe]at hA
    rw[←hBe]at hBl
    (try rw[←hAe])
    (try rw[←hBe])
    obtain⟨Z,hZ⟩:∃Z,Z=(Builtin.zeroCells (.agg #[.int .i64 0,.int .i64 0]:Value).cells (n+1-i)).toList++(Builtin.zeroCells (.agg #[.int .i64 0,.int .i64 0]:Value).cells (G-(n+1))).toList:=⟨_,rfl⟩
    have hrow:A.toArray++Builtin.zeroCells (.agg #[.int .i64 0,.int .i64 0]:Value).cells (n+1-i)++Builtin.zeroCells (.agg #[.int .i64 0,.int .i64 0]:Value).cells (G-(n+1))=(A++Z).toArray:=by
     rw[hZ]
     apply Array.ext'
     simp
    have hZl:Z.length=(n+1-i)*2+(G-(n+1))*2:=by
     rw[hZ,List.length_append,z41,z41];rfl
    rw[hrow]
    have hb0:((w.alloc (.cells (A++Z).toArray 52)).drew).heap[w.heap.size]? = some (.cells (A++Z).toArray 52 (0,0)):=by
     show(w.heap.push _)[w.heap.size]? = _
     simp
    obtain⟨r1,r2⟩:=z4f vs (i*2) _ _ hb0 (by rw[List.length_append];omega)
    obtain⟨r3,r4⟩:=z4f (w:=((w.alloc (.cells (A++Z).toArray 52)).drew.setCells w.heap.size (i*2) vs).drew) B ((i+1)*2) _ r1 (by simp only[List.length_append,List.length_take,List.length_drop];omega)
    have r5:=r2.trans (w:=_) ⟨r4.os,r4.tape,r4.output,r4.size,r4.block⟩
    refine⟨w.heap.size,G,Z.drop (2+B.length),52,rfl,?_,?_,hG,.inr (Nat.le_refl _),r5.os,r5.tape,r5.output,?_,fun j hj hjb=>?_⟩
    ·rw[r3]
     congr 3
     refine Eq.trans ?_ (z7n (A:=A) (B:=B) (Z:=Z) (V:=vs) (K:=2) hvl (by omega) rfl)
     rw[show((i+1)*2)=A.length+2 by omega,show(i*2)+vs.length=A.length+2 by omega,show(i*2)=A.length by omega]
    ·rw[List.length_append,List.length_append,List.length_append,List.length_drop]
     omega
    ·refine Nat.le_trans ?_ (Nat.le_of_eq r5.size.symm)
     show _≤(w.heap.push _).size
     simp
    ·refine(r5.block j (by omega)).trans ?_
     show(w.heap.push _)[j]? = _
     rw[Array.getElem?_push,if_neg (by omega)]
theorem yap (xs:List Pr) (i:Nat) (v:Pr) (hi:i≤xs.length) (hl:xs.length≤1000000):Go.VL.zr Tryz.prog 154 1 [.slc 0,.c (.int .i64 i),.c (C.prs [v])] [(0,.arr (C.prs xs))] 1 (.slc 0) [(0,.arr (C.prs (xs.take i++v::xs.drop i)))]:=by
 refine⟨⟨_,Tryz.func154,by kernel_rfl,by kernel_rfl⟩,fun W I g argv hI hh hla ha=>?_⟩
 obtain⟨a,b,c,rfl⟩:∃a b c,argv=[a,b,c]:=by
  match argv,hla with
  |[a,b,c],_=>exact⟨a,b,c,rfl⟩
 have e0:=RV.slc_inv (ha 0 _ _ rfl rfl)
 have e1:=RV.int_inv (ha 1 _ _ rfl rfl)
 have e2:=ha 2 _ _ rfl rfl
 subst e1
 have hro:=ro2.1 (hh.obj 0 _ (List.mem_singleton.2 rfl)).2
 have hvals:∃vb voff vc,c=.slice (some ⟨vb,voff,none⟩) 1 vc∧I vb∧∀j u,(fl2 [v])[j]? = some u→W.cell? ⟨vb,voff+j,none⟩=some u:=by
  cases e2 with
  |c _ _ hrc =>
   cases hrc with
   |empty _ _ _ hs h0=>exact absurd h0 Nat.one_ne_zero
   |sl _ vb voff cap val hs hIb hcap hc hr =>
    refine⟨vb,voff,cap,rfl,hIb,fun j u hj=>?_⟩
    match j with
    |0 =>
     cases hj
     have q:=hc 0 0 _ Nat.zero_lt_one rfl
     have r:=z5z (hr 0 0 _ Nat.zero_lt_one rfl)
     rw[r]at q
     exact q
    |1 =>
     cases hj
     have q:=hc 0 1 _ Nat.zero_lt_one rfl
     have r:=z5z (hr 0 1 _ Nat.zero_lt_one rfl)
     rw[r]at q
     exact q
    |j+2=>cases hj
 obtain⟨vb,voff,vc,rfl,hIv,hvc⟩:=hvals
 have hlen:(fl2 xs).length=xs.length*2:=z5m xs
 have hz:fl2 (xs.take i++v::xs.drop i)=(fl2 xs).take (i*2)++(fl2 [v]++(fl2 xs).drop (i*2)):=by
  rw[z6x,z6u,←z6k,←z6k];rfl
 have hzl:(C.prs (xs.take i++v::xs.drop i)).len=xs.length+1:=by
  show(xs.take i++v::xs.drop i).length=_
  simp only[List.length_append,List.length_cons,List.length_take,List.length_drop]
  omega
 have key:=ybe W xs.length i (fl2 xs) (fl2 [v]) vb voff vc a ((g 0).map (·.1)) hi hl hlen rfl (z6l xs) (z6l [v]) hvc ?_
 ·refine key.mono fun e w' hL=>?_
  refine z5t (k:=2) (cz:=fl2 (xs.take i++v::xs.drop i)) (bo:=(g 0).map (·.1)) hI hh (fun b hb=>?_) (fun h=>ro2.2 h) ?_
  ·cases hg:g 0 with
   |none=>rw[hg]at hb;cases hb
   |some q=>rw[hg]at hb;cases hb;exact⟨q.2,rfl⟩
  ·rw[hz,hzl];exact hL
 ·rcases hro with ⟨hg,h0⟩|⟨b,cap,rest,ty,hg,hb,hlc,hcap⟩
  ·left
   rcases e0.2 with ⟨b,cap,len,hg',_⟩|⟨_,ha'⟩
   ·rw[hg]at hg';cases hg'
   ·exact⟨ha',by rw[hg];rfl,h0⟩
  ·right
   rcases e0.2 with ⟨b',cap',len',hg',ha'⟩|⟨hg',_⟩
   ·rw[hg]at hg'
    cases hg'
    refine⟨b,cap,rest,ty,ha',by rw[hg];rfl,hb,hlc,hcap,fun e=>?_⟩
    exact(hh.apart 0 _ b (List.mem_singleton.2 rfl) (.inl ⟨_,hg⟩)).1 (e▸hIv)
   ·rw[hg]at hg';cases hg'
end Go.Proofs
namespace Go.VL
open Go.Proofs
set_option maxRecDepth 10000
set_option linter.unusedSimpArgs false
set_option linter.unusedVariables false
theorem zvt (xs:List Int) (hl:xs.length≤4294967296):zr Tryz.prog 146 0 [.c (.nums .i64 xs)] [] 1 (.slc 0) [(0,.arr (.nums .i64 xs))]:=by
 refine zq9 (R:=fun m res hout=>(m=1∧res=.slc 0∧hout=[(0,.arr (.nums .i64 xs))])∨(m=0∧res=.nil∧hout=[]∧xs=[])) ?_ (by
  rintro m res hout (h|⟨h1,h2,h3,rfl⟩)
  ·exact .inl h
  ·exact .inr ⟨h1,h2,h3,rfl,rfl⟩)
 refine spx (fn:=Tryz.f146) _ ?_
 conv=>whnf
 refine zye (fun h=>?_) ?_
 ·conv=>whnf
  skip
  refine za1 0 .nil [] (.inr ⟨rfl,rfl,rfl,List.eq_nil_of_length_eq_zero h⟩) rfl ?_
  exact(zu [] [])
 ·conv=>whnf
  repeat' (refine za (by(try simp only[wA,wL])<;>omega) ?_;conv=>whnf)
  refine za1 1 (.slc 0) [(0,.arr (.nums .i64 xs))] (.inl ⟨rfl,rfl,rfl⟩) rfl ?_
  exact(zu [] [0])
theorem zyj (root a kind:Int) (ps:List Pg) (hp:pB ps) (h0:0≤a) (h1:a<ps.length) (k0:0≤kind) (k2:kind≤2):zr Tryz.prog 165 0 [trV root ps,.c (.int .i64 a),.c (.int .i64 kind)] [] 0 (.c (.bool (sfF root ps kind a))) []:=by
 have q1:=hp.keys a
 have q2:=hp.kids a
 obtain⟨X,hX⟩:∃X,sfF root ps kind a=X:=⟨_,rfl⟩
 rw[hX]
 unfold sfF at hX
 generalize hpg:zb ps a=pg at *
 dsimp only[zb]at hpg
 refine spi (fn:=Tryz.f165) _ ?_
 conv=>whnf
 repeat' first
  |(refine za (by(try simp only[wA,wL])<;>omega) ?_;conv=>whnf)
  |(refine zk (fun h=>?_) (fun h=>?_)<;>(try simp only[qA]at h)<;>(try simp only[wA]at h)<;>conv=>whnf)
  |refine zc ?_
  |refine zh ?_
 all_goals try rw[hpg]at *
 all_goals subst hX
 all_goals first
  |(rw[if_pos (by assumption)];refine decide_eq_decide.2 ?_;show(pg.keys.length:Int)<4↔_;omega)
  |(rw[if_neg (by assumption),if_pos (by assumption),if_pos (by assumption)];refine decide_eq_true (Or.inl ?_);omega)
  |(rw[if_neg (by assumption),if_pos (by assumption),if_pos (by assumption)];refine decide_eq_decide.2 ?_;show(pg.keys.length:Int)>1↔_;omega)
  |(rw[if_neg (by assumption),if_pos (by assumption),if_neg (by assumption)];refine decide_eq_decide.2 ?_;show(pg.keys.length:Int)>2↔_;omega)
  |(rw[if_neg (by assumption),if_neg (by assumption)])
  |(rw[if_neg (by omega),if_neg (by omega)];done)
  |(rw[if_neg (by omega),if_neg (by omega)];rfl)
theorem sfF_0 (root a:Int) (ps:List Pg):sfF root ps 0 a=true:=rfl
theorem sfF_1 (root a:Int) (ps:List Pg):sfF root ps 1 a=decide ((zb ps a).keys.length<4):=rfl
theorem sfF_2 (root a:Int) (ps:List Pg):sfF root ps 2 a=if a=root then decide ((zb ps a).kids.length=0∨1<(zb ps a).keys.length)else decide (2<(zb ps a).keys.length):=rfl
theorem zug (root a kind:Int) (ps:List Pg) (hp:pB ps) (hv:vTree root ps=true) (h0:0≤a) (h1:a<ps.length) (k0:0≤kind) (k2:kind≤2):zr Tryz.prog 161 0 [trV root ps,.c (.int .i64 a),.c (.int .i64 kind)] [] 0 (.c (.bool (sfF root ps kind a))) []:=by
 have hvt:=zbi root ps hp
 rw[hv]at hvt
 have q1:=hp.keys a
 have q2:=hp.kids a
 rcases(by omega:kind=0∨kind=1∨kind=2)with rfl|rfl|rfl
 ·rw[sfF_0]
  refine spi (fn:=Tryz.f161) _ ?_
  conv=>whnf
  repeat' first
   |(refine zn ?_ ?_;(focus (first|rfl|exact beq_self_eq_true _));conv=>whnf)
   |(refine zm ?_ ?_;(focus (first|rfl|exact bne_self_eq_false _));conv=>whnf)
   |(refine zm ?_ ?_;(focus ((try simp only[qA])<;>(try simp only[wA])<;>omega));conv=>whnf)
   |(refine za (by(try simp only[wA,wL])<;>omega) ?_;conv=>whnf)
   |refine zc ?_
   |(refine zp (hvt) rfl rfl ?_;conv=>whnf)
  rfl
 ·rw[sfF_1]
  generalize hpg:zb ps a=pg at *
  dsimp only[zb]at hpg
  refine spi (fn:=Tryz.f161) _ ?_
  conv=>whnf
  repeat' first
   |(refine zn ?_ ?_;(focus (first|rfl|exact beq_self_eq_true _));conv=>whnf)
   |(refine zm ?_ ?_;(focus (first|rfl|exact bne_self_eq_false _));conv=>whnf)
   |(refine zm ?_ ?_;(focus ((try simp only[qA])<;>(try simp only[wA])<;>omega));conv=>whnf)
   |(refine za (by(try simp only[wA,wL])<;>omega) ?_;conv=>whnf)
   |refine zh ?_
   |(refine zp (hvt) rfl rfl ?_;conv=>whnf)
  rw[hpg]
  refine decide_eq_decide.2 ?_
  show(pg.keys.length:Int)<4↔_
  omega
 ·rw[sfF_2]
  generalize hpg:zb ps a=pg at *
  dsimp only[zb]at hpg
  by_cases c:a=root
  ·rw[if_pos c]
   refine spi (fn:=Tryz.f161) _ ?_
   conv=>whnf
   repeat' first
    |(refine zn ?_ ?_;(focus (first|rfl|exact beq_self_eq_true _));conv=>whnf)
    |(refine zm ?_ ?_;(focus (first|rfl|exact bne_self_eq_false _));conv=>whnf)
    |(refine zn ?_ ?_;(focus ((try simp only[qA])<;>(try simp only[wA])<;>omega));conv=>whnf)
    |(refine zm ?_ ?_;(focus ((try simp only[qA])<;>(try simp only[wA])<;>omega));conv=>whnf)
    |(refine za (by(try simp only[wA,wL])<;>omega) ?_;conv=>whnf)
    |(refine zk (fun h=>?_) (fun h=>?_)<;>(try simp only[qA]at h)<;>(try simp only[wA]at h)<;>conv=>whnf)
    |refine zc ?_
    |refine zh ?_
    |(refine zp (hvt) rfl rfl ?_;conv=>whnf)
   all_goals rw[hpg]at *
   ·refine(decide_eq_true (Or.inl ?_))
    omega
   ·refine decide_eq_decide.2 ?_
    show(pg.keys.length:Int)>1↔_
    omega
  ·rw[if_neg c]
   refine spi (fn:=Tryz.f161) _ ?_
   conv=>whnf
   repeat' first
    |(refine zn ?_ ?_;(focus (first|rfl|exact beq_self_eq_true _));conv=>whnf)
    |(refine zm ?_ ?_;(focus (first|rfl|exact bne_self_eq_false _));conv=>whnf)
    |(refine zm ?_ ?_;(focus ((try simp only[qA])<;>(try simp only[wA])<;>omega));conv=>whnf)
    |(refine za (by(try simp only[wA,wL])<;>omega) ?_;conv=>whnf)
    |refine zh ?_
    |(refine zp (hvt) rfl rfl ?_;conv=>whnf)
   rw[hpg]
   refine decide_eq_decide.2 ?_
   show(pg.keys.length:Int)>2↔_
   omega
end Go.VL
namespace Go.VL
open Go.Proofs
set_option maxRecDepth 10000
set_option linter.unusedSimpArgs false
set_option linter.unusedVariables false
theorem z8s (x:Pr):zr Tryz.prog 106 0 [prV x] [] 0 (.c (.bool (zdb [x]))) []:=by
 obtain⟨k,v⟩:=x
 have hk:=z2a k
 have hv:=zrb v
 have e:zdb [⟨k,v⟩]=(decide (0≤k∧k≤99)&&decide (-1000≤v∧v≤1000)):=by rw[Bool.eq_iff_iff,zsq,Bool.and_eq_true,decide_eq_true_iff,decide_eq_true_iff]
 rw[e]
 generalize decide (0≤k∧k≤99)=A at *
 generalize decide (-1000≤v∧v≤1000)=B at *
 refine spi (fn:=Tryz.f106) _ ?_
 conv=>whnf
 cases A with
 |false =>
  repeat' first
   |(refine zm ?_ ?_;(focus (first|rfl|exact bne_self_eq_false _));conv=>whnf)
   |refine zd ?_
   |(refine zp (hk) rfl rfl ?_;conv=>whnf)
  rfl
 |true =>
  repeat' first
   |(refine zn ?_ ?_;(focus (first|rfl|exact beq_self_eq_true _));conv=>whnf)
   |refine zh ?_
   |(refine zp (hk) rfl rfl ?_;conv=>whnf)
   |(refine zp (hv) rfl rfl ?_;conv=>whnf)
  rfl
theorem z6m (xs:List Int) (hl:xs.length≤4294967296):zr Tryz.prog 146 0 [.c (.nums .i64 xs)] [] 0 (.c (.nums .i64 xs)) []:=zdn (zvt xs hl) rfl
theorem z6i (xs:List Pr) (hl:xs.length≤4294967296):zr Tryz.prog 153 0 [.c (.prs xs)] [] 1 (.slc 0) [(0,.arr (.prs xs))]:=by
 refine zq9 (R:=fun m res hout=>(m=1∧res=.slc 0∧hout=[(0,.arr (.prs xs))])∨(m=0∧res=.nil∧hout=[]∧xs=[])) ?_ (by
  rintro m res hout (h|⟨h1,h2,h3,rfl⟩)
  ·exact .inl h
  ·exact .inr ⟨h1,h2,h3,rfl,rfl⟩)
 refine spx (fn:=Tryz.f153) _ ?_
 conv=>whnf
 refine zye (fun h=>?_) ?_
 ·conv=>whnf
  skip
  refine za1 0 .nil [] (.inr ⟨rfl,rfl,rfl,List.eq_nil_of_length_eq_zero h⟩) rfl ?_
  exact(zu [] [])
 ·conv=>whnf
  repeat' (refine za (by(try simp only[wA,wL])<;>omega) ?_;conv=>whnf)
  refine za1 1 (.slc 0) [(0,.arr (.prs xs))] (.inl ⟨rfl,rfl,rfl⟩) rfl ?_
  exact(zu [] [0])
theorem yb0 (xs:List Pr) (hl:xs.length≤4294967296):zr Tryz.prog 153 0 [.c (.prs xs)] [] 0 (.c (.prs xs)) []:=zdn (z6i xs hl) rfl
theorem yak {α:Type} {xs:List α} {i:Nat} (x:α) (h:i<xs.length):xs.set i x=xs.take i++([]++[x])++xs.drop (i+1):=by
 rw[List.set_eq_take_append_cons_drop,if_pos h];simp
theorem z9g (xs:List Pr) (x:Pr) (hl:xs.length≤1000) (hv:za2 (xs.map Pr.key)=true):zr Tryz.prog 108 0 [.c (.prs xs),prV x] [] 1 (.slc 0) [(0,.arr (.prs (zbc xs x)))]:=by
 have hp:=zto xs x.key (by omega) hv
 have hc:=z6i xs (by omega)
 have hb:=zvm (xs.map Pr.key) x.key
 rw[List.length_map]at hb
 have hh:=zou (k:=x.key) (zde.1 hv).1
 rw[List.length_map,zmk]at hh
 have p1:=zvy (x:=x) (xs:=xs)
 have p2:=zqo (x:=x) (xs:=xs)
 have hi:=yap xs (belF (xs.map Pr.key) x.key) x hb (by omega)
 by_cases c:x.key∈xs.map Pr.key
 ·have hc1:=List.contains_iff_mem.2 c
  rw[hc1]at hp
  obtain⟨q1,q2⟩:=hh.1 c
  have e:=p1 q1 q2
  rw[←yak x q1]at e
  rw[←e]
  clear p1 p2 hi e hh hc1 c
  obtain⟨k,v⟩:=x
  dsimp only at *
  generalize belF (xs.map Pr.key) k=B at *
  refine spi (fn:=Tryz.f108) _ ?_
  conv=>whnf
  repeat' first
   |(refine zn ?_ ?_;(focus (first|rfl|exact beq_self_eq_true _));conv=>whnf)
   |(refine za (by(try simp only[wA,wL])<;>omega) ?_;conv=>whnf)
   |(refine zp (hp) rfl rfl ?_;conv=>whnf)
   |(refine z8 (hc) rfl ?_;conv=>whnf)
  exact(zu [] [1])
 ·have hc1:(xs.map Pr.key).contains x.key=false:=by rw[←Bool.not_eq_true,List.contains_iff_mem];exact c
  rw[hc1]at hp
  have e:=p2 fun q=>c (hh.2 q)
  have e2:xs.take (belF (xs.map Pr.key) x.key)++x::xs.drop (belF (xs.map Pr.key) x.key)=zbc xs x:=by rw[←e];simp
  rw[←e2]
  clear p1 p2 e hh hc1 c e2
  obtain⟨k,v⟩:=x
  dsimp only at *
  generalize belF (xs.map Pr.key) k=B at *
  refine spi (fn:=Tryz.f108) _ ?_
  conv=>whnf
  repeat' first
   |(refine zm ?_ ?_;(focus (first|rfl|exact bne_self_eq_false _));conv=>whnf)
   |(refine zp (hp) rfl rfl ?_;conv=>whnf)
   |(refine z8 (hc) rfl ?_;conv=>whnf)
   |(refine zal [2] [1] (hi) ?_;(conv=>whnf);refine⟨rfl,rfl,rfl,(by repeat first|exact trivial|refine⟨rfl,?_⟩),⟨rfl,rfl,rfl,rfl,rfl,rfl⟩,?_⟩;conv=>whnf)
  exact(zu [] [1])
theorem z81 (xs:List Pr) (hl:xs.length≤1000) (hv:zdb xs=true):zr Tryz.prog 155 0 [.c (.prs xs)] [] 0 (.tup [.c (.prs (xs.take ((xs.length+1) / 2))),.c (.prs (xs.drop ((xs.length+1) / 2)))]) []:=by
 have hvr:=zw7 xs (by omega)
 rw[hv]at hvr
 have hd:((xs.length:Int)+1).tdiv 2=((xs.length:Int)+1) / 2:=Int.tdiv_eq_ediv_of_nonneg (by omega)
 refine spi (fn:=Tryz.f155) _ ?_
 conv=>whnf
 repeat' first
  |(refine za (by kernel_rfl) ?_;conv=>whnf)
  |(refine zm ?_ ?_;(focus (first|rfl|exact bne_self_eq_false _));conv=>whnf)
  |(refine za (by(try simp only[wA,wL])<;>omega) ?_;conv=>whnf)
  |(refine zg (by(try simp only[wA,wL])<;>omega) (by(try simp only[wA,wL])<;>omega) ?_;conv=>whnf)
  |(refine zp (hvr) rfl rfl ?_;conv=>whnf)
  |(refine zw (yb0 _ (by first|(rw[w7];omega)|(rw[w8];omega))) rfl rfl ?_;conv=>whnf)
  |(refine ze ?_;conv=>whnf)
 exact(zu [] [])
theorem z5g (p:Pg):zr Tryz.prog 110 0 [inV p] [] 0 (pgV ⟨p.keys,p.kids,[]⟩) []:=by
 refine z8m (res:=.agg [.c (.nums .i64 p.keys),.c (.nums .i64 p.kids),.nil]) (.ag ⟨.refl _,.refl _,.n0,trivial⟩) ?_
 refine spi (fn:=Tryz.f110) _ ?_
 conv=>whnf
 skip
 exact(zu [] [])
theorem z6t (xs:List Pr) (hl:xs.length≤4294967296):zr Tryz.prog 107 0 [.c (.prs xs)] [] 0 (pgV (zae xs)) []:=z8m (res:=lfV xs) (.ag ⟨.refl _,.n0,.refl _,trivial⟩) (ybc xs hl)
theorem z9i (p:Pg) (hk:p.kids.length=p.keys.length+1) (h1:1≤p.keys.length) (hl:p.keys.length≤1000):zr Tryz.prog 156 0 [inV p] [] 0 (.tup [inV ⟨p.keys.take (p.keys.length / 2),p.kids.take (p.keys.length / 2+1),[]⟩,.c (.int .i64 (p.keys.getD (p.keys.length / 2) 0)),inV ⟨p.keys.drop (p.keys.length / 2+1),p.kids.drop (p.keys.length / 2+1),[]⟩]) []:=by
 obtain⟨ks,cs,vs⟩:=p
 dsimp only[inV]at *
 have hd:(ks.length:Int).tdiv 2=(ks.length:Int) / 2:=Int.tdiv_eq_ediv_of_nonneg (by omega)
 refine spi (fn:=Tryz.f156) _ ?_
 conv=>whnf
 repeat' first
  |(refine za (by kernel_rfl) ?_;conv=>whnf)
  |(refine za (by(try simp only[wA,wL])<;>omega) ?_;conv=>whnf)
  |(refine zg (by(try simp only[wA,wL])<;>omega) (by(try simp only[wA,wL])<;>omega) ?_;conv=>whnf)
  |(refine zw (z6m _ (by first|(rw[w7];omega)|(rw[w8];omega))) rfl rfl ?_;conv=>whnf)
  |(refine ze ?_;conv=>whnf)
 exact(zu [] [])
end Go.VL
namespace Go.VL
open Go.Proofs
set_option maxRecDepth 10000
set_option linter.unusedSimpArgs false
set_option linter.unusedVariables false
theorem z9q (p:Pg) (hl:p.keys.length≤1000) (h1:2≤p.keys.length) (hlf:p.kids.length=0→p.vals.length=p.keys.length∧zdb (zab p)=true) (hin:p.kids.length≠0→p.kids.length=p.keys.length+1) :
  zr Tryz.prog 109 0 [pgV p] [] 0 (.tup [pgV (zam p).1,.c (.int .i64 (zam p).2.1),pgV (zam p).2.2]) []:=by
 unfold zam
 by_cases c:p.kids.length=0
 ·rw[if_pos c]
  obtain⟨q1,q2⟩:=hlf c
  have hr:=zby p q1
  have hpl:=zdn (zmb p q1 (by omega)) rfl
  change zr _ _ _ _ _ _ (.c (.prs (zab p))) _ at hpl
  have hsr:=z81 (zab p) (by omega) q2
  have ha:=z6t ((zab p).take (((zab p).length+1) / 2)) (by rw[List.length_take];omega)
  have hb:=z6t ((zab p).drop (((zab p).length+1) / 2)) (by rw[List.length_drop];omega)
  have hbl:0<((zab p).drop (((zab p).length+1) / 2)).length:=by rw[List.length_drop];omega
  rw[←zw5]
  generalize (zab p).take (((zab p).length+1) / 2)=A at *
  generalize (zab p).drop (((zab p).length+1) / 2)=B at *
  generalize zab p=r at *
  obtain⟨ks,cs,vs⟩:=p
  dsimp only at c hpl⊢
  refine spi (fn:=Tryz.f109) _ ?_
  conv=>whnf
  repeat' first
   |(refine za (by kernel_rfl) ?_;conv=>whnf)
   |(refine zn ?_ ?_;(focus ((try simp only[qA])<;>(try simp only[wA])<;>omega));conv=>whnf)
   |(refine za (by(try simp only[wA,wL])<;>omega) ?_;conv=>whnf)
   |(refine zp (hpl) rfl rfl ?_;conv=>whnf)
   |(refine zp (hsr) rfl rfl ?_;conv=>whnf)
   |(refine zw (ha) rfl rfl ?_;conv=>whnf)
   |(refine zw (hb) rfl rfl ?_;conv=>whnf)
   |(refine ze ?_;conv=>whnf)
  exact(zu [] [])
 ·rw[if_neg c]
  have hk:=hin c
  have hio:=zxh p
  have hh:=z9i p hk (by omega) hl
  generalize e1:p.keys.take (p.keys.length / 2)=A1 at *
  generalize e2:p.kids.take (p.keys.length / 2+1)=A2 at *
  generalize e3:p.keys.drop (p.keys.length / 2+1)=B1 at *
  generalize e4:p.kids.drop (p.keys.length / 2+1)=B2 at *
  generalize e5:p.keys.getD (p.keys.length / 2) 0=K at *
  have ha:=z5g ⟨A1,A2,[]⟩
  have hb:=z5g ⟨B1,B2,[]⟩
  clear e1 e2 e3 e4 e5
  obtain⟨ks,cs,vs⟩:=p
  dsimp only at c hio hh hk⊢
  refine spi (fn:=Tryz.f109) _ ?_
  conv=>whnf
  repeat' first
   |(refine za (by kernel_rfl) ?_;conv=>whnf)
   |(refine zm ?_ ?_;(focus ((try simp only[qA])<;>(try simp only[wA])<;>omega));conv=>whnf)
   |(refine zp (hio) rfl rfl ?_;conv=>whnf)
   |(refine zp (hh) rfl rfl ?_;conv=>whnf)
   |(refine zw (ha) rfl rfl ?_;conv=>whnf)
   |(refine zw (hb) rfl rfl ?_;conv=>whnf)
   |(refine ze ?_;conv=>whnf)
  exact(zu [] [])
theorem z76 (p:Pg) (kid:Int) (hl:p.kids.length≤4294967296) (hm:kid∈p.kids):zr Tryz.prog 111 0 [pgV p,.c (.int .i64 kid)] [] 0 (.c (.int .i64 (plN p.kids kid))) []:=by
 obtain⟨ks,cs,vs⟩:=p
 dsimp only at *
 refine spi (fn:=Tryz.f111) _ ?_
 conv=>whnf
 skip
 refine zau (fun k:Nat=>k≤cs.length∧kid∉cs.take k) (fun k=>⟨20,0,[(1,.c (.int .i64 kid)),(8,.c (.nums .i64 cs)),(9,.c (.int .i64 cs.length)),(10,.c (.int .i64 k))],[]⟩) (fun k=>cs.length-k) 0 ⟨Nat.zero_le _,by simp⟩ (fun _=>Nat.zero_le _) zbn (fun k hk=>?_)
 obtain⟨hk,hn⟩:=hk
 by_cases c:k<cs.length
 ·by_cases e:cs.getD k 0=kid
  ·have:=z3l hn c e
   conv=>whnf
   repeat' first|(refine zn ?_ ?_;(focus ((try simp only[qA])<;>(try simp only[wA])<;>omega));conv=>whnf)|(refine za (by(try simp only[wA,wL])<;>omega) ?_;conv=>whnf)|refine zi ?_
   all_goals first|exact(zu [] [])|(exfalso;omega)|(rw[←this])
  ·have:=zuq hn c e
   conv=>whnf
   repeat' first
    |(refine zn ?_ ?_;(focus ((try simp only[qA])<;>(try simp only[wA])<;>omega));conv=>whnf)
    |(refine zm ?_ ?_;(focus ((try simp only[qA])<;>(try simp only[wA])<;>omega));conv=>whnf)
    |(refine za (by(try simp only[wA,wL])<;>omega) ?_;conv=>whnf)
    |(refine zg (by(try simp only[wA,wL])<;>omega) (by(try simp only[wA,wL])<;>omega) ?_;conv=>whnf)
   all_goals first|(exfalso;exact e (by assumption))|exact⟨⟨k+1,by omega,this⟩,zbn,by dsimp only;omega⟩
 ·rw[List.take_of_length_le (by omega)]at hn
  exact absurd hm hn
theorem yar (p:Pg) (place:Nat) (key kid:Int) (hp:place<p.kids.length) (hv:zl3 p=true) (h2:p.keys.length≤1000) (h3:p.kids.length≤1000) (hk:p.kids.length=p.keys.length+1) :
  zr Tryz.prog 112 0 [inV p,.c (.int .i64 place),.c (.int .i64 key),.c (.int .i64 kid)] [] 0 (.tup (if zl3 (zfu p place key kid)=true then [inV (zfu p place key kid),.tt]else [.agg [.nil,.nil],.ff])) []:=by
 have hvi:=zuk p.keys p.kids p.vals (by omega) (by omega)
 change zr _ _ _ _ _ _ (.c (.bool (zl3 p))) _ at hvi
 rw[hv]at hvi
 have hck:=zvt p.keys (by omega)
 have hcc:=zvt p.kids (by omega)
 have hik:=z8r p.keys place key (by omega) (by omega)
 have hic:=z8r p.kids (place+1) kid (by omega) (by omega)
 have e:zfu p place key kid=⟨p.keys.take place++key::p.keys.drop place,p.kids.take (place+1)++kid::p.kids.drop (place+1),[]⟩:=rfl
 rw[e]
 have hvr:=zuk (p.keys.take place++key::p.keys.drop place) (p.kids.take (place+1)++kid::p.kids.drop (place+1)) [] (by simp only[List.length_append,List.length_cons,List.length_take,List.length_drop];omega) (by simp only[List.length_append,List.length_cons,List.length_take,List.length_drop];omega)
 have e2:((place:Int)+1)=((place+1:Nat):Int):=rfl
 rw[←e2]at hic
 generalize p.keys.take place++key::p.keys.drop place=K2 at *
 generalize p.kids.take (place+1)++kid::p.kids.drop (place+1)=C2 at *
 generalize zl3 ⟨K2,C2,[]⟩=VV at *
 obtain⟨ks,cs,vs⟩:=p
 dsimp only[inV]at *
 clear e hv hk
 refine spi (fn:=Tryz.f112) _ ?_
 conv=>whnf
 cases VV with
 |false =>
  repeat' first
   |(refine za (by kernel_rfl) ?_;conv=>whnf)
   |(refine zn ?_ ?_;(focus (first|rfl|exact beq_self_eq_true _));conv=>whnf)
   |(refine zm ?_ ?_;(focus (first|rfl|exact bne_self_eq_false _));conv=>whnf)
   |(refine zm ?_ ?_;(focus ((try simp only[qA])<;>(try simp only[wA])<;>omega));conv=>whnf)
   |(refine zg (by(try simp only[wA,wL])<;>omega) (by(try simp only[wA,wL])<;>omega) ?_;conv=>whnf)
   |(refine zp (hvi) rfl rfl ?_;conv=>whnf)
   |(refine zar (hck) rfl rfl ?_;conv=>whnf)
   |(refine zar (hcc) rfl rfl ?_;conv=>whnf)
   |(refine z5w 4 hik rfl rfl rfl rfl ?_;conv=>whnf)
   |(refine z5w 11 hic rfl rfl rfl rfl ?_;conv=>whnf)
   |(refine zp (hvr) rfl rfl ?_;conv=>whnf)
   |(refine ze ?_;conv=>whnf)
  rw[if_neg (by decide)]
  exact(zu [] [])
 |true =>
  repeat' first
   |(refine za (by kernel_rfl) ?_;conv=>whnf)
   |(refine zm ?_ ?_;(focus (first|rfl|exact bne_self_eq_false _));conv=>whnf)
   |(refine zm ?_ ?_;(focus ((try simp only[qA])<;>(try simp only[wA])<;>omega));conv=>whnf)
   |(refine zg (by(try simp only[wA,wL])<;>omega) (by(try simp only[wA,wL])<;>omega) ?_;conv=>whnf)
   |(refine zp (hvi) rfl rfl ?_;conv=>whnf)
   |(refine zar (hck) rfl rfl ?_;conv=>whnf)
   |(refine zar (hcc) rfl rfl ?_;conv=>whnf)
   |(refine z5w 4 hik rfl rfl rfl rfl ?_;conv=>whnf)
   |(refine z5w 11 hic rfl rfl rfl rfl ?_;conv=>whnf)
   |(refine zp (hvr) rfl rfl ?_;conv=>whnf)
   |(refine ze ?_;conv=>whnf)
  rw[if_pos rfl]
  exact(zu [] [])
end Go.VL
namespace Go.VL
abbrev ztV:V:=.agg [.c (.int .i64 0),.nil]
def unR:Option (Int×List Pg)→List V
 |some (r,ps)=>[trV r ps,.tt]
 |none=>[ztV,.ff]
end Go.VL
