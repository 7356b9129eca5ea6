/- V-logic: TrP TrR TrO TrS TrU -/
import Derived.Test.YtfogmgldlemngaaVPD
import Derived.Test.YtfogmgldlemngaaVT2
import Derived.Test.YtfogmgldlemngaaVT1
import Derived.Test.YtfogmgldlemngaaVT5
import Derived.Test.YtfogmgldlemngaaVT3
namespace Go.VL
open Go.Proofs
set_option maxRecDepth 10000
set_option linter.unusedSimpArgs false
set_option linter.unusedVariables false
theorem z2n (m n i:Nat) (hm:m≤1000) (hn:1≤n) (hn2:n≤1000) (hi:i<n):zr Try.prog 49 0 [.c (.int .i64 m),.c (.int .i64 n),.c (.int .i64 i)] [] 0 (.c (.int .i64 ((m*(i+1) / n:Nat)-(m*i / n:Nat):Int))) []:=by
 have e1:((m:Int)*((i:Int)+1)).tdiv n=((m*(i+1) / n:Nat):Int):=rfl
 have e2:((m:Int)*(i:Int)).tdiv n=((m*i / n:Nat):Int):=rfl
 have p1:(m:Int)*((i:Int)+1)=((m*(i+1):Nat):Int):=rfl
 have p2:(m:Int)*(i:Int)=((m*i:Nat):Int):=rfl
 have b1:m*(i+1)≤1000*1000:=Nat.mul_le_mul hm (by omega)
 have b2:m*i≤1000*1000:=Nat.mul_le_mul hm (by omega)
 have d1:=Nat.div_le_self (m*(i+1)) n
 have d2:=Nat.div_le_self (m*i) n
 obtain⟨A,hA⟩:∃A,m*(i+1) / n=A:=⟨_,rfl⟩
 obtain⟨B,hB⟩:∃B,m*i / n=B:=⟨_,rfl⟩
 rw[hA]at e1 d1
 rw[hB]at e2 d2
 rw[hA,hB]
 generalize hX:m*(i+1)=X at *
 generalize hY:m*i=Y at *
 clear hA hB hX hY
 refine spi (fn:=Try.f49) _ ?_
 conv=>whnf
 repeat' first
  |(refine za (by kernel_rfl) ?_;conv=>whnf)
  |(refine za (by(try simp only[wA,wL])<;>omega) ?_;conv=>whnf)
  |refine zi ?_
  |(refine zg (by(try simp only[wA,wL])<;>omega) (by(try simp only[wA,wL])<;>omega) ?_;conv=>whnf)
  |(refine ze ?_;conv=>whnf)
 rw[e1,e2]
theorem z0n (list:List Pr) (n i j:Nat) (h:i≤j):ldL list n i j++[zae (ldP list n j)]=ldL list n i (j+1):=by
 unfold ldL
 rw[show j+1-i=(j-i)+1 by omega,List.range'_concat,List.map_append,show i+1*(j-i)=j by omega];rfl
theorem znh (list:List Pr) (n i j:Nat):(ldL list n i j).length=j-i:=by
 unfold ldL;simp
theorem z3n (list:List Pr) (n i j k:Nat) (d:Pg) (h:k<j-i):(ldL list n i j).getD k d=zae (ldP list n (i+k)):=by
 unfold ldL
 rw[List.getD_eq_getElem?_getD,List.getElem?_map,List.getElem?_range' h];simp
theorem zhs (list:List Pr) (n i j a:Nat) (h:i<j):ldI list n i (j+1) a=⟨(ldI list n i j a).keys++[ldK list n j],(ldI list n i j a).kids++[((a+(j-i):Nat):Int)],[]⟩:=by
 unfold ldI
 rw[show j+1-i-1=(j-i-1)+1 by omega,show j+1-i=(j-i)+1 by omega,List.range'_concat,List.range'_concat,List.map_append,List.map_append,show i+1+1*(j-i-1)=j by omega,Nat.one_mul];rfl
theorem zqb (list:List Pr) (n i j a:Nat):(ldI list n i j a).keys.length=j-i-1∧(ldI list n i j a).kids.length=j-i:=by
 unfold ldI;simp
theorem zzq (list:List Pr) (n k:Nat):(zae (ldP list n k)).keys.getD 0 0=ldK list n k:=by
 unfold ldK zae
 cases ldP list n k<;>rfl
theorem zvw (list:List Pr) (n k:Nat) (hk:k<n) (h:list.length*k / n+2≤list.length*(k+1) / n):0<(zae (ldP list n k)).keys.length∧(zae (ldP list n k)).keys.length≤list.length:=by
 have:=zlr (m:=list.length) (n:=n) (j:=k+1) (by omega) (by omega)
 unfold zae ldP
 simp only[List.length_map,List.length_drop,List.length_take]
 generalize list.length*(k+1) / n=A at *
 generalize list.length*k / n=B at *
 omega
theorem z3f (list:List Pr) (hl:list.length≤24) (hv:RowOk list 0 99):zr Try.prog 33 0 [.c (.prs list)] [] 1 (.agg [.c (.int .i64 0),.slc 0]) [(0,.arr (.pgs (zf8 list)))]:=by
 have hn:=zsc hl
 have htab:=zzb list.length (by omega)
 obtain⟨n,hnn⟩:∃n,ldN list.length=n:=⟨_,rfl⟩
 have hmx:(if ((((C.prs list).len:Int)+4-1).tdiv 4>1)then(((C.prs list).len:Int)+4-1).tdiv 4 else 1)=(n:Int):=by
  show(if ((list.length:Int)+4-1).tdiv 4>1 then((list.length:Int)+4-1).tdiv 4 else 1)=(n:Int)
  rw[←hnn,Int.tdiv_eq_ediv_of_nonneg (by omega)]
  unfold ldN
  split<;>split<;>omega
 rw[hnn]at hn htab
 have hq:0≤((list.length:Int)+4-1).tdiv 4∧((list.length:Int)+4-1).tdiv 4≤24:=by rw[Int.tdiv_eq_ediv_of_nonneg (by omega)];omega
 obtain⟨Z,hZ⟩:∃Z,zf8 list=Z:=⟨_,rfl⟩
 rw[hZ]
 unfold zf8 at hZ
 rw[hnn]at hZ
 clear hnn
 have hd:∀i,i≤n→list.length*i / n≤list.length:=fun i hi=>zlr hi hn.1
 have hs:∀i,i<n→list.length*i / n≤list.length*(i+1) / n∧list.length*(i+1) / n≤list.length*i / n+4:=fun i hi=>⟨Nat.div_le_div_right (Nat.mul_le_mul_left _ (by omega)),(htab i hi).2⟩
 have hsh:=fun i hi=>z2n list.length n i (by omega) hn.1 (by omega) hi
 refine spi (fn:=Try.f33) _ ?_
 conv=>whnf
 repeat' first|(refine za (by(try simp only[wA,wL])<;>omega) ?_;conv=>whnf)|(refine zg (by(try simp only[wA,wL])<;>omega) (by(try simp only[wA,wL])<;>omega) ?_;conv=>whnf)|(refine zo ?_;conv=>whnf)
 rw[hmx]
 refine zau (fun i:Nat=>i≤n) (fun i=>⟨184,2,[(0,.c (.prs list)),(2,.ptr 0 0 0 0),(3,.c (.int .i64 n)),(4,.slc 1),(5,.c (.int .i64 (list.length*i / n:Nat))),(6,.c (.int .i64 i))],[(0,.box [.c (.int .i64 0),.nil] [] []),(1,.arr (.pgs (ldL list n 0 i)))]⟩) (fun i=>n-i) 0 (Nat.zero_le _) (fun _=>Nat.zero_le _) (zbd [] [0,1] ⟨⟨rfl,rfl,rfl,rfl,congrArg (fun z=>V.c (C.int .i64 z)) ?_,rfl,trivial⟩,by repeat first|exact trivial|refine⟨rfl,?_⟩,rfl,rfl,rfl,rfl,rfl,rfl,rfl⟩) (fun i hi=>?_)
 ·simp
 by_cases hin:i<n
 ·have hs':=hs i hin
  have hd':=hd (i+1) hin
  have hsh':=hsh i hin
  obtain⟨A,hA⟩:∃A,list.length*(i+1) / n=A:=⟨_,rfl⟩
  obtain⟨B,hB⟩:∃B,list.length*i / n=B:=⟨_,rfl⟩
  rw[hA,hB]at hs' hsh'
  rw[hA]at hd'
  rw[hB]
  have hAB:((B:Int)+((A:Int)-(B:Int))).toNat=A:=by omega
  conv=>whnf
  have hll:=znh list n 0 i
  repeat' first
   |(refine zn ?_ ?_;(focus ((try simp only[qA])<;>(try simp only[wA])<;>omega));conv=>whnf)
   |(refine za (by(try simp only[wA,wL])<;>omega) ?_;conv=>whnf)
   |(refine zg (by(try simp only[wA,wL])<;>omega) (by(try simp only[wA,wL])<;>omega) ?_;conv=>whnf)
   |(refine yhk (hsh') rfl rfl ?_;conv=>whnf)
   |(refine yhk (zfz _ ?_) rfl rfl ?_;(first|assumption|omega|exact(by(try simp only[wA,wN,wL])<;>omega));conv=>whnf)
   |(refine zo ?_;conv=>whnf)
  refine⟨⟨i+1,by omega⟩,(zbd [] [0,1] ⟨⟨rfl,rfl,rfl,rfl,congrArg (fun z=>V.c (C.int .i64 z)) ?_,rfl,trivial⟩,⟨rfl,congrArg (fun z=>some (O.arr (C.pgs z))) ?_,trivial⟩,rfl,rfl,rfl,rfl,rfl,rfl,rfl⟩),by dsimp only;omega⟩
  ·rw[hA];omega
  ·rw[hAB,←z0n list n 0 i (by omega)]
   show _=_++[zae (List.drop (list.length*i / n) (List.take (list.length*(i+1) / n) list))]
   rw[hA,hB];rfl
 ·have hie:i=n:=by omega
  subst hie
  clear hsh hs hd
  have hll:=znh list i 0 i
  have hat:=fun k (h:k<i)=>z3n list i 0 i k ⟨[],[],[]⟩ (by omega)
  have hk1:=fun k (h:k<i)=>htab k h
  by_cases h1:i=1
  ·subst h1
   rw[if_pos rfl]at hZ
   have e:ldL list 1 0 1=Z:=by
    rw[←hZ]
    show [zae (ldP list 1 0)]=_
    unfold ldP;simp
   rw[e]
   conv=>whnf
   repeat' first|(refine zn ?_ ?_;(focus ((try simp only[qA])<;>(try simp only[wA])<;>omega));conv=>whnf)|(refine zm ?_ ?_;(focus ((try simp only[qA])<;>(try simp only[wA])<;>omega));conv=>whnf)
   exact(zu [] [1])
  ·rw[if_neg h1]at hZ
   have hL3:i=6→(ldL list i 0 i).take 3=ldL list i 0 3∧(ldL list i 0 i).drop 3=ldL list i 3 6:=fun h=>by subst h;exact⟨rfl,rfl⟩
   generalize ldL list i 0 i=L at *
   by_cases h5:i≤5
   ·rw[if_pos h5]at hZ
    have hpos:∀k,k<i→0<(L.getD k ⟨[],[],[]⟩).keys.length∧(L.getD k ⟨[],[],[]⟩).keys.length≤list.length∧(L.getD k ⟨[],[],[]⟩).keys.getD 0 0=ldK list i k:=fun k hk=>by
     rw[hat k hk,Nat.zero_add]
     have:=zvw list i k hk ((hk1 k hk).1 (by omega))
     exact⟨this.1,this.2,zzq list i k⟩
    have hwl:=fun k=>zqb list i 0 k 1
    clear hk1 htab hat
    conv=>whnf
    repeat' first|(refine zn ?_ ?_;(focus ((try simp only[qA])<;>(try simp only[wA])<;>omega));conv=>whnf)|(refine zm ?_ ?_;(focus ((try simp only[qA])<;>(try simp only[wA])<;>omega));conv=>whnf)
    refine zau (fun j:Nat=>j≤i) (fun j=>⟨184,5,[(2,.ptr 0 0 0 0),(3,.c (.int .i64 i)),(4,.slc 1),(8,.ptr 4 0 0 0),(9,.c (.int .i64 j))],[(0,.box [.c (.int .i64 0),.nil] [] []),(1,.arr (.pgs L)),(2,.arr (.nums .i64 (ldI list i 0 j 1).keys)),(3,.arr (.nums .i64 (ldI list i 0 j 1).kids)),(4,.box [.slc 2,.slc 3] [] [])]⟩) (fun j=>i-j) 0 (Nat.zero_le _) (fun _=>Nat.zero_le _) (ydn [] [0,1,2,3,4]) (fun j hj=>?_)
    obtain⟨w1,w2⟩:=hwl j
    by_cases hji:j<i
    ·obtain⟨p1,p2,p3⟩:=hpos j hji
     by_cases hj0:j=0
     ·subst hj0
      conv=>whnf
      repeat' first
       |(refine zn ?_ ?_;(focus ((try simp only[qA])<;>(try simp only[wA])<;>omega));conv=>whnf)
       |(refine zm ?_ ?_;(focus ((try simp only[qA])<;>(try simp only[wA])<;>omega));conv=>whnf)
       |(refine za (by(try simp only[wA,wL])<;>omega) ?_;conv=>whnf)
       |(refine zg (by(try simp only[wA,wL])<;>omega) (by(try simp only[wA,wL])<;>omega) ?_;conv=>whnf)
      refine⟨⟨0+1,?_⟩,(zbd [] [0,1,2,3,4] ⟨by repeat first|exact trivial|refine⟨rfl,?_⟩,?_,rfl,rfl,rfl,rfl,rfl,rfl,rfl⟩),by dsimp only;omega⟩;(try dsimp only)
      ·omega
      ·exact⟨rfl,rfl,rfl,rfl,rfl,trivial⟩
     ·conv=>whnf
      repeat' first
       |(refine za (by kernel_rfl) ?_;conv=>whnf)
       |(refine zn ?_ ?_;(focus ((try simp only[qA])<;>(try simp only[wA])<;>omega));conv=>whnf)
       |(refine za (by(try simp only[wA,wL])<;>omega) ?_;conv=>whnf)
       |(refine zg (by(try simp only[wA,wL])<;>omega) (by(try simp only[wA,wL])<;>omega) ?_;conv=>whnf)
       |(refine zo ?_;conv=>whnf)
       |(refine ze ?_;conv=>whnf)
      refine⟨⟨j+1,?_⟩,(zbd [] [0,1,2,3,4] ⟨by repeat first|exact trivial|refine⟨rfl,?_⟩,?_,rfl,rfl,rfl,rfl,rfl,rfl,rfl⟩),by dsimp only;omega⟩;(try dsimp only)
      ·omega
      ·refine⟨rfl,rfl,congrArg (fun z=>some (O.arr (C.nums .i64 z))) ?_,congrArg (fun z=>some (O.arr (C.nums .i64 z))) ?_,rfl,trivial⟩
       ·rw[zhs list i 0 j 1 (by omega)]
        show _++[(L.getD j ⟨[],[],[]⟩).keys.getD 0 0]=_++[_]
        rw[p3]
       ·rw[zhs list i 0 j 1 (by omega)]
        show _++[((j:Nat):Int)+1]=_++[_]
        rw[show((1+(j-0):Nat):Int)=(j:Int)+1 by omega]
    ·have:j=i:=by omega
     subst this
     conv=>whnf
     repeat' first
      |(refine zm ?_ ?_;(focus ((try simp only[qA])<;>(try simp only[wA])<;>omega));conv=>whnf)
      |(refine za (by(try simp only[wA,wL])<;>omega) ?_;conv=>whnf)
      |(refine zal [2,3] [] (zb6 (ldI list j 0 j 1)) ?_;(conv=>whnf);refine⟨rfl,rfl,rfl,(by repeat first|exact trivial|refine⟨rfl,?_⟩),⟨rfl,rfl,rfl,rfl,rfl,rfl⟩,?_⟩;conv=>whnf)
      |(refine zo ?_;conv=>whnf)
     subst hZ
     exact(zu [] [5])
   ·have h6:i=6:=by omega
    subst h6
    rw[if_neg (by decide)]at hZ
    have hpos:∀k,k<6→0<(L.getD k ⟨[],[],[]⟩).keys.length∧(L.getD k ⟨[],[],[]⟩).keys.length≤list.length∧(L.getD k ⟨[],[],[]⟩).keys.getD 0 0=ldK list 6 k:=fun k hk=>by
     rw[hat k hk,Nat.zero_add]
     have:=zvw list 6 k hk ((hk1 k hk).1 (by omega))
     exact⟨this.1,this.2,zzq list 6 k⟩
    have hwl:=fun k=>zqb list 6 0 k 2
    have hwr:=fun k=>zqb list 6 3 k 6
    clear hk1 htab hat
    have hh:((6:Nat):Int).tdiv 2=3:=rfl
    conv=>whnf
    repeat' first
     |(refine zm ?_ ?_;(focus ((try simp only[qA])<;>(try simp only[wA])<;>omega));conv=>whnf)
     |(refine za (by(try simp only[wA,wL])<;>omega) ?_;conv=>whnf)
     |(refine zg (by(try simp only[wA,wL])<;>omega) (by(try simp only[wA,wL])<;>omega) ?_;conv=>whnf)
    refine zk5 (fun(k a b:Nat)=>k≤6∧(k<3→a=k∧b=3)∧(3≤k→a=3∧b=k)) (fun k a b=>⟨184,8,[(2,.ptr 0 0 0 0),(3,.c (.int .i64 6)),(4,.slc 1),(10,.c (.int .i64 3)),(11,.ptr 4 0 0 0),(12,.ptr 7 0 0 0),(13,.c (.int .i64 k))],[(0,.box [.c (.int .i64 0),.nil] [] []),(1,.arr (.pgs L)),(2,.arr (.nums .i64 (ldI list 6 0 a 2).keys)),(3,.arr (.nums .i64 (ldI list 6 0 a 2).kids)),(4,.box [.slc 2,.slc 3] [] []),(5,.arr (.nums .i64 (ldI list 6 3 b 6).keys)),(6,.arr (.nums .i64 (ldI list 6 3 b 6).kids)),(7,.box [.slc 5,.slc 6] [] [])]⟩) (fun k a b=>6-k) 0 0 3 ⟨by omega,fun _=>⟨rfl,rfl⟩,fun h=>by omega⟩ (fun _ _ _=>Nat.zero_le _) (ydn [] [0,1,2,3,4,5,6,7]) (fun k a b hj=>?_)
    obtain⟨hk6,hka,hkb⟩:=hj
    obtain⟨w1,w2⟩:=hwl a
    obtain⟨x1,x2⟩:=hwr b
    by_cases hk3:k<3
    ·obtain⟨p1,p2,p3⟩:=hpos k (by omega)
     obtain⟨rfl,rfl⟩:=hka hk3
     by_cases hk0:a=0
     ·subst hk0
      conv=>whnf
      repeat' first
       |(refine zn ?_ ?_;(focus ((try simp only[qA])<;>(try simp only[wA])<;>omega));conv=>whnf)
       |(refine zm ?_ ?_;(focus ((try simp only[qA])<;>(try simp only[wA])<;>omega));conv=>whnf)
       |(refine za (by(try simp only[wA,wL])<;>omega) ?_;conv=>whnf)
       |(refine zg (by(try simp only[wA,wL])<;>omega) (by(try simp only[wA,wL])<;>omega) ?_;conv=>whnf)
      refine⟨⟨(0+1,0+1,3),?_⟩,(zbd [] [0,1,2,3,4,5,6,7] ⟨by repeat first|exact trivial|refine⟨rfl,?_⟩,?_,rfl,rfl,rfl,rfl,rfl,rfl,rfl⟩),by dsimp only;omega⟩;(try dsimp only)
      ·omega
      ·exact⟨rfl,rfl,rfl,rfl,rfl,rfl,rfl,rfl,trivial⟩
     ·conv=>whnf
      repeat' first
       |(refine za (by kernel_rfl) ?_;conv=>whnf)
       |(refine zn ?_ ?_;(focus ((try simp only[qA])<;>(try simp only[wA])<;>omega));conv=>whnf)
       |(refine zm ?_ ?_;(focus ((try simp only[qA])<;>(try simp only[wA])<;>omega));conv=>whnf)
       |(refine za (by(try simp only[wA,wL])<;>omega) ?_;conv=>whnf)
       |(refine zg (by(try simp only[wA,wL])<;>omega) (by(try simp only[wA,wL])<;>omega) ?_;conv=>whnf)
       |(refine zo ?_;conv=>whnf)
       |(refine ze ?_;conv=>whnf)
      refine⟨⟨(a+1,a+1,3),?_⟩,(zbd [] [0,1,2,3,4,5,6,7] ⟨by repeat first|exact trivial|refine⟨rfl,?_⟩,?_,rfl,rfl,rfl,rfl,rfl,rfl,rfl⟩),by dsimp only;omega⟩;(try dsimp only)
      ·omega
      ·refine⟨rfl,rfl,congrArg (fun z=>some (O.arr (C.nums .i64 z))) ?_,congrArg (fun z=>some (O.arr (C.nums .i64 z))) ?_,rfl,rfl,rfl,rfl,trivial⟩
       ·rw[zhs list 6 0 a 2 (by omega)]
        show _++[(L.getD a ⟨[],[],[]⟩).keys.getD 0 0]=_++[_]
        rw[p3]
       ·rw[zhs list 6 0 a 2 (by omega)]
        show _++[2+((a:Nat):Int)]=_++[_]
        rw[show((2+(a-0):Nat):Int)=2+(a:Int) by omega]
    ·obtain⟨rfl,rfl⟩:=hkb (by omega)
     by_cases hk6':b<6
     ·obtain⟨p1,p2,p3⟩:=hpos b (by omega)
      by_cases hk0:b=3
      ·subst hk0
       conv=>whnf
       repeat' first
        |(refine zn ?_ ?_;(focus ((try simp only[qA])<;>(try simp only[wA])<;>omega));conv=>whnf)
        |(refine zm ?_ ?_;(focus ((try simp only[qA])<;>(try simp only[wA])<;>omega));conv=>whnf)
        |(refine za (by(try simp only[wA,wL])<;>omega) ?_;conv=>whnf)
        |(refine zg (by(try simp only[wA,wL])<;>omega) (by(try simp only[wA,wL])<;>omega) ?_;conv=>whnf)
       refine⟨⟨(3+1,3,3+1),?_⟩,(zbd [] [0,1,2,3,4,5,6,7] ⟨by repeat first|exact trivial|refine⟨rfl,?_⟩,?_,rfl,rfl,rfl,rfl,rfl,rfl,rfl⟩),by dsimp only;omega⟩;(try dsimp only)
       ·omega
       ·exact⟨rfl,rfl,rfl,rfl,rfl,rfl,rfl,rfl,trivial⟩
      ·conv=>whnf
       repeat' first
        |(refine za (by kernel_rfl) ?_;conv=>whnf)
        |(refine zn ?_ ?_;(focus ((try simp only[qA])<;>(try simp only[wA])<;>omega));conv=>whnf)
        |(refine zm ?_ ?_;(focus ((try simp only[qA])<;>(try simp only[wA])<;>omega));conv=>whnf)
        |(refine za (by(try simp only[wA,wL])<;>omega) ?_;conv=>whnf)
        |(refine zg (by(try simp only[wA,wL])<;>omega) (by(try simp only[wA,wL])<;>omega) ?_;conv=>whnf)
        |(refine zo ?_;conv=>whnf)
        |(refine ze ?_;conv=>whnf)
       refine⟨⟨(b+1,3,b+1),?_⟩,(zbd [] [0,1,2,3,4,5,6,7] ⟨by repeat first|exact trivial|refine⟨rfl,?_⟩,?_,rfl,rfl,rfl,rfl,rfl,rfl,rfl⟩),by dsimp only;omega⟩;(try dsimp only)
       ·omega
       ·refine⟨rfl,rfl,rfl,rfl,rfl,congrArg (fun z=>some (O.arr (C.nums .i64 z))) ?_,congrArg (fun z=>some (O.arr (C.nums .i64 z))) ?_,rfl,trivial⟩
        ·rw[zhs list 6 3 b 6 (by omega)]
         show _++[(L.getD b ⟨[],[],[]⟩).keys.getD 0 0]=_++[_]
         rw[p3]
        ·rw[zhs list 6 3 b 6 (by omega)]
         show _++[3+((b:Nat):Int)]=_++[_]
         rw[show((6+(b-3):Nat):Int)=3+(b:Int) by omega]
     ·have:b=6:=by omega
      subst this
      obtain⟨p1,p2,p3⟩:=hpos 3 (by omega)
      obtain⟨t1,t2⟩:=hL3 rfl
      have p1':0<(L.getD (Int.toNat 3) ⟨[],[],[]⟩).keys.length:=p1
      have p3':(L.getD (Int.toNat 3) ⟨[],[],[]⟩).keys.getD (Int.toNat 0) 0=ldK list 6 3:=p3
      conv=>whnf
      repeat' first
       |(refine zm ?_ ?_;(focus ((try simp only[qA])<;>(try simp only[wA])<;>omega));conv=>whnf)
       |(refine za (by(try simp only[wA,wL])<;>omega) ?_;conv=>whnf)
       |(refine zg (by(try simp only[wA,wL])<;>omega) (by(try simp only[wA,wL])<;>omega) ?_;conv=>whnf)
       |((refine ze9 [.fz [8,9,2,3,5,6,1]] ?_;(conv=>whnf);fail_if_success (guard_target =~ False));conv=>whnf)
       |(refine zw (zb6 ⟨_,_,[]⟩) rfl rfl ?_;conv=>whnf)
      refine zlj ?_
      conv=>whnf
      repeat' first
       |(refine za (by kernel_rfl) ?_;conv=>whnf)
       |(refine za (by(try simp only[wA,wL])<;>omega) ?_;conv=>whnf)
       |(refine yhk (zb6 ⟨_,_,[]⟩) rfl rfl ?_;conv=>whnf)
       |(refine zo ?_;conv=>whnf)
      refine zbg [] [15] ⟨rfl,⟨congrArg (fun z=>some (O.arr (C.pgs z))) ?_,trivial⟩,rfl,rfl,rfl,rfl,rfl,rfl⟩
      rw[←hZ,show ldL list 6 0 (6 / 2)=L.take 3 from t1.symm,show ldL list 6 (6 / 2) 6=L.drop 3 from t2.symm,show ldK list 6 (6 / 2)=_ from p3'.symm]
      simp only[List.nil_append,List.append_assoc,List.cons_append,List.singleton_append]
      rfl
end Go.VL
namespace Go.VL
open Go.Proofs
set_option maxRecDepth 10000
set_option linter.unusedSimpArgs false
set_option linter.unusedVariables false
def z2v (code:List Int) (p0:Int) (m:Nat) (res:V) (hout:List (Nat×O)):Prop :=
 ∃(row:List Pr) (p:Int),RowOk row 0 99∧row.length≤24∧p0≤p∧p≤p0+100∧m=1∧res=.c (.prs row)∧hout=[(0,.box [.c (.nums .u8 code),.c (.int .i64 p)] [] [])]
theorem zyf (code:List Int) (hc:CodeOk code) (p0:Int) (h0:0≤p0) (h1:p0≤1000000):zce Try.prog 34 1 [.ptr 0 0 0 0] [(0,.box [.c (.nums .u8 code),.c (.int .i64 p0)] [] [])] (z2v code p0):=by
 have hn:=zjy code hc p0 [6,9,13,4,20,24,1,0] h0 (by omega) (by simp) (by simp)
 obtain⟨N,hN⟩:∃N:Int,([6,9,13,4,20,24,1,0]:List Int).getD (zah code p0 ([6,9,13,4,20,24,1,0]:List Int).length).toNat 0=N:=⟨_,rfl⟩
 have hNb:0≤N∧N≤24:=by
  rw[←hN]
  generalize (zah code p0 _).toNat=t
  match t with
  |0=>decide
  |1=>decide
  |2=>decide
  |3=>decide
  |4=>decide
  |5=>decide
  |6=>decide
  |7=>decide
  |t+8=>exact⟨Int.le_refl 0,(by decide:(0:Int)≤24)⟩
 rw[hN]at hn
 refine spx (fn:=Try.f34) _ ?_
 conv=>whnf
 repeat' (refine zal [2] [0] (hn) ?_;(conv=>whnf);refine⟨rfl,rfl,rfl,(by repeat first|exact trivial|refine⟨rfl,?_⟩),⟨rfl,rfl,rfl,rfl,rfl,rfl⟩,?_⟩;conv=>whnf)
 refine zk5 (fun(out:List Pr) (p z:Int)=>RowOk out 0 99∧out.length≤24∧p0≤p∧p+2*z≤p0+60∧0≤z) (fun out p z=>⟨29,2,[(0,.ptr 0 0 0 0),(3,.slc 1),(4,.c (.int .i64 z))],[(0,.box [.c (.nums .u8 code),.c (.int .i64 p)] [] []),(1,.arr (.prs out))]⟩) (fun out p z=>z.toNat) [] (p0+1) N ⟨⟨by simp[Asc],by simp,by simp⟩,by simp,by omega,by omega,hNb.1⟩ (fun _ _ _=>Nat.le_succ 1) (ydn [] [0,1]) (fun out p z hi=>?_)
 obtain⟨i1,i2,i3,i4,i5⟩:=hi
 have b1:=zdl hc (p:=p) (n:=100) (by omega) (by omega)
 have b2:=zdl hc (p:=p+1) (n:=200) (by omega) (by omega)
 have hp1:=zcs code hc p 100 (by omega) (by omega) (by omega)
 have hp2:=zcs code hc (p+1) 200 (by omega) (by omega) (by omega)
 generalize zah code p 100=A at *
 generalize zah code (p+1) 200=B at *
 have hput:=z1r out ⟨A,B-100⟩ (by omega)
 have hins:=zvq (x:=⟨A,B-100⟩) i1 (by dsimp only;omega) (by dsimp only;omega) (by dsimp only;omega)
 generalize zbc out ⟨A,B-100⟩=out2 at *
 conv=>whnf
 repeat' first
  |(refine zk (fun h=>?_) (fun h=>?_)<;>(try simp only[qA]at h)<;>(try simp only[wA]at h)<;>conv=>whnf)
  |(refine zg (by(try simp only[wA,wL])<;>omega) (by(try simp only[wA,wL])<;>omega) ?_;conv=>whnf)
  |(refine zal [] [0] (hp1) ⟨rfl,rfl,rfl,(by repeat first|exact trivial|refine⟨rfl,?_⟩),⟨rfl,rfl,rfl,rfl,rfl,rfl⟩,?_⟩;conv=>whnf)
  |(refine zal [] [0] (hp2) ⟨rfl,rfl,rfl,(by repeat first|exact trivial|refine⟨rfl,?_⟩),⟨rfl,rfl,rfl,rfl,rfl,rfl⟩,?_⟩;conv=>whnf)
  |(refine zbe (hput) rfl rfl rfl rfl ?_;conv=>whnf)
 ·refine⟨⟨(out2,p+1+1,z-1),?_⟩,(ydn [] [0,4]),by dsimp only;omega⟩;(try dsimp only)
  exact⟨hins,by omega,by omega,by omega,by omega⟩
 ·refine⟨⟨(out,p+1+1,z-1),?_⟩,(ydn [] [0,1]),by dsimp only;omega⟩;(try dsimp only)
  exact⟨i1,i2,by omega,by omega,by omega⟩
 ·refine za1 1 (.c (.prs out)) [(0,.box [.c (.nums .u8 code),.c (.int .i64 p)] [] [])] ⟨out,p,i1,i2,i3,by omega,rfl,rfl,rfl⟩ rfl ?_
  (refine zbg [1] [0] ?_;(conv=>whnf);exact⟨rfl,by repeat first|exact trivial|refine⟨rfl,?_⟩,rfl,rfl,rfl,rfl,rfl,rfl⟩)
end Go.VL
namespace Go.VL
open Go.Proofs
set_option maxRecDepth 10000
set_option linter.unusedSimpArgs false
set_option linter.unusedVariables false
def zql (root:Int) (ps:List Pg) (key:Int):Bool:=vTree root ps&&((psF root ps).map Pr.key).contains key
theorem zps (root key:Int) (ps:List Pg) (hp:pB ps) (ho:zql root ps key=true):zr Try.prog 38 0 [trV root ps,.c (.int .i64 key)] [] 1 (.tup [.agg [.c (.int .i64 (zf4 root ps (htF root ps) key).1),.slc 0],.tt]) [(0,.arr (.pgs (zf4 root ps (htF root ps) key).2))]:=by
 unfold zql at ho
 rw[Bool.and_eq_true]at ho
 obtain⟨h1,h2⟩:=ho
 have v:=za0 h1
 have hv:=zay root ps hp
 have hh:=zue root key ps hp v
 rw[h1]at hv
 rw[h2]at hh
 have hd:=zxa root key ps hp _ v (by rw[List.contains_iff_mem]at h2;exact h2)
 generalize zf4 root ps (htF root ps) key=R at *
 generalize (zao ps key (htF root ps) root).2.length=n at *
 clear h1 h2 v
 refine spi (fn:=Try.f38) _ ?_
 conv=>whnf
 repeat' first
  |(refine zm ?_ ?_;(focus ((try simp only[qA])<;>(try simp only[wA])<;>omega));conv=>whnf)
  |(refine yhk (hv) rfl rfl ?_;conv=>whnf)
  |(refine yhk (hh) rfl rfl ?_;conv=>whnf)
  |(refine z8 (hd) rfl ?_;conv=>whnf)
 exact(zu [] [2])
theorem z33 (root key:Int) (ps:List Pg) (hp:pB ps) (ho:zql root ps key=false):zr Try.prog 38 0 [trV root ps,.c (.int .i64 key)] [] 0 (.tup [.agg [.c (.int .i64 0),.nil],.ff]) []:=by
 have hv:=zay root ps hp
 by_cases h1:vTree root ps=true
 ·have v:=za0 h1
  have hh:=zue root key ps hp v
  rw[h1]at hv
  unfold zql at ho
  rw[h1,Bool.true_and]at ho
  rw[ho]at hh
  clear h1 ho v
  refine spi (fn:=Try.f38) _ ?_
  conv=>whnf
  repeat' first
   |(refine zn ?_ ?_;(focus ((try simp only[qA])<;>(try simp only[wA])<;>omega));conv=>whnf)
   |(refine zm ?_ ?_;(focus ((try simp only[qA])<;>(try simp only[wA])<;>omega));conv=>whnf)
   |(refine yhk (hv) rfl rfl ?_;conv=>whnf)
   |(refine yhk (hh) rfl rfl ?_;conv=>whnf)
  exact(zu [] [])
 ·have h1:vTree root ps=false:=by simpa using h1
  rw[h1]at hv
  clear h1 ho
  refine spi (fn:=Try.f38) _ ?_
  conv=>whnf
  repeat' first|(refine zn ?_ ?_;(focus ((try simp only[qA])<;>(try simp only[wA])<;>omega));conv=>whnf)|(refine yhk (hv) rfl rfl ?_;conv=>whnf)
  exact(zu [] [])
end Go.VL
namespace Go.VL
open Go.Proofs
set_option maxRecDepth 10000
set_option linter.unusedSimpArgs false
set_option linter.unusedVariables false
def z09 (code:List Int) (p0:Int) (m:Nat) (res:V) (hout:List (Nat×O)):Prop :=
 ∃(root:Int) (ps:List Pg) (p:Int),vTree root ps=true∧p0≤p∧p≤p0+400∧m=2∧res=.agg [.c (.int .i64 root),.slc 1]∧hout=[(0,.box [.c (.nums .u8 code),.c (.int .i64 p)] [] []),(1,.arr (.pgs ps))]
theorem zzr (list:List Pr) (h:list.length≤24):(zf8 list).length≤16:=by
 have:=zsc h
 unfold zf8
 split
 ·simp
 ·split
  ·simp[znh];omega
  ·simp[znh];omega
theorem z2h {list:List Pr} (h:RowOk list 0 99) (hl:list.length≤24):vTree 0 (zf8 list)=true:=by
 refine zdk.2 ⟨ldH list.length,(z2p h hl).1.vt (zzr list hl) ?_⟩
 unfold ldH;split<;>(try split)<;>omega
theorem zv2 {root key:Int} {ps:List Pg} (h:vTree root ps=true) (hk:key∈(psF root ps).map Pr.key):vTree (zf4 root ps (htF root ps) key).1 (zf4 root ps (htF root ps) key).2=true:=by
 have v:=za0 h
 have q:=z0t v.v0 hk
 have:=q.len
 have:=v.l16
 have:=v.h3
 exact zdk.2 ⟨_,q.vt.vt (by omega) (by omega)⟩
structure TreeF (root:Int) (ps:List Pg):Prop where
 pb:pB ps
 po:zr Try.prog 37 0 [trV root ps] [] 1 (.slc 0) [(0,.arr (.prs (psF root ps)))]
 len:(psF root ps).length≤100
theorem zdx {root:Int} {ps:List Pg} (h:vTree root ps=true):TreeF root ps:=by
 have v:=za0 h
 have hp:=v.v0.pB (by have:=v.l16;omega)
 obtain⟨d,hd⟩:∃d,htF root ps=d+1:=⟨htF root ps-1,by have:=v.h1;omega⟩
 have h3:=v.h3
 have hpo:=zrf root ps hp d _ _ _ _ (hd▸v.fit) (by omega) (Nat.le_refl _)
 rw[show prF ps (d+1) (zb ps root)=psF root ps by unfold psF;rw[hd]]at hpo
 exact⟨hp,hpo,zrn (zaa.row v.fit.2.2.2.2)⟩
set_option maxHeartbeats 4000000 in
theorem zxu (code:List Int) (hc:CodeOk code) (p0:Int) (h0:0≤p0) (h1:p0≤1000000):zce Try.prog 16 1 [.ptr 0 0 0 0] [(0,.box [.c (.nums .u8 code),.c (.int .i64 p0)] [] [])] (z09 code p0):=by
 refine spx (fn:=Try.f16) _ ?_
 conv=>whnf
 skip
 refine zbw [] [0] (zyf code hc p0 h0 h1) ⟨rfl,rfl,rfl,(by repeat first|exact trivial|refine⟨rfl,?_⟩),⟨rfl,rfl,rfl⟩,?_⟩
 rintro m res hout ⟨row,p1,r1,r2,r3,r4,rfl,rfl,rfl⟩
 refine⟨⟨rfl,rfl,rfl⟩,?_⟩
 conv=>whnf
 have hn:=zjy code hc p1 [3,6,0,10] (by omega) (by omega) (by simp) (by simp)
 obtain⟨N,hN⟩:∃N:Int,([3,6,0,10]:List Int).getD (zah code p1 ([3,6,0,10]:List Int).length).toNat 0=N:=⟨_,rfl⟩
 have hNb:0≤N∧N≤10:=by
  rw[←hN]
  generalize (zah code p1 _).toNat=t
  match t with
  |0=>decide
  |1=>decide
  |2=>decide
  |3=>decide
  |t+4=>exact⟨Int.le_refl 0,(by decide:(0:Int)≤10)⟩
 rw[hN]at hn
 have hld:=z3f row r2 r1
 have hvt:=z2h r1 r2
 generalize zf8 row=ps0 at *
 repeat' first
  |(refine z8 (hld) rfl ?_;conv=>whnf)
  |(refine zal [4] [0] (hn) ?_;(conv=>whnf);refine⟨rfl,rfl,rfl,(by repeat first|exact trivial|refine⟨rfl,?_⟩),⟨rfl,rfl,rfl,rfl,rfl,rfl⟩,?_⟩;conv=>whnf)
 refine zy2 (fun(root:Int) (ps:List Pg) (p z:Int)=>vTree root ps=true∧p0≤p∧p+10*z≤p0+300∧0≤z) (fun root ps p z=>⟨56,4,[(0,.ptr 0 0 0 0),(2,.ptr 1 0 0 0),(3,.ptr 2 0 0 0),(4,.c (.int .i64 z))],[(0,.box [.c (.nums .u8 code),.c (.int .i64 p)] [] []),(1,.box [.c (.int .i64 0),.nil] [] []),(2,.box [.c (.int .i64 root),.slc 3] [] []),(3,.arr (.pgs ps))]⟩) (fun root ps p z=>z.toNat) 0 ps0 (p1+1) N ⟨hvt,by omega,by omega,hNb.1⟩ (fun _ _ _ _=>Nat.le_add_left 1 3) (ydn [] [0,1,3,2]) (fun root ps p z hi=>?_)
 obtain⟨i1,i2,i3,i4⟩:=hi
 by_cases hz:z>0
 ·have b1:=zdl hc (p:=p) (n:=100) (by omega) (by omega)
  have b2:=zdl hc (p:=p+1) (n:=100) (by omega) (by omega)
  have b3:=zdl hc (p:=p+1+1) (n:=2) (by omega) (by omega)
  have hp1:=zcs code hc p 100 (by omega) (by omega) (by omega)
  have hp2:=zcs code hc (p+1) 100 (by omega) (by omega) (by omega)
  have hp3:=zcs code hc (p+1+1) 2 (by omega) (by omega) (by omega)
  generalize zah code p 100=A at *
  generalize zah code (p+1) 100=B at *
  generalize zah code (p+1+1) 2=E at *
  cases hpm:zqc root ps ⟨A,B⟩with
  |some r =>
   have hpk:=zx7 root ps ⟨A,B⟩ (zdx i1).pb r hpm
   have hrv:=(zrm hpm).2.2.2
   clear hpm i1
   obtain⟨rt,qs⟩:=r
   dsimp only at hpk hrv
   have F:=zdx hrv
   have hpo:=F.po
   have hpb:=F.pb
   have hle:=F.len
   have hdk:=fun key (hk:key∈(psF rt qs).map Pr.key)=>zps rt key qs hpb (by unfold zql;rw[hrv,Bool.true_and,List.contains_iff_mem];exact hk)
   have hdv:=fun key (hk:key∈(psF rt qs).map Pr.key)=>zv2 hrv hk
   clear F
   have hko:=zdt (psF rt qs) (by omega)
   generalize hps:(psF rt qs).map Pr.key=K at *
   have hKl:K.length=(psF rt qs).length:=by rw[←hps,List.length_map]
   generalize psF rt qs=L at *
   have hp4:=zcs code hc (p+1+1+1) K.length (by omega) (by omega) (by omega)
   have b4:=zdl hc (p:=p+1+1+1) (n:=(K.length:Int)) (by omega) (by omega)
   generalize zah code (p+1+1+1) K.length=D at *
   have hmem:0<K.length→K.getD D.toNat 0∈K:=fun hl=>zaq 0 (by omega)
   by_cases hK:0<K.length
   ·have hdk:=hdk _ (hmem hK)
    have hdv:=hdv _ (hmem hK)
    generalize zf4 rt qs (htF rt qs) (K.getD D.toNat 0)=T at *
    conv=>whnf
    repeat' first
     |(refine za (by kernel_rfl) ?_;conv=>whnf)
     |(refine zn ?_ ?_;(focus ((try simp only[qA])<;>(try simp only[wA])<;>omega));conv=>whnf)
     |(refine za (by(try simp only[wA,wL])<;>omega) ?_;conv=>whnf)
     |(refine zk (fun h=>?_) (fun h=>?_)<;>(try simp only[qA]at h)<;>(try simp only[wA]at h)<;>conv=>whnf)
     |(refine zg (by(try simp only[wA,wL])<;>omega) (by(try simp only[wA,wL])<;>omega) ?_;conv=>whnf)
     |(refine zbr 0 hp1 rfl rfl rfl rfl rfl rfl rfl rfl rfl ?_;conv=>whnf)
     |(refine zbr 0 hp2 rfl rfl rfl rfl rfl rfl rfl rfl rfl ?_;conv=>whnf)
     |(refine zbr 0 hp4 rfl rfl rfl rfl rfl rfl rfl rfl rfl ?_;conv=>whnf)
     |(refine zeb (hpk) rfl rfl rfl rfl rfl ?_;conv=>whnf)
     |(refine zal [] [0] (hp3) ⟨rfl,rfl,rfl,(by repeat first|exact trivial|refine⟨rfl,?_⟩),⟨rfl,rfl,rfl,rfl,rfl,rfl⟩,?_⟩;conv=>whnf)
     |(refine zbe (hpo) rfl rfl rfl rfl ?_;conv=>whnf)
     |(refine zbe (hko) rfl rfl rfl rfl ?_;conv=>whnf)
     |(refine zeb (hdk) rfl rfl rfl rfl rfl ?_;conv=>whnf)
     |(refine ze ?_;conv=>whnf)
    ·refine⟨⟨(T.1,T.2,p+1+1+1+1,z-1),?_⟩,(ydn [] [0,1,2,114]),by dsimp only;omega⟩;(try dsimp only)
     exact⟨hdv,by omega,by omega,by omega⟩
    ·refine⟨⟨(rt,qs,p+1+1+1,z-1),?_⟩,(ydn [] [0,1,2,10]),by dsimp only;omega⟩;(try dsimp only)
     exact⟨hrv,by omega,by omega,by omega⟩
   ·conv=>whnf
    repeat' first
     |(refine za (by kernel_rfl) ?_;conv=>whnf)
     |(refine zn ?_ ?_;(focus ((try simp only[qA])<;>(try simp only[wA])<;>omega));conv=>whnf)
     |(refine zm ?_ ?_;(focus ((try simp only[qA])<;>(try simp only[wA])<;>omega));conv=>whnf)
     |(refine zk (fun h=>?_) (fun h=>?_)<;>(try simp only[qA]at h)<;>(try simp only[wA]at h)<;>conv=>whnf)
     |(refine zg (by(try simp only[wA,wL])<;>omega) (by(try simp only[wA,wL])<;>omega) ?_;conv=>whnf)
     |(refine zbr 0 hp1 rfl rfl rfl rfl rfl rfl rfl rfl rfl ?_;conv=>whnf)
     |(refine zbr 0 hp2 rfl rfl rfl rfl rfl rfl rfl rfl rfl ?_;conv=>whnf)
     |(refine zeb (hpk) rfl rfl rfl rfl rfl ?_;conv=>whnf)
     |(refine zal [] [0] (hp3) ⟨rfl,rfl,rfl,(by repeat first|exact trivial|refine⟨rfl,?_⟩),⟨rfl,rfl,rfl,rfl,rfl,rfl⟩,?_⟩;conv=>whnf)
     |(refine zbe (hpo) rfl rfl rfl rfl ?_;conv=>whnf)
     |(refine zbe (hko) rfl rfl rfl rfl ?_;conv=>whnf)
     |(refine ze ?_;conv=>whnf)
    ·refine⟨⟨(rt,qs,p+1+1+1,z-1),?_⟩,(ydn [] [0,1,2,10]),by dsimp only;omega⟩;(try dsimp only)
     exact⟨hrv,by omega,by omega,by omega⟩
    ·refine⟨⟨(rt,qs,p+1+1+1,z-1),?_⟩,(ydn [] [0,1,2,10]),by dsimp only;omega⟩;(try dsimp only)
     exact⟨hrv,by omega,by omega,by omega⟩
  |none =>
   have hpk:=zzh root ps ⟨A,B⟩ (zdx i1).pb hpm
   clear hpm
   have F:=zdx i1
   have hpo:=F.po
   have hpb:=F.pb
   have hle:=F.len
   have hdk:=fun key (hk:key∈(psF root ps).map Pr.key)=>zps root key ps hpb (by unfold zql;rw[i1,Bool.true_and,List.contains_iff_mem];exact hk)
   have hdv:=fun key (hk:key∈(psF root ps).map Pr.key)=>zv2 i1 hk
   clear F
   have hko:=zdt (psF root ps) (by omega)
   generalize hps:(psF root ps).map Pr.key=K at *
   have hKl:K.length=(psF root ps).length:=by rw[←hps,List.length_map]
   generalize psF root ps=L at *
   have hp4:=zcs code hc (p+1+1+1) K.length (by omega) (by omega) (by omega)
   have b4:=zdl hc (p:=p+1+1+1) (n:=(K.length:Int)) (by omega) (by omega)
   generalize zah code (p+1+1+1) K.length=D at *
   have hmem:0<K.length→K.getD D.toNat 0∈K:=fun hl=>zaq 0 (by omega)
   by_cases hK:0<K.length
   ·have hdk:=hdk _ (hmem hK)
    have hdv:=hdv _ (hmem hK)
    generalize zf4 root ps (htF root ps) (K.getD D.toNat 0)=T at *
    conv=>whnf
    repeat' first
     |(refine za (by kernel_rfl) ?_;conv=>whnf)
     |(refine zn ?_ ?_;(focus ((try simp only[qA])<;>(try simp only[wA])<;>omega));conv=>whnf)
     |(refine za (by(try simp only[wA,wL])<;>omega) ?_;conv=>whnf)
     |(refine zk (fun h=>?_) (fun h=>?_)<;>(try simp only[qA]at h)<;>(try simp only[wA]at h)<;>conv=>whnf)
     |(refine zg (by(try simp only[wA,wL])<;>omega) (by(try simp only[wA,wL])<;>omega) ?_;conv=>whnf)
     |(refine zbr 0 hp1 rfl rfl rfl rfl rfl rfl rfl rfl rfl ?_;conv=>whnf)
     |(refine zbr 0 hp2 rfl rfl rfl rfl rfl rfl rfl rfl rfl ?_;conv=>whnf)
     |(refine zbr 0 hp4 rfl rfl rfl rfl rfl rfl rfl rfl rfl ?_;conv=>whnf)
     |(refine zlg [] hpk rfl rfl rfl rfl rfl rfl rfl ?_;conv=>whnf)
     |(refine zal [] [0] (hp3) ⟨rfl,rfl,rfl,(by repeat first|exact trivial|refine⟨rfl,?_⟩),⟨rfl,rfl,rfl,rfl,rfl,rfl⟩,?_⟩;conv=>whnf)
     |(refine zbe (hpo) rfl rfl rfl rfl ?_;conv=>whnf)
     |(refine zbe (hko) rfl rfl rfl rfl ?_;conv=>whnf)
     |(refine zeb (hdk) rfl rfl rfl rfl rfl ?_;conv=>whnf)
     |(refine ze ?_;conv=>whnf)
    ·refine⟨⟨(T.1,T.2,p+1+1+1+1,z-1),?_⟩,(ydn [] [0,1,2,114]),by dsimp only;omega⟩;(try dsimp only)
     exact⟨hdv,by omega,by omega,by omega⟩
    ·refine⟨⟨(root,ps,p+1+1+1,z-1),?_⟩,(ydn [] [0,1,2,3]),by dsimp only;omega⟩;(try dsimp only)
     exact⟨i1,by omega,by omega,by omega⟩
   ·conv=>whnf
    repeat' first
     |(refine za (by kernel_rfl) ?_;conv=>whnf)
     |(refine zn ?_ ?_;(focus ((try simp only[qA])<;>(try simp only[wA])<;>omega));conv=>whnf)
     |(refine zm ?_ ?_;(focus ((try simp only[qA])<;>(try simp only[wA])<;>omega));conv=>whnf)
     |(refine zk (fun h=>?_) (fun h=>?_)<;>(try simp only[qA]at h)<;>(try simp only[wA]at h)<;>conv=>whnf)
     |(refine zg (by(try simp only[wA,wL])<;>omega) (by(try simp only[wA,wL])<;>omega) ?_;conv=>whnf)
     |(refine zbr 0 hp1 rfl rfl rfl rfl rfl rfl rfl rfl rfl ?_;conv=>whnf)
     |(refine zbr 0 hp2 rfl rfl rfl rfl rfl rfl rfl rfl rfl ?_;conv=>whnf)
     |(refine zlg [] hpk rfl rfl rfl rfl rfl rfl rfl ?_;conv=>whnf)
     |(refine zal [] [0] (hp3) ⟨rfl,rfl,rfl,(by repeat first|exact trivial|refine⟨rfl,?_⟩),⟨rfl,rfl,rfl,rfl,rfl,rfl⟩,?_⟩;conv=>whnf)
     |(refine zbe (hpo) rfl rfl rfl rfl ?_;conv=>whnf)
     |(refine zbe (hko) rfl rfl rfl rfl ?_;conv=>whnf)
     |(refine ze ?_;conv=>whnf)
    ·refine⟨⟨(root,ps,p+1+1+1,z-1),?_⟩,(ydn [] [0,1,2,3]),by dsimp only;omega⟩;(try dsimp only)
     exact⟨i1,by omega,by omega,by omega⟩
    ·refine⟨⟨(root,ps,p+1+1+1,z-1),?_⟩,(ydn [] [0,1,2,3]),by dsimp only;omega⟩;(try dsimp only)
     exact⟨i1,by omega,by omega,by omega⟩
 ·conv=>whnf
  repeat' (refine zm ?_ ?_;(focus ((try simp only[qA])<;>(try simp only[wA])<;>omega));conv=>whnf)
  refine za1 2 (.agg [.c (.int .i64 root),.slc 1]) [(0,.box [.c (.nums .u8 code),.c (.int .i64 p)] [] []),(1,.arr (.pgs ps))] ⟨root,ps,p,i1,i2,by omega,rfl,rfl,rfl⟩ rfl ?_
  exact(zu [] [0,3])
end Go.VL
namespace Go.VL
open Go.Proofs
set_option maxRecDepth 10000
set_option linter.unusedSimpArgs false
set_option linter.unusedVariables false
def tkF (root:Int) (ps:List Pg):List Int:=if vTree root ps=true then(psF root ps).map Pr.key else []
theorem znu {xs:List Int} {lo hi:Int} (h:∀x∈xs,lo≤x∧x≤hi) (h0:lo≤0) (h1:0≤hi) (t:Nat):lo≤xs.getD t 0∧xs.getD t 0≤hi:=by
 by_cases c:t<xs.length
 ·exact h _ (zaq 0 c)
 ·rw[List.getD_eq_getElem?_getD,List.getElem?_eq_none (by omega)];exact⟨h0,h1⟩
end Go.VL
