/- V-logic: TrV TrVa -/
import Derived.Test.YtfogmgldlemngaaVT6
import Derived.Test.YtfogmgldlemngaaVPE
namespace Go.VL
open Go.Proofs
set_option maxRecDepth 10000
set_option linter.unusedSimpArgs false
set_option linter.unusedVariables false
theorem zoa (code:List Int) (p:Int) (xs:List Int) (n:Int):(zos code p xs n).length≤xs.length+1:=by
 unfold zos
 repeat' split
 all_goals ((try simp only[List.length_append,List.length_cons,List.length_nil,List.length_drop,List.length_set])<;>omega)
theorem zt0 (code:List Int) (p:Int) (xs:List Int):p+1≤zmn code p xs∧zmn code p xs≤p+3:=by
 unfold zmn
 repeat' split
 all_goals omega
def z19 (code:List Int) (p0:Int) (m:Nat) (res:V) (hout:List (Nat×O)):Prop :=
 ∃(root:Int) (ps:List Pg) (p:Int),pB ps∧ps.length≤16∧p0≤p∧p≤p0+500∧m=1∧res=trV root ps∧hout=[(0,.box [.c (.nums .u8 code),.c (.int .i64 p)] [] [])]
set_option maxHeartbeats 2000000 in
theorem zgw (code:List Int) (hc:CodeOk code) (p0:Int) (h0:0≤p0) (h1:p0≤900000):zce Try.prog 9 1 [.ptr 0 0 0 0] [(0,.box [.c (.nums .u8 code),.c (.int .i64 p0)] [] [])] (z19 code p0):=by
 refine spx (fn:=Try.f9) _ ?_
 conv=>whnf
 skip
 refine zbw [] [0,2] (zxu code hc p0 h0 (by omega)) ⟨rfl,rfl,rfl,(by repeat first|exact trivial|refine⟨rfl,?_⟩),⟨rfl,rfl,rfl⟩,?_⟩
 rintro m res hout ⟨root,ps,p,r1,r2,r3,rfl,rfl,rfl⟩
 refine⟨⟨rfl,rfl,rfl⟩,?_⟩
 conv=>whnf
 have F:=zzc r1
 have hp:=(zdx r1).pb
 have hsm:=znz r1
 have hk1:=zcs code hc p ps.length (by omega) (by omega) (by omega)
 have b1:=zdl hc (p:=p) (n:=(ps.length:Int)) (by omega) (by omega)
 generalize zah code p ps.length=k at *
 have b0:=b1.1
 have b1:=b1.2 (by omega)
 have hk2:=zcs code hc (p+1) 30 (by omega) (by omega) (by omega)
 generalize zah code (p+1) 30=Z at *
 have ho:=zjy code hc (p+1+1) [-1,(ps.length:Int),0] (by omega) (by omega) (by simp) (by simp)
 obtain⟨R,hR⟩:∃R,([-1,(ps.length:Int),0]:List Int).getD (zah code (p+1+1) ([-1,(ps.length:Int),0]:List Int).length).toNat 0=R:=⟨_,rfl⟩
 rw[hR]at ho
 clear hR
 have q:=hsm k
 have c1:=zcn (zb ps k).keys (by omega)
 have s1:=zqq code hc (p+1+1) 100 ((zb ps k).keys++[3]) (by omega) (by omega) (by simp only[List.length_append,List.length_singleton];omega)
 have s2:=zqq code hc (p+1+1) k (zb ps k).kids (by omega) (by omega) (by omega)
 have s3:=zqq code hc (p+1+1) 1001 (zb ps k).vals (by omega) (by omega) (by omega)
 have l1:=zoa code (p+1+1) ((zb ps k).keys++[3]) 100
 have l2:=zoa code (p+1+1) (zb ps k).kids k
 have l3:=zoa code (p+1+1) (zb ps k).vals 1001
 rw[List.length_append,List.length_singleton]at l1
 have t1:=zt0 code (p+1+1) ((zb ps k).keys++[3])
 have t2:=zt0 code (p+1+1) (zb ps k).kids
 have t3:=zt0 code (p+1+1) (zb ps k).vals
 generalize zos code (p+1+1) ((zb ps k).keys++[3]) 100=Y1 at *
 generalize zos code (p+1+1) (zb ps k).kids k=Y2 at *
 generalize zos code (p+1+1) (zb ps k).vals 1001=Y3 at *
 generalize zmn code (p+1+1) ((zb ps k).keys++[3])=P1 at *
 generalize zmn code (p+1+1) (zb ps k).kids=P2 at *
 generalize zmn code (p+1+1) (zb ps k).vals=P3 at *
 have g1:=zsw hp k.toNat {zb ps k with keys:=Y1} (by dsimp only;omega) (by dsimp only;omega) (by dsimp only;omega)
 have g2:=zsw hp k.toNat {zb ps k with kids:=Y2} (by dsimp only;omega) (by dsimp only;omega) (by dsimp only;omega)
 have g3:=zsw hp k.toNat {zb ps k with vals:=Y3} (by dsimp only;omega) (by dsimp only;omega) (by dsimp only;omega)
 have g4:=z14 hp k.toNat
 repeat' first
  |(refine za (by kernel_rfl) ?_;conv=>whnf)
  |(refine za (by(try simp only[wA,wL])<;>omega) ?_;conv=>whnf)
  |(refine zk (fun h=>?_) (fun h=>?_)<;>(try simp only[qA]at h)<;>(try simp only[wA]at h)<;>conv=>whnf)
  |(refine zal [] [0] (hk1) ⟨rfl,rfl,rfl,(by repeat first|exact trivial|refine⟨rfl,?_⟩),⟨rfl,rfl,rfl,rfl,rfl,rfl⟩,?_⟩;conv=>whnf)
  |(refine zal [] [0] (hk2) ⟨rfl,rfl,rfl,(by repeat first|exact trivial|refine⟨rfl,?_⟩),⟨rfl,rfl,rfl,rfl,rfl,rfl⟩,?_⟩;conv=>whnf)
  |(refine zal [4] [0] (ho) ?_;(conv=>whnf);refine⟨rfl,rfl,rfl,(by repeat first|exact trivial|refine⟨rfl,?_⟩),⟨rfl,rfl,rfl,rfl,rfl,rfl⟩,?_⟩;conv=>whnf)
  |(refine zar (c1) rfl rfl ?_;conv=>whnf)
  |(refine zbr 0 s1 rfl rfl rfl rfl rfl rfl rfl rfl rfl ?_;conv=>whnf)
  |(refine zbr 0 s2 rfl rfl rfl rfl rfl rfl rfl rfl rfl ?_;conv=>whnf)
  |(refine zbr 0 s3 rfl rfl rfl rfl rfl rfl rfl rfl rfl ?_;conv=>whnf)
  |((refine zlj ?_;(conv=>whnf);refine zo ?_);conv=>whnf)
  |(refine ze ?_;conv=>whnf)
 ·refine za1 1 (trV (R) ps) [(0,.box [.c (.nums .u8 code),.c (.int .i64 (p+1+1+1))] [] [])] ⟨R,ps,p+1+1+1,hp,(by omega),by omega,by omega,rfl,rfl,rfl⟩ rfl ?_
  (refine zbg [2] [0] ?_;(conv=>whnf);exact⟨rfl,by repeat first|exact trivial|refine⟨rfl,?_⟩,rfl,rfl,rfl,rfl,rfl,rfl⟩)
 ·refine za1 1 (trV (root) (ps.set k.toNat {zb ps k with keys:=Y1})) [(0,.box [.c (.nums .u8 code),.c (.int .i64 (P1))] [] [])] ⟨root,(ps.set k.toNat {zb ps k with keys:=Y1}),P1,g1,(by rw[List.length_set];omega),by omega,by omega,rfl,rfl,rfl⟩ rfl ?_
  (refine zbg [2] [0] ?_;(conv=>whnf);exact⟨rfl,by repeat first|exact trivial|refine⟨rfl,?_⟩,rfl,rfl,rfl,rfl,rfl,rfl⟩)
 ·refine za1 1 (trV (root) (ps.set k.toNat {zb ps k with kids:=Y2})) [(0,.box [.c (.nums .u8 code),.c (.int .i64 (P2))] [] [])] ⟨root,(ps.set k.toNat {zb ps k with kids:=Y2}),P2,g2,(by rw[List.length_set];omega),by omega,by omega,rfl,rfl,rfl⟩ rfl ?_
  (refine zbg [2] [0] ?_;(conv=>whnf);exact⟨rfl,by repeat first|exact trivial|refine⟨rfl,?_⟩,rfl,rfl,rfl,rfl,rfl,rfl⟩)
 ·refine za1 1 (trV (root) (ps.set k.toNat {zb ps k with vals:=Y3})) [(0,.box [.c (.nums .u8 code),.c (.int .i64 (P3))] [] [])] ⟨root,(ps.set k.toNat {zb ps k with vals:=Y3}),P3,g3,(by rw[List.length_set];omega),by omega,by omega,rfl,rfl,rfl⟩ rfl ?_
  (refine zbg [2] [0] ?_;(conv=>whnf);exact⟨rfl,by repeat first|exact trivial|refine⟨rfl,?_⟩,rfl,rfl,rfl,rfl,rfl,rfl⟩)
 ·refine za1 1 (trV (root) (ps.take k.toNat)) [(0,.box [.c (.nums .u8 code),.c (.int .i64 (p+1+1))] [] [])] ⟨root,(ps.take k.toNat),p+1+1,g4,(by rw[List.length_take];omega),by omega,by omega,rfl,rfl,rfl⟩ rfl ?_
  (refine zbg [] [0] ?_;(conv=>whnf);exact⟨rfl,by repeat first|exact trivial|refine⟨rfl,?_⟩,rfl,rfl,rfl,rfl,rfl,rfl⟩)
 ·refine za1 1 (trV (root) ps) [(0,.box [.c (.nums .u8 code),.c (.int .i64 (p+1+1))] [] [])] ⟨root,ps,p+1+1,hp,(by omega),by omega,by omega,rfl,rfl,rfl⟩ rfl ?_
  (refine zbg [2] [0] ?_;(conv=>whnf);exact⟨rfl,by repeat first|exact trivial|refine⟨rfl,?_⟩,rfl,rfl,rfl,rfl,rfl,rfl⟩)
end Go.VL
namespace Go.VL
open Go.Proofs
set_option maxRecDepth 10000
set_option linter.unusedSimpArgs false
set_option linter.unusedVariables false
theorem zww (root:Int) (ps:List Pg):(tkF root ps).length≤1000∧∀x∈tkF root ps,0≤x∧x≤99:=by
 unfold tkF
 split
 ·rename_i h
  have F:=zdx h
  have hr:=zaa.row (za0 h).fit.2.2.2.2
  refine⟨by rw[List.length_map];have:=F.len;omega,fun x hx=>?_⟩
  obtain⟨y,hy,rfl⟩:=List.mem_map.1 hx
  exact hr.rng y hy
 ·exact⟨Nat.zero_le _,fun x hx=>by cases hx⟩
def ztv (m:Nat) (res:V) (hout:List (Nat×O)):Prop :=
 ∃(root:Int) (ps:List Pg) (key:Int),pB ps∧ps.length≤16∧(-1≤key∧key≤100)∧m=0∧res=.tup [trV root ps,.c (.int .i64 key)]∧hout=[]
theorem zie {code:List Int} (hb:∀x∈code,0≤x∧x≤255):CodeOk (code.take 2000):=⟨by rw[List.length_take];omega,fun i=>by
 by_cases c:i<(code.take 2000).length
 ·exact hb _ (List.mem_of_mem_take (zaq 0 c))
 ·rw[List.getD_eq_getElem?_getD,List.getElem?_eq_none (by omega)];exact⟨Int.le_refl 0,(by decide:(0:Int)≤255)⟩⟩
end Go.VL
