/- V-logic: TrQp -/
import Derived.Test.YtobcecpdafbbeaaGreatVW10
import Derived.Test.YtobcecpdafbbeaaGreatVW3
import Derived.Test.YtobcecpdafbbeaaGreatVW7
namespace Go.VL
open Go.Proofs
set_option maxRecDepth 10000
set_option linter.unusedSimpArgs false
set_option linter.unusedVariables false
theorem ybs {ops:List Opn} {t:Int×List Pg} {i:Int} (h:(z4e ops i.toNat).kind=0):reT ops t i=t∧wtF ops t i=if (z4e ops i.toNat).key∈(psF t.1 t.2).map Pr.key then zei (psF t.1 t.2) (z4e ops i.toNat).key else 9999:=by
 unfold reT wtF;rw[if_pos h,if_pos h];exact⟨rfl,rfl⟩
theorem ybp {ops:List Opn} {t:Int×List Pg} {i:Int} (h:¬(z4e ops i.toNat).kind=0) (g:zqc t.1 t.2 ⟨(z4e ops i.toNat).key,(z4e ops i.toNat).value⟩=none):reT ops t i=t∧wtF ops t i=9999:=by
 unfold reT wtF;rw[if_neg h,if_neg h,g];exact⟨rfl,rfl⟩
theorem ybo {ops:List Opn} {t r:Int×List Pg} {i:Int} (h:¬(z4e ops i.toNat).kind=0) (g:zqc t.1 t.2 ⟨(z4e ops i.toNat).key,(z4e ops i.toNat).value⟩=some r):reT ops t i=r∧wtF ops t i=(z4e ops i.toNat).value:=by
 unfold reT wtF;rw[if_neg h,if_neg h,g];exact⟨rfl,rfl⟩
theorem z79 {ops:List Opn} {l:List Int} {k:Nat} {t T:Int×List Pg} (c:k<l.length) (hT:T=(l.take k).foldl (reT ops) t):(l.take (k+1)).foldl (reT ops) t=reT ops T (l.getD k 0):=by
 rw[zat 0 c,List.foldl_append,←hT];rfl
theorem FnRunResults_v (code:List Int) (hl0:code.length≤9223372036854775807) (hb:∀x∈code,0≤x∧x≤255):zr Tryz.prog 17 0 [.c (.nums .u8 code)] [] 0 (.c (.bool true)) []:=by
 refine spi (fn:=Tryz.f17) _ ?_
 conv=>whnf
 repeat' first|(refine zk (fun h=>?_) (fun h=>?_)<;>(try simp only[qA]at h)<;>(try simp only[wA]at h)<;>conv=>whnf)|refine zc ?_
 ·rfl
 refine zbw [] [] (z5p code (by omega) (zie hb)) ⟨rfl,rfl,rfl,(by repeat first|exact trivial|refine⟨rfl,?_⟩),⟨rfl,rfl,rfl⟩,?_⟩
 rintro m res hout ⟨root,ps,ops,picks,hp,hps,ho5,hk18,rfl,rfl,rfl⟩
 refine⟨⟨rfl,rfl,rfl⟩,?_⟩
 cases hR:z4i root ps ops picks with
 |false =>
  have h1:=z59 root ps ops picks hp (by omega) (by omega) hR
  have h2:=z4l root ps ops picks hp (by omega) (by omega) hR
  have h3:=z50 root ps ops picks hp (by omega) (by omega) hR
  have h4:=zmf
  conv=>whnf
  repeat' first
   |(refine zn ?_ ?_;(focus (first|rfl|exact beq_self_eq_true _));conv=>whnf)
   |(refine zm ?_ ?_;(focus (first|rfl|exact bne_self_eq_false _));conv=>whnf)
   |refine zh ?_
   |(refine zp (h1) rfl rfl ?_;conv=>whnf)
   |(refine zp (h2) rfl rfl ?_;conv=>whnf)
   |(refine zp (h3) rfl rfl ?_;conv=>whnf)
   |(refine zp (h4) rfl rfl ?_;conv=>whnf)
  all_goals rfl
 |true =>
  have hR:=z4g.1 hR
  obtain⟨A1,A2,A3⟩:=hR.all
  have h1:=ybr hR
  have h2:=z4w hR
  have h3:=z58 root ps ops picks hp (by omega) (by omega) hR
  have dl:=hR.dl
  have pl:=hR.pl
  generalize ruF root ps ops picks=S at *
  have gl:=A1.gl
  have h4:=zbh S.got (by omega)
  by_cases c0:S.got.length=0
  ·conv=>whnf
   repeat' first
    |(refine zm ?_ ?_;(focus (first|rfl|exact bne_self_eq_false _));conv=>whnf)
    |(refine zn ?_ ?_;(focus ((try simp only[qA])<;>(try simp only[wA])<;>omega));conv=>whnf)
    |refine zh ?_
    |(refine zp (h1) rfl rfl ?_;conv=>whnf)
    |(refine zp (h2) rfl rfl ?_;conv=>whnf)
    |(refine zp (h3) rfl rfl ?_;conv=>whnf)
    |(refine zp (h4) rfl rfl ?_;conv=>whnf)
   all_goals rfl
  conv=>whnf
  repeat' first
   |(refine zm ?_ ?_;(focus (first|rfl|exact bne_self_eq_false _));conv=>whnf)
   |(refine zm ?_ ?_;(focus ((try simp only[qA])<;>(try simp only[wA])<;>omega));conv=>whnf)
   |(refine zp (h1) rfl rfl ?_;conv=>whnf)
   |(refine zp (h2) rfl rfl ?_;conv=>whnf)
   |(refine zp (h3) rfl rfl ?_;conv=>whnf)
   |(refine zp (h4) rfl rfl ?_;conv=>whnf)
  refine zd0 (fun(k:Nat) (T:Int×List Pg)=>k≤S.done.length∧T=(S.done.take k).foldl (reT ops) (root,ps)∧vTree T.1 T.2=true) (fun k T=>⟨128,1,[(4,.c (.ops ops)),(6,.c (.nums .i64 S.got)),(7,.c (.nums .i64 S.done)),(8,.ptr 0 0 0 0),(9,.c (.int .i64 k))],[(0,.box [.c (.int .i64 T.1),.c (.pgs T.2)] [] [])]⟩) (fun k _=>S.done.length-k) 0 (root,ps) ⟨Nat.zero_le _,rfl,hR.vt⟩ (fun _ _=>Nat.zero_le _) (ydn [] [1]) (fun k T hi=>?_)
  obtain⟨hk,hT,hv⟩:=hi
  obtain⟨t1,t2⟩:=T
  dsimp only at hv
  by_cases c:k<S.done.length
  ·obtain⟨d0,d1,d2⟩:=A1.dn _ (zaq 0 c)
   have hw:=A3.gt k c
   have hst:=z79 c hT
   rw[←hT]at hw
   obtain⟨o1,o2,o3,o4⟩:=z5c hR.vo (w:=(S.done.getD k 0).toNat) (by omega)
   have hpt:=(zdx hv).pb
   have hgk:=zom t1 (z4e ops (S.done.getD k 0).toNat).key t2 hpt hv
   have hpk:=z60 t1 t2 ⟨(z4e ops (S.done.getD k 0).toNat).key,(z4e ops (S.done.getD k 0).toNat).value⟩ hpt
   by_cases c1:(z4e ops (S.done.getD k 0).toNat).kind=0
   ·obtain⟨e1,e2⟩:=ybs (t:=(t1,t2)) c1
    rw[e1]at hst
    rw[e2]at hw
    dsimp only at hw
    unfold gkV at hgk
    by_cases c2:(z4e ops (S.done.getD k 0).toNat).key∈(psF t1 t2).map Pr.key
    ·rw[if_pos c2]at hw
     rw[List.contains_iff_mem.2 c2]at hgk
     conv=>whnf
     repeat' first
      |(refine zn ?_ ?_;(focus (first|rfl|exact beq_self_eq_true _));conv=>whnf)
      |(refine zn ?_ ?_;(focus ((try simp only[qA])<;>(try simp only[wA])<;>omega));conv=>whnf)
      |(refine zm ?_ ?_;(focus ((try simp only[qA])<;>(try simp only[wA])<;>omega));conv=>whnf)
      |(refine za (by(try simp only[wA,wL])<;>omega) ?_;conv=>whnf)
      |(refine zg (by(try simp only[wA,wL])<;>omega) (by(try simp only[wA,wL])<;>omega) ?_;conv=>whnf)
      |(refine zp (hgk) rfl rfl ?_;conv=>whnf)
     refine⟨⟨(k+1,(t1,t2)),?_⟩,(ydn [] [0]),by dsimp only;omega⟩;(try dsimp only)
     exact⟨c,hst.symm,hv⟩
    ·rw[if_neg c2]at hw
     rw[show((psF t1 t2).map Pr.key).contains (z4e ops (S.done.getD k 0).toNat).key=false by rw[Bool.eq_false_iff];exact fun q=>c2 (List.contains_iff_mem.1 q)]at hgk
     conv=>whnf
     repeat' first
      |(refine zm ?_ ?_;(focus (first|rfl|exact bne_self_eq_false _));conv=>whnf)
      |(refine zn ?_ ?_;(focus ((try simp only[qA])<;>(try simp only[wA])<;>omega));conv=>whnf)
      |(refine zm ?_ ?_;(focus ((try simp only[qA])<;>(try simp only[wA])<;>omega));conv=>whnf)
      |(refine za (by(try simp only[wA,wL])<;>omega) ?_;conv=>whnf)
      |(refine zg (by(try simp only[wA,wL])<;>omega) (by(try simp only[wA,wL])<;>omega) ?_;conv=>whnf)
      |(refine zp (hgk) rfl rfl ?_;conv=>whnf)
     refine⟨⟨(k+1,(t1,t2)),?_⟩,(ydn [] [0]),by dsimp only;omega⟩;(try dsimp only)
     exact⟨c,hst.symm,hv⟩
   ·cases g:zqc t1 t2 ⟨(z4e ops (S.done.getD k 0).toNat).key,(z4e ops (S.done.getD k 0).toNat).value⟩with
    |none =>
     rw[g]at hpk
     obtain⟨e1,e2⟩:=ybp (t:=(t1,t2)) c1 g
     rw[e1]at hst
     rw[e2]at hw
     change zr _ _ _ _ _ _ (.tup [ztV,.ff]) _ at hpk
     conv=>whnf
     repeat' first
      |(refine zn ?_ ?_;(focus ((try simp only[qA])<;>(try simp only[wA])<;>omega));conv=>whnf)
      |(refine zm ?_ ?_;(focus ((try simp only[qA])<;>(try simp only[wA])<;>omega));conv=>whnf)
      |(refine za (by(try simp only[wA,wL])<;>omega) ?_;conv=>whnf)
      |(refine zg (by(try simp only[wA,wL])<;>omega) (by(try simp only[wA,wL])<;>omega) ?_;conv=>whnf)
      |(refine zp (hpk) rfl rfl ?_;conv=>whnf)
     refine⟨⟨(k+1,(t1,t2)),?_⟩,(ydn [] [0]),by dsimp only;omega⟩;(try dsimp only)
     exact⟨c,hst.symm,hv⟩
    |some r =>
     have F:=z4k g
     rw[g]at hpk
     obtain⟨e1,e2⟩:=ybo (t:=(t1,t2)) c1 g
     rw[e1]at hst
     rw[e2]at hw
     obtain⟨r1,r2⟩:=r
     change zr _ _ _ _ _ _ (.tup [trV r1 r2,.tt]) _ at hpk
     conv=>whnf
     repeat' first
      |(refine zn ?_ ?_;(focus ((try simp only[qA])<;>(try simp only[wA])<;>omega));conv=>whnf)
      |(refine zm ?_ ?_;(focus ((try simp only[qA])<;>(try simp only[wA])<;>omega));conv=>whnf)
      |(refine za (by(try simp only[wA,wL])<;>omega) ?_;conv=>whnf)
      |(refine zg (by(try simp only[wA,wL])<;>omega) (by(try simp only[wA,wL])<;>omega) ?_;conv=>whnf)
      |(refine zp (hpk) rfl rfl ?_;conv=>whnf)
     refine⟨⟨(k+1,(r1,r2)),?_⟩,(ydn [] [0]),by dsimp only;omega⟩;(try dsimp only)
     exact⟨c,hst.symm,F.vt⟩
  ·conv=>whnf
   repeat' first|(refine zm ?_ ?_;(focus ((try simp only[qA])<;>(try simp only[wA])<;>omega));conv=>whnf)|refine zh ?_
   all_goals first|rfl|exact decide_eq_true (by omega)|exact decide_eq_true (show(S.got.length:Int)=(ops.length:Int) by omega)
end Go.VL
