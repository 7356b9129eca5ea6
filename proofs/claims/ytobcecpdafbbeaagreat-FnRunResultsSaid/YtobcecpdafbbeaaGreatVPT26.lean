/- V-logic: PT26 -/
import Derived.Test.YtobcecpdafbbeaaGreatVW3
import Derived.Test.YtobcecpdafbbeaaGreatVPE
namespace Go.VL
set_option linter.unusedVariables false
set_option linter.unusedSimpArgs false
theorem yce {ps:List Pg} {d mn mx:Nat} {a lo hi:Int} (h:Fit ps (d+2) mn mx a lo hi) (hm:1≤(zb ps a).keys.length) (hx:(zb ps a).keys.length≤5) (hn:(wkF ps (d+2) a).Nodup) (h0:0≤lo) (h9:hi≤99) (hl:ps.length≤16):zl3 (zb ps a)=true:=by
 have hk:=zaa.kidsLen h.2.2.2.2
 obtain⟨k1,k2⟩:=zaa.keys h.2.2.2.2
 have hseg:Seg (Fit ps (d+1) 2 4) lo hi (zb ps a).keys (zb ps a).kids:=h.2.2.2.2.2
 have hn':(a::(zb ps a).kids.flatMap (wkF ps (d+1))).Nodup:=hn
 have hnk:=zma (g:=wkF ps (d+1)) (fun z=>zas) (List.nodup_cons.1 hn').2
 unfold zl3
 rw[Bool.and_eq_true,Bool.and_eq_true,Bool.and_eq_true,Bool.and_eq_true,decide_eq_true_iff,decide_eq_true_iff,decide_eq_true_iff]
 refine⟨⟨⟨⟨⟨hm,hx⟩,zde.2 ⟨k1,fun k hk=>by have:=k2 k hk;omega⟩⟩,hk⟩,?_⟩,hnk⟩
 rw[List.all_eq_true]
 intro c hc
 obtain⟨l,r,f⟩:=Seg.mem hseg c hc
 have:=f.1
 have:=f.2.1
 exact decide_eq_true (by omega)
theorem ybg {ps:List Pg} {x:Pr} {e:Nat} {a:Int} (hv:-1000≤x.value∧x.value≤1000) (h:At ps x.key (e+2) a) (hl:(zbb ps x (e+2) a).length≤16):zl3 (zb (zbb ps x (e+2) a) a)=true:=by
 obtain⟨mn,lo,hi,hf,hn,h1,h2,h0,h9,hm⟩:=h
 have P:=zqu hv hf hn h1 h2
 have hn2:(wkF (zbb ps x (e+1+1) a) (e+1+1) a).Nodup:=by
  refine P.perm.nodup_iff.2 (List.nodup_append.2 ⟨hn,nw_nodup _ _,fun y hy z hz e=>?_⟩)
  have:=(hf.wkLt y hy).2
  rw[zpj]at hz
  omega
 have hm':=hm (by omega)
 exact yce P.fit (Nat.le_trans hm' P.fit.2.2.1) P.fit.2.2.2.1 hn2 h0 h9 hl
theorem yao (ps:List Pg) (a c:Int):ps.length≤(zmw ps a c).length:=by
 unfold zmw
 split
 ·rw[List.length_set,List.length_append,List.length_set];omega
 ·exact Nat.le_refl _
theorem z9d {root:Int} {ps:List Pg} {x:Pr} {d:Nat}:∀{i:Nat},i<d+1→(zbb ps x (d+1-i) ((ptF ps x.key (d+1) root).getD i 0)).length≤(zer root ps (d+1) x).2.length
 |0,_=>by
  rw[zfy,Nat.sub_zero]
  unfold zer
  split
  ·rw[List.length_append,List.length_set];omega
  ·exact Nat.le_refl _
 |i+1,h=>by
  have e:=zwd (ps:=ps) (x:=x) (root:=root) (h:=d+1) (i:=i) h
  have ih:=z9d (root:=root) (ps:=ps) (x:=x) (d:=d) (i:=i) (by omega)
  rw[e]at ih
  exact Nat.le_trans (yao _ _ _) ih
theorem yaa {root:Int} {ps:List Pg} {x:Pr} {d i:Nat} (hi:i<d+1) (ho:4<(zb (zbb ps x (d+1-i) ((ptF ps x.key (d+1) root).getD i 0)) ((ptF ps x.key (d+1) root).getD i 0)).keys.length) :
  (zbb ps x (d+1-i) ((ptF ps x.key (d+1) root).getD i 0)).length+1≤(zer root ps (d+1) x).2.length:=by
 cases i with
 |zero =>
  rw[zfy,Nat.sub_zero]at ho⊢
  unfold zer
  rw[if_pos ho,List.length_append,List.length_set]
  simp
 |succ i =>
  have e:=zwd (ps:=ps) (x:=x) (root:=root) (h:=d+1) (i:=i) hi
  have h2:=z9d (root:=root) (ps:=ps) (x:=x) (d:=d) (i:=i) (by omega)
  rw[e]at h2
  unfold zmw at h2
  rw[if_pos ho,List.length_set,List.length_append,List.length_set,List.length_singleton]at h2
  exact h2
end Go.VL
