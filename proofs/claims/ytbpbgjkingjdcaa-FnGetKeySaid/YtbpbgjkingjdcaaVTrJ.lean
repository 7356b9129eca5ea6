/- V-logic: TrJ -/
import Derived.Test.YtbpbgjkingjdcaaVPD
import Derived.Test.YtbpbgjkingjdcaaVTrI
namespace Go.VL
open Go.Proofs
set_option maxRecDepth 10000
set_option linter.unusedSimpArgs false
set_option linter.unusedVariables false
set_option maxHeartbeats 4000000 in
theorem putTree_v (root : Int) (ps : List Pg) (x : Pr) (hp : pB ps) (hpl : ps.length ≤ 1000) (h : Nat) (hh : h ≤ 8) (v : VT0 root ps h) (hv : -1000 ≤ x.value ∧ x.value ≤ 1000) (h0 : 0 ≤ x.key) (h9 : x.key ≤ 99) :
  Spec Try.prog 131 0 [trV root ps, prV x] [] 1 (.agg [.c (.int .i64 (putT root ps h x).1), .slc 0]) [(0, .arr (.pgs (putT root ps h x).2))] := by
 obtain ⟨d, rfl⟩ : ∃ d, h = d + 1 := ⟨h - 1, by have := v.h1; omega⟩
 have ha := v.at h0 h9
 have hpt := pathTo_v root x.key ps hp d _ _ _ _ v.fit (by omega)
 have hPl : (ptF ps x.key (d + 1) root).length = d + 1 := ptF_len
 have hon := fun i (hi : i < d + 1) => putR_on hv ha hi
 have hst := fun i (hi : i < d + 1) => putR_stop hv ha hi
 have hup := fun i (hi : i + 1 < d + 1) => putR_up (ps := ps) (x := x) (root := root) hi
 have hab := fun i (hi : i + 1 < d + 1) => putR_above hv ha hi
 have hkid := fun i (hi : i + 1 < d + 1) => putR_kid (ps := ps) (key := x.key) ha hi
 have hp0 : (ptF ps x.key (d + 1) root).getD 0 0 = root := ptF_zero
 have hpd := ptF_at ha (show d < d + 1 by omega)
 have hR1 : putR ps x (d + 1 - d) ((ptF ps x.key (d + 1) root).getD d 0) = ps.set ((ptF ps x.key (d + 1) root).getD d 0).toNat (leafP (insP (rowF (pgAt ps ((ptF ps x.key (d + 1) root).getD d 0))) x)) := by rw [show d + 1 - d = 1 by omega]; rfl
 obtain ⟨R, hR⟩ : ∃ R : Int × List Pg, putT root ps (d + 1) x = R := ⟨_, rfl⟩
 rw [hR] at hst ⊢
 have hRt : 4 < (pgAt (putR ps x (d + 1) root) root).keys.length → R = (((putR ps x (d + 1) root).length : Int) + 1, (putR ps x (d + 1) root).set root.toNat (splitPg (pgAt (putR ps x (d + 1) root) root)).1 ++ [(splitPg (pgAt (putR ps x (d + 1) root) root)).2.2, ⟨[(splitPg (pgAt (putR ps x (d + 1) root) root)).2.1], [root, ((putR ps x (d + 1) root).length : Int)], []⟩]) := fun hc => by
  rw [← hR]; unfold putT; rw [if_pos hc]
 generalize ptF ps x.key (d + 1) root = P at *
 rw [show d + 1 - d = 1 by omega] at hpd hR1
 have hD : ((P.length : Int) - 1).toNat = d := by omega
 rw [← hD] at hpd hR1
 obtain ⟨_, _, _, hpf, _⟩ := hpd
 have hlk : LeafOk (pgAt ps (P.getD ((P.length : Int) - 1).toNat 0)) _ _ := hpf.2.2.2.2
 have b0 := hpf.1
 have b1 := hpf.2.1
 have hln := hlk.len
 have k1 := hpf.2.2.2.1
 have hrl := rowF_len _ hln
 have hil := insP_len (x := x) (l := rowF (pgAt ps (P.getD ((P.length : Int) - 1).toNat 0))) (by rw [rowF_keys hln]; exact hlk.asc)
 have hil2 : (insP (rowF (pgAt ps (P.getD ((P.length : Int) - 1).toNat 0))) x).length ≤ 5 := by rw [hil, hrl]; split <;> omega
 clear hil hpf hlk
 dsimp only [pgAt] at hln k1 hrl hil2 hR1
 have k4 := hp.len
 refine spi (fn := Try.f131) _ ?_
 conv => whnf
 repeat' first
  |(refine vneed_i (by kernel_rfl) ?_; conv => whnf)
  |(refine vneed_i (by (try simp only [wA, wL]) <;> omega) ?_; conv => whnf)
  |(refine vint_f (by (try simp only [wA, wL]) <;> omega) (by (try simp only [wA, wL]) <;> omega) ?_; conv => whnf)
  |((refine vpre_g [.fz [16, 5], .kp [2, 3, 4, 5, 6, 7, 8]] ?_; (conv => whnf); fail_if_success (guard_target =~ False)); conv => whnf)
  |(refine vcall_n (copyTree_v root ps hp) rfl rfl rfl rfl ?_; conv => whnf)
  |(refine vcall_a (hpt) rfl ?_; conv => whnf)
  |(refine vcalld_a (rowOf_v (ps.getD (P.getD ((P.length : Int) - 1).toNat 0).toNat ⟨[], [], []⟩) (by omega) (by omega)) rfl rfl ?_; conv => whnf)
  |(refine vcalld_n (put_v (rowF (ps.getD (P.getD ((P.length : Int) - 1).toNat 0).toNat ⟨[], [], []⟩)) x (by omega)) rfl rfl rfl rfl rfl ?_; conv => whnf)
  |(refine vcalld_p (leafOf_v _ (by omega)) rfl rfl ?_; conv => whnf)
  |(refine vpre_no ?_; conv => whnf)
 refine vloop2 (fun (qs : List Pg) (z : Int) => 0 ≤ z ∧ z < d + 1 ∧ qs = putR ps x (d + 1 - z.toNat) (P.getD z.toNat 0))
  (fun qs z => ⟨194, 3, [(4, .ptr 0 0 0 0), (5, .ptr 1 0 0 0), (6, .c (.nums .i64 P)), (7, .c (.int .i64 z))], [(0, .box [.c (.int .i64 0), .nil] [] []), (1, .box [.c (.int .i64 root), .slc 2] [] []), (2, .arr (.pgs qs))]⟩) (fun qs z => z.toNat)
  (ps.set (P.getD ((P.length : Int) - 1).toNat 0).toNat (leafP (insP (rowF (ps.getD (P.getD ((P.length : Int) - 1).toNat 0).toNat ⟨[], [], []⟩)) x))) ((P.length : Int) - 1) ⟨by omega, by omega, by rw [hD] at hR1 ⊢; rw [show d + 1 - d = 1 by omega]; exact hR1.symm⟩ (fun _ _ => Nat.zero_le _) (ent_j [] [2, 4, 3]) (fun qs z hi => ?_)
 obtain ⟨hz0, hz1, hq⟩ := hi
 clear b0 b1 hln k1 hrl hil2 hR1 hpt
 obtain ⟨lo, hi', q0, q9, qf, q5, qa0, qa1, qpl, qpu⟩ := hon z.toNat (by omega)
 have hst' := hst z.toNat (by omega)
 rw [← hq] at hst' qf q5 qa1 qpl qpu
 dsimp only [pgAt] at hst' q5
 clear hon hst
 obtain ⟨pg, hpg⟩ : ∃ pg, qs.getD (P.getD z.toNat 0).toNat ⟨[], [], []⟩ = pg := ⟨_, rfl⟩
 have hpg' : pgAt qs (P.getD z.toNat 0) = pg := hpg
 rw [hpg] at hst' q5
 rw [hpg'] at qf
 by_cases hov : 4 < pg.keys.length
 ·obtain ⟨sp, hsp⟩ : ∃ sp, splitPg pg = sp := ⟨_, rfl⟩
  obtain ⟨pa, kx, pb⟩ := sp
  have hfin : ∀ i : Nat, z.toNat = i + 1 → putR ps x (d + 1 - i) (P.getD i 0) = (qs.set (P.getD z.toNat 0).toNat pa ++ ([] ++ [pb])).set (P.getD i 0).toNat (addK (pgAt ps (P.getD i 0)) (plN (pgAt ps (P.getD i 0)).kids (P.getD z.toNat 0)) kx qs.length) := fun i hi => by
   have e1 := hup i (by omega)
   obtain ⟨e2, e3, e4, e5⟩ := hab i (by omega)
   rw [← hi, ← hq] at e1 e2
   rw [e1]
   unfold fixP
   rw [hpg', if_pos hov, hsp, e2]; rfl
  have hR0 : z = 0 → R = (((qs.set (P.getD z.toNat 0).toNat pa ++ ([] ++ [pb]) ++ ([] ++ [(⟨[] ++ [kx], [] ++ [P.getD (Int.toNat 0) 0] ++ [(qs.length : Int)], []⟩ : Pg)])).length : Int) - 1, qs.set (P.getD z.toNat 0).toNat pa ++ ([] ++ [pb]) ++ ([] ++ [⟨[] ++ [kx], [] ++ [P.getD (Int.toNat 0) 0] ++ [(qs.length : Int)], []⟩])) := fun hz => by
   subst hz
   have e : P.getD (Int.toNat 0) 0 = root := hp0
   rw [e] at hpg' hpg ⊢
   rw [show d + 1 - Int.toNat 0 = d + 1 from rfl, e] at hq
   rw [hRt (by rw [← hq, hpg']; exact hov), ← hq, hpg', hsp]
   refine Prod.ext ?_ ?_
   ·simp; omega
   ·simp
  clear hRt hup hR
  have hov2 : 4 < (qs.getD (P.getD z.toNat 0).toNat ⟨[], [], []⟩).keys.length := by rw [hpg]; exact hov
  by_cases hlf : pg.kids.length = 0
  ·have hL : LeafOk pg lo hi' := by
    obtain ⟨e, he⟩ : ∃ e, d + 1 - z.toNat = e + 1 := ⟨d - z.toNat, by omega⟩
    rw [he] at qf
    cases e with
    |zero => exact qf
    |succ e => have := PFit.kidsLen qf; omega
   have hlf2 : (qs.getD (P.getD z.toNat 0).toNat ⟨[], [], []⟩).kids.length = 0 := by rw [hpg]; exact hlf
   have hln := hL.len
   have hrl := rowF_len _ hln
   have hvr : vRow (rowF pg) = true := vRow_iff.2 ⟨hL.row.wide q0 q9, by omega⟩
   unfold splitPg at hsp
   rw [if_pos hlf] at hsp
   have hro := rowOf_v pg (by omega) (by omega)
   have hSp := SplitRow_v (rowF pg) (by omega) hvr
   generalize rowF pg = r at hrl hvr hsp hro hSp
   have hn2 : (r.length + 1) / 2 < r.length ∧ (r.length + 1) / 2 ≤ 1000 := by omega
   have hra : (r.take ((r.length + 1) / 2)).length ≤ 1000 := by rw [List.length_take]; omega
   have hrb : (r.drop ((r.length + 1) / 2)).length ≤ 1000 ∧ 0 < (r.drop ((r.length + 1) / 2)).length := by rw [List.length_drop]; omega
   rw [← getD_drop0] at hsp
   generalize r.take ((r.length + 1) / 2) = ra at hsp hSp hra
   generalize r.drop ((r.length + 1) / 2) = rb at hsp hSp hrb
   have hla := leafOf_v ra (by omega)
   have hlb := leafOf_v rb (by omega)
   obtain ⟨e1, e2⟩ := Prod.mk.inj hsp
   obtain ⟨e3, e4⟩ := Prod.mk.inj e2
   rw [e1] at hla
   rw [e4] at hlb
   clear hsp e1 e2 e4
   subst e3
   by_cases hz : z = 0
   ·have hR0 := hR0 hz
    subst hR0
    clear hab hfin
    conv => whnf
    repeat' first
     |(refine vneed_i (by kernel_rfl) ?_; conv => whnf)
     |(refine vif_t ?_ ?_; (focus ((try simp only [qA]) <;> (try simp only [wA]) <;> omega)); conv => whnf)
     |(refine vneed_i (by (try simp only [wA, wL]) <;> omega) ?_; conv => whnf)
     |(refine vint_f (by (try simp only [wA, wL]) <;> omega) (by (try simp only [wA, wL]) <;> omega) ?_; conv => whnf)
     |((refine vpre_g [.fz [212, 232], .kp [4, 5, 6, 7, 9, 10, 11, 12]] ?_; (conv => whnf); fail_if_success (guard_target =~ False)); conv => whnf)
     |(refine vcalld_p (hla) rfl rfl ?_; conv => whnf)
     |(refine vcalld_p (hlb) rfl rfl ?_; conv => whnf)
     |(refine vcalld_a (show Spec Try.prog 142 0 [pgV (qs.getD (P.getD z.toNat 0).toNat ⟨[], [], []⟩)] [] 1 (.slc 0) [(0, .arr (.prs r))] by rw [hpg]; exact hro) rfl rfl ?_; conv => whnf)
     |(refine vcalld_m [.arr (.prs ra), .arr (.prs rb)] (hSp) rfl rfl rfl rfl rfl rfl rfl ?_; conv => whnf)
     |(refine vcalld_p (innerOf_v ⟨_, _, []⟩) rfl rfl ?_; conv => whnf)
     |(refine vch_l ?_; conv => whnf)
     |(refine vpre_no ?_; conv => whnf)
    exact (vend_j [] [2])
   ·obtain ⟨i, hi⟩ : ∃ i, z.toNat = i + 1 := ⟨z.toNat - 1, by omega⟩
    have hfin := hfin i hi
    obtain ⟨e2, e3, e4, e5⟩ := hab i (by omega)
    clear hab hR0
    have ez : (z - 1).toNat = i := by omega
    obtain ⟨up, hup'⟩ : ∃ up, pgAt ps (P.getD i 0) = up := ⟨_, rfl⟩
    rw [← hi] at e2 e5
    rw [← hq] at e2
    rw [hup'] at hfin e2
    have hX : (qs.set (P.getD z.toNat 0).toNat pa ++ ([] ++ [pb])).getD (P.getD (z - 1).toNat 0).toNat ⟨[], [], []⟩ = up := by
     rw [ez]
     show pgAt (qs.set (P.getD z.toNat 0).toNat pa ++ [pb]) (P.getD i 0) = up
     rw [pgAt_app e3, List.length_set, if_pos (by omega), pgAt_set qa0 qa1 e3, if_neg e5, e2]
    obtain ⟨f1, f2, f3, f4⟩ := hkid i (by omega)
    rw [hup'] at f1 f2 f3 f4
    rw [← hi] at f1
    have hlt := plN_lt f1
    have hpo := placeOf_v up.kids (P.getD z.toNat 0) (by omega)
    rw [if_pos f1] at hpo
    have hak := addKid_v up (plN up.kids (P.getD z.toNat 0)) (rb.getD 0 ⟨0, 0⟩).key qs.length (by omega) (by omega) (by omega) (by omega)
    have hin := innerOf_v (addK up (plN up.kids (P.getD z.toNat 0)) (rb.getD 0 ⟨0, 0⟩).key qs.length)
    rw [show pgV ⟨(addK up (plN up.kids (P.getD z.toNat 0)) (rb.getD 0 ⟨0, 0⟩).key qs.length).keys, (addK up (plN up.kids (P.getD z.toNat 0)) (rb.getD 0 ⟨0, 0⟩).key qs.length).kids, []⟩ = pgV (addK up (plN up.kids (P.getD z.toNat 0)) (rb.getD 0 ⟨0, 0⟩).key qs.length) from rfl] at hin
    have hio := insideOf_v up
    rw [← hX] at hpo hio hak
    rw [hX] at hak
    generalize addK up (plN up.kids (P.getD z.toNat 0)) (rb.getD 0 ⟨0, 0⟩).key qs.length = pu at hak hin hfin
    rw [← hX] at hak
    have e3' : 0 ≤ P.getD (z - 1).toNat 0 := by rw [ez]; exact e3
    have e4' : P.getD (z - 1).toNat 0 < ps.length := by rw [ez]; exact e4
    conv => whnf
    repeat' first
     |(refine vneed_i (by kernel_rfl) ?_; conv => whnf)
     |(refine vif_t ?_ ?_; (focus ((try simp only [qA]) <;> (try simp only [wA]) <;> omega)); conv => whnf)
     |(refine vif_f ?_ ?_; (focus ((try simp only [qA]) <;> (try simp only [wA]) <;> omega)); conv => whnf)
     |(refine vneed_i (by (try simp only [wA, wL]) <;> omega) ?_; conv => whnf)
     |(refine vint_f (by (try simp only [wA, wL]) <;> omega) (by (try simp only [wA, wL]) <;> omega) ?_; conv => whnf)
     |((refine vpre_g [.fz [212, 232], .kp [4, 5, 6, 7, 9, 10, 11, 12]] ?_; (conv => whnf); fail_if_success (guard_target =~ False)); conv => whnf)
     |(refine vcalld_p (hla) rfl rfl ?_; conv => whnf)
     |(refine vcalld_p (hlb) rfl rfl ?_; conv => whnf)
     |(refine vcalld_a (show Spec Try.prog 142 0 [pgV (qs.getD (P.getD z.toNat 0).toNat ⟨[], [], []⟩)] [] 1 (.slc 0) [(0, .arr (.prs r))] by rw [hpg]; exact hro) rfl rfl ?_; conv => whnf)
     |(refine vcalld_m [.arr (.prs ra), .arr (.prs rb)] (hSp) rfl rfl rfl rfl rfl rfl rfl ?_; conv => whnf)
     |(refine vcalld_p (hio) rfl rfl ?_; conv => whnf)
     |(refine vcalld_p (hpo) rfl rfl ?_; conv => whnf)
     |(refine vcalld_p (hak) rfl rfl ?_; conv => whnf)
     |(refine vcalld_p (hin) rfl rfl ?_; conv => whnf)
     |(refine vch_l ?_; conv => whnf)
     |(refine vpre_no ?_; conv => whnf)
    refine ⟨⟨((qs.set (P.getD z.toNat 0).toNat pa ++ ([] ++ [pb])).set (P.getD (z - 1).toNat 0).toNat pu, z - 1), ?_⟩, (ent_j [] [0, 1, 2]), by dsimp only; omega⟩
    dsimp only
    refine ⟨by omega, by omega, ?_⟩
    rw [ez]; exact hfin.symm
  ·have hkl : pg.kids.length = pg.keys.length + 1 := by
    obtain ⟨e, he⟩ : ∃ e, d + 1 - z.toNat = e + 1 := ⟨d - z.toNat, by omega⟩
    rw [he] at qf
    cases e with
    |zero => have := LeafOk.kids qf; rw [this] at hlf; exact (hlf rfl).elim
    |succ e => exact PFit.kidsLen qf
   have hlf2 : ¬ (qs.getD (P.getD z.toNat 0).toNat ⟨[], [], []⟩).kids.length = 0 := by rw [hpg]; exact hlf
   have hsi := splitInner_v pg (by omega) hkl (by omega)
   have hio0 := insideOf_v (qs.getD (P.getD z.toNat 0).toNat ⟨[], [], []⟩)
   unfold splitPg at hsp
   rw [if_neg hlf] at hsp
   obtain ⟨e1, e2⟩ := Prod.mk.inj hsp
   obtain ⟨e3, e4⟩ := Prod.mk.inj e2
   have hia := innerOf_v pa
   have hib := innerOf_v pb
   rw [show (⟨pa.keys, pa.kids, []⟩ : Pg) = pa by rw [← e1]] at hia
   rw [show (⟨pb.keys, pb.kids, []⟩ : Pg) = pb by rw [← e4]] at hib
   rw [e1, e3, e4] at hsi
   clear hsp e1 e2 e3 e4
   rw [← hpg] at hsi
   by_cases hz : z = 0
   ·have hR0 := hR0 hz
    subst hR0
    clear hab hfin
    conv => whnf
    repeat' first
     |(refine vneed_i (by kernel_rfl) ?_; conv => whnf)
     |(refine vif_t ?_ ?_; (focus ((try simp only [qA]) <;> (try simp only [wA]) <;> omega)); conv => whnf)
     |(refine vif_f ?_ ?_; (focus ((try simp only [qA]) <;> (try simp only [wA]) <;> omega)); conv => whnf)
     |(refine vneed_i (by (try simp only [wA, wL]) <;> omega) ?_; conv => whnf)
     |(refine vint_f (by (try simp only [wA, wL]) <;> omega) (by (try simp only [wA, wL]) <;> omega) ?_; conv => whnf)
     |((refine vpre_g [.kp [4, 5, 6, 7, 9, 10, 13, 14, 15]] ?_; (conv => whnf); fail_if_success (guard_target =~ False)); conv => whnf)
     |(refine vcalld_p (hio0) rfl rfl ?_; conv => whnf)
     |(refine vcalld_p (hsi) rfl rfl ?_; conv => whnf)
     |(refine vcalld_p (hia) rfl rfl ?_; conv => whnf)
     |(refine vcalld_p (hib) rfl rfl ?_; conv => whnf)
     |(refine vcalld_p (innerOf_v ⟨_, _, []⟩) rfl rfl ?_; conv => whnf)
     |(refine vch_l ?_; conv => whnf)
    exact (vend_j [] [2])
   ·obtain ⟨i, hi⟩ : ∃ i, z.toNat = i + 1 := ⟨z.toNat - 1, by omega⟩
    have hfin := hfin i hi
    obtain ⟨e2, e3, e4, e5⟩ := hab i (by omega)
    clear hab hR0
    have ez : (z - 1).toNat = i := by omega
    obtain ⟨up, hup'⟩ : ∃ up, pgAt ps (P.getD i 0) = up := ⟨_, rfl⟩
    rw [← hi] at e2 e5
    rw [← hq] at e2
    rw [hup'] at hfin e2
    have hX : (qs.set (P.getD z.toNat 0).toNat pa ++ ([] ++ [pb])).getD (P.getD (z - 1).toNat 0).toNat ⟨[], [], []⟩ = up := by
     rw [ez]
     show pgAt (qs.set (P.getD z.toNat 0).toNat pa ++ [pb]) (P.getD i 0) = up
     rw [pgAt_app e3, List.length_set, if_pos (by omega), pgAt_set qa0 qa1 e3, if_neg e5, e2]
    obtain ⟨f1, f2, f3, f4⟩ := hkid i (by omega)
    rw [hup'] at f1 f2 f3 f4
    rw [← hi] at f1
    have hlt := plN_lt f1
    have hpo := placeOf_v up.kids (P.getD z.toNat 0) (by omega)
    rw [if_pos f1] at hpo
    have hak := addKid_v up (plN up.kids (P.getD z.toNat 0)) kx qs.length (by omega) (by omega) (by omega) (by omega)
    have hin := innerOf_v (addK up (plN up.kids (P.getD z.toNat 0)) kx qs.length)
    rw [show pgV ⟨(addK up (plN up.kids (P.getD z.toNat 0)) kx qs.length).keys, (addK up (plN up.kids (P.getD z.toNat 0)) kx qs.length).kids, []⟩ = pgV (addK up (plN up.kids (P.getD z.toNat 0)) kx qs.length) from rfl] at hin
    have hio := insideOf_v up
    rw [← hX] at hpo hio hak
    rw [hX] at hak
    generalize addK up (plN up.kids (P.getD z.toNat 0)) kx qs.length = pu at hak hin hfin
    rw [← hX] at hak
    have e3' : 0 ≤ P.getD (z - 1).toNat 0 := by rw [ez]; exact e3
    have e4' : P.getD (z - 1).toNat 0 < ps.length := by rw [ez]; exact e4
    conv => whnf
    repeat' first
     |(refine vneed_i (by kernel_rfl) ?_; conv => whnf)
     |(refine vif_t ?_ ?_; (focus ((try simp only [qA]) <;> (try simp only [wA]) <;> omega)); conv => whnf)
     |(refine vif_f ?_ ?_; (focus ((try simp only [qA]) <;> (try simp only [wA]) <;> omega)); conv => whnf)
     |(refine vneed_i (by (try simp only [wA, wL]) <;> omega) ?_; conv => whnf)
     |(refine vint_f (by (try simp only [wA, wL]) <;> omega) (by (try simp only [wA, wL]) <;> omega) ?_; conv => whnf)
     |((refine vpre_g [.kp [4, 5, 6, 7, 9, 10, 13, 14, 15]] ?_; (conv => whnf); fail_if_success (guard_target =~ False)); conv => whnf)
     |(refine vcalld_p (hio0) rfl rfl ?_; conv => whnf)
     |(refine vcalld_p (hsi) rfl rfl ?_; conv => whnf)
     |(refine vcalld_p (hia) rfl rfl ?_; conv => whnf)
     |(refine vcalld_p (hib) rfl rfl ?_; conv => whnf)
     |(refine vcalld_p (hio) rfl rfl ?_; conv => whnf)
     |(refine vcalld_p (hpo) rfl rfl ?_; conv => whnf)
     |(refine vcalld_p (hak) rfl rfl ?_; conv => whnf)
     |(refine vcalld_p (hin) rfl rfl ?_; conv => whnf)
     |(refine vch_l ?_; conv => whnf)
     |(refine vpre_no ?_; conv => whnf)
    refine ⟨⟨((qs.set (P.getD z.toNat 0).toNat pa ++ ([] ++ [pb])).set (P.getD (z - 1).toNat 0).toNat pu, z - 1), ?_⟩, (ent_j [] [0, 1, 2]), by dsimp only; omega⟩
    dsimp only
    refine ⟨by omega, by omega, ?_⟩
    rw [ez]; exact hfin.symm
 ·have hov2 : ¬ 4 < (qs.getD (P.getD z.toNat 0).toNat ⟨[], [], []⟩).keys.length := by rw [hpg]; exact hov
  have hRR := hst' hov
  subst hRR
  conv => whnf
  repeat' first
   |(refine vneed_i (by kernel_rfl) ?_; conv => whnf)
   |(refine vif_t ?_ ?_; (focus ((try simp only [qA]) <;> (try simp only [wA]) <;> omega)); conv => whnf)
   |(refine vif_f ?_ ?_; (focus ((try simp only [qA]) <;> (try simp only [wA]) <;> omega)); conv => whnf)
   |(refine vneed_i (by (try simp only [wA, wL]) <;> omega) ?_; conv => whnf)
   |(refine vpre_no ?_; conv => whnf)
  exact (vend_j [] [2])
end Go.VL
