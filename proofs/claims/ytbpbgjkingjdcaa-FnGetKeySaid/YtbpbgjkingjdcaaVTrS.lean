/- V-logic: TrS -/
import Derived.Test.YtbpbgjkingjdcaaVTrP
import Derived.Test.YtbpbgjkingjdcaaVTrR
import Derived.Test.YtbpbgjkingjdcaaVTrK
import Derived.Test.YtbpbgjkingjdcaaVTrO
namespace Go.VL
open Go.Proofs
set_option maxRecDepth 10000
set_option linter.unusedSimpArgs false
set_option linter.unusedVariables false
def GoodTree (code : List Int) (p0 : Int) (m : Nat) (res : V) (hout : List (Nat × O)) : Prop :=
 ∃ (root : Int) (ps : List Pg) (p : Int), vTree root ps = true ∧ p0 ≤ p ∧ p ≤ p0 + 400 ∧ m = 2 ∧ res = .agg [.c (.int .i64 root), .slc 1] ∧ hout = [(0, .box [.c (.nums .u8 code), .c (.int .i64 p)] [] []), (1, .arr (.pgs ps))]
theorem loadF_len (list : List Pr) (h : list.length ≤ 24) : (loadF list).length ≤ 16 := by
 have := ldN_b h
 unfold loadF
 split
 ·simp
 ·split
  ·simp [ldL_len]; omega
  ·simp [ldL_len]; omega
theorem load_vt {list : List Pr} (h : RowOk list 0 99) (hl : list.length ≤ 24) : vTree 0 (loadF list) = true := by
 refine vTree_iff.2 ⟨ldH list.length, (load_ok h hl).1.vt (loadF_len list hl) ?_⟩
 unfold ldH; split <;> (try split) <;> omega
theorem drop_vt {root key : Int} {ps : List Pg} (h : vTree root ps = true) (hk : key ∈ (psF root ps).map Pr.key) : vTree (dropT root ps (htF root ps) key).1 (dropT root ps (htF root ps) key).2 = true := by
 have v := vTree_ht h
 have q := dropT_ok v.v0 hk
 have := q.len
 have := v.l16
 have := v.h3
 exact vTree_iff.2 ⟨_, q.vt.vt (by omega) (by omega)⟩
structure TreeF (root : Int) (ps : List Pg) : Prop where
 pb : pB ps
 po : Spec Try.prog 101 0 [trV root ps] [] 1 (.slc 0) [(0, .arr (.prs (psF root ps)))]
 len : (psF root ps).length ≤ 100
theorem treeF {root : Int} {ps : List Pg} (h : vTree root ps = true) : TreeF root ps := by
 have v := vTree_ht h
 have hp := v.v0.pB (by have := v.l16; omega)
 obtain ⟨d, hd⟩ : ∃ d, htF root ps = d + 1 := ⟨htF root ps - 1, by have := v.h1; omega⟩
 have h3 := v.h3
 have hpo := pairsOf_v root ps hp d _ _ _ _ (hd ▸ v.fit) (by omega) (Nat.le_refl _)
 rw [show prF ps (d + 1) (pgAt ps root) = psF root ps by unfold psF; rw [hd]] at hpo
 exact ⟨hp, hpo, rowOk_len (PFit.row v.fit.2.2.2.2)⟩
set_option maxHeartbeats 4000000 in
theorem goodTree_x (code : List Int) (hc : CodeOk code) (p0 : Int) (h0 : 0 ≤ p0) (h1 : p0 ≤ 1000000) : SpecX Try.prog 143 1 [.ptr 0 0 0 0] [(0, .box [.c (.nums .u8 code), .c (.int .i64 p0)] [] [])] (GoodTree code p0) := by
 refine spx (fn := Try.f143) _ ?_
 conv => whnf
 skip
 refine vcall_x [] [0] (goodRow_x code hc p0 h0 h1) ⟨rfl, rfl, rfl, (by repeat first | exact trivial | refine ⟨rfl, ?_⟩), ⟨rfl, rfl, rfl⟩, ?_⟩
 rintro m res hout ⟨row, p1, r1, r2, r3, r4, rfl, rfl, rfl⟩
 refine ⟨⟨rfl, rfl, rfl⟩, ?_⟩
 conv => whnf
 have hn := one_v code hc p1 [3, 6, 0, 10] (by omega) (by omega) (by simp) (by simp)
 obtain ⟨N, hN⟩ : ∃ N : Int, ([3, 6, 0, 10] : List Int).getD (pickF code p1 ([3, 6, 0, 10] : List Int).length).toNat 0 = N := ⟨_, rfl⟩
 have hNb : 0 ≤ N ∧ N ≤ 10 := by
  rw [← hN]
  generalize (pickF code p1 _).toNat = t
  match t with
  |0 => decide
  |1 => decide
  |2 => decide
  |3 => decide
  |t + 4 => exact ⟨Int.le_refl 0, (by decide : (0 : Int) ≤ 10)⟩
 rw [hN] at hn
 have hld := load_v row r2 r1
 have hvt := load_vt r1 r2
 generalize loadF row = ps0 at *
 repeat' first
  |(refine vcall_a (hld) rfl ?_; conv => whnf)
  |(refine vcall_i [4] [0] (hn) ?_; (conv => whnf); refine ⟨rfl, rfl, rfl, (by repeat first | exact trivial | refine ⟨rfl, ?_⟩), ⟨rfl, rfl, rfl, rfl, rfl, rfl⟩, ?_⟩; conv => whnf)
 refine vloop4 (fun (root : Int) (ps : List Pg) (p z : Int) => vTree root ps = true ∧ p0 ≤ p ∧ p + 10 * z ≤ p0 + 300 ∧ 0 ≤ z) (fun root ps p z => ⟨56, 4, [(0, .ptr 0 0 0 0), (2, .ptr 1 0 0 0), (3, .ptr 2 0 0 0), (4, .c (.int .i64 z))], [(0, .box [.c (.nums .u8 code), .c (.int .i64 p)] [] []), (1, .box [.c (.int .i64 0), .nil] [] []), (2, .box [.c (.int .i64 root), .slc 3] [] []), (3, .arr (.pgs ps))]⟩) (fun root ps p z => z.toNat) 0 ps0 (p1 + 1) N ⟨hvt, by omega, by omega, hNb.1⟩ (fun _ _ _ _ => Nat.le_add_left 1 3) (ent_j [] [0, 1, 3, 2]) (fun root ps p z hi => ?_)
 obtain ⟨i1, i2, i3, i4⟩ := hi
 by_cases hz : z > 0
 ·have b1 := pickF_b hc (p := p) (n := 100) (by omega) (by omega)
  have b2 := pickF_b hc (p := p + 1) (n := 100) (by omega) (by omega)
  have b3 := pickF_b hc (p := p + 1 + 1) (n := 2) (by omega) (by omega)
  have hp1 := pick_v code hc p 100 (by omega) (by omega) (by omega)
  have hp2 := pick_v code hc (p + 1) 100 (by omega) (by omega) (by omega)
  have hp3 := pick_v code hc (p + 1 + 1) 2 (by omega) (by omega) (by omega)
  generalize pickF code p 100 = A at *
  generalize pickF code (p + 1) 100 = B at *
  generalize pickF code (p + 1 + 1) 2 = E at *
  cases hpm : putM root ps ⟨A, B⟩ with
  |some r =>
   have hpk := PutKey_ok root ps ⟨A, B⟩ (treeF i1).pb r hpm
   have hrv := (putM_some hpm).2.2.2
   clear hpm i1
   obtain ⟨rt, qs⟩ := r
   dsimp only at hpk hrv
   have F := treeF hrv
   have hpo := F.po
   have hpb := F.pb
   have hle := F.len
   have hdk := fun key (hk : key ∈ (psF rt qs).map Pr.key) => DropKey_ok rt key qs hpb (by unfold drOk; rw [hrv, Bool.true_and, List.contains_iff_mem]; exact hk)
   have hdv := fun key (hk : key ∈ (psF rt qs).map Pr.key) => drop_vt hrv hk
   clear F
   have hko := keysOf_v (psF rt qs) (by omega)
   generalize hps : (psF rt qs).map Pr.key = K at *
   have hKl : K.length = (psF rt qs).length := by rw [← hps, List.length_map]
   generalize psF rt qs = L at *
   have hp4 := pick_v code hc (p + 1 + 1 + 1) K.length (by omega) (by omega) (by omega)
   have b4 := pickF_b hc (p := p + 1 + 1 + 1) (n := (K.length : Int)) (by omega) (by omega)
   generalize pickF code (p + 1 + 1 + 1) K.length = D at *
   have hmem : 0 < K.length → K.getD D.toNat 0 ∈ K := fun hl => getD_mem 0 (by omega)
   by_cases hK : 0 < K.length
   ·have hdk := hdk _ (hmem hK)
    have hdv := hdv _ (hmem hK)
    generalize dropT rt qs (htF rt qs) (K.getD D.toNat 0) = T at *
    conv => whnf
    repeat' first
     |(refine vneed_i (by kernel_rfl) ?_; conv => whnf)
     |(refine vif_t ?_ ?_; (focus ((try simp only [qA]) <;> (try simp only [wA]) <;> omega)); conv => whnf)
     |(refine vneed_i (by (try simp only [wA, wL]) <;> omega) ?_; conv => whnf)
     |(refine vif_i (fun h => ?_) (fun h => ?_) <;> (try simp only [qA] at h) <;> (try simp only [wA] at h) <;> conv => whnf)
     |(refine vint_f (by (try simp only [wA, wL]) <;> omega) (by (try simp only [wA, wL]) <;> omega) ?_; conv => whnf)
     |(refine vcalld_b 0 hp1 rfl rfl rfl rfl rfl rfl rfl rfl rfl ?_; conv => whnf)
     |(refine vcalld_b 0 hp2 rfl rfl rfl rfl rfl rfl rfl rfl rfl ?_; conv => whnf)
     |(refine vcalld_b 0 hp4 rfl rfl rfl rfl rfl rfl rfl rfl rfl ?_; conv => whnf)
     |(refine vcalld_n (hpk) rfl rfl rfl rfl rfl ?_; conv => whnf)
     |(refine vcall_i [] [0] (hp3) ⟨rfl, rfl, rfl, (by repeat first | exact trivial | refine ⟨rfl, ?_⟩), ⟨rfl, rfl, rfl, rfl, rfl, rfl⟩, ?_⟩; conv => whnf)
     |(refine vcall_n (hpo) rfl rfl rfl rfl ?_; conv => whnf)
     |(refine vcall_n (hko) rfl rfl rfl rfl ?_; conv => whnf)
     |(refine vcalld_n (hdk) rfl rfl rfl rfl rfl ?_; conv => whnf)
     |(refine vpre_no ?_; conv => whnf)
    ·refine ⟨⟨(T.1, T.2, p + 1 + 1 + 1 + 1, z - 1), ?_⟩, (ent_j [] [0, 1, 2, 114]), by dsimp only; omega⟩; (try dsimp only)
     exact ⟨hdv, by omega, by omega, by omega⟩
    ·refine ⟨⟨(rt, qs, p + 1 + 1 + 1, z - 1), ?_⟩, (ent_j [] [0, 1, 2, 10]), by dsimp only; omega⟩; (try dsimp only)
     exact ⟨hrv, by omega, by omega, by omega⟩
   ·conv => whnf
    repeat' first
     |(refine vneed_i (by kernel_rfl) ?_; conv => whnf)
     |(refine vif_t ?_ ?_; (focus ((try simp only [qA]) <;> (try simp only [wA]) <;> omega)); conv => whnf)
     |(refine vif_f ?_ ?_; (focus ((try simp only [qA]) <;> (try simp only [wA]) <;> omega)); conv => whnf)
     |(refine vif_i (fun h => ?_) (fun h => ?_) <;> (try simp only [qA] at h) <;> (try simp only [wA] at h) <;> conv => whnf)
     |(refine vint_f (by (try simp only [wA, wL]) <;> omega) (by (try simp only [wA, wL]) <;> omega) ?_; conv => whnf)
     |(refine vcalld_b 0 hp1 rfl rfl rfl rfl rfl rfl rfl rfl rfl ?_; conv => whnf)
     |(refine vcalld_b 0 hp2 rfl rfl rfl rfl rfl rfl rfl rfl rfl ?_; conv => whnf)
     |(refine vcalld_n (hpk) rfl rfl rfl rfl rfl ?_; conv => whnf)
     |(refine vcall_i [] [0] (hp3) ⟨rfl, rfl, rfl, (by repeat first | exact trivial | refine ⟨rfl, ?_⟩), ⟨rfl, rfl, rfl, rfl, rfl, rfl⟩, ?_⟩; conv => whnf)
     |(refine vcall_n (hpo) rfl rfl rfl rfl ?_; conv => whnf)
     |(refine vcall_n (hko) rfl rfl rfl rfl ?_; conv => whnf)
     |(refine vpre_no ?_; conv => whnf)
    ·refine ⟨⟨(rt, qs, p + 1 + 1 + 1, z - 1), ?_⟩, (ent_j [] [0, 1, 2, 10]), by dsimp only; omega⟩; (try dsimp only)
     exact ⟨hrv, by omega, by omega, by omega⟩
    ·refine ⟨⟨(rt, qs, p + 1 + 1 + 1, z - 1), ?_⟩, (ent_j [] [0, 1, 2, 10]), by dsimp only; omega⟩; (try dsimp only)
     exact ⟨hrv, by omega, by omega, by omega⟩
  |none =>
   have hpk := PutKey_no root ps ⟨A, B⟩ (treeF i1).pb hpm
   clear hpm
   have F := treeF i1
   have hpo := F.po
   have hpb := F.pb
   have hle := F.len
   have hdk := fun key (hk : key ∈ (psF root ps).map Pr.key) => DropKey_ok root key ps hpb (by unfold drOk; rw [i1, Bool.true_and, List.contains_iff_mem]; exact hk)
   have hdv := fun key (hk : key ∈ (psF root ps).map Pr.key) => drop_vt i1 hk
   clear F
   have hko := keysOf_v (psF root ps) (by omega)
   generalize hps : (psF root ps).map Pr.key = K at *
   have hKl : K.length = (psF root ps).length := by rw [← hps, List.length_map]
   generalize psF root ps = L at *
   have hp4 := pick_v code hc (p + 1 + 1 + 1) K.length (by omega) (by omega) (by omega)
   have b4 := pickF_b hc (p := p + 1 + 1 + 1) (n := (K.length : Int)) (by omega) (by omega)
   generalize pickF code (p + 1 + 1 + 1) K.length = D at *
   have hmem : 0 < K.length → K.getD D.toNat 0 ∈ K := fun hl => getD_mem 0 (by omega)
   by_cases hK : 0 < K.length
   ·have hdk := hdk _ (hmem hK)
    have hdv := hdv _ (hmem hK)
    generalize dropT root ps (htF root ps) (K.getD D.toNat 0) = T at *
    conv => whnf
    repeat' first
     |(refine vneed_i (by kernel_rfl) ?_; conv => whnf)
     |(refine vif_t ?_ ?_; (focus ((try simp only [qA]) <;> (try simp only [wA]) <;> omega)); conv => whnf)
     |(refine vneed_i (by (try simp only [wA, wL]) <;> omega) ?_; conv => whnf)
     |(refine vif_i (fun h => ?_) (fun h => ?_) <;> (try simp only [qA] at h) <;> (try simp only [wA] at h) <;> conv => whnf)
     |(refine vint_f (by (try simp only [wA, wL]) <;> omega) (by (try simp only [wA, wL]) <;> omega) ?_; conv => whnf)
     |(refine vcalld_b 0 hp1 rfl rfl rfl rfl rfl rfl rfl rfl rfl ?_; conv => whnf)
     |(refine vcalld_b 0 hp2 rfl rfl rfl rfl rfl rfl rfl rfl rfl ?_; conv => whnf)
     |(refine vcalld_b 0 hp4 rfl rfl rfl rfl rfl rfl rfl rfl rfl ?_; conv => whnf)
     |(refine vcalld_m [] hpk rfl rfl rfl rfl rfl rfl rfl ?_; conv => whnf)
     |(refine vcall_i [] [0] (hp3) ⟨rfl, rfl, rfl, (by repeat first | exact trivial | refine ⟨rfl, ?_⟩), ⟨rfl, rfl, rfl, rfl, rfl, rfl⟩, ?_⟩; conv => whnf)
     |(refine vcall_n (hpo) rfl rfl rfl rfl ?_; conv => whnf)
     |(refine vcall_n (hko) rfl rfl rfl rfl ?_; conv => whnf)
     |(refine vcalld_n (hdk) rfl rfl rfl rfl rfl ?_; conv => whnf)
     |(refine vpre_no ?_; conv => whnf)
    ·refine ⟨⟨(T.1, T.2, p + 1 + 1 + 1 + 1, z - 1), ?_⟩, (ent_j [] [0, 1, 2, 114]), by dsimp only; omega⟩; (try dsimp only)
     exact ⟨hdv, by omega, by omega, by omega⟩
    ·refine ⟨⟨(root, ps, p + 1 + 1 + 1, z - 1), ?_⟩, (ent_j [] [0, 1, 2, 3]), by dsimp only; omega⟩; (try dsimp only)
     exact ⟨i1, by omega, by omega, by omega⟩
   ·conv => whnf
    repeat' first
     |(refine vneed_i (by kernel_rfl) ?_; conv => whnf)
     |(refine vif_t ?_ ?_; (focus ((try simp only [qA]) <;> (try simp only [wA]) <;> omega)); conv => whnf)
     |(refine vif_f ?_ ?_; (focus ((try simp only [qA]) <;> (try simp only [wA]) <;> omega)); conv => whnf)
     |(refine vif_i (fun h => ?_) (fun h => ?_) <;> (try simp only [qA] at h) <;> (try simp only [wA] at h) <;> conv => whnf)
     |(refine vint_f (by (try simp only [wA, wL]) <;> omega) (by (try simp only [wA, wL]) <;> omega) ?_; conv => whnf)
     |(refine vcalld_b 0 hp1 rfl rfl rfl rfl rfl rfl rfl rfl rfl ?_; conv => whnf)
     |(refine vcalld_b 0 hp2 rfl rfl rfl rfl rfl rfl rfl rfl rfl ?_; conv => whnf)
     |(refine vcalld_m [] hpk rfl rfl rfl rfl rfl rfl rfl ?_; conv => whnf)
     |(refine vcall_i [] [0] (hp3) ⟨rfl, rfl, rfl, (by repeat first | exact trivial | refine ⟨rfl, ?_⟩), ⟨rfl, rfl, rfl, rfl, rfl, rfl⟩, ?_⟩; conv => whnf)
     |(refine vcall_n (hpo) rfl rfl rfl rfl ?_; conv => whnf)
     |(refine vcall_n (hko) rfl rfl rfl rfl ?_; conv => whnf)
     |(refine vpre_no ?_; conv => whnf)
    ·refine ⟨⟨(root, ps, p + 1 + 1 + 1, z - 1), ?_⟩, (ent_j [] [0, 1, 2, 3]), by dsimp only; omega⟩; (try dsimp only)
     exact ⟨i1, by omega, by omega, by omega⟩
    ·refine ⟨⟨(root, ps, p + 1 + 1 + 1, z - 1), ?_⟩, (ent_j [] [0, 1, 2, 3]), by dsimp only; omega⟩; (try dsimp only)
     exact ⟨i1, by omega, by omega, by omega⟩
 ·conv => whnf
  repeat' (refine vif_f ?_ ?_; (focus ((try simp only [qA]) <;> (try simp only [wA]) <;> omega)); conv => whnf)
  refine vendX_i 2 (.agg [.c (.int .i64 root), .slc 1]) [(0, .box [.c (.nums .u8 code), .c (.int .i64 p)] [] []), (1, .arr (.pgs ps))] ⟨root, ps, p, i1, i2, by omega, rfl, rfl, rfl⟩ rfl ?_
  exact (vend_j [] [0, 3])
end Go.VL
