/- V-logic: TrS -/
import Derived.Test.YtbpbgjkingjdcaaVTrP
import Derived.Test.YtbpbgjkingjdcaaVTrR
import Derived.Test.YtbpbgjkingjdcaaVTrK
import Derived.Test.YtbpbgjkingjdcaaVTrO
namespace Go.VL
open Go.Proofs
set_option maxRecDepth 10000
set_option linter.unusedSimpArgs false
set_option linter.unusedVariables false
def z09 (code : List Int) (p0 : Int) (m : Nat) (res : V) (hout : List (Nat × O)) : Prop :=
 ∃ (root : Int) (ps : List Pg) (p : Int), vTree root ps = true ∧ p0 ≤ p ∧ p ≤ p0 + 400 ∧ m = 2 ∧ res = .agg [.c (.int .i64 root), .slc 1] ∧ hout = [(0, .box [.c (.nums .u8 code), .c (.int .i64 p)] [] []), (1, .arr (.pgs ps))]
theorem zzr (list : List Pr) (h : list.length ≤ 24) : (zf8 list).length ≤ 16 := by
 have := zsc h
 unfold zf8
 split
 ·simp
 ·split
  ·simp [znh]; omega
  ·simp [znh]; omega
theorem z2h {list : List Pr} (h : RowOk list 0 99) (hl : list.length ≤ 24) : vTree 0 (zf8 list) = true := by
 refine zdk.2 ⟨ldH list.length, (z2p h hl).1.vt (zzr list hl) ?_⟩
 unfold ldH; split <;> (try split) <;> omega
theorem zv2 {root key : Int} {ps : List Pg} (h : vTree root ps = true) (hk : key ∈ (psF root ps).map Pr.key) : vTree (zf4 root ps (htF root ps) key).1 (zf4 root ps (htF root ps) key).2 = true := by
 have v := za0 h
 have q := z0t v.v0 hk
 have := q.len
 have := v.l16
 have := v.h3
 exact zdk.2 ⟨_, q.vt.vt (by omega) (by omega)⟩
structure TreeF (root : Int) (ps : List Pg) : Prop where
 pb : pB ps
 po : zr Try.prog 101 0 [trV root ps] [] 1 (.slc 0) [(0, .arr (.prs (psF root ps)))]
 len : (psF root ps).length ≤ 100
theorem zdx {root : Int} {ps : List Pg} (h : vTree root ps = true) : TreeF root ps := by
 have v := za0 h
 have hp := v.v0.pB (by have := v.l16; omega)
 obtain ⟨d, hd⟩ : ∃ d, htF root ps = d + 1 := ⟨htF root ps - 1, by have := v.h1; omega⟩
 have h3 := v.h3
 have hpo := zrf root ps hp d _ _ _ _ (hd ▸ v.fit) (by omega) (Nat.le_refl _)
 rw [show prF ps (d + 1) (zb ps root) = psF root ps by unfold psF; rw [hd]] at hpo
 exact ⟨hp, hpo, zrn (zaa.row v.fit.2.2.2.2)⟩
set_option maxHeartbeats 4000000 in
theorem zxu (code : List Int) (hc : CodeOk code) (p0 : Int) (h0 : 0 ≤ p0) (h1 : p0 ≤ 1000000) : zce Try.prog 143 1 [.ptr 0 0 0 0] [(0, .box [.c (.nums .u8 code), .c (.int .i64 p0)] [] [])] (z09 code p0) := by
 refine spx (fn := Try.f143) _ ?_
 conv => whnf
 skip
 refine zbw [] [0] (zyf code hc p0 h0 h1) ⟨rfl, rfl, rfl, (by repeat first | exact trivial | refine ⟨rfl, ?_⟩), ⟨rfl, rfl, rfl⟩, ?_⟩
 rintro m res hout ⟨row, p1, r1, r2, r3, r4, rfl, rfl, rfl⟩
 refine ⟨⟨rfl, rfl, rfl⟩, ?_⟩
 conv => whnf
 have hn := zjy code hc p1 [3, 6, 0, 10] (by omega) (by omega) (by simp) (by simp)
 obtain ⟨N, hN⟩ : ∃ N : Int, ([3, 6, 0, 10] : List Int).getD (zah code p1 ([3, 6, 0, 10] : List Int).length).toNat 0 = N := ⟨_, rfl⟩
 have hNb : 0 ≤ N ∧ N ≤ 10 := by
  rw [← hN]
  generalize (zah code p1 _).toNat = t
  match t with
  |0 => decide
  |1 => decide
  |2 => decide
  |3 => decide
  |t + 4 => exact ⟨Int.le_refl 0, (by decide : (0 : Int) ≤ 10)⟩
 rw [hN] at hn
 have hld := z3f row r2 r1
 have hvt := z2h r1 r2
 generalize zf8 row = ps0 at *
 repeat' first
  |(refine z8 (hld) rfl ?_; conv => whnf)
  |(refine zal [4] [0] (hn) ?_; (conv => whnf); refine ⟨rfl, rfl, rfl, (by repeat first | exact trivial | refine ⟨rfl, ?_⟩), ⟨rfl, rfl, rfl, rfl, rfl, rfl⟩, ?_⟩; conv => whnf)
 refine zy2 (fun (root : Int) (ps : List Pg) (p z : Int) => vTree root ps = true ∧ p0 ≤ p ∧ p + 10 * z ≤ p0 + 300 ∧ 0 ≤ z) (fun root ps p z => ⟨56, 4, [(0, .ptr 0 0 0 0), (2, .ptr 1 0 0 0), (3, .ptr 2 0 0 0), (4, .c (.int .i64 z))], [(0, .box [.c (.nums .u8 code), .c (.int .i64 p)] [] []), (1, .box [.c (.int .i64 0), .nil] [] []), (2, .box [.c (.int .i64 root), .slc 3] [] []), (3, .arr (.pgs ps))]⟩) (fun root ps p z => z.toNat) 0 ps0 (p1 + 1) N ⟨hvt, by omega, by omega, hNb.1⟩ (fun _ _ _ _ => Nat.le_add_left 1 3) (z5 [] [0, 1, 3, 2]) (fun root ps p z hi => ?_)
 obtain ⟨i1, i2, i3, i4⟩ := hi
 by_cases hz : z > 0
 ·have b1 := zdl hc (p := p) (n := 100) (by omega) (by omega)
  have b2 := zdl hc (p := p + 1) (n := 100) (by omega) (by omega)
  have b3 := zdl hc (p := p + 1 + 1) (n := 2) (by omega) (by omega)
  have hp1 := zcs code hc p 100 (by omega) (by omega) (by omega)
  have hp2 := zcs code hc (p + 1) 100 (by omega) (by omega) (by omega)
  have hp3 := zcs code hc (p + 1 + 1) 2 (by omega) (by omega) (by omega)
  generalize zah code p 100 = A at *
  generalize zah code (p + 1) 100 = B at *
  generalize zah code (p + 1 + 1) 2 = E at *
  cases hpm : zqc root ps ⟨A, B⟩ with
  |some r =>
   have hpk := zx7 root ps ⟨A, B⟩ (zdx i1).pb r hpm
   have hrv := (zrm hpm).2.2.2
   clear hpm i1
   obtain ⟨rt, qs⟩ := r
   dsimp only at hpk hrv
   have F := zdx hrv
   have hpo := F.po
   have hpb := F.pb
   have hle := F.len
   have hdk := fun key (hk : key ∈ (psF rt qs).map Pr.key) => zps rt key qs hpb (by unfold zql; rw [hrv, Bool.true_and, List.contains_iff_mem]; exact hk)
   have hdv := fun key (hk : key ∈ (psF rt qs).map Pr.key) => zv2 hrv hk
   clear F
   have hko := zdt (psF rt qs) (by omega)
   generalize hps : (psF rt qs).map Pr.key = K at *
   have hKl : K.length = (psF rt qs).length := by rw [← hps, List.length_map]
   generalize psF rt qs = L at *
   have hp4 := zcs code hc (p + 1 + 1 + 1) K.length (by omega) (by omega) (by omega)
   have b4 := zdl hc (p := p + 1 + 1 + 1) (n := (K.length : Int)) (by omega) (by omega)
   generalize zah code (p + 1 + 1 + 1) K.length = D at *
   have hmem : 0 < K.length → K.getD D.toNat 0 ∈ K := fun hl => zaq 0 (by omega)
   by_cases hK : 0 < K.length
   ·have hdk := hdk _ (hmem hK)
    have hdv := hdv _ (hmem hK)
    generalize zf4 rt qs (htF rt qs) (K.getD D.toNat 0) = T at *
    conv => whnf
    repeat' first
     |(refine za (by kernel_rfl) ?_; conv => whnf)
     |(refine zn ?_ ?_; (focus ((try simp only [qA]) <;> (try simp only [wA]) <;> omega)); conv => whnf)
     |(refine za (by (try simp only [wA, wL]) <;> omega) ?_; conv => whnf)
     |(refine zk (fun h => ?_) (fun h => ?_) <;> (try simp only [qA] at h) <;> (try simp only [wA] at h) <;> conv => whnf)
     |(refine zg (by (try simp only [wA, wL]) <;> omega) (by (try simp only [wA, wL]) <;> omega) ?_; conv => whnf)
     |(refine zbr 0 hp1 rfl rfl rfl rfl rfl rfl rfl rfl rfl ?_; conv => whnf)
     |(refine zbr 0 hp2 rfl rfl rfl rfl rfl rfl rfl rfl rfl ?_; conv => whnf)
     |(refine zbr 0 hp4 rfl rfl rfl rfl rfl rfl rfl rfl rfl ?_; conv => whnf)
     |(refine zeb (hpk) rfl rfl rfl rfl rfl ?_; conv => whnf)
     |(refine zal [] [0] (hp3) ⟨rfl, rfl, rfl, (by repeat first | exact trivial | refine ⟨rfl, ?_⟩), ⟨rfl, rfl, rfl, rfl, rfl, rfl⟩, ?_⟩; conv => whnf)
     |(refine zbe (hpo) rfl rfl rfl rfl ?_; conv => whnf)
     |(refine zbe (hko) rfl rfl rfl rfl ?_; conv => whnf)
     |(refine zeb (hdk) rfl rfl rfl rfl rfl ?_; conv => whnf)
     |(refine ze ?_; conv => whnf)
    ·refine ⟨⟨(T.1, T.2, p + 1 + 1 + 1 + 1, z - 1), ?_⟩, (z5 [] [0, 1, 2, 114]), by dsimp only; omega⟩; (try dsimp only)
     exact ⟨hdv, by omega, by omega, by omega⟩
    ·refine ⟨⟨(rt, qs, p + 1 + 1 + 1, z - 1), ?_⟩, (z5 [] [0, 1, 2, 10]), by dsimp only; omega⟩; (try dsimp only)
     exact ⟨hrv, by omega, by omega, by omega⟩
   ·conv => whnf
    repeat' first
     |(refine za (by kernel_rfl) ?_; conv => whnf)
     |(refine zn ?_ ?_; (focus ((try simp only [qA]) <;> (try simp only [wA]) <;> omega)); conv => whnf)
     |(refine zm ?_ ?_; (focus ((try simp only [qA]) <;> (try simp only [wA]) <;> omega)); conv => whnf)
     |(refine zk (fun h => ?_) (fun h => ?_) <;> (try simp only [qA] at h) <;> (try simp only [wA] at h) <;> conv => whnf)
     |(refine zg (by (try simp only [wA, wL]) <;> omega) (by (try simp only [wA, wL]) <;> omega) ?_; conv => whnf)
     |(refine zbr 0 hp1 rfl rfl rfl rfl rfl rfl rfl rfl rfl ?_; conv => whnf)
     |(refine zbr 0 hp2 rfl rfl rfl rfl rfl rfl rfl rfl rfl ?_; conv => whnf)
     |(refine zeb (hpk) rfl rfl rfl rfl rfl ?_; conv => whnf)
     |(refine zal [] [0] (hp3) ⟨rfl, rfl, rfl, (by repeat first | exact trivial | refine ⟨rfl, ?_⟩), ⟨rfl, rfl, rfl, rfl, rfl, rfl⟩, ?_⟩; conv => whnf)
     |(refine zbe (hpo) rfl rfl rfl rfl ?_; conv => whnf)
     |(refine zbe (hko) rfl rfl rfl rfl ?_; conv => whnf)
     |(refine ze ?_; conv => whnf)
    ·refine ⟨⟨(rt, qs, p + 1 + 1 + 1, z - 1), ?_⟩, (z5 [] [0, 1, 2, 10]), by dsimp only; omega⟩; (try dsimp only)
     exact ⟨hrv, by omega, by omega, by omega⟩
    ·refine ⟨⟨(rt, qs, p + 1 + 1 + 1, z - 1), ?_⟩, (z5 [] [0, 1, 2, 10]), by dsimp only; omega⟩; (try dsimp only)
     exact ⟨hrv, by omega, by omega, by omega⟩
  |none =>
   have hpk := zzh root ps ⟨A, B⟩ (zdx i1).pb hpm
   clear hpm
   have F := zdx i1
   have hpo := F.po
   have hpb := F.pb
   have hle := F.len
   have hdk := fun key (hk : key ∈ (psF root ps).map Pr.key) => zps root key ps hpb (by unfold zql; rw [i1, Bool.true_and, List.contains_iff_mem]; exact hk)
   have hdv := fun key (hk : key ∈ (psF root ps).map Pr.key) => zv2 i1 hk
   clear F
   have hko := zdt (psF root ps) (by omega)
   generalize hps : (psF root ps).map Pr.key = K at *
   have hKl : K.length = (psF root ps).length := by rw [← hps, List.length_map]
   generalize psF root ps = L at *
   have hp4 := zcs code hc (p + 1 + 1 + 1) K.length (by omega) (by omega) (by omega)
   have b4 := zdl hc (p := p + 1 + 1 + 1) (n := (K.length : Int)) (by omega) (by omega)
   generalize zah code (p + 1 + 1 + 1) K.length = D at *
   have hmem : 0 < K.length → K.getD D.toNat 0 ∈ K := fun hl => zaq 0 (by omega)
   by_cases hK : 0 < K.length
   ·have hdk := hdk _ (hmem hK)
    have hdv := hdv _ (hmem hK)
    generalize zf4 root ps (htF root ps) (K.getD D.toNat 0) = T at *
    conv => whnf
    repeat' first
     |(refine za (by kernel_rfl) ?_; conv => whnf)
     |(refine zn ?_ ?_; (focus ((try simp only [qA]) <;> (try simp only [wA]) <;> omega)); conv => whnf)
     |(refine za (by (try simp only [wA, wL]) <;> omega) ?_; conv => whnf)
     |(refine zk (fun h => ?_) (fun h => ?_) <;> (try simp only [qA] at h) <;> (try simp only [wA] at h) <;> conv => whnf)
     |(refine zg (by (try simp only [wA, wL]) <;> omega) (by (try simp only [wA, wL]) <;> omega) ?_; conv => whnf)
     |(refine zbr 0 hp1 rfl rfl rfl rfl rfl rfl rfl rfl rfl ?_; conv => whnf)
     |(refine zbr 0 hp2 rfl rfl rfl rfl rfl rfl rfl rfl rfl ?_; conv => whnf)
     |(refine zbr 0 hp4 rfl rfl rfl rfl rfl rfl rfl rfl rfl ?_; conv => whnf)
     |(refine zlg [] hpk rfl rfl rfl rfl rfl rfl rfl ?_; conv => whnf)
     |(refine zal [] [0] (hp3) ⟨rfl, rfl, rfl, (by repeat first | exact trivial | refine ⟨rfl, ?_⟩), ⟨rfl, rfl, rfl, rfl, rfl, rfl⟩, ?_⟩; conv => whnf)
     |(refine zbe (hpo) rfl rfl rfl rfl ?_; conv => whnf)
     |(refine zbe (hko) rfl rfl rfl rfl ?_; conv => whnf)
     |(refine zeb (hdk) rfl rfl rfl rfl rfl ?_; conv => whnf)
     |(refine ze ?_; conv => whnf)
    ·refine ⟨⟨(T.1, T.2, p + 1 + 1 + 1 + 1, z - 1), ?_⟩, (z5 [] [0, 1, 2, 114]), by dsimp only; omega⟩; (try dsimp only)
     exact ⟨hdv, by omega, by omega, by omega⟩
    ·refine ⟨⟨(root, ps, p + 1 + 1 + 1, z - 1), ?_⟩, (z5 [] [0, 1, 2, 3]), by dsimp only; omega⟩; (try dsimp only)
     exact ⟨i1, by omega, by omega, by omega⟩
   ·conv => whnf
    repeat' first
     |(refine za (by kernel_rfl) ?_; conv => whnf)
     |(refine zn ?_ ?_; (focus ((try simp only [qA]) <;> (try simp only [wA]) <;> omega)); conv => whnf)
     |(refine zm ?_ ?_; (focus ((try simp only [qA]) <;> (try simp only [wA]) <;> omega)); conv => whnf)
     |(refine zk (fun h => ?_) (fun h => ?_) <;> (try simp only [qA] at h) <;> (try simp only [wA] at h) <;> conv => whnf)
     |(refine zg (by (try simp only [wA, wL]) <;> omega) (by (try simp only [wA, wL]) <;> omega) ?_; conv => whnf)
     |(refine zbr 0 hp1 rfl rfl rfl rfl rfl rfl rfl rfl rfl ?_; conv => whnf)
     |(refine zbr 0 hp2 rfl rfl rfl rfl rfl rfl rfl rfl rfl ?_; conv => whnf)
     |(refine zlg [] hpk rfl rfl rfl rfl rfl rfl rfl ?_; conv => whnf)
     |(refine zal [] [0] (hp3) ⟨rfl, rfl, rfl, (by repeat first | exact trivial | refine ⟨rfl, ?_⟩), ⟨rfl, rfl, rfl, rfl, rfl, rfl⟩, ?_⟩; conv => whnf)
     |(refine zbe (hpo) rfl rfl rfl rfl ?_; conv => whnf)
     |(refine zbe (hko) rfl rfl rfl rfl ?_; conv => whnf)
     |(refine ze ?_; conv => whnf)
    ·refine ⟨⟨(root, ps, p + 1 + 1 + 1, z - 1), ?_⟩, (z5 [] [0, 1, 2, 3]), by dsimp only; omega⟩; (try dsimp only)
     exact ⟨i1, by omega, by omega, by omega⟩
    ·refine ⟨⟨(root, ps, p + 1 + 1 + 1, z - 1), ?_⟩, (z5 [] [0, 1, 2, 3]), by dsimp only; omega⟩; (try dsimp only)
     exact ⟨i1, by omega, by omega, by omega⟩
 ·conv => whnf
  repeat' (refine zm ?_ ?_; (focus ((try simp only [qA]) <;> (try simp only [wA]) <;> omega)); conv => whnf)
  refine za1 2 (.agg [.c (.int .i64 root), .slc 1]) [(0, .box [.c (.nums .u8 code), .c (.int .i64 p)] [] []), (1, .arr (.pgs ps))] ⟨root, ps, p, i1, i2, by omega, rfl, rfl, rfl⟩ rfl ?_
  exact (zu [] [0, 3])
end Go.VL
