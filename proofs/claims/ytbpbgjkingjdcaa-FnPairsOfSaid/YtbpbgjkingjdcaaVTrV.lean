/- V-logic: TrV -/
import Derived.Test.YtbpbgjkingjdcaaVTrU
import Derived.Test.YtbpbgjkingjdcaaVTrS
import Derived.Test.YtbpbgjkingjdcaaVPE
namespace Go.VL
open Go.Proofs
set_option maxRecDepth 10000
set_option linter.unusedSimpArgs false
set_option linter.unusedVariables false
theorem spoY_len (code : List Int) (p : Int) (xs : List Int) (n : Int) : (spoY code p xs n).length ≤ xs.length + 1 := by
 unfold spoY
 repeat' split
 all_goals ((try simp only [List.length_append, List.length_cons, List.length_nil, List.length_drop, List.length_set]) <;> omega)
theorem spoP_b (code : List Int) (p : Int) (xs : List Int) : p + 1 ≤ spoP code p xs ∧ spoP code p xs ≤ p + 3 := by
 unfold spoP
 repeat' split
 all_goals omega
def AnyTree (code : List Int) (p0 : Int) (m : Nat) (res : V) (hout : List (Nat × O)) : Prop :=
 ∃ (root : Int) (ps : List Pg) (p : Int), pB ps ∧ ps.length ≤ 16 ∧ p0 ≤ p ∧ p ≤ p0 + 500 ∧ m = 1 ∧ res = trV root ps ∧ hout = [(0, .box [.c (.nums .u8 code), .c (.int .i64 p)] [] [])]
set_option maxHeartbeats 2000000 in
theorem anyTree_x (code : List Int) (hc : CodeOk code) (p0 : Int) (h0 : 0 ≤ p0) (h1 : p0 ≤ 900000) : SpecX Try.prog 97 1 [.ptr 0 0 0 0] [(0, .box [.c (.nums .u8 code), .c (.int .i64 p0)] [] [])] (AnyTree code p0) := by
 refine spx (fn := Try.f97) _ ?_
 conv => whnf
 skip
 refine vcall_x [] [0, 2] (goodTree_x code hc p0 h0 (by omega)) ⟨rfl, rfl, rfl, (by repeat first | exact trivial | refine ⟨rfl, ?_⟩), ⟨rfl, rfl, rfl⟩, ?_⟩
 rintro m res hout ⟨root, ps, p, r1, r2, r3, rfl, rfl, rfl⟩
 refine ⟨⟨rfl, rfl, rfl⟩, ?_⟩
 conv => whnf
 have F := vTree_len r1
 have hp := (treeF r1).pb
 have hsm := vTree_small r1
 have hk1 := pick_v code hc p ps.length (by omega) (by omega) (by omega)
 have b1 := pickF_b hc (p := p) (n := (ps.length : Int)) (by omega) (by omega)
 generalize pickF code p ps.length = k at *
 have b0 := b1.1
 have b1 := b1.2 (by omega)
 have hk2 := pick_v code hc (p + 1) 30 (by omega) (by omega) (by omega)
 generalize pickF code (p + 1) 30 = Z at *
 have ho := one_v code hc (p + 1 + 1) [-1, (ps.length : Int), 0] (by omega) (by omega) (by simp) (by simp)
 obtain ⟨R, hR⟩ : ∃ R, ([-1, (ps.length : Int), 0] : List Int).getD (pickF code (p + 1 + 1) ([-1, (ps.length : Int), 0] : List Int).length).toNat 0 = R := ⟨_, rfl⟩
 rw [hR] at ho
 clear hR
 have q := hsm k
 have c1 := copyInts_v (pgAt ps k).keys (by omega)
 have s1 := spoil_v code hc (p + 1 + 1) 100 ((pgAt ps k).keys ++ [3]) (by omega) (by omega) (by simp only [List.length_append, List.length_singleton]; omega)
 have s2 := spoil_v code hc (p + 1 + 1) k (pgAt ps k).kids (by omega) (by omega) (by omega)
 have s3 := spoil_v code hc (p + 1 + 1) 1001 (pgAt ps k).vals (by omega) (by omega) (by omega)
 have l1 := spoY_len code (p + 1 + 1) ((pgAt ps k).keys ++ [3]) 100
 have l2 := spoY_len code (p + 1 + 1) (pgAt ps k).kids k
 have l3 := spoY_len code (p + 1 + 1) (pgAt ps k).vals 1001
 rw [List.length_append, List.length_singleton] at l1
 have t1 := spoP_b code (p + 1 + 1) ((pgAt ps k).keys ++ [3])
 have t2 := spoP_b code (p + 1 + 1) (pgAt ps k).kids
 have t3 := spoP_b code (p + 1 + 1) (pgAt ps k).vals
 generalize spoY code (p + 1 + 1) ((pgAt ps k).keys ++ [3]) 100 = Y1 at *
 generalize spoY code (p + 1 + 1) (pgAt ps k).kids k = Y2 at *
 generalize spoY code (p + 1 + 1) (pgAt ps k).vals 1001 = Y3 at *
 generalize spoP code (p + 1 + 1) ((pgAt ps k).keys ++ [3]) = P1 at *
 generalize spoP code (p + 1 + 1) (pgAt ps k).kids = P2 at *
 generalize spoP code (p + 1 + 1) (pgAt ps k).vals = P3 at *
 have g1 := pB_set hp k.toNat { pgAt ps k with keys := Y1 } (by dsimp only; omega) (by dsimp only; omega) (by dsimp only; omega)
 have g2 := pB_set hp k.toNat { pgAt ps k with kids := Y2 } (by dsimp only; omega) (by dsimp only; omega) (by dsimp only; omega)
 have g3 := pB_set hp k.toNat { pgAt ps k with vals := Y3 } (by dsimp only; omega) (by dsimp only; omega) (by dsimp only; omega)
 have g4 := pB_take hp k.toNat
 repeat' first
  |(refine vneed_i (by kernel_rfl) ?_; conv => whnf)
  |(refine vneed_i (by (try simp only [wA, wL]) <;> omega) ?_; conv => whnf)
  |(refine vif_i (fun h => ?_) (fun h => ?_) <;> (try simp only [qA] at h) <;> (try simp only [wA] at h) <;> conv => whnf)
  |(refine vcall_i [] [0] (hk1) ⟨rfl, rfl, rfl, (by repeat first | exact trivial | refine ⟨rfl, ?_⟩), ⟨rfl, rfl, rfl, rfl, rfl, rfl⟩, ?_⟩; conv => whnf)
  |(refine vcall_i [] [0] (hk2) ⟨rfl, rfl, rfl, (by repeat first | exact trivial | refine ⟨rfl, ?_⟩), ⟨rfl, rfl, rfl, rfl, rfl, rfl⟩, ?_⟩; conv => whnf)
  |(refine vcall_i [4] [0] (ho) ?_; (conv => whnf); refine ⟨rfl, rfl, rfl, (by repeat first | exact trivial | refine ⟨rfl, ?_⟩), ⟨rfl, rfl, rfl, rfl, rfl, rfl⟩, ?_⟩; conv => whnf)
  |(refine vcalld_a (c1) rfl rfl ?_; conv => whnf)
  |(refine vcalld_b 0 s1 rfl rfl rfl rfl rfl rfl rfl rfl rfl ?_; conv => whnf)
  |(refine vcalld_b 0 s2 rfl rfl rfl rfl rfl rfl rfl rfl rfl ?_; conv => whnf)
  |(refine vcalld_b 0 s3 rfl rfl rfl rfl rfl rfl rfl rfl rfl ?_; conv => whnf)
  |((refine vch_r ?_; (conv => whnf); refine vch_l ?_); conv => whnf)
  |(refine vpre_no ?_; conv => whnf)
 ·refine vendX_i 1 (trV (R) ps) [(0, .box [.c (.nums .u8 code), .c (.int .i64 (p + 1 + 1 + 1))] [] [])] ⟨R, ps, p + 1 + 1 + 1, hp, (by omega), by omega, by omega, rfl, rfl, rfl⟩ rfl ?_
  (refine vend_i [2] [0] ?_; (conv => whnf); exact ⟨rfl, by repeat first | exact trivial | refine ⟨rfl, ?_⟩, rfl, rfl, rfl, rfl, rfl, rfl⟩)
 ·refine vendX_i 1 (trV (root) (ps.set k.toNat { pgAt ps k with keys := Y1 })) [(0, .box [.c (.nums .u8 code), .c (.int .i64 (P1))] [] [])] ⟨root, (ps.set k.toNat { pgAt ps k with keys := Y1 }), P1, g1, (by rw [List.length_set]; omega), by omega, by omega, rfl, rfl, rfl⟩ rfl ?_
  (refine vend_i [2] [0] ?_; (conv => whnf); exact ⟨rfl, by repeat first | exact trivial | refine ⟨rfl, ?_⟩, rfl, rfl, rfl, rfl, rfl, rfl⟩)
 ·refine vendX_i 1 (trV (root) (ps.set k.toNat { pgAt ps k with kids := Y2 })) [(0, .box [.c (.nums .u8 code), .c (.int .i64 (P2))] [] [])] ⟨root, (ps.set k.toNat { pgAt ps k with kids := Y2 }), P2, g2, (by rw [List.length_set]; omega), by omega, by omega, rfl, rfl, rfl⟩ rfl ?_
  (refine vend_i [2] [0] ?_; (conv => whnf); exact ⟨rfl, by repeat first | exact trivial | refine ⟨rfl, ?_⟩, rfl, rfl, rfl, rfl, rfl, rfl⟩)
 ·refine vendX_i 1 (trV (root) (ps.set k.toNat { pgAt ps k with vals := Y3 })) [(0, .box [.c (.nums .u8 code), .c (.int .i64 (P3))] [] [])] ⟨root, (ps.set k.toNat { pgAt ps k with vals := Y3 }), P3, g3, (by rw [List.length_set]; omega), by omega, by omega, rfl, rfl, rfl⟩ rfl ?_
  (refine vend_i [2] [0] ?_; (conv => whnf); exact ⟨rfl, by repeat first | exact trivial | refine ⟨rfl, ?_⟩, rfl, rfl, rfl, rfl, rfl, rfl⟩)
 ·refine vendX_i 1 (trV (root) (ps.take k.toNat)) [(0, .box [.c (.nums .u8 code), .c (.int .i64 (p + 1 + 1))] [] [])] ⟨root, (ps.take k.toNat), p + 1 + 1, g4, (by rw [List.length_take]; omega), by omega, by omega, rfl, rfl, rfl⟩ rfl ?_
  (refine vend_i [] [0] ?_; (conv => whnf); exact ⟨rfl, by repeat first | exact trivial | refine ⟨rfl, ?_⟩, rfl, rfl, rfl, rfl, rfl, rfl⟩)
 ·refine vendX_i 1 (trV (root) ps) [(0, .box [.c (.nums .u8 code), .c (.int .i64 (p + 1 + 1))] [] [])] ⟨root, ps, p + 1 + 1, hp, (by omega), by omega, by omega, rfl, rfl, rfl⟩ rfl ?_
  (refine vend_i [2] [0] ?_; (conv => whnf); exact ⟨rfl, by repeat first | exact trivial | refine ⟨rfl, ?_⟩, rfl, rfl, rfl, rfl, rfl, rfl⟩)
end Go.VL
