/- V-logic: TrG -/
import Derived.Test.YtbpbgjkingjdcaaVTrF
namespace Go.VL
open Go.Proofs
set_option maxRecDepth 10000
set_option linter.unusedSimpArgs false
set_option linter.unusedVariables false
theorem rowOf_v (p : Pg) (h : p.keys.length ≤ p.vals.length) (hl : p.keys.length ≤ 4294967296) : Spec Try.prog 142 0 [pgV p] [] 1 (.slc 0) [(0, .arr (.prs (rowF p)))] := by
 obtain ⟨ks, cs, vs⟩ := p
 dsimp only at h hl
 refine spi (fn := Try.f142) _ ?_
 conv => whnf
 skip
 refine vloop1 (fun i : Nat => i ≤ ks.length) (fun i => ⟨28, 2, [(1, .ptr 0 0 0 0), (3, .slc 1), (4, .c (.int .i64 i))], [(0, .box [.c (.nums .i64 ks), .c (.nums .i64 cs), .c (.nums .i64 vs)] [] []), (1, .arr (.prs ((rowF ⟨ks, cs, vs⟩).take i)))]⟩) (fun i => ks.length - i) 0 (Nat.zero_le _) (fun _ => Nat.zero_le _) (ent_j [] [0, 1]) (fun i hi => ?_)
 have hz : (rowF ⟨ks, cs, vs⟩).length = ks.length := by unfold rowF; rw [List.length_zipWith]; exact Nat.min_eq_left h
 conv => whnf
 repeat' first
  |(refine vneed_i (by kernel_rfl) ?_; conv => whnf)
  |(refine vneed_i (by (try simp only [wA, wN, wL]) <;> omega) ?_; conv => whnf)
  |(refine vif_i (fun h => ?_) (fun h => ?_) <;> (try simp only [qA] at h) <;> (try simp only [wA, wN] at h) <;> conv => whnf)
  |(refine vint_f (by (try simp only [wA, wN, wL]) <;> omega) (by (try simp only [wA, wN, wL]) <;> omega) ?_; conv => whnf)
  |(refine vch_l ?_; conv => whnf)
  |(refine vpre_no ?_; conv => whnf)
 ·refine ⟨⟨i + 1, ?_⟩, (ent_i [] [0, 1] ⟨by repeat first | exact trivial | refine ⟨rfl, ?_⟩, ?_, rfl, rfl, rfl, rfl, rfl, rfl, rfl⟩), by dsimp only; omega⟩; (try dsimp only)
  ·omega
  ·refine ⟨rfl, congrArg (fun z => some (O.arr (C.prs z))) ?_, trivial⟩
   exact (rowF_step ⟨ks, cs, vs⟩ (by dsimp only; omega) (by dsimp only; omega)).symm
 ·rw [List.take_of_length_le (by omega)]
  exact (vend_j [] [1])
theorem put_v (xs : List Pr) (x : Pr) (hl : xs.length ≤ 4294967) : Spec Try.prog 177 0 [.c (.prs xs), prV x] [] 1 (.slc 0) [(0, .arr (.prs (insP xs x)))] := by
 obtain ⟨k, v⟩ := x
 have hb := belF_le (xs.map Pr.key) k
 rw [List.length_map] at hb
 refine spi (fn := Try.f177) _ ?_
 conv => whnf
 repeat' first
  |(refine vneed_i (by kernel_rfl) ?_; conv => whnf)
  |(refine vneed_i (by (try simp only [wA, wN, wL]) <;> omega) ?_; conv => whnf)
  |(refine vif_i (fun h => ?_) (fun h => ?_) <;> (try simp only [qA] at h) <;> (try simp only [wA, wN] at h) <;> conv => whnf)
  |(refine vint_f (by (try simp only [wA, wN, wL]) <;> omega) (by (try simp only [wA, wN, wL]) <;> omega) ?_; conv => whnf)
  |(refine vcalld_a (keysOf_v _ (by omega)) rfl rfl ?_; conv => whnf)
  |(refine vcalld_l (below_v _ _ (by rw [w11]; omega)) rfl rfl rfl ?_; conv => whnf)
  |(refine vcalld_a (copyRow_v _ (by rw [w7]; omega)) rfl rfl ?_; conv => whnf)
  |(refine vch_l ?_; conv => whnf)
  |(refine vpre_no ?_; conv => whnf)
 all_goals (refine vend_i [] [104] ⟨rfl, ?_, rfl, rfl, rfl, rfl, rfl, rfl⟩)
 ·exact ⟨congrArg (fun z => some (O.arr (C.prs z))) (put_eq1 (x := ⟨k, v⟩) (by dsimp only; omega) h), trivial⟩
 ·exact ⟨congrArg (fun z => some (O.arr (C.prs z))) (put_eq2 (x := ⟨k, v⟩) fun c => h c.2), trivial⟩
 ·exact ⟨congrArg (fun z => some (O.arr (C.prs z))) (put_eq2 (x := ⟨k, v⟩) fun c => by dsimp only at c; omega), trivial⟩
theorem SplitRow_v (xs : List Pr) (hl : xs.length ≤ 4294967) (hv : vRow xs = true) : Spec Try.prog 178 0 [.c (.prs xs)] [] 2 (.tup [.slc 0, .slc 1]) [(0, .arr (.prs (xs.take ((xs.length + 1) / 2)))), (1, .arr (.prs (xs.drop ((xs.length + 1) / 2))))] := by
 have hd : ((xs.length : Int) + 1).tdiv 2 = (((xs.length + 1) / 2 : Nat) : Int) := rfl
 refine spi (fn := Try.f178) _ ?_
 conv => whnf
 repeat' first
  |(refine vneed_i (by kernel_rfl) ?_; conv => whnf)
  |(refine vneed_i (by (try simp only [wA, wN, wL]) <;> omega) ?_; conv => whnf)
  |(refine vif_i (fun h => ?_) (fun h => ?_) <;> (try simp only [qA] at h) <;> (try simp only [wA, wN] at h) <;> conv => whnf)
  |(refine vint_f (by (try simp only [wA, wN, wL]) <;> omega) (by (try simp only [wA, wN, wL]) <;> omega) ?_; conv => whnf)
  |(refine vcall_p (validRow_v _ (by omega)) rfl rfl ?_; conv => whnf)
  |(refine vcalld_a (copyRow_v _ (by rw [w7]; omega)) rfl rfl ?_; conv => whnf)
  |(refine vcalld_a (copyRow_v _ (by rw [w8]; omega)) rfl rfl ?_; conv => whnf)
  |(refine vpre_no ?_; conv => whnf)
 ·rw [hv] at h; cases h
 exact (vend_j [] [3, 7])
theorem DropPair_v (xs : List Pr) (k : Int) (hl : xs.length ≤ 4294967) (hv : vRow xs = true) (hk : (xs.map Pr.key).contains k = true) : Spec Try.prog 188 0 [.c (.prs xs), .c (.int .i64 k)] [] 1 (.tup [.slc 0, .tt]) [(0, .arr (.prs (delP xs k)))] := by
 obtain ⟨hd, hb, -⟩ := del_eq (List.contains_iff_mem.1 hk) (vRow_iff.1 hv).1.asc
 refine spi (fn := Try.f188) _ ?_
 conv => whnf
 repeat' first
  |(refine vneed_i (by kernel_rfl) ?_; conv => whnf)
  |(refine vneed_i (by (try simp only [wA, wN, wL]) <;> omega) ?_; conv => whnf)
  |(refine vif_i (fun h => ?_) (fun h => ?_) <;> (try simp only [qA] at h) <;> (try simp only [wA, wN] at h) <;> conv => whnf)
  |(refine vint_f (by (try simp only [wA, wN, wL]) <;> omega) (by (try simp only [wA, wN, wL]) <;> omega) ?_; conv => whnf)
  |(refine vcall_p (validRow_v _ (by omega)) rfl rfl ?_; conv => whnf)
  |(refine vcall_a (keysOf_v _ (by omega)) rfl ?_; conv => whnf)
  |(refine vcall_l (isIn_v _ _ (by rw [w11]; omega)) rfl rfl rfl ?_; conv => whnf)
  |(refine vcall_l (below_v _ _ (by rw [w11]; omega)) rfl rfl rfl ?_; conv => whnf)
  |(refine vcalld_a (copyRow_v _ (by rw [w7]; omega)) rfl rfl ?_; conv => whnf)
  |(refine vch_l ?_; conv => whnf)
  |(refine vpre_no ?_; conv => whnf)
 ·rw [hv] at h; cases h
 ·rw [hk] at h; cases h
 ·(refine vend_i [] [5] ⟨rfl, ?_, rfl, rfl, rfl, rfl, rfl, rfl⟩)
  exact ⟨congrArg (fun z => some (O.arr (C.prs z))) hd, trivial⟩
end Go.VL
