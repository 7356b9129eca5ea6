/- V-logic: TrF -/
import Derived.Test.YtbpbgjkingjdcaaVPD
import Derived.Test.YtbpbgjkingjdcaaVTrE
namespace Go.VL
open Go.Proofs
set_option maxRecDepth 10000
set_option linter.unusedSimpArgs false
set_option linter.unusedVariables false
theorem map_step {α β : Type} (f : α → β) (d : α) {xs : List α} {i : Nat} (h : i < xs.length) : (xs.take i).map f ++ [f (xs.getD i d)] = (xs.take (i + 1)).map f := by
 rw [take_getD d h, List.map_append]; rfl
theorem toInt_tt : Spec Try.prog 132 0 [.tt] [] 0 (.c (.int .i64 1)) [] := by
 refine spi (fn := Try.f132) _ ?_
 conv => whnf
 repeat' refine vend_n ?_
 rfl
theorem toInt_ff : Spec Try.prog 132 0 [.ff] [] 0 (.c (.int .i64 0)) [] := by
 refine spi (fn := Try.f132) _ ?_
 conv => whnf
 repeat' refine vend_n ?_
 rfl
theorem toInt_v (b : Bool) : Spec Try.prog 132 0 [.c (.bool b)] [] 0 (.c (.int .i64 (if b = true then 1 else 0))) [] := by
 refine spi (fn := Try.f132) _ ?_
 conv => whnf
 repeat' first | (refine vif_i (fun h => ?_) (fun h => ?_) <;> (try simp only [qA] at h) <;> (try simp only [wA, wN] at h) <;> conv => whnf) | refine vend_n ?_
 ·rw [if_pos h]
 ·rw [if_neg (by rw [h]; decide)]
theorem copyRow_v (xs : List Pr) (hl : xs.length ≤ 4294967296) : Spec Try.prog 201 0 [.c (.prs xs)] [] 1 (.slc 0) [(0, .arr (.prs xs))] := by
 refine spi (fn := Try.f201) _ ?_
 conv => whnf
 repeat' (refine vneed_i (by (try simp only [wA, wN, wL]) <;> omega) ?_; conv => whnf)
 exact (vend_j [] [0])
theorem keysOf_v (xs : List Pr) (hl : xs.length ≤ 4294967296) : Spec Try.prog 170 0 [.c (.prs xs)] [] 1 (.slc 0) [(0, .arr (.nums .i64 (xs.map Pr.key)))] := by
 refine spi (fn := Try.f170) _ ?_
 conv => whnf
 skip
 refine vloop1 (fun i : Nat => i ≤ xs.length) (fun i => ⟨21, 1, [(0, .c (.prs xs)), (3, .slc 0), (4, .c (.int .i64 i))], [(0, .arr (.nums .i64 ((xs.take i).map Pr.key)))]⟩) (fun i => xs.length - i) 0 (Nat.zero_le _) (fun _ => Nat.zero_le _) (ent_j [] [0]) (fun i hi => ?_)
 conv => whnf
 repeat' first
  |(refine vneed_i (by (try simp only [wA, wN, wL]) <;> omega) ?_; conv => whnf)
  |(refine vif_i (fun h => ?_) (fun h => ?_) <;> (try simp only [qA] at h) <;> (try simp only [wA, wN] at h) <;> conv => whnf)
  |(refine vint_f (by (try simp only [wA, wN, wL]) <;> omega) (by (try simp only [wA, wN, wL]) <;> omega) ?_; conv => whnf)
 ·refine ⟨⟨i + 1, ?_⟩, (ent_i [] [0] ⟨by repeat first | exact trivial | refine ⟨rfl, ?_⟩, ?_, rfl, rfl, rfl, rfl, rfl, rfl, rfl⟩), by dsimp only; omega⟩; (try dsimp only)
  ·omega
  ·exact ⟨congrArg (fun z => some (O.arr (C.nums .i64 z))) (map_step Pr.key ⟨0, 0⟩ (by omega)), trivial⟩
 ·rw [List.take_of_length_le (by omega)]
  exact (vend_j [] [0])
theorem upTo_v (xs : List Int) (n : Int) (hl : xs.length ≤ 4294967296) : Spec Try.prog 175 0 [.c (.nums .i64 xs), .c (.int .i64 n)] [] 0 (.c (.int .i64 (upF xs n))) [] := by
 refine spi (fn := Try.f175) _ ?_
 conv => whnf
 refine vloop1 (fun k : Nat => k ≤ xs.length ∧ (xs.take k).all (fun x => decide (x ≤ n)) = true) (fun k => ⟨21, 0, [(0, .c (.nums .i64 xs)), (1, .c (.int .i64 n)), (5, .c (.int .i64 k))], []⟩) (fun k => xs.length - k) 0 ⟨by omega, by simp⟩ (fun _ => Nat.zero_le _) ent_z (fun k hk => ?_)
 obtain ⟨hk, hk2⟩ := hk
 conv => whnf
 repeat' first
  |(refine vneed_i (by (try simp only [wA, wN, wL]) <;> omega) ?_; conv => whnf)
  |(refine vif_i (fun h => ?_) (fun h => ?_) <;> (try simp only [qA] at h) <;> (try simp only [wA, wN] at h) <;> conv => whnf)
  |refine vend_n ?_
  |(refine vint_f (by (try simp only [wA, wN, wL]) <;> omega) (by (try simp only [wA, wN, wL]) <;> omega) ?_; conv => whnf)
 ·refine ⟨⟨k + 1, ?_⟩, ent_z, by dsimp only; omega⟩; (try dsimp only)
  exact ⟨by omega, all_succ 0 hk2 (by omega) (by exact decide_eq_true (by omega))⟩
 ·rw [upF_eq n xs k hk2 hk (fun _ => h)]
 ·rw [upF_eq n xs k hk2 hk (fun h2 => absurd h2 (by omega))]
theorem placeOf_v (xs : List Int) (n : Int) (hl : xs.length ≤ 4294967296) : Spec Try.prog 181 0 [.c (.nums .i64 xs), .c (.int .i64 n)] [] 0 (.c (.int .i64 (if n ∈ xs then (plN xs n : Int) else -1))) [] := by
 refine spi (fn := Try.f181) _ ?_
 conv => whnf
 refine vloop1 (fun k : Nat => k ≤ xs.length ∧ n ∉ xs.take k) (fun k => ⟨19, 0, [(0, .c (.nums .i64 xs)), (1, .c (.int .i64 n)), (5, .c (.int .i64 k))], []⟩) (fun k => xs.length - k) 0 ⟨by omega, by simp⟩ (fun _ => Nat.zero_le _) ent_z (fun k hk => ?_)
 obtain ⟨hk, hk2⟩ := hk
 conv => whnf
 repeat' first
  |(refine vneed_i (by (try simp only [wA, wN, wL]) <;> omega) ?_; conv => whnf)
  |(refine vif_i (fun h => ?_) (fun h => ?_) <;> (try simp only [qA] at h) <;> (try simp only [wA, wN] at h) <;> conv => whnf)
  |refine vend_n ?_
  |(refine vint_f (by (try simp only [wA, wN, wL]) <;> omega) (by (try simp only [wA, wN, wL]) <;> omega) ?_; conv => whnf)
 ·have hx : n ∈ xs := by rw [← h]; exact getD_mem 0 (by omega)
  rw [if_pos hx, plN_at hk2 (by omega) h]
 ·refine ⟨⟨k + 1, ?_⟩, ent_z, by dsimp only; omega⟩; (try dsimp only)
  exact ⟨by omega, notMem_succ hk2 (by omega) h⟩
 ·rw [List.take_of_length_le (by omega)] at hk2
  rw [if_neg hk2]
theorem validRow_v (xs : List Pr) (hl : xs.length ≤ 4294967296) : Spec Try.prog 116 0 [.c (.prs xs)] [] 0 (.c (.bool (vRow xs))) [] := by
 refine spi (fn := Try.f116) _ ?_
 conv => whnf
 refine vloop1 (fun k : Nat => k ≤ xs.length ∧ (xs.take k).all (fun x => decide (-1000 ≤ x.value ∧ x.value ≤ 1000)) = true) (fun k => ⟨25, 0, [(0, .c (.prs xs)), (3, .c (.int .i64 k))], []⟩) (fun k => xs.length - k) 0 ⟨by omega, by simp⟩ (fun _ => Nat.zero_le _) ent_z (fun k hk => ?_)
 obtain ⟨hk, hk2⟩ := hk
 conv => whnf
 repeat' first
  |(refine vneed_i (by (try simp only [wA, wN, wL]) <;> omega) ?_; conv => whnf)
  |(refine vif_i (fun h => ?_) (fun h => ?_) <;> (try simp only [qA] at h) <;> (try simp only [wA, wN] at h) <;> conv => whnf)
  |refine vend_ff ?_
  |refine vend_b ?_
  |(refine vint_f (by (try simp only [wA, wN, wL]) <;> omega) (by (try simp only [wA, wN, wL]) <;> omega) ?_; conv => whnf)
  |(refine vcall_p (inRange_v _ _ _) rfl rfl ?_; conv => whnf)
  |(refine vcall_a (keysOf_v _ hl) rfl ?_; conv => whnf)
  |(refine vcall_l (validKeys_v _ (by rw [w11]; exact hl)) rfl rfl rfl ?_; conv => whnf)
 ·unfold vRow
  rw [all_not (⟨0, 0⟩ : Pr) (k := k) (by omega) (decide_eq_false h), Bool.false_and]
 ·refine ⟨⟨k + 1, ?_⟩, ent_z, by dsimp only; omega⟩; (try dsimp only)
  exact ⟨by omega, all_succ (⟨0, 0⟩ : Pr) hk2 (by omega) (decide_eq_true h)⟩
 ·unfold vRow
  rw [all_done hk2 (by omega), decide_eq_true (by omega), Bool.true_and, Bool.true_and]
 ·unfold vRow
  rw [decide_eq_false (by omega), Bool.false_and, Bool.and_false]
end Go.VL
