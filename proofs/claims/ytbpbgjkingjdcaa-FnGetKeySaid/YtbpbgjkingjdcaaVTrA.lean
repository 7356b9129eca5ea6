/- V-logic: TrA -/
import Derived.Test.YtbpbgjkingjdcaaVTyT
import Derived.Test.YtbpbgjkingjdcaaVMA
namespace Go.VL
open Go.Proofs
set_option maxRecDepth 10000
set_option linter.unusedSimpArgs false
set_option linter.unusedVariables false
theorem isIn_v (xs : List Int) (n : Int) (hl : xs.length ≤ 4294967296) : Spec Try.prog 161 0 [.c (.nums .i64 xs), .c (.int .i64 n)] [] 0 (.c (.bool (xs.contains n))) [] := by
 refine spi (fn := Try.f161) _ ?_
 conv => whnf
 refine vloop1 (fun k : Nat => (xs.take k).contains n = false) (fun k => ⟨18, 0, [(0, .c (.nums .i64 xs)), (1, .c (.int .i64 n)), (5, .c (.int .i64 k))], []⟩) (fun k => xs.length - k) 0 (by simp) (fun _ => Nat.zero_le _) ent_z (fun k hk => ?_)
 conv => whnf
 repeat' first
  |(refine vneed_i (by (try simp only [wA, wN, wL]) <;> omega) ?_; conv => whnf)
  |(refine vif_i (fun h => ?_) (fun h => ?_) <;> (try simp only [qA] at h) <;> (try simp only [wA, wN] at h) <;> conv => whnf)
  |refine vend_tt ?_
  |refine vend_ff ?_
  |(refine vint_f (by (try simp only [wA, wN, wL]) <;> omega) (by (try simp only [wA, wN, wL]) <;> omega) ?_; conv => whnf)
 ·rename_i h1
  have h1 : k < xs.length := by omega
  rw [List.contains_iff_mem, ← h]
  simp [h1]
 ·exact ⟨⟨k + 1, contains_take hk (by omega) (by assumption)⟩, ent_z, by dsimp only; omega⟩
 ·rwa [List.take_of_length_le (by omega)] at hk
theorem inRange_v (n lo hi : Int) : Spec Try.prog 130 0 [.c (.int .i64 n), .c (.int .i64 lo), .c (.int .i64 hi)] [] 0 (.c (.bool (decide (lo ≤ n ∧ n ≤ hi)))) [] := by
 refine spi (fn := Try.f130) _ ?_
 conv => whnf
 repeat' first | (refine vif_i (fun h => ?_) (fun h => ?_) <;> (try simp only [qA] at h) <;> (try simp only [wA, wN] at h) <;> conv => whnf) | refine vend_ff ?_ | refine vend_b ?_
 ·simp [h]
 ·simp [h]
theorem isKey_v (n : Int) : Spec Try.prog 127 0 [.c (.int .i64 n)] [] 0 (.c (.bool (decide (0 ≤ n ∧ n ≤ 99)))) [] := by
 refine spi (fn := Try.f127) _ ?_
 conv => whnf
 repeat' first | (refine vif_i (fun h => ?_) (fun h => ?_) <;> (try simp only [qA] at h) <;> (try simp only [wA, wN] at h) <;> conv => whnf) | refine vend_ff ?_ | refine vend_b ?_
 ·have h : 0 ≤ n := by omega
  simp [h]
 ·simp; omega
theorem allIn_v (xs : List Int) (lo hi : Int) (hl : xs.length ≤ 4294967296) : Spec Try.prog 165 0 [.c (.nums .i64 xs), .c (.int .i64 lo), .c (.int .i64 hi)] [] 0 (.c (.bool (xs.all fun x => decide (lo ≤ x ∧ x ≤ hi)))) [] := by
 refine spi (fn := Try.f165) _ ?_
 conv => whnf
 refine vloop1 (fun k : Nat => (xs.take k).all (fun x => decide (lo ≤ x ∧ x ≤ hi)) = true) (fun k => ⟨22, 0, [(0, .c (.nums .i64 xs)), (1, .c (.int .i64 lo)), (2, .c (.int .i64 hi)), (7, .c (.int .i64 k))], []⟩) (fun k => xs.length - k) 0 (by simp) (fun _ => Nat.zero_le _) ent_z (fun k hk => ?_)
 conv => whnf
 repeat' first
  |(refine vneed_i (by (try simp only [wA, wN, wL]) <;> omega) ?_; conv => whnf)
  |(refine vif_i (fun h => ?_) (fun h => ?_) <;> (try simp only [qA] at h) <;> (try simp only [wA, wN] at h) <;> conv => whnf)
  |refine vend_tt ?_
  |refine vend_ff ?_
  |(refine vint_f (by (try simp only [wA, wN, wL]) <;> omega) (by (try simp only [wA, wN, wL]) <;> omega) ?_; conv => whnf)
  |(refine vcall_p (inRange_v _ _ _) rfl rfl ?_; conv => whnf)
 ·rename_i h1
  exact all_not 0 (k := k) (by omega) (by simp at h ⊢; omega)
 ·rename_i h1
  exact ⟨⟨k + 1, all_succ 0 hk (by omega) (by simpa using h)⟩, ent_z, by dsimp only; omega⟩
 ·exact all_done hk (by omega)
theorem validKeys_v (xs : List Int) (hl : xs.length ≤ 4294967296) : Spec Try.prog 164 0 [.c (.nums .i64 xs)] [] 0 (.c (.bool (vKeys xs))) [] := by
 refine spi (fn := Try.f164) _ ?_
 conv => whnf
 refine vloop1 (fun k : Nat => 1 ≤ k ∧ Asc (xs.take k)) (fun k => ⟨22, 0, [(0, .c (.nums .i64 xs)), (3, .c (.int .i64 k))], []⟩) (fun k => xs.length - k) 1 ⟨Nat.le_refl _, by cases xs <;> simp [Asc]⟩ (fun _ => Nat.zero_le _) ent_z (fun k hk => ?_)
 obtain ⟨hk1, hk⟩ := hk
 conv => whnf
 repeat' first
  |(refine vneed_i (by kernel_rfl) ?_; conv => whnf)
  |(refine vneed_i (by (try simp only [wA, wN, wL]) <;> omega) ?_; conv => whnf)
  |(refine vif_i (fun h => ?_) (fun h => ?_) <;> (try simp only [qA] at h) <;> (try simp only [wA, wN] at h) <;> conv => whnf)
  |refine vend_ff ?_
  |refine vend_b ?_
  |(refine vint_f (by (try simp only [wA, wN, wL]) <;> omega) (by (try simp only [wA, wN, wL]) <;> omega) ?_; conv => whnf)
  |(refine vcall_p (allIn_v _ _ _ hl) rfl rfl ?_; conv => whnf)
  |(refine vpre_no ?_; conv => whnf)
 ·rename_i h1
  unfold vKeys
  rw [Bool.and_eq_false_iff, decide_eq_false_iff_not]
  refine .inl fun ha => ?_
  have := asc_getD ha (i := k - 1) (j := k) (by omega) (by omega)
  omega
 ·rename_i h1
  exact ⟨⟨k + 1, by omega, asc_succ hk (by omega) fun _ => by omega⟩, ent_z, by dsimp only; omega⟩
 ·rw [List.take_of_length_le (by omega)] at hk
  simp [vKeys, hk]
theorem ValidKeys_v (xs : List Int) (hl : xs.length ≤ 4294967296) : Spec Try.prog 67 0 [.c (.nums .i64 xs)] [] 0 (.c (.bool (vKeys xs))) [] := by
 refine spi (fn := Try.f67) _ ?_
 conv => whnf
 refine vloop1 (fun k : Nat => Asc (xs.take k) ∧ (xs.take k).all (fun x => decide (0 ≤ x ∧ x ≤ 99)) = true) (fun k => ⟨27, 0, [(0, .c (.nums .i64 xs)), (5, .c (.nums .i64 xs)), (6, .c (.int .i64 xs.length)), (7, .c (.int .i64 k))], []⟩) (fun k => xs.length - k) 0 ⟨by simp [Asc], by simp⟩ (fun _ => Nat.zero_le _) ent_z (fun k hk => ?_)
 obtain ⟨hk, hk2⟩ := hk
 conv => whnf
 repeat' first
  |(refine vneed_i (by (try simp only [wA, wN, wL]) <;> omega) ?_; conv => whnf)
  |(refine vif_i (fun h => ?_) (fun h => ?_) <;> (try simp only [qA] at h) <;> (try simp only [wA, wN] at h) <;> conv => whnf)
  |refine vend_tt ?_
  |refine vend_ff ?_
  |(refine vint_f (by (try simp only [wA, wN, wL]) <;> omega) (by (try simp only [wA, wN, wL]) <;> omega) ?_; conv => whnf)
  |(refine vcall_p (isKey_v _) rfl rfl ?_; conv => whnf)
 ·rename_i h1
  rw [vKeys, all_not 0 (k := k) (by omega) (by simp at h ⊢; omega), Bool.and_false]
 ·rename_i h1 h2 h3
  unfold vKeys
  rw [Bool.and_eq_false_iff, decide_eq_false_iff_not]
  refine .inl fun ha => ?_
  have := asc_getD ha (i := k - 1) (j := k) (by omega) (by omega)
  omega
 ·rename_i h1 h2 h3
  exact ⟨⟨k + 1, asc_succ hk (by omega) fun _ => by omega, all_succ 0 hk2 (by omega) (by simp at h2 ⊢; omega)⟩, ent_z, by dsimp only; omega⟩
 ·rename_i h1 h2
  exact ⟨⟨k + 1, asc_succ hk (by omega) fun _ => by omega, all_succ 0 hk2 (by omega) (by simp at h2 ⊢; omega)⟩, ent_z, by dsimp only; omega⟩
 ·rw [List.take_of_length_le (by omega)] at hk hk2
  simp only [vKeys, hk, hk2]; rfl
end Go.VL
