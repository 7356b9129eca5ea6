/- V-logic: TrA -/
import Derived.Test.YtbpbgjkingjdcaaVTyT
import Derived.Test.YtbpbgjkingjdcaaVMA
namespace Go.VL
open Go.Proofs
set_option maxRecDepth 10000
set_option linter.unusedSimpArgs false
set_option linter.unusedVariables false
theorem zo5 (xs : List Int) (n : Int) (hl : xs.length ≤ 4294967296) : zr Try.prog 161 0 [.c (.nums .i64 xs), .c (.int .i64 n)] [] 0 (.c (.bool (xs.contains n))) [] := by
 refine spi (fn := Try.f161) _ ?_
 conv => whnf
 refine zau (fun k : Nat => (xs.take k).contains n = false) (fun k => ⟨18, 0, [(0, .c (.nums .i64 xs)), (1, .c (.int .i64 n)), (5, .c (.int .i64 k))], []⟩) (fun k => xs.length - k) 0 (by simp) (fun _ => Nat.zero_le _) zbn (fun k hk => ?_)
 conv => whnf
 repeat' first
  |(refine za (by (try simp only [wA, wN, wL]) <;> omega) ?_; conv => whnf)
  |(refine zk (fun h => ?_) (fun h => ?_) <;> (try simp only [qA] at h) <;> (try simp only [wA, wN] at h) <;> conv => whnf)
  |refine zc ?_
  |refine zd ?_
  |(refine zg (by (try simp only [wA, wN, wL]) <;> omega) (by (try simp only [wA, wN, wL]) <;> omega) ?_; conv => whnf)
 ·rename_i h1
  have h1 : k < xs.length := by omega
  rw [List.contains_iff_mem, ← h]
  simp [h1]
 ·exact ⟨⟨k + 1, zmd hk (by omega) (by assumption)⟩, zbn, by dsimp only; omega⟩
 ·rwa [List.take_of_length_le (by omega)] at hk
theorem zgy (n lo hi : Int) : zr Try.prog 130 0 [.c (.int .i64 n), .c (.int .i64 lo), .c (.int .i64 hi)] [] 0 (.c (.bool (decide (lo ≤ n ∧ n ≤ hi)))) [] := by
 refine spi (fn := Try.f130) _ ?_
 conv => whnf
 repeat' first | (refine zk (fun h => ?_) (fun h => ?_) <;> (try simp only [qA] at h) <;> (try simp only [wA, wN] at h) <;> conv => whnf) | refine zd ?_ | refine zh ?_
 ·simp [h]
 ·simp [h]
theorem z2a (n : Int) : zr Try.prog 127 0 [.c (.int .i64 n)] [] 0 (.c (.bool (decide (0 ≤ n ∧ n ≤ 99)))) [] := by
 refine spi (fn := Try.f127) _ ?_
 conv => whnf
 repeat' first | (refine zk (fun h => ?_) (fun h => ?_) <;> (try simp only [qA] at h) <;> (try simp only [wA, wN] at h) <;> conv => whnf) | refine zd ?_ | refine zh ?_
 ·have h : 0 ≤ n := by omega
  simp [h]
 ·simp; omega
theorem zqg (xs : List Int) (lo hi : Int) (hl : xs.length ≤ 4294967296) : zr Try.prog 165 0 [.c (.nums .i64 xs), .c (.int .i64 lo), .c (.int .i64 hi)] [] 0 (.c (.bool (xs.all fun x => decide (lo ≤ x ∧ x ≤ hi)))) [] := by
 refine spi (fn := Try.f165) _ ?_
 conv => whnf
 refine zau (fun k : Nat => (xs.take k).all (fun x => decide (lo ≤ x ∧ x ≤ hi)) = true) (fun k => ⟨22, 0, [(0, .c (.nums .i64 xs)), (1, .c (.int .i64 lo)), (2, .c (.int .i64 hi)), (7, .c (.int .i64 k))], []⟩) (fun k => xs.length - k) 0 (by simp) (fun _ => Nat.zero_le _) zbn (fun k hk => ?_)
 conv => whnf
 repeat' first
  |(refine za (by (try simp only [wA, wN, wL]) <;> omega) ?_; conv => whnf)
  |(refine zk (fun h => ?_) (fun h => ?_) <;> (try simp only [qA] at h) <;> (try simp only [wA, wN] at h) <;> conv => whnf)
  |refine zc ?_
  |refine zd ?_
  |(refine zg (by (try simp only [wA, wN, wL]) <;> omega) (by (try simp only [wA, wN, wL]) <;> omega) ?_; conv => whnf)
  |(refine zp (zgy _ _ _) rfl rfl ?_; conv => whnf)
 ·rename_i h1
  exact zf6 0 (k := k) (by omega) (by simp at h ⊢; omega)
 ·rename_i h1
  exact ⟨⟨k + 1, zeg 0 hk (by omega) (by simpa using h)⟩, zbn, by dsimp only; omega⟩
 ·exact zh3 hk (by omega)
theorem zkj (xs : List Int) (hl : xs.length ≤ 4294967296) : zr Try.prog 164 0 [.c (.nums .i64 xs)] [] 0 (.c (.bool (za2 xs))) [] := by
 refine spi (fn := Try.f164) _ ?_
 conv => whnf
 refine zau (fun k : Nat => 1 ≤ k ∧ Asc (xs.take k)) (fun k => ⟨22, 0, [(0, .c (.nums .i64 xs)), (3, .c (.int .i64 k))], []⟩) (fun k => xs.length - k) 1 ⟨Nat.le_refl _, by cases xs <;> simp [Asc]⟩ (fun _ => Nat.zero_le _) zbn (fun k hk => ?_)
 obtain ⟨hk1, hk⟩ := hk
 conv => whnf
 repeat' first
  |(refine za (by kernel_rfl) ?_; conv => whnf)
  |(refine za (by (try simp only [wA, wN, wL]) <;> omega) ?_; conv => whnf)
  |(refine zk (fun h => ?_) (fun h => ?_) <;> (try simp only [qA] at h) <;> (try simp only [wA, wN] at h) <;> conv => whnf)
  |refine zd ?_
  |refine zh ?_
  |(refine zg (by (try simp only [wA, wN, wL]) <;> omega) (by (try simp only [wA, wN, wL]) <;> omega) ?_; conv => whnf)
  |(refine zp (zqg _ _ _ hl) rfl rfl ?_; conv => whnf)
  |(refine ze ?_; conv => whnf)
 ·rename_i h1
  unfold za2
  rw [Bool.and_eq_false_iff, decide_eq_false_iff_not]
  refine .inl fun ha => ?_
  have := zez ha (i := k - 1) (j := k) (by omega) (by omega)
  omega
 ·rename_i h1
  exact ⟨⟨k + 1, by omega, zon hk (by omega) fun _ => by omega⟩, zbn, by dsimp only; omega⟩
 ·rw [List.take_of_length_le (by omega)] at hk
  simp [za2, hk]
theorem zfj (xs : List Int) (hl : xs.length ≤ 4294967296) : zr Try.prog 67 0 [.c (.nums .i64 xs)] [] 0 (.c (.bool (za2 xs))) [] := by
 refine spi (fn := Try.f67) _ ?_
 conv => whnf
 refine zau (fun k : Nat => Asc (xs.take k) ∧ (xs.take k).all (fun x => decide (0 ≤ x ∧ x ≤ 99)) = true) (fun k => ⟨27, 0, [(0, .c (.nums .i64 xs)), (5, .c (.nums .i64 xs)), (6, .c (.int .i64 xs.length)), (7, .c (.int .i64 k))], []⟩) (fun k => xs.length - k) 0 ⟨by simp [Asc], by simp⟩ (fun _ => Nat.zero_le _) zbn (fun k hk => ?_)
 obtain ⟨hk, hk2⟩ := hk
 conv => whnf
 repeat' first
  |(refine za (by (try simp only [wA, wN, wL]) <;> omega) ?_; conv => whnf)
  |(refine zk (fun h => ?_) (fun h => ?_) <;> (try simp only [qA] at h) <;> (try simp only [wA, wN] at h) <;> conv => whnf)
  |refine zc ?_
  |refine zd ?_
  |(refine zg (by (try simp only [wA, wN, wL]) <;> omega) (by (try simp only [wA, wN, wL]) <;> omega) ?_; conv => whnf)
  |(refine zp (z2a _) rfl rfl ?_; conv => whnf)
 ·rename_i h1
  rw [za2, zf6 0 (k := k) (by omega) (by simp at h ⊢; omega), Bool.and_false]
 ·rename_i h1 h2 h3
  unfold za2
  rw [Bool.and_eq_false_iff, decide_eq_false_iff_not]
  refine .inl fun ha => ?_
  have := zez ha (i := k - 1) (j := k) (by omega) (by omega)
  omega
 ·rename_i h1 h2 h3
  exact ⟨⟨k + 1, zon hk (by omega) fun _ => by omega, zeg 0 hk2 (by omega) (by simp at h2 ⊢; omega)⟩, zbn, by dsimp only; omega⟩
 ·rename_i h1 h2
  exact ⟨⟨k + 1, zon hk (by omega) fun _ => by omega, zeg 0 hk2 (by omega) (by simp at h2 ⊢; omega)⟩, zbn, by dsimp only; omega⟩
 ·rw [List.take_of_length_le (by omega)] at hk hk2
  simp only [za2, hk, hk2]; rfl
end Go.VL
