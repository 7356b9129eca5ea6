/- V-logic: TrF -/
import Derived.Test.YtbpbgjkingjdcaaVPD
import Derived.Test.YtbpbgjkingjdcaaVTrE
namespace Go.VL
open Go.Proofs
set_option maxRecDepth 10000
set_option linter.unusedSimpArgs false
set_option linter.unusedVariables false
theorem zoq {α β : Type} (f : α → β) (d : α) {xs : List α} {i : Nat} (h : i < xs.length) : (xs.take i).map f ++ [f (xs.getD i d)] = (xs.take (i + 1)).map f := by
 rw [zat d h, List.map_append]; rfl
theorem zov : zr Try.prog 132 0 [.tt] [] 0 (.c (.int .i64 1)) [] := by
 refine spi (fn := Try.f132) _ ?_
 conv => whnf
 repeat' refine zi ?_
 rfl
theorem zor : zr Try.prog 132 0 [.ff] [] 0 (.c (.int .i64 0)) [] := by
 refine spi (fn := Try.f132) _ ?_
 conv => whnf
 repeat' refine zi ?_
 rfl
theorem toInt_v (b : Bool) : zr Try.prog 132 0 [.c (.bool b)] [] 0 (.c (.int .i64 (if b = true then 1 else 0))) [] := by
 refine spi (fn := Try.f132) _ ?_
 conv => whnf
 repeat' first | (refine zk (fun h => ?_) (fun h => ?_) <;> (try simp only [qA] at h) <;> (try simp only [wA, wN] at h) <;> conv => whnf) | refine zi ?_
 ·rw [if_pos h]
 ·rw [if_neg (by rw [h]; decide)]
theorem zid (xs : List Pr) (hl : xs.length ≤ 4294967296) : zr Try.prog 201 0 [.c (.prs xs)] [] 1 (.slc 0) [(0, .arr (.prs xs))] := by
 refine spi (fn := Try.f201) _ ?_
 conv => whnf
 repeat' (refine za (by (try simp only [wA, wN, wL]) <;> omega) ?_; conv => whnf)
 exact (zu [] [0])
theorem zdt (xs : List Pr) (hl : xs.length ≤ 4294967296) : zr Try.prog 170 0 [.c (.prs xs)] [] 1 (.slc 0) [(0, .arr (.nums .i64 (xs.map Pr.key)))] := by
 refine spi (fn := Try.f170) _ ?_
 conv => whnf
 skip
 refine zau (fun i : Nat => i ≤ xs.length) (fun i => ⟨21, 1, [(0, .c (.prs xs)), (3, .slc 0), (4, .c (.int .i64 i))], [(0, .arr (.nums .i64 ((xs.take i).map Pr.key)))]⟩) (fun i => xs.length - i) 0 (Nat.zero_le _) (fun _ => Nat.zero_le _) (z5 [] [0]) (fun i hi => ?_)
 conv => whnf
 repeat' first
  |(refine za (by (try simp only [wA, wN, wL]) <;> omega) ?_; conv => whnf)
  |(refine zk (fun h => ?_) (fun h => ?_) <;> (try simp only [qA] at h) <;> (try simp only [wA, wN] at h) <;> conv => whnf)
  |(refine zg (by (try simp only [wA, wN, wL]) <;> omega) (by (try simp only [wA, wN, wL]) <;> omega) ?_; conv => whnf)
 ·refine ⟨⟨i + 1, ?_⟩, (zbd [] [0] ⟨by repeat first | exact trivial | refine ⟨rfl, ?_⟩, ?_, rfl, rfl, rfl, rfl, rfl, rfl, rfl⟩), by dsimp only; omega⟩; (try dsimp only)
  ·omega
  ·exact ⟨congrArg (fun z => some (O.arr (C.nums .i64 z))) (zoq Pr.key ⟨0, 0⟩ (by omega)), trivial⟩
 ·rw [List.take_of_length_le (by omega)]
  exact (zu [] [0])
theorem z3t (xs : List Int) (n : Int) (hl : xs.length ≤ 4294967296) : zr Try.prog 175 0 [.c (.nums .i64 xs), .c (.int .i64 n)] [] 0 (.c (.int .i64 (upF xs n))) [] := by
 refine spi (fn := Try.f175) _ ?_
 conv => whnf
 refine zau (fun k : Nat => k ≤ xs.length ∧ (xs.take k).all (fun x => decide (x ≤ n)) = true) (fun k => ⟨21, 0, [(0, .c (.nums .i64 xs)), (1, .c (.int .i64 n)), (5, .c (.int .i64 k))], []⟩) (fun k => xs.length - k) 0 ⟨by omega, by simp⟩ (fun _ => Nat.zero_le _) zbn (fun k hk => ?_)
 obtain ⟨hk, hk2⟩ := hk
 conv => whnf
 repeat' first
  |(refine za (by (try simp only [wA, wN, wL]) <;> omega) ?_; conv => whnf)
  |(refine zk (fun h => ?_) (fun h => ?_) <;> (try simp only [qA] at h) <;> (try simp only [wA, wN] at h) <;> conv => whnf)
  |refine zi ?_
  |(refine zg (by (try simp only [wA, wN, wL]) <;> omega) (by (try simp only [wA, wN, wL]) <;> omega) ?_; conv => whnf)
 ·refine ⟨⟨k + 1, ?_⟩, zbn, by dsimp only; omega⟩; (try dsimp only)
  exact ⟨by omega, zeg 0 hk2 (by omega) (by exact decide_eq_true (by omega))⟩
 ·rw [zy1 n xs k hk2 hk (fun _ => h)]
 ·rw [zy1 n xs k hk2 hk (fun h2 => absurd h2 (by omega))]
theorem zms (xs : List Int) (n : Int) (hl : xs.length ≤ 4294967296) : zr Try.prog 181 0 [.c (.nums .i64 xs), .c (.int .i64 n)] [] 0 (.c (.int .i64 (if n ∈ xs then (plN xs n : Int) else -1))) [] := by
 refine spi (fn := Try.f181) _ ?_
 conv => whnf
 refine zau (fun k : Nat => k ≤ xs.length ∧ n ∉ xs.take k) (fun k => ⟨19, 0, [(0, .c (.nums .i64 xs)), (1, .c (.int .i64 n)), (5, .c (.int .i64 k))], []⟩) (fun k => xs.length - k) 0 ⟨by omega, by simp⟩ (fun _ => Nat.zero_le _) zbn (fun k hk => ?_)
 obtain ⟨hk, hk2⟩ := hk
 conv => whnf
 repeat' first
  |(refine za (by (try simp only [wA, wN, wL]) <;> omega) ?_; conv => whnf)
  |(refine zk (fun h => ?_) (fun h => ?_) <;> (try simp only [qA] at h) <;> (try simp only [wA, wN] at h) <;> conv => whnf)
  |refine zi ?_
  |(refine zg (by (try simp only [wA, wN, wL]) <;> omega) (by (try simp only [wA, wN, wL]) <;> omega) ?_; conv => whnf)
 ·have hx : n ∈ xs := by rw [← h]; exact zaq 0 (by omega)
  rw [if_pos hx, z3l hk2 (by omega) h]
 ·refine ⟨⟨k + 1, ?_⟩, zbn, by dsimp only; omega⟩; (try dsimp only)
  exact ⟨by omega, zuq hk2 (by omega) h⟩
 ·rw [List.take_of_length_le (by omega)] at hk2
  rw [if_neg hk2]
theorem zhe (xs : List Pr) (hl : xs.length ≤ 4294967296) : zr Try.prog 116 0 [.c (.prs xs)] [] 0 (.c (.bool (zdb xs))) [] := by
 refine spi (fn := Try.f116) _ ?_
 conv => whnf
 refine zau (fun k : Nat => k ≤ xs.length ∧ (xs.take k).all (fun x => decide (-1000 ≤ x.value ∧ x.value ≤ 1000)) = true) (fun k => ⟨25, 0, [(0, .c (.prs xs)), (3, .c (.int .i64 k))], []⟩) (fun k => xs.length - k) 0 ⟨by omega, by simp⟩ (fun _ => Nat.zero_le _) zbn (fun k hk => ?_)
 obtain ⟨hk, hk2⟩ := hk
 conv => whnf
 repeat' first
  |(refine za (by (try simp only [wA, wN, wL]) <;> omega) ?_; conv => whnf)
  |(refine zk (fun h => ?_) (fun h => ?_) <;> (try simp only [qA] at h) <;> (try simp only [wA, wN] at h) <;> conv => whnf)
  |refine zd ?_
  |refine zh ?_
  |(refine zg (by (try simp only [wA, wN, wL]) <;> omega) (by (try simp only [wA, wN, wL]) <;> omega) ?_; conv => whnf)
  |(refine zp (zgy _ _ _) rfl rfl ?_; conv => whnf)
  |(refine z8 (zdt _ hl) rfl ?_; conv => whnf)
  |(refine zbo (zkj _ (by rw [w11]; exact hl)) rfl rfl rfl ?_; conv => whnf)
 ·unfold zdb
  rw [zf6 (⟨0, 0⟩ : Pr) (k := k) (by omega) (decide_eq_false h), Bool.false_and]
 ·refine ⟨⟨k + 1, ?_⟩, zbn, by dsimp only; omega⟩; (try dsimp only)
  exact ⟨by omega, zeg (⟨0, 0⟩ : Pr) hk2 (by omega) (decide_eq_true h)⟩
 ·unfold zdb
  rw [zh3 hk2 (by omega), decide_eq_true (by omega), Bool.true_and, Bool.true_and]
 ·unfold zdb
  rw [decide_eq_false (by omega), Bool.false_and, Bool.and_false]
end Go.VL
