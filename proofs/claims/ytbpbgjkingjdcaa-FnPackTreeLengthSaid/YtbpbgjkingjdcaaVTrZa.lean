/- V-logic: TrZa -/
import Derived.Test.YtbpbgjkingjdcaaVTrI
import Derived.Test.YtbpbgjkingjdcaaVEF
import Derived.Test.YtbpbgjkingjdcaaVMA
namespace Go.VL
open Go.Proofs
set_option maxRecDepth 10000
set_option linter.unusedSimpArgs false
set_option linter.unusedVariables false
theorem zw2 {α : Type} [DecidableEq α] (d : α) {xs ys : List α} (hl : xs.length = ys.length) (h : ∀ i, i < xs.length → xs.getD i d = ys.getD i d) : xs = ys := by
 apply List.ext_getElem hl
 intro i h1 h2
 have := h i h1
 rwa [List.getD_eq_getElem?_getD, List.getD_eq_getElem?_getD, List.getElem?_eq_getElem h1, List.getElem?_eq_getElem h2] at this
theorem zn3 (xs ys : List Int) (h1 : xs.length ≤ 4294967296) (h2 : ys.length ≤ 4294967296) : zr Try.prog 39 0 [.c (.nums .i64 xs), .c (.nums .i64 ys)] [] 0 (.c (.bool (decide (xs = ys)))) [] := by
 obtain ⟨X, hX⟩ : ∃ X, decide (xs = ys) = X := ⟨_, rfl⟩
 rw [hX]
 by_cases hl : xs.length = ys.length
 ·skip
  refine spi (fn := Try.f39) _ ?_
  conv => whnf
  repeat' (refine zm ?_ ?_; (focus ((try simp only [qA]) <;> (try simp only [wA]) <;> omega)); conv => whnf)
  refine zau (fun i : Nat => ∀ k, k < i → xs.getD k 0 = ys.getD k 0) (fun i => ⟨26, 0, [(0, .c (.nums .i64 xs)), (1, .c (.nums .i64 ys)), (5, .c (.int .i64 i))], []⟩) (fun i => xs.length - i) 0 (fun k hk => absurd hk (Nat.not_lt_zero _)) (fun _ => Nat.zero_le _) zbn (fun i hi => ?_)
  conv => whnf
  repeat' first
   |(refine za (by kernel_rfl) ?_; conv => whnf)
   |(refine za (by (try simp only [wA, wL]) <;> omega) ?_; conv => whnf)
   |(refine zk (fun h => ?_) (fun h => ?_) <;> (try simp only [qA] at h) <;> (try simp only [wA] at h) <;> conv => whnf)
   |refine zc ?_
   |refine zd ?_
   |(refine zg (by (try simp only [wA, wL]) <;> omega) (by (try simp only [wA, wL]) <;> omega) ?_; conv => whnf)
   |(refine ze ?_; conv => whnf)
  ·rw [← hX]
   exact decide_eq_false fun q => h (by rw [q])
  ·refine ⟨⟨i + 1, fun k hk => ?_⟩, zbn, by dsimp only; omega⟩
   rcases Nat.lt_or_ge k i with c | c
   ·exact hi k c
   ·obtain rfl : k = i := by omega
    exact h
  ·rw [← hX]
   exact decide_eq_true (zw2 0 hl fun k hk => hi k (by omega))
 ·have : X = false := by
   rw [← hX]
   exact decide_eq_false fun q => hl (by rw [q])
  rw [this]
  refine spi (fn := Try.f39) _ ?_
  conv => whnf
  repeat' first | (refine zn ?_ ?_; (focus ((try simp only [qA]) <;> (try simp only [wA]) <;> omega)); conv => whnf) | refine zd ?_
  all_goals rfl
theorem zmf : zr Try.prog 39 0 [.nil, .nil] [] 0 (.c (.bool true)) [] :=
 zkb (args := [.c (.nums .i64 []), .c (.nums .i64 [])]) ⟨.inr ⟨rfl, _, rfl, rfl, rfl⟩, .inr ⟨rfl, _, rfl, rfl, rfl⟩, trivial⟩ (zn3 [] [] (by decide) (by decide))
theorem zbh (xs : List Int) (h : xs.length ≤ 4294967296) : zr Try.prog 39 0 [.c (.nums .i64 xs), .c (.nums .i64 xs)] [] 0 (.c (.bool true)) [] := by
 have := zn3 xs xs h h
 rwa [decide_eq_true rfl] at this
theorem znn (xs : List Int) (n : Int) (hl : xs.length ≤ 4294967296) : zr Try.prog 54 0 [.c (.nums .i64 xs), .c (.int .i64 n)] [] 0 (.c (.bool (xs.contains n))) [] := by
 refine spi (fn := Try.f54) _ ?_
 conv => whnf
 refine zau (fun k : Nat => (xs.take k).contains n = false) (fun k => ⟨18, 0, [(0, .c (.nums .i64 xs)), (1, .c (.int .i64 n)), (5, .c (.int .i64 k))], []⟩) (fun k => xs.length - k) 0 (by simp) (fun _ => Nat.zero_le _) zbn (fun k hk => ?_)
 conv => whnf
 repeat' first
  |(refine za (by (try simp only [wA, wN, wL]) <;> omega) ?_; conv => whnf)
  |(refine zk (fun h => ?_) (fun h => ?_) <;> (try simp only [qA] at h) <;> (try simp only [wA, wN] at h) <;> conv => whnf)
  |refine zc ?_
  |refine zd ?_
  |(refine zg (by (try simp only [wA, wN, wL]) <;> omega) (by (try simp only [wA, wN, wL]) <;> omega) ?_; conv => whnf)
 ·rename_i h1
  have h1 : k < xs.length := by omega
  rw [List.contains_iff_mem, ← h]
  simp [h1]
 ·exact ⟨⟨k + 1, zmd hk (by omega) (by assumption)⟩, zbn, by dsimp only; omega⟩
 ·rwa [List.take_of_length_le (by omega)] at hk
theorem zmx (xs : List Pr) (hl : xs.length ≤ 4294967296) : zr Try.prog 55 0 [.c (.prs xs)] [] 1 (.slc 0) [(0, .arr (.nums .i64 (xs.map Pr.key)))] := by
 refine spi (fn := Try.f55) _ ?_
 conv => whnf
 skip
 refine zau (fun i : Nat => i ≤ xs.length) (fun i => ⟨21, 1, [(0, .c (.prs xs)), (3, .slc 0), (4, .c (.int .i64 i))], [(0, .arr (.nums .i64 ((xs.take i).map Pr.key)))]⟩) (fun i => xs.length - i) 0 (Nat.zero_le _) (fun _ => Nat.zero_le _) (z5 [] [0]) (fun i hi => ?_)
 conv => whnf
 repeat' first
  |(refine za (by (try simp only [wA, wN, wL]) <;> omega) ?_; conv => whnf)
  |(refine zk (fun h => ?_) (fun h => ?_) <;> (try simp only [qA] at h) <;> (try simp only [wA, wN] at h) <;> conv => whnf)
  |(refine zg (by (try simp only [wA, wN, wL]) <;> omega) (by (try simp only [wA, wN, wL]) <;> omega) ?_; conv => whnf)
 ·refine ⟨⟨i + 1, ?_⟩, (zbd [] [0] ⟨by repeat first | exact trivial | refine ⟨rfl, ?_⟩, ?_, rfl, rfl, rfl, rfl, rfl, rfl, rfl⟩), by dsimp only; omega⟩; (try dsimp only)
  ·omega
  ·exact ⟨congrArg (fun z => some (O.arr (C.nums .i64 z))) (zoq Pr.key ⟨0, 0⟩ (by omega)), trivial⟩
 ·rw [List.take_of_length_le (by omega)]
  exact (zu [] [0])
end Go.VL
