/- V-logic: TrHb -/
import Derived.Test.YtbpbgjkingjdcaaVTrHa
namespace Go.VL
open Go.Proofs
set_option maxRecDepth 10000
set_option linter.unusedSimpArgs false
set_option linter.unusedVariables false
def lsP (sf : Int → Bool) (W : List Int) : Nat → Nat
 |0 => 0
 |k + 1 => lsF sf W k
theorem z04 (sf : Int → Bool) (W : List Int) (i : Nat) : lsP sf W (i + 1) = if sf (W.getD i 0) = true then i else lsP sf W i := by
 cases i with
 |zero => show 0 = _; split <;> rfl
 |succ k => rfl
theorem z3i (sf : Int → Bool) (W : List Int) (i : Nat) : lsP sf W i ≤ i := by
 cases i with
 |zero => exact Nat.le_refl _
 |succ k => exact Nat.le_succ_of_le (zkr k)
def z1p (ps : List Pg) (W : List Int) : Prop := ∀ i, i < W.length → 0 ≤ W.getD i 0 ∧ W.getD i 0 < ps.length
theorem zsv (root kind : Int) (ps : List Pg) (W : List Int) (n : Nat) (hp : pB ps) (hw : z1p ps W) (hn : n < W.length) (hl : W.length ≤ 1000) (k0 : 0 ≤ kind) (k2 : kind ≤ 2) : zr Try.prog 140 0 [trV root ps, .c (.nums .i64 W), .c (.int .i64 n), .c (.int .i64 kind)] [] 1 (.slc 0) [(0, .arr (.nums .i64 (hlF (sfF root ps kind) W n)))] := by
 have hsf := fun i (hi : i < W.length) => zyj root (W.getD i 0) kind ps hp (hw i hi).1 (hw i hi).2 k0 k2
 unfold hlF
 generalize sfF root ps kind = sf at *
 refine spi (fn := Try.f140) _ ?_
 conv => whnf
 refine zau (fun i : Nat => i ≤ n + 1) (fun i => ⟨30, 1, [(1, .c (.nums .i64 W)), (2, .c (.int .i64 n)), (3, .c (.int .i64 kind)), (4, .ptr 0 0 0 0), (9, .c (.int .i64 (lsP sf W i))), (10, .c (.int .i64 i))], [(0, .box [.c (.int .i64 root), .c (.pgs ps)] [] [])]⟩) (fun i => n + 1 - i) 0 (Nat.zero_le _) (fun _ => Nat.zero_le _) (z5 [] [0]) (fun i hi => ?_)
 have hle := z3i sf W i
 by_cases c : i ≤ n
 ·have hs := hsf i (by omega)
  have hst := z04 sf W i
  conv => whnf
  repeat' first
   |(refine za (by kernel_rfl) ?_; conv => whnf)
   |(refine zn ?_ ?_; (focus ((try simp only [qA]) <;> (try simp only [wA]) <;> omega)); conv => whnf)
   |(refine za (by (try simp only [wA, wL]) <;> omega) ?_; conv => whnf)
   |(refine zk (fun h => ?_) (fun h => ?_) <;> (try simp only [qA] at h) <;> (try simp only [wA] at h) <;> conv => whnf)
   |(refine zg (by (try simp only [wA, wL]) <;> omega) (by (try simp only [wA, wL]) <;> omega) ?_; conv => whnf)
   |(refine zw (hs) rfl rfl ?_; conv => whnf)
   |(refine ze ?_; conv => whnf)
  ·rw [if_pos h] at hst
   refine ⟨⟨i + 1, by omega⟩, (zbd [] [0] ⟨by rw [hst]; repeat first | exact trivial | refine ⟨rfl, ?_⟩, by repeat first | exact trivial | refine ⟨rfl, ?_⟩, rfl, rfl, rfl, rfl, rfl, rfl, rfl⟩), by dsimp only; omega⟩
  ·rw [if_neg (by rw [h]; decide)] at hst
   refine ⟨⟨i + 1, by omega⟩, (zbd [] [0] ⟨by rw [hst]; repeat first | exact trivial | refine ⟨rfl, ?_⟩, by repeat first | exact trivial | refine ⟨rfl, ?_⟩, rfl, rfl, rfl, rfl, rfl, rfl, rfl⟩), by dsimp only; omega⟩
 ·obtain rfl : i = n + 1 := by omega
  have e : lsP sf W (n + 1) = lsF sf W n := rfl
  have hlf := zkr (sf := sf) (path := W) n
  rw [e]
  have hci := zcn ((W.take (n + 1)).drop (lsF sf W n)) (by rw [List.length_drop, List.length_take]; omega)
  have e2 : ((n : Int) + 1).toNat = n + 1 := by omega
  conv => whnf
  repeat' first
   |(refine zm ?_ ?_; (focus ((try simp only [qA]) <;> (try simp only [wA]) <;> omega)); conv => whnf)
   |(refine za (by (try simp only [wA, wL]) <;> omega) ?_; conv => whnf)
   |(refine zg (by (try simp only [wA, wL]) <;> omega) (by (try simp only [wA, wL]) <;> omega) ?_; conv => whnf)
   |(refine z8 (hci) rfl ?_; conv => whnf)
  exact (zu [] [1])
end Go.VL
