/- V-logic: TrWc -/
import Derived.Test.YtbpbgjkingjdcaaVTrWb
namespace Go.VL
open Go.Proofs
set_option maxRecDepth 10000
set_option linter.unusedSimpArgs false
set_option linter.unusedVariables false
set_option maxHeartbeats 4000000 in
theorem zbi (root : Int) (ps : List Pg) (hp : pB ps) : zr Try.prog 66 0 [trV root ps] [] 0 (.c (.bool (vTree root ps))) [] := by
 have k4 := hp.len
 by_cases hl : 1 ≤ ps.length ∧ ps.length ≤ 16
 ·have hX := zyk (root := root) hl.1 hl.2
  obtain ⟨X, hXX⟩ : ∃ X, vTree root ps = X := ⟨_, rfl⟩
  rw [hXX] at hX ⊢
  clear hXX
  have hv := zwq (z2q (root := root) hp hl.2 3 (Nat.le_refl _) root 0 0 100 (fun _ => false) (-1) (by omega))
  refine spi (fn := Try.f66) _ ?_
  conv => whnf
  repeat' (refine zm ?_ ?_; (focus ((try simp only [qA]) <;> (try simp only [wA]) <;> omega)); conv => whnf)
  refine zbw [] [1] hv ⟨rfl, rfl, rfl, (by repeat first | exact trivial | refine ⟨rfl, ?_⟩), ⟨rfl, rfl, rfl⟩, ?_⟩
  rintro m res hout ⟨g, ld, rfl, rfl, rfl, hs⟩
  refine ⟨⟨rfl, rfl, rfl⟩, ?_⟩
  conv => whnf
  have hX : X = match zen ps root 3 root 0 100 (tab fun _ => false, -1) with
   |some s => (List.range ps.length).all fun i => s.1.getD i false
   |none => false := hX
  generalize zen ps root 3 root 0 100 (tab fun _ => false, -1) = VF at *
  cases VF with
  |none =>
   subst hX
   conv => whnf
   repeat' first | (refine zk (fun h => ?_) (fun h => ?_) <;> (try simp only [qA] at h) <;> (try simp only [wA] at h) <;> conv => whnf) | refine zd ?_
   ·rfl
   ·cases h
  |some s' =>
   have := hs _ rfl
   subst this
   conv => whnf
   repeat' first | (refine zk (fun h => ?_) (fun h => ?_) <;> (try simp only [qA] at h) <;> (try simp only [wA] at h) <;> conv => whnf) | refine zd ?_
   ·cases h
   refine zau (fun i : Nat => i ≤ ps.length ∧ ∀ k, k < i → (tab g).getD k false = true) (fun i => ⟨33, 1, [(3, .ptr 0 0 0 0), (23, .c (.int .i64 ps.length)), (24, .c (.int .i64 i))], [(0, .box [.c (.int .i64 root), .c (.pgs ps)] (tab g) [.c (.int .i64 ld)])]⟩) (fun i => ps.length - i) 0 ⟨Nat.zero_le _, fun k hk => absurd hk (Nat.not_lt_zero _)⟩ (fun _ => Nat.zero_le _) (z5 [] [1]) (fun i hi => ?_)
   obtain ⟨hil, hi⟩ := hi
   have h16 : (tab g).length = 16 := rfl
   conv => whnf
   repeat' first
    |(refine za (by (try simp only [wA, wL]) <;> omega) ?_; conv => whnf)
    |(refine zk (fun h => ?_) (fun h => ?_) <;> (try simp only [qA] at h) <;> (try simp only [wA] at h) <;> conv => whnf)
    |refine zc ?_
    |refine zd ?_
    |(refine zg (by (try simp only [wA, wL]) <;> omega) (by (try simp only [wA, wL]) <;> omega) ?_; conv => whnf)
   ·rw [hX]
    exact Bool.eq_false_iff.2 fun q => by
     have := List.all_eq_true.1 q i (List.mem_range.2 (by omega))
     rw [show (tab g).getD i false = false from h] at this
     cases this
   ·refine ⟨⟨i + 1, by omega, fun k hk => ?_⟩, (z5 [] [0]), by dsimp only; omega⟩
    rcases Nat.lt_or_ge k i with c | c
    ·exact hi k c
    ·obtain rfl : k = i := by omega
     exact h
   ·rw [hX]
    exact List.all_eq_true.2 fun k hk => hi k (by have := List.mem_range.1 hk; omega)
 ·have e : vTree root ps = false := by
   cases hv : vTree root ps with
   |false => rfl
   |true =>
    obtain ⟨_, v⟩ := zdk.1 hv
    exact absurd ⟨v.l1, v.l16⟩ hl
  rw [e]
  rcases (by omega : ps.length < 1 ∨ 16 < ps.length) with c | c
  all_goals
   refine spi (fn := Try.f66) _ ?_
   conv => whnf
   repeat' first | (refine zn ?_ ?_; (focus ((try simp only [qA]) <;> (try simp only [wA]) <;> omega)); conv => whnf) | (refine zm ?_ ?_; (focus ((try simp only [qA]) <;> (try simp only [wA]) <;> omega)); conv => whnf) | refine zd ?_
  all_goals rfl
end Go.VL
