/- V-logic: TrPf -/
import Derived.Test.YtbpbgjkingjdcaaVTrPa
import Derived.Test.YtbpbgjkingjdcaaVTrZb
namespace Go.VL
open Go.Proofs
set_option maxRecDepth 10000
set_option linter.unusedSimpArgs false
set_option linter.unusedVariables false
theorem flS {ps : List Pg} {k : Nat} (h : k < ps.length) : (ps.take (k + 1)).flatMap pkF = (ps.take k).flatMap pkF ++ pkF (ps.getD k ⟨[], [], []⟩) := by
 rw [zat ⟨[], [], []⟩ h, List.flatMap_append]; simp
theorem z5d {p : Pg} (h : zin p = true) : (pkF p).length ≤ 100 := by
 obtain ⟨z1, z2⟩ := ztf h
 unfold pkF pkB
 simp; omega
theorem z5n {ps : List Pg} (hf : ∀ p ∈ ps, zin p = true) : (ps.flatMap pkF).length ≤ 100 * ps.length := by
 induction ps with
 |nil => exact Nat.zero_le _
 |cons p t ih =>
  rw [List.flatMap_cons, List.length_append, List.length_cons]
  have h1 := ih fun q hq => hf q (List.mem_cons_of_mem _ hq)
  have := z5d (hf p (List.mem_cons_self ..))
  omega
theorem z6t (root : Int) (ps : List Pg) (hl : ps.length ≤ 1000) (hf : ∀ p ∈ ps, zin p = true) : zr Try.prog 121 0 [trV root ps] [] 1 (.slc 0) [(0, .arr (.nums .i64 (zob root ps)))] := by
 unfold zob
 refine spi (fn := Try.f121) _ ?_
 conv => whnf
 skip
 refine zd0 (fun (k : Nat) (M : List Int) => k ≤ ps.length ∧ M = (ps.length : Int) :: root :: (ps.take k).flatMap pkF) (fun k M => ⟨27, 2, [(1, .ptr 0 0 0 0), (3, .slc 1), (4, .c (.int .i64 k))], [(0, .box [.c (.int .i64 root), .c (.pgs ps)] [] []), (1, .arr (.nums .i64 M))]⟩) (fun k _ => ps.length - k) 0 [(ps.length : Int), root] ⟨Nat.zero_le _, rfl⟩ (fun _ _ => Nat.zero_le _) (z5 [] [0, 1]) (fun k M hk => ?_)
 obtain ⟨hk, hM⟩ := hk
 have hml := congrArg List.length hM
 have hfl := z5n (ps := ps.take k) fun p hp => hf p (List.mem_of_mem_take hp)
 rw [List.length_cons, List.length_cons] at hml
 rw [List.length_take] at hfl
 by_cases c : k < ps.length
 ·have hm := zaq ⟨[], [], []⟩ c
  have hp := sPackPage'_v _ (hf _ hm)
  have hS := flS c
  have hpl : (pkF (ps.getD k ⟨[], [], []⟩)).length ≤ 100 := z5d (hf _ hm)
  conv => whnf
  repeat' first
   |(refine zn ?_ ?_; (focus ((try simp only [qA]) <;> (try simp only [wA]) <;> omega)); conv => whnf)
   |(refine za (by (try simp only [wA, wL]) <;> omega) ?_; conv => whnf)
   |(refine zg (by (try simp only [wA, wL]) <;> omega) (by (try simp only [wA, wL]) <;> omega) ?_; conv => whnf)
   |(refine z8 (hp) rfl ?_; conv => whnf)
  exact ⟨⟨(k + 1, M ++ pkF (ps.getD k ⟨[], [], []⟩)), by omega, by rw [hM, hS]; rfl⟩, (z5 [] [0, 1]), by dsimp only; omega⟩
 ·rw [List.take_of_length_le (by omega)] at hM
  subst hM
  conv => whnf
  repeat' (refine zm ?_ ?_; (focus ((try simp only [qA]) <;> (try simp only [wA]) <;> omega)); conv => whnf)
  exact (zu [] [1])
theorem z61 (root : Int) (ps : List Pg) (hp : pB ps) (hv : vTree root ps = true) : zr Try.prog 49 0 [trV root ps] [] 1 (.slc 0) [(0, .arr (.nums .i64 (zob root ps)))] := by
 have hvt := zbi root ps hp
 have hl := (za0 hv).l16
 have hf := zrs hv
 rw [hv] at hvt
 unfold zob
 refine spi (fn := Try.f49) _ ?_
 conv => whnf
 repeat' first
  |(refine zm ?_ ?_; (focus (first | rfl | exact bne_self_eq_false _)); conv => whnf)
  |(refine zp (hvt) rfl rfl ?_; conv => whnf)
 refine zd0 (fun (k : Nat) (M : List Int) => k ≤ ps.length ∧ M = (ps.length : Int) :: root :: (ps.take k).flatMap pkF) (fun k M => ⟨28, 1, [(3, .slc 0), (16, .c (.pgs ps)), (17, .c (.int .i64 ps.length)), (18, .c (.int .i64 k))], [(0, .arr (.nums .i64 M))]⟩) (fun k _ => ps.length - k) 0 [(ps.length : Int), root] ⟨Nat.zero_le _, rfl⟩ (fun _ _ => Nat.zero_le _) (z5 [] [1]) (fun k M hk => ?_)
 obtain ⟨hk, hM⟩ := hk
 have hml := congrArg List.length hM
 have hfl := z5n (ps := ps.take k) fun p hp => hf p (List.mem_of_mem_take hp)
 rw [List.length_cons, List.length_cons] at hml
 rw [List.length_take] at hfl
 by_cases c : k < ps.length
 ·have hm := zaq ⟨[], [], []⟩ c
  have hp := z4p _ (hf _ hm)
  have hS := flS c
  have hpl : (pkF (ps.getD k ⟨[], [], []⟩)).length ≤ 100 := z5d (hf _ hm)
  conv => whnf
  repeat' first
   |(refine zn ?_ ?_; (focus ((try simp only [qA]) <;> (try simp only [wA]) <;> omega)); conv => whnf)
   |(refine za (by (try simp only [wA, wL]) <;> omega) ?_; conv => whnf)
   |(refine zg (by (try simp only [wA, wL]) <;> omega) (by (try simp only [wA, wL]) <;> omega) ?_; conv => whnf)
   |(refine z8 (hp) rfl ?_; conv => whnf)
  exact ⟨⟨(k + 1, M ++ pkF (ps.getD k ⟨[], [], []⟩)), by omega, by rw [hM, hS]; rfl⟩, (z5 [] [0]), by dsimp only; omega⟩
 ·rw [List.take_of_length_le (by omega)] at hM
  subst hM
  conv => whnf
  repeat' (refine zm ?_ ?_; (focus ((try simp only [qA]) <;> (try simp only [wA]) <;> omega)); conv => whnf)
  exact (zu [] [0])
theorem z6q (root : Int) (ps : List Pg) (hp : pB ps) (hv : vTree root ps = false) : zr Try.prog 49 0 [trV root ps] [] 0 .nil [] := by
 have hvt := zbi root ps hp
 rw [hv] at hvt
 refine spi (fn := Try.f49) _ ?_
 conv => whnf
 repeat' first
  |(refine zn ?_ ?_; (focus (first | rfl | exact beq_self_eq_true _)); conv => whnf)
  |(refine zp (hvt) rfl rfl ?_; conv => whnf)
 exact (zu [] [])
theorem z6s (root : Int) (ps : List Pg) (hp : pB ps) (hv : vTree root ps = true) : zr Try.prog 50 0 [trV root ps] [] 1 (.slc 0) [(0, .arr (.nums .i64 (zob root ps)))] := by
 have hvt := zay root ps hp
 have hpt := z6t root ps (by have := (za0 hv).l16; omega) (zrs hv)
 rw [hv] at hvt
 refine spi (fn := Try.f50) _ ?_
 conv => whnf
 repeat' first
  |(refine zm ?_ ?_; (focus (first | rfl | exact bne_self_eq_false _)); conv => whnf)
  |(refine zp (hvt) rfl rfl ?_; conv => whnf)
  |(refine z8 (hpt) rfl ?_; conv => whnf)
 exact (zu [] [1])
theorem z6g (root : Int) (ps : List Pg) (hp : pB ps) (hv : vTree root ps = false) : zr Try.prog 50 0 [trV root ps] [] 0 .nil [] := by
 have hvt := zay root ps hp
 rw [hv] at hvt
 refine spi (fn := Try.f50) _ ?_
 conv => whnf
 repeat' first
  |(refine zn ?_ ?_; (focus (first | rfl | exact beq_self_eq_true _)); conv => whnf)
  |(refine zp (hvt) rfl rfl ?_; conv => whnf)
 exact (zu [] [])
end Go.VL
