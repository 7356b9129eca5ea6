/- V-logic: TrLp -/
import Derived.Test.YtbpbgjkingjdcaaVTrPf
namespace Go.VL
open Go.Proofs
set_option maxRecDepth 10000
set_option linter.unusedSimpArgs false
set_option linter.unusedVariables false
theorem FnPackTreeLength_v (code : List Int) (hl0 : code.length ≤ 9223372036854775807) (hb : ∀ x ∈ code, 0 ≤ x ∧ x ≤ 255) : zr Try.prog 6 0 [.c (.nums .u8 code)] [] 0 (.c (.bool true)) [] := by
 refine spi (fn := Try.f6) _ ?_
 conv => whnf
 repeat' first | (refine zk (fun h => ?_) (fun h => ?_) <;> (try simp only [qA] at h) <;> (try simp only [wA] at h) <;> conv => whnf) | refine zc ?_
 ·rfl
 refine zbw [] [] (z2c code (by omega) (zie hb)) ⟨rfl, rfl, rfl, (by repeat first | exact trivial | refine ⟨rfl, ?_⟩), ⟨rfl, rfl, rfl⟩, ?_⟩
 rintro m res hout ⟨root, ps, hp, hps, rfl, rfl, rfl⟩
 refine ⟨⟨rfl, rfl, rfl⟩, ?_⟩
 conv => whnf
 cases g : vTree root ps with
 |false =>
  have h1 := z6q root ps hp g
  have h2 := z6g root ps hp g
  repeat' first
   |(refine zn ?_ ?_; (focus (first | rfl | exact beq_self_eq_true _)); conv => whnf)
   |(refine zm ?_ ?_; (focus (first | rfl | exact bne_self_eq_false _)); conv => whnf)
   |refine zh ?_
   |(refine zp (h1) rfl rfl ?_; conv => whnf)
   |(refine zp (h2) rfl rfl ?_; conv => whnf)
   |(refine zp (zmf) rfl rfl ?_; conv => whnf)
  all_goals rfl
 |true =>
  have h1 := z61 root ps hp g
  have h2 := z6s root ps hp g
  have hf := zrs g
  have hfl := z5n hf
  have e : (zob root ps).length = (ps.flatMap pkF).length + 2 := rfl
  have he := zbh (zob root ps) (by omega)
  generalize zob root ps = L at *
  repeat' first
   |(refine zm ?_ ?_; (focus (first | rfl | exact bne_self_eq_false _)); conv => whnf)
   |(refine zm ?_ ?_; (focus ((try simp only [qA]) <;> (try simp only [wA]) <;> omega)); conv => whnf)
   |(refine z8 (h1) rfl ?_; conv => whnf)
   |(refine z8 (h2) rfl ?_; conv => whnf)
   |(refine zbo (he) rfl rfl rfl ?_; conv => whnf)
  refine zd0 (fun (k : Nat) (n : Nat) => k ≤ ps.length ∧ n = 2 + ((ps.take k).flatMap pkF).length) (fun k n => ⟨48, 2, [(3, .ptr 0 0 0 0), (4, .slc 1), (5, .c (.int .i64 n)), (6, .c (.int .i64 k))], [(0, .box [.c (.int .i64 root), .c (.pgs ps)] [] []), (1, .arr (.nums .i64 L))]⟩) (fun k _ => ps.length - k) 0 2 ⟨Nat.zero_le _, rfl⟩ (fun _ _ => Nat.zero_le _) (z5 [] [0, 1]) (fun k n hk => ?_)
  obtain ⟨hk, hn⟩ := hk
  have hfk := z5n (ps := ps.take k) fun p hp => hf p (List.mem_of_mem_take hp)
  rw [List.length_take] at hfk
  by_cases c : k < ps.length
  ·have hm := zaq ⟨[], [], []⟩ c
   have hpp := z4p _ (hf _ hm)
   have hS := congrArg List.length (flS c)
   rw [List.length_append] at hS
   have hpl := z5d (hf _ hm)
   conv => whnf
   repeat' first
    |(refine zn ?_ ?_; (focus ((try simp only [qA]) <;> (try simp only [wA]) <;> omega)); conv => whnf)
    |(refine za (by (try simp only [wA, wL]) <;> omega) ?_; conv => whnf)
    |(refine zg (by (try simp only [wA, wL]) <;> omega) (by (try simp only [wA, wL]) <;> omega) ?_; conv => whnf)
    |(refine z8 (hpp) rfl ?_; conv => whnf)
   exact ⟨⟨(k + 1, n + (pkF (ps.getD k ⟨[], [], []⟩)).length), by omega, by dsimp only; omega⟩, (z5 [] [0, 1]), by dsimp only; omega⟩
  ·rw [List.take_of_length_le (by omega)] at hn
   conv => whnf
   repeat' first | (refine zm ?_ ?_; (focus ((try simp only [qA]) <;> (try simp only [wA]) <;> omega)); conv => whnf) | refine zh ?_
   refine beq_iff_eq.2 ?_
   show (n : Int) = (L.length : Int)
   omega
end Go.VL
