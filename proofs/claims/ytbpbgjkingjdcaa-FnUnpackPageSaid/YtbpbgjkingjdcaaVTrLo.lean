/- V-logic: TrLo -/
import Derived.Test.YtbpbgjkingjdcaaVTrPc
import Derived.Test.YtbpbgjkingjdcaaVTrPe
namespace Go.VL
open Go.Proofs
set_option maxRecDepth 10000
set_option linter.unusedSimpArgs false
set_option linter.unusedVariables false
theorem FnUnpackPage_v (code : List Int) (hl0 : code.length ≤ 9223372036854775807) (hb : ∀ x ∈ code, 0 ≤ x ∧ x ≤ 255) : zr Try.prog 9 0 [.c (.nums .u8 code)] [] 0 (.c (.bool true)) [] := by
 refine spi (fn := Try.f9) _ ?_
 conv => whnf
 repeat' first | (refine zk (fun h => ?_) (fun h => ?_) <;> (try simp only [qA] at h) <;> (try simp only [wA] at h) <;> conv => whnf) | refine zc ?_
 ·rfl
 refine zbw [] [] (z5j code (by omega) (zie hb)) ⟨rfl, rfl, rfl, (by repeat first | exact trivial | refine ⟨rfl, ?_⟩), ⟨rfl, rfl, rfl⟩, ?_⟩
 rintro m res hout ⟨l, hnb, rfl, rfl, rfl⟩
 refine ⟨⟨rfl, rfl, rfl⟩, ?_⟩
 have hll := hnb.1
 conv => whnf
 cases g : zow l with
 |false =>
  have h1 := z55 l hnb g
  have h2 := z5u l hnb g
  have h3 := z2s ⟨[], [], []⟩ (Nat.zero_le _) (Nat.zero_le _) (Nat.zero_le _)
  repeat' first
   |(refine zn ?_ ?_; (focus (first | rfl | exact beq_self_eq_true _)); conv => whnf)
   |(refine zm ?_ ?_; (focus (first | rfl | exact bne_self_eq_false _)); conv => whnf)
   |refine zh ?_
   |(refine zp (h1) rfl rfl ?_; conv => whnf)
   |(refine zp (h2) rfl rfl ?_; conv => whnf)
   |(refine zp (h3) rfl rfl ?_; conv => whnf)
  all_goals rfl
 |true =>
  have h1 := z6d l hnb g
  have h2 := z53 l hnb g
  obtain ⟨u1, u2, u3⟩ := zjv.1 g
  have hfl := ztf u2
  have h3 := z2s (unP l) (by omega) (by omega) (by omega)
  have hfp := z4q (unP l) ⟨by omega, by omega, by omega⟩
  have hpp := z4p (unP l) u2
  rw [(zwb u1).2 u3] at hpp
  rw [u2] at hfp
  have hs := u1.len
  have he := zbh (l.take (unS l)) (by rw [List.length_take]; omega)
  generalize unS l = S at *
  generalize unP l = p at *
  repeat' first
   |(refine za (by kernel_rfl) ?_; conv => whnf)
   |(refine zn ?_ ?_; (focus (first | rfl | exact beq_self_eq_true _)); conv => whnf)
   |(refine zm ?_ ?_; (focus (first | rfl | exact bne_self_eq_false _)); conv => whnf)
   |(refine zn ?_ ?_; (focus ((try simp only [qA]) <;> (try simp only [wA]) <;> omega)); conv => whnf)
   |(refine za (by (try simp only [wA, wL]) <;> omega) ?_; conv => whnf)
   |refine zc ?_
   |(refine zp (h1) rfl rfl ?_; conv => whnf)
   |(refine zp (h2) rfl rfl ?_; conv => whnf)
   |(refine zp (h3) rfl rfl ?_; conv => whnf)
   |(refine zw (hfp) rfl rfl ?_; conv => whnf)
   |(refine zar (hpp) rfl rfl ?_; conv => whnf)
   |(refine zly (he) rfl rfl rfl ?_; conv => whnf)
   |(refine ze ?_; conv => whnf)
  all_goals rfl
end Go.VL
