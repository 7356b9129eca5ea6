/- V-logic: TrLn -/
import Derived.Test.YtbpbgjkingjdcaaVTrPb
import Derived.Test.YtbpbgjkingjdcaaVTrPd
namespace Go.VL
open Go.Proofs
set_option maxRecDepth 10000
set_option linter.unusedSimpArgs false
set_option linter.unusedVariables false
theorem FnPackPage_v (code : List Int) (hl0 : code.length ≤ 9223372036854775807) (hb : ∀ x ∈ code, 0 ≤ x ∧ x ≤ 255) : zr Try.prog 4 0 [.c (.nums .u8 code)] [] 0 (.c (.bool true)) [] := by
 refine spi (fn := Try.f4) _ ?_
 conv => whnf
 repeat' first | (refine zk (fun h => ?_) (fun h => ?_) <;> (try simp only [qA] at h) <;> (try simp only [wA] at h) <;> conv => whnf) | refine zc ?_
 ·rfl
 refine zbw [] [] (z5s code (by omega) (zie hb)) ⟨rfl, rfl, rfl, (by repeat first | exact trivial | refine ⟨rfl, ?_⟩), ⟨rfl, rfl, rfl⟩, ?_⟩
 rintro m res hout ⟨q, hq, rfl, rfl, rfl⟩
 refine ⟨⟨rfl, rfl, rfl⟩, ?_⟩
 conv => whnf
 cases g : zin q with
 |false =>
  have h1 := z5y q hq g
  have h2 := z5v q hq g
  repeat' first
   |(refine zn ?_ ?_; (focus (first | rfl | exact beq_self_eq_true _)); conv => whnf)
   |(refine zm ?_ ?_; (focus (first | rfl | exact bne_self_eq_false _)); conv => whnf)
   |refine zh ?_
   |(refine zp (h1) rfl rfl ?_; conv => whnf)
   |(refine zp (h2) rfl rfl ?_; conv => whnf)
   |(refine zp (zmf) rfl rfl ?_; conv => whnf)
  all_goals rfl
 |true =>
  have h1 := z5n q g
  have h2 := z5z q g
  obtain ⟨u1, u2, u3⟩ := z57 g []
  rw [List.append_nil] at u1 u2 u3
  have hnb := z58 g
  have h3 := z5w (pkF q) hnb u1
  rw [u2, u3] at h3
  have hpl := hnb.1
  have hp0 : 0 < (pkF q).length := by unfold pkF; simp
  have he := zbh (pkF q) (by omega)
  have hep := z2s q hq.keys hq.kids hq.vals
  generalize pkF q = L at *
  repeat' first
   |(refine zn ?_ ?_; (focus (first | rfl | exact beq_self_eq_true _)); conv => whnf)
   |(refine zm ?_ ?_; (focus (first | rfl | exact bne_self_eq_false _)); conv => whnf)
   |(refine zm ?_ ?_; (focus ((try simp only [qA]) <;> (try simp only [wA]) <;> omega)); conv => whnf)
   |refine zh ?_
   |(refine z8 (h1) rfl ?_; conv => whnf)
   |(refine z8 (h2) rfl ?_; conv => whnf)
   |(refine zbo (he) rfl rfl rfl ?_; conv => whnf)
   |(refine zal [1] [] (h3) ?_; (conv => whnf); refine ⟨rfl, rfl, rfl, (by repeat first | exact trivial | refine ⟨rfl, ?_⟩), ⟨rfl, rfl, rfl, rfl, rfl, rfl⟩, ?_⟩; conv => whnf)
   |(refine zp (hep) rfl rfl ?_; conv => whnf)
  all_goals rfl
end Go.VL
