/- V-logic: TrO -/
import Derived.Test.YtbpbgjkingjdcaaVPD
import Derived.Test.YtbpbgjkingjdcaaVTrN
import Derived.Test.YtbpbgjkingjdcaaVTrE
namespace Go.VL
open Go.Proofs
set_option maxRecDepth 10000
set_option linter.unusedSimpArgs false
set_option linter.unusedVariables false
def drOk (root : Int) (ps : List Pg) (key : Int) : Bool := vTree root ps && ((psF root ps).map Pr.key).contains key
theorem DropKey_ok (root key : Int) (ps : List Pg) (hp : pB ps) (ho : drOk root ps key = true) : Spec Try.prog 87 0 [trV root ps, .c (.int .i64 key)] [] 1 (.tup [.agg [.c (.int .i64 (dropT root ps (htF root ps) key).1), .slc 0], .tt]) [(0, .arr (.pgs (dropT root ps (htF root ps) key).2))] := by
 unfold drOk at ho
 rw [Bool.and_eq_true] at ho
 obtain ⟨h1, h2⟩ := ho
 have v := vTree_ht h1
 have hv := validTree_v root ps hp
 have hh := hasKey_v root key ps hp v
 rw [h1] at hv
 rw [h2] at hh
 have hd := dropTree_v root key ps hp _ v (by rw [List.contains_iff_mem] at h2; exact h2)
 generalize dropT root ps (htF root ps) key = R at *
 generalize (dropR ps key (htF root ps) root).2.length = n at *
 clear h1 h2 v
 refine spi (fn := Try.f87) _ ?_
 conv => whnf
 repeat' first
  |(refine vif_f ?_ ?_; (focus ((try simp only [qA]) <;> (try simp only [wA]) <;> omega)); conv => whnf)
  |(refine vcall_p (hv) rfl rfl ?_; conv => whnf)
  |(refine vcall_p (hh) rfl rfl ?_; conv => whnf)
  |(refine vcall_a (hd) rfl ?_; conv => whnf)
 exact (vend_j [] [2])
theorem DropKey_no (root key : Int) (ps : List Pg) (hp : pB ps) (ho : drOk root ps key = false) : Spec Try.prog 87 0 [trV root ps, .c (.int .i64 key)] [] 0 (.tup [.agg [.c (.int .i64 0), .nil], .ff]) [] := by
 have hv := validTree_v root ps hp
 by_cases h1 : vTree root ps = true
 ·have v := vTree_ht h1
  have hh := hasKey_v root key ps hp v
  rw [h1] at hv
  unfold drOk at ho
  rw [h1, Bool.true_and] at ho
  rw [ho] at hh
  clear h1 ho v
  refine spi (fn := Try.f87) _ ?_
  conv => whnf
  repeat' first
   |(refine vif_t ?_ ?_; (focus ((try simp only [qA]) <;> (try simp only [wA]) <;> omega)); conv => whnf)
   |(refine vif_f ?_ ?_; (focus ((try simp only [qA]) <;> (try simp only [wA]) <;> omega)); conv => whnf)
   |(refine vcall_p (hv) rfl rfl ?_; conv => whnf)
   |(refine vcall_p (hh) rfl rfl ?_; conv => whnf)
  exact (vend_j [] [])
 ·have h1 : vTree root ps = false := by simpa using h1
  rw [h1] at hv
  clear h1 ho
  refine spi (fn := Try.f87) _ ?_
  conv => whnf
  repeat' first | (refine vif_t ?_ ?_; (focus ((try simp only [qA]) <;> (try simp only [wA]) <;> omega)); conv => whnf) | (refine vcall_p (hv) rfl rfl ?_; conv => whnf)
  exact (vend_j [] [])
end Go.VL
