/- V-logic: TrO -/
import Derived.Test.YtbpbgjkingjdcaaVPD
import Derived.Test.YtbpbgjkingjdcaaVTrN
import Derived.Test.YtbpbgjkingjdcaaVTrE
namespace Go.VL
open Go.Proofs
set_option maxRecDepth 10000
set_option linter.unusedSimpArgs false
set_option linter.unusedVariables false
def zql (root : Int) (ps : List Pg) (key : Int) : Bool := vTree root ps && ((psF root ps).map Pr.key).contains key
theorem zps (root key : Int) (ps : List Pg) (hp : pB ps) (ho : zql root ps key = true) : zr Try.prog 87 0 [trV root ps, .c (.int .i64 key)] [] 1 (.tup [.agg [.c (.int .i64 (zf4 root ps (htF root ps) key).1), .slc 0], .tt]) [(0, .arr (.pgs (zf4 root ps (htF root ps) key).2))] := by
 unfold zql at ho
 rw [Bool.and_eq_true] at ho
 obtain ⟨h1, h2⟩ := ho
 have v := za0 h1
 have hv := zay root ps hp
 have hh := zue root key ps hp v
 rw [h1] at hv
 rw [h2] at hh
 have hd := zxa root key ps hp _ v (by rw [List.contains_iff_mem] at h2; exact h2)
 generalize zf4 root ps (htF root ps) key = R at *
 generalize (zao ps key (htF root ps) root).2.length = n at *
 clear h1 h2 v
 refine spi (fn := Try.f87) _ ?_
 conv => whnf
 repeat' first
  |(refine zm ?_ ?_; (focus ((try simp only [qA]) <;> (try simp only [wA]) <;> omega)); conv => whnf)
  |(refine zp (hv) rfl rfl ?_; conv => whnf)
  |(refine zp (hh) rfl rfl ?_; conv => whnf)
  |(refine z8 (hd) rfl ?_; conv => whnf)
 exact (zu [] [2])
theorem z33 (root key : Int) (ps : List Pg) (hp : pB ps) (ho : zql root ps key = false) : zr Try.prog 87 0 [trV root ps, .c (.int .i64 key)] [] 0 (.tup [.agg [.c (.int .i64 0), .nil], .ff]) [] := by
 have hv := zay root ps hp
 by_cases h1 : vTree root ps = true
 ·have v := za0 h1
  have hh := zue root key ps hp v
  rw [h1] at hv
  unfold zql at ho
  rw [h1, Bool.true_and] at ho
  rw [ho] at hh
  clear h1 ho v
  refine spi (fn := Try.f87) _ ?_
  conv => whnf
  repeat' first
   |(refine zn ?_ ?_; (focus ((try simp only [qA]) <;> (try simp only [wA]) <;> omega)); conv => whnf)
   |(refine zm ?_ ?_; (focus ((try simp only [qA]) <;> (try simp only [wA]) <;> omega)); conv => whnf)
   |(refine zp (hv) rfl rfl ?_; conv => whnf)
   |(refine zp (hh) rfl rfl ?_; conv => whnf)
  exact (zu [] [])
 ·have h1 : vTree root ps = false := by simpa using h1
  rw [h1] at hv
  clear h1 ho
  refine spi (fn := Try.f87) _ ?_
  conv => whnf
  repeat' first | (refine zn ?_ ?_; (focus ((try simp only [qA]) <;> (try simp only [wA]) <;> omega)); conv => whnf) | (refine zp (hv) rfl rfl ?_; conv => whnf)
  exact (zu [] [])
end Go.VL
