import Derived.Test.YtkdgodkamaicjaaVMathAll
import Derived.Test.YtkdgodkamaicjaaVChK
namespace Go.VL
open Go.Proofs
set_option maxRecDepth 10000
set_option linter.unusedSimpArgs false
set_option linter.unusedVariables false
def splOk (c : List Lk) (at_ : Int) : Bool := vChain c && decide (0 ≤ at_ ∧ at_ ≤ (c.length : Int) - 1) && !decide (((c.getD at_.toNat ⟨[], 0, 0⟩).keys.length : Int) < 2) && !decide ((c.length : Int) = 16)
def splH (c : List Lk) (at_ : Int) : Int := (((c.getD at_.toNat ⟨[], 0, 0⟩).keys.length : Int) + 1).tdiv 2
theorem vChain_len {c : List Lk} (h : vChain c = true) : 1 ≤ c.length ∧ c.length ≤ 16 := by
  rw [vChain_eq] at h
  split at h
  · cases h
  · omega
theorem set_app1 {α : Type} (z v : α) (x : List α) : (x ++ List.replicate 1 z).set (x.length + 0) v = x ++ [v] := by
  rw [List.set_append_right _ _ (by omega), show x.length + 0 - x.length = 0 by omega]; rfl
theorem SplitLink_no (c : List Lk) (hc : cB c) (at_ : Int) (ho : splOk c at_ = false) : Spec Try.prog 39 0 [.c (.lks c), .c (.int .i64 at_)] [] 0 (.tup [.nil, .c (.bool false)]) [] := by
  have hcl := hc.1
  unfold splOk at ho
  refine spec_intro (fn := Try.f39) tOk eOk mix _ (by kernel_rfl) (by decide +kernel) rfl rfl rfl ?_
  conv => whnf
  repeat' first
    | (refine vneed_i (by kernel_rfl) ?_; conv => whnf)
    | (refine vneed_i (by (try simp only [C.len, C.isSl, C.stride, true_and, and_true, Int.toNat_natCast, toNat_sub1, toNat_add1, List.length_append, List.length_cons, List.length_nil, List.length_take, List.length_drop, List.length_replicate, List.length_set, List.length_map]) <;> omega) ?_; conv => whnf)
    | (refine vif_i (fun h => ?_) (fun h => ?_) <;> (try simp only [Bool.not_eq_true', Bool.not_eq_false', decide_eq_true_eq, decide_eq_false_iff_not, beq_iff_eq, bne_iff_ne, ne_eq, Bool.not_eq_true, Bool.not_eq_false, bne_eq_false_iff_eq, beq_eq_false_iff_ne] at h) <;> (try simp only [C.len, C.isSl, C.stride, true_and, Int.toNat_natCast, toNat_sub1, toNat_add1] at h) <;> conv => whnf)
    | refine vend_tt ?_
    | refine vend_ff ?_
    | refine vend_b ?_
    | refine vend_n ?_
    | refine vend_c ?_
    | (refine vint_f (by (try simp only [C.len, C.isSl, C.stride, true_and, and_true, Int.toNat_natCast, toNat_sub1, toNat_add1, List.length_append, List.length_cons, List.length_nil, List.length_take, List.length_drop, List.length_replicate, List.length_set, List.length_map]) <;> omega) (by (try simp only [C.len, C.isSl, C.stride, true_and, and_true, Int.toNat_natCast, toNat_sub1, toNat_add1, List.length_append, List.length_cons, List.length_nil, List.length_take, List.length_drop, List.length_replicate, List.length_set, List.length_map]) <;> omega) ?_; conv => whnf)
    | (refine vcall_p (validChain_v _ hc) rfl rfl ?_; conv => whnf)
    | (refine vcall_p (inRange_v _ _ _) rfl rfl ?_; conv => whnf)
    | (refine vor_r (by omega) ?_; conv => whnf)
    | (refine vor_l (by first | rfl | omega) ?_; conv => whnf)
    | (refine vch_l ?_; conv => whnf)
    | (refine vpre_no ?_; conv => whnf)
  · exact (vend_i [] [] ⟨rfl, by repeat first | exact trivial | refine ⟨rfl, ?_⟩, rfl, rfl, rfl, rfl, rfl, rfl⟩)
  · exact (vend_i [] [] ⟨rfl, by repeat first | exact trivial | refine ⟨rfl, ?_⟩, rfl, rfl, rfl, rfl, rfl, rfl⟩)
  · exact (vend_i [] [] ⟨rfl, by repeat first | exact trivial | refine ⟨rfl, ?_⟩, rfl, rfl, rfl, rfl, rfl, rfl⟩)
  · exact (vend_i [] [] ⟨rfl, by repeat first | exact trivial | refine ⟨rfl, ?_⟩, rfl, rfl, rfl, rfl, rfl, rfl⟩)
  exfalso
  rename_i g1 g2 g3
  rw [g1, decide_eq_true g2, decide_eq_false g3, decide_eq_false h] at ho; cases ho
theorem SplitLink_ok (c : List Lk) (hc : cB c) (at_ : Int) (ho : splOk c at_ = true) : Spec Try.prog 39 0 [.c (.lks c), .c (.int .i64 at_)] [] 1 (.tup [.slc 0, .c (.bool true)]) [(0, .arr (.lks (splF c at_.toNat (splH c at_).toNat)))] := by
  have hcl := hc.1
  have hk := hc.keys at_.toNat
  have hh0 : 0 ≤ splH c at_ := Int.tdiv_nonneg (by omega) (by decide)
  have hh1 : splH c at_ ≤ ((c.getD at_.toNat ⟨[], 0, 0⟩).keys.length : Int) + 1 := Int.tdiv_le_self _ (by omega)
  have hh2 : 2 ≤ (c.getD at_.toNat ⟨[], 0, 0⟩).keys.length → splH c at_ < ((c.getD at_.toNat ⟨[], 0, 0⟩).keys.length : Int) := fun h => by
    unfold splH; rw [Int.tdiv_eq_ediv_of_nonneg (by omega)]; omega
  unfold splH at hh0 hh1 hh2
  unfold splOk at ho
  refine spec_intro (fn := Try.f39) tOk eOk mix _ (by kernel_rfl) (by decide +kernel) rfl rfl rfl ?_
  conv => whnf
  repeat' first
    | (refine vneed_i (by kernel_rfl) ?_; conv => whnf)
    | (refine vneed_i (by (try simp only [C.len, C.isSl, C.stride, true_and, and_true, Int.toNat_natCast, toNat_sub1, toNat_add1, List.length_append, List.length_cons, List.length_nil, List.length_take, List.length_drop, List.length_replicate, List.length_set, List.length_map]) <;> omega) ?_; conv => whnf)
    | (refine vif_i (fun h => ?_) (fun h => ?_) <;> (try simp only [Bool.not_eq_true', Bool.not_eq_false', decide_eq_true_eq, decide_eq_false_iff_not, beq_iff_eq, bne_iff_ne, ne_eq, Bool.not_eq_true, Bool.not_eq_false, bne_eq_false_iff_eq, beq_eq_false_iff_ne] at h) <;> (try simp only [C.len, C.isSl, C.stride, true_and, Int.toNat_natCast, toNat_sub1, toNat_add1] at h) <;> conv => whnf)
    | refine vend_tt ?_
    | refine vend_ff ?_
    | refine vend_b ?_
    | refine vend_n ?_
    | refine vend_c ?_
    | (refine vint_f (by (try simp only [C.len, C.isSl, C.stride, true_and, and_true, Int.toNat_natCast, toNat_sub1, toNat_add1, List.length_append, List.length_cons, List.length_nil, List.length_take, List.length_drop, List.length_replicate, List.length_set, List.length_map]) <;> omega) (by (try simp only [C.len, C.isSl, C.stride, true_and, and_true, Int.toNat_natCast, toNat_sub1, toNat_add1, List.length_append, List.length_cons, List.length_nil, List.length_take, List.length_drop, List.length_replicate, List.length_set, List.length_map]) <;> omega) ?_; conv => whnf)
    | (refine vcall_p (validChain_v _ hc) rfl rfl ?_; conv => whnf)
    | (refine vcall_p (inRange_v _ _ _) rfl rfl ?_; conv => whnf)
    | (refine vcall_a (copyChain_v _ hc) rfl ?_; conv => whnf)
    | (refine vcalld_a (copyInts_v _ ?_) rfl rfl ?_; (first | assumption | omega | exact (by (try simp only [C.len, C.isSl, C.stride, true_and, and_true, Int.toNat_natCast, toNat_sub1, toNat_add1, List.length_append, List.length_cons, List.length_nil, List.length_take, List.length_drop, List.length_replicate, List.length_set, List.length_map]) <;> omega)); conv => whnf)
    | (refine vor_r (by omega) ?_; conv => whnf)
    | (refine vor_l (by first | rfl | omega) ?_; conv => whnf)
  · rw [h] at ho; cases ho
  · rw [decide_eq_false h, Bool.and_false] at ho; cases ho
  · rw [decide_eq_true h, Bool.not_true, Bool.and_false] at ho; cases ho
  · rw [decide_eq_true h, Bool.not_true, Bool.and_false] at ho; cases ho
  refine vpre_g [.fz [10], .cnv] ?_
  conv => whnf
  have h16 := vChain_len (by assumption)
  repeat' first
    | (refine vneed_i (by kernel_rfl) ?_; conv => whnf)
    | (refine vneed_i (by (try simp only [C.len, C.isSl, C.stride, true_and, and_true, Int.toNat_natCast, toNat_sub1, toNat_add1, List.length_append, List.length_cons, List.length_nil, List.length_take, List.length_drop, List.length_replicate, List.length_set, List.length_map]) <;> omega) ?_; conv => whnf)
    | (refine vif_i (fun h => ?_) (fun h => ?_) <;> (try simp only [Bool.not_eq_true', Bool.not_eq_false', decide_eq_true_eq, decide_eq_false_iff_not, beq_iff_eq, bne_iff_ne, ne_eq, Bool.not_eq_true, Bool.not_eq_false, bne_eq_false_iff_eq, beq_eq_false_iff_ne] at h) <;> (try simp only [C.len, C.isSl, C.stride, true_and, Int.toNat_natCast, toNat_sub1, toNat_add1] at h) <;> conv => whnf)
    | refine vend_tt ?_
    | refine vend_ff ?_
    | refine vend_b ?_
    | refine vend_n ?_
    | refine vend_c ?_
    | (refine vint_f (by (try simp only [C.len, C.isSl, C.stride, true_and, and_true, Int.toNat_natCast, toNat_sub1, toNat_add1, List.length_append, List.length_cons, List.length_nil, List.length_take, List.length_drop, List.length_replicate, List.length_set, List.length_map]) <;> omega) (by (try simp only [C.len, C.isSl, C.stride, true_and, and_true, Int.toNat_natCast, toNat_sub1, toNat_add1, List.length_append, List.length_cons, List.length_nil, List.length_take, List.length_drop, List.length_replicate, List.length_set, List.length_map]) <;> omega) ?_; conv => whnf)
    | (refine vcalld_a (copyInts_v _ ?_) rfl rfl ?_; (first | assumption | omega | exact (by (try simp only [C.len, C.isSl, C.stride, true_and, and_true, Int.toNat_natCast, toNat_sub1, toNat_add1, List.length_append, List.length_cons, List.length_nil, List.length_take, List.length_drop, List.length_replicate, List.length_set, List.length_map]) <;> omega)); conv => whnf)
    | (refine vor_r (by omega) ?_; conv => whnf)
    | (refine vor_l (by first | rfl | omega) ?_; conv => whnf)
    | (refine vch_l ?_; conv => whnf)
    | (refine vpre_no ?_; conv => whnf)
  refine (vend_i [109] [0] ⟨rfl, ⟨?_, trivial⟩, rfl, rfl, rfl, rfl, rfl, rfl⟩)
  exact congrArg (fun z => some (O.arr (C.lks z))) (set_app1 (⟨[], 0, 0⟩ : Lk) (⟨(c.getD at_.toNat ⟨[], 0, 0⟩).keys.drop (splH c at_).toNat, (c.getD at_.toNat ⟨[], 0, 0⟩).high, (c.getD at_.toNat ⟨[], 0, 0⟩).right⟩ : Lk) (c.set at_.toNat ⟨(c.getD at_.toNat ⟨[], 0, 0⟩).keys.take (splH c at_).toNat, (c.getD at_.toNat ⟨[], 0, 0⟩).keys.getD (splH c at_).toNat 0, c.length⟩))
end Go.VL
