import Derived.Test.YtkdgodkamaicjaaVMathAll
import Derived.Test.YtkdgodkamaicjaaVChA
namespace Go.VL
open Go.Proofs
set_option maxRecDepth 10000
set_option linter.unusedSimpArgs false
set_option linter.unusedVariables false
/-- the chain's keys are not too many -/
def cB (c : List Lk) : Prop := c.length ≤ 4294967296 ∧ ∀ l ∈ c, l.keys.length ≤ 4294967296
theorem cB.keys {c : List Lk} (h : cB c) (i : Nat) : (c.getD i ⟨[], 0, 0⟩).keys.length ≤ 4294967296 := by
  by_cases hi : i < c.length
  · have : c.getD i ⟨[], 0, 0⟩ = c[i] := by simp [List.getD, hi]
    rw [this]; exact h.2 _ (List.getElem_mem hi)
  · have : c.getD i ⟨[], 0, 0⟩ = ⟨[], 0, 0⟩ := by simp [List.getD, hi]
    rw [this]; simp
theorem validChain_v (c : List Lk) (hc : cB c) : Spec Try.prog 22 0 [.c (.lks c)] [] 0 (.c (.bool (vChain c))) [] := by
  refine spec_intro (fn := Try.f22) tOk eOk mix _ (by kernel_rfl) (by decide +kernel) rfl rfl rfl ?_
  conv => whnf
  refine vloop4 (fun (k : Nat) (seen : List Int) (at_ low : Int) => 0 ≤ low ∧ 0 ≤ at_ ∧ seen.length = k ∧ (k < c.length → at_ < c.length) ∧ vcSpec c seen at_ low (c.length - k) = vChain c)
    (fun k seen at_ low => ⟨84, 1, [(0, .c (.lks c)), (3, .slc 0), (4, .c (.int .i64 at_)), (5, .c (.int .i64 low)), (6, .c (.int .i64 k))], [(0, .arr (.nums .i64 seen))]⟩) (fun k seen at_ low => c.length - k) 0 [] 0 0 ⟨by omega, by omega, rfl, by omega, rfl⟩ (fun _ _ _ _ => Nat.zero_le _) (ent_i [] [0] ⟨by repeat first | exact trivial | refine ⟨rfl, ?_⟩, by repeat first | exact trivial | refine ⟨rfl, ?_⟩, rfl, rfl, rfl, rfl, rfl, rfl, rfl⟩) (fun k seen at_ low hi => ?_)
  obtain ⟨h0, h1, h2, h3, h4⟩ := hi
  have hcl := hc.1
  have hstep := h4
  have hrest : ¬ k < c.length → vChain c = false := fun h => by rw [← h4, show c.length - k = 0 by omega]; rfl
  clear h4
  conv => whnf
  repeat' first
    | (refine vneed_i (by kernel_rfl) ?_; conv => whnf)
    | (refine vneed_i (by (try simp only [C.len, C.isSl, C.stride, true_and, and_true, Int.toNat_natCast, toNat_sub1, toNat_add1, List.length_append, List.length_cons, List.length_nil, List.length_take, List.length_drop, List.length_replicate, List.length_set, List.length_map]) <;> omega) ?_; conv => whnf)
    | (refine vif_i (fun h => ?_) (fun h => ?_) <;> (try simp only [Bool.not_eq_true', Bool.not_eq_false', decide_eq_true_eq, decide_eq_false_iff_not, beq_iff_eq, bne_iff_ne, ne_eq, Bool.not_eq_true, Bool.not_eq_false, bne_eq_false_iff_eq, beq_eq_false_iff_ne] at h) <;> (try simp only [C.len, C.isSl, C.stride, true_and, Int.toNat_natCast, toNat_sub1, toNat_add1] at h) <;> conv => whnf)
    | refine vend_tt ?_
    | refine vend_ff ?_
    | refine vend_b ?_
    | refine vend_n ?_
    | refine vend_c ?_
    | (refine vint_f (by (try simp only [C.len, C.isSl, C.stride, true_and, and_true, Int.toNat_natCast, toNat_sub1, toNat_add1, List.length_append, List.length_cons, List.length_nil, List.length_take, List.length_drop, List.length_replicate, List.length_set, List.length_map]) <;> omega) (by (try simp only [C.len, C.isSl, C.stride, true_and, and_true, Int.toNat_natCast, toNat_sub1, toNat_add1, List.length_append, List.length_cons, List.length_nil, List.length_take, List.length_drop, List.length_replicate, List.length_set, List.length_map]) <;> omega) ?_; conv => whnf)
    | (refine vcall_l (isIn_v _ _ ?_) rfl rfl rfl ?_; (first | assumption | omega | exact (by (try simp only [C.len, C.isSl, C.stride, true_and, and_true, Int.toNat_natCast, toNat_sub1, toNat_add1, List.length_append, List.length_cons, List.length_nil, List.length_take, List.length_drop, List.length_replicate, List.length_set, List.length_map]) <;> omega)); conv => whnf)
    | (refine vcall_p (inRange_v _ _ _) rfl rfl ?_; conv => whnf)
    | (refine vcall_p (validKeys_v _ (hc.keys _)) rfl rfl ?_; conv => whnf)
    | (refine vcall_p (allIn_v _ _ _ (hc.keys _)) rfl rfl ?_; conv => whnf)
    | (refine vor_r (by omega) ?_; conv => whnf)
    | (refine vor_l (by first | rfl | omega) ?_; conv => whnf)
    | (refine vch_l ?_; conv => whnf)
    | (refine vpre_no ?_; conv => whnf)
  all_goals try rw [show c.length - k = (c.length - k - 1) + 1 by omega] at hstep
  all_goals try (rw [← hstep]; unfold vcSpec; (repeat first | rw [if_pos (by assumption)] | rw [if_neg (by assumption)] | rw [if_neg (by rw [Bool.not_eq_true]; assumption)] | rw [if_neg (by rw [Bool.not_eq_false]; assumption)] | rw [if_pos (by omega)] | rw [if_neg (by omega)]))
  · exact decide_eq_decide.2 (by simp only [C.len]; omega)
  · refine ⟨⟨(k + 1, seen ++ [at_], (c.getD at_.toNat ⟨[], 0, 0⟩).right, (c.getD at_.toNat ⟨[], 0, 0⟩).high), ?_⟩, (ent_i [] [0] ⟨by repeat first | exact trivial | refine ⟨rfl, ?_⟩, by repeat first | exact trivial | refine ⟨rfl, ?_⟩, rfl, rfl, rfl, rfl, rfl, rfl, rfl⟩), by dsimp only; omega⟩; (try dsimp only)
    refine ⟨by omega, by omega, by simp [h2], by omega, ?_⟩
    rw [← hstep, show c.length - (k + 1) = c.length - k - 1 by omega]
    conv => rhs; unfold vcSpec
    (repeat first | rw [if_pos (by assumption)] | rw [if_neg (by assumption)] | rw [if_neg (by rw [Bool.not_eq_true]; assumption)] | rw [if_neg (by rw [Bool.not_eq_false]; assumption)] | rw [if_pos (by omega)] | rw [if_neg (by omega)])
  · rw [show c.length - k = 0 by omega]
end Go.VL
