/- laws.FnValidChain: the walk of the law -/
import Derived.Test.YtkdgodkamaicjaaVChX
namespace Go.VL
open Go.Proofs
set_option maxRecDepth 10000
set_option linter.unusedSimpArgs false
set_option linter.unusedVariables false
theorem strip_step (c : List Lk) (i : Nat) (h : i < c.length) : (c.take i).map strip ++ ([] ++ [(⟨[], (c.getD i ⟨[], 0, 0⟩).high, (c.getD i ⟨[], 0, 0⟩).right⟩ : Lk)]) = (c.take (i + 1)).map strip := by
  rw [take_getD (⟨[], 0, 0⟩ : Lk) h, List.map_append]
  rfl
theorem FnValidChain_v (code : List Int) (hl0 : code.length ≤ 9223372036854775807) (hb : ∀ x ∈ code, 0 ≤ x ∧ x ≤ 255) : Spec Try.prog 6 0 [.c (.nums .u8 code)] [] 0 (.c (.bool true)) [] := by
  obtain ⟨c, hcc⟩ : ∃ c, anyC (code.take 2000) = c := ⟨_, rfl⟩
  have hc := anyC_b (code.take 2000)
  rw [hcc] at hc
  have hcl := hc.1
  have hce : cB (c.map strip) := ⟨by rw [List.length_map]; exact hc.1, fun l hl => by
    obtain ⟨x, hx, rfl⟩ := List.mem_map.1 hl
    exact Nat.zero_le _⟩
  refine spec_intro (fn := Try.f6) tOk eOk mix _ (by kernel_rfl) (by decide +kernel) rfl rfl rfl ?_
  conv => whnf
  repeat' first
    | (refine vneed_i (by kernel_rfl) ?_; conv => whnf)
    | (refine vneed_i (by (try simp only [C.len, C.isSl, C.stride, true_and, and_true, Int.toNat_natCast, toNat_sub1, toNat_add1, List.length_append, List.length_cons, List.length_nil, List.length_take, List.length_drop, List.length_replicate, List.length_set, List.length_map]) <;> omega) ?_; conv => whnf)
    | (refine vif_i (fun h => ?_) (fun h => ?_) <;> (try simp only [Bool.not_eq_true', Bool.not_eq_false', decide_eq_true_eq, decide_eq_false_iff_not, beq_iff_eq, bne_iff_ne, ne_eq, Bool.not_eq_true, Bool.not_eq_false, bne_eq_false_iff_eq, beq_eq_false_iff_ne] at h) <;> (try simp only [C.len, C.isSl, C.stride, true_and, Int.toNat_natCast, toNat_sub1, toNat_add1] at h) <;> conv => whnf)
    | refine vend_tt ?_
    | refine vend_ff ?_
    | refine vend_b ?_
    | refine vend_n ?_
    | refine vend_c ?_
    | (refine vint_f (by (try simp only [C.len, C.isSl, C.stride, true_and, and_true, Int.toNat_natCast, toNat_sub1, toNat_add1, List.length_append, List.length_cons, List.length_nil, List.length_take, List.length_drop, List.length_replicate, List.length_set, List.length_map]) <;> omega) (by (try simp only [C.len, C.isSl, C.stride, true_and, and_true, Int.toNat_natCast, toNat_sub1, toNat_add1, List.length_append, List.length_cons, List.length_nil, List.length_take, List.length_drop, List.length_replicate, List.length_set, List.length_map]) <;> omega) ?_; conv => whnf)
    | (refine vor_r (by omega) ?_; conv => whnf)
    | (refine vor_l (by first | rfl | omega) ?_; conv => whnf)
    | (refine vch_l ?_; conv => whnf)
    | (refine vpre_no ?_; conv => whnf)
  · rfl
  have hdr := drawChain_v code (by omega) hb
  rw [hcc] at hdr
  by_cases g : vChain c = true
  · have gs := vChain_strip g
    have hv := ValidChain_v c hc
    have hs := specValidChain_v c hc
    have hw := ValidChain_v (c.map strip) hce
    rw [g] at hv hs
    rw [gs] at hw
    repeat' first
      | (refine vneed_i (by kernel_rfl) ?_; conv => whnf)
      | (refine vneed_i (by (try simp only [C.len, C.isSl, C.stride, true_and, and_true, Int.toNat_natCast, toNat_sub1, toNat_add1, List.length_append, List.length_cons, List.length_nil, List.length_take, List.length_drop, List.length_replicate, List.length_set, List.length_map]) <;> omega) ?_; conv => whnf)
      | (refine vif_i (fun h => ?_) (fun h => ?_) <;> (try simp only [Bool.not_eq_true', Bool.not_eq_false', decide_eq_true_eq, decide_eq_false_iff_not, beq_iff_eq, bne_iff_ne, ne_eq, Bool.not_eq_true, Bool.not_eq_false, bne_eq_false_iff_eq, beq_eq_false_iff_ne] at h) <;> (try simp only [C.len, C.isSl, C.stride, true_and, Int.toNat_natCast, toNat_sub1, toNat_add1] at h) <;> conv => whnf)
      | refine vend_tt ?_
      | refine vend_ff ?_
      | refine vend_b ?_
      | refine vend_n ?_
      | refine vend_c ?_
      | (refine vint_f (by (try simp only [C.len, C.isSl, C.stride, true_and, and_true, Int.toNat_natCast, toNat_sub1, toNat_add1, List.length_append, List.length_cons, List.length_nil, List.length_take, List.length_drop, List.length_replicate, List.length_set, List.length_map]) <;> omega) (by (try simp only [C.len, C.isSl, C.stride, true_and, and_true, Int.toNat_natCast, toNat_sub1, toNat_add1, List.length_append, List.length_cons, List.length_nil, List.length_take, List.length_drop, List.length_replicate, List.length_set, List.length_map]) <;> omega) ?_; conv => whnf)
      | (refine vcall_a (hdr) rfl ?_; conv => whnf)
      | (refine vcall_l (hv) rfl rfl rfl ?_; conv => whnf)
      | (refine vcall_l (hs) rfl rfl rfl ?_; conv => whnf)
      | (refine vor_r (by omega) ?_; conv => whnf)
      | (refine vor_l (by first | rfl | omega) ?_; conv => whnf)
      | (refine vch_l ?_; conv => whnf)
      | (refine vpre_no ?_; conv => whnf)
    · rfl
    · rfl
    refine vloop1 (fun (i : Nat) => i ≤ c.length) (fun i => ⟨53, 2, [(3, .slc 0), (5, .slc 1), (6, .c (.int .i64 i))], [(0, .arr (.lks c)), (1, .arr (.lks ((c.take i).map strip)))]⟩) (fun i => c.length - i) 0 (Nat.zero_le _) (fun _ => Nat.zero_le _) (ent_i [] [0, 1] ⟨by repeat first | exact trivial | refine ⟨rfl, ?_⟩, by repeat first | exact trivial | refine ⟨rfl, ?_⟩, rfl, rfl, rfl, rfl, rfl, rfl, rfl⟩) (fun i hi => ?_)
    conv => whnf
    repeat' first
      | (refine vneed_i (by kernel_rfl) ?_; conv => whnf)
      | (refine vneed_i (by (try simp only [C.len, C.isSl, C.stride, true_and, and_true, Int.toNat_natCast, toNat_sub1, toNat_add1, List.length_append, List.length_cons, List.length_nil, List.length_take, List.length_drop, List.length_replicate, List.length_set, List.length_map]) <;> omega) ?_; conv => whnf)
      | (refine vif_i (fun h => ?_) (fun h => ?_) <;> (try simp only [Bool.not_eq_true', Bool.not_eq_false', decide_eq_true_eq, decide_eq_false_iff_not, beq_iff_eq, bne_iff_ne, ne_eq, Bool.not_eq_true, Bool.not_eq_false, bne_eq_false_iff_eq, beq_eq_false_iff_ne] at h) <;> (try simp only [C.len, C.isSl, C.stride, true_and, Int.toNat_natCast, toNat_sub1, toNat_add1] at h) <;> conv => whnf)
      | refine vend_tt ?_
      | refine vend_ff ?_
      | refine vend_b ?_
      | refine vend_n ?_
      | refine vend_c ?_
      | (refine vint_f (by (try simp only [C.len, C.isSl, C.stride, true_and, and_true, Int.toNat_natCast, toNat_sub1, toNat_add1, List.length_append, List.length_cons, List.length_nil, List.length_take, List.length_drop, List.length_replicate, List.length_set, List.length_map]) <;> omega) (by (try simp only [C.len, C.isSl, C.stride, true_and, and_true, Int.toNat_natCast, toNat_sub1, toNat_add1, List.length_append, List.length_cons, List.length_nil, List.length_take, List.length_drop, List.length_replicate, List.length_set, List.length_map]) <;> omega) ?_; conv => whnf)
      | (refine vor_r (by omega) ?_; conv => whnf)
      | (refine vor_l (by first | rfl | omega) ?_; conv => whnf)
      | (refine vch_l ?_; conv => whnf)
      | (refine vpre_no ?_; conv => whnf)
    · refine ⟨⟨i + 1, by omega⟩, ?_, by dsimp only; omega⟩
      refine (ent_i [] [0, 1] ⟨by repeat first | exact trivial | refine ⟨rfl, ?_⟩, ⟨rfl, ?_, trivial⟩, rfl, rfl, rfl, rfl, rfl, rfl, rfl⟩)
      exact congrArg (fun z => some (O.arr (C.lks z))) (strip_step c i (by omega))
    · rw [List.take_of_length_le (by omega)]
      repeat' first
        | (refine vneed_i (by kernel_rfl) ?_; conv => whnf)
        | (refine vneed_i (by (try simp only [C.len, C.isSl, C.stride, true_and, and_true, Int.toNat_natCast, toNat_sub1, toNat_add1, List.length_append, List.length_cons, List.length_nil, List.length_take, List.length_drop, List.length_replicate, List.length_set, List.length_map]) <;> omega) ?_; conv => whnf)
        | (refine vif_i (fun h => ?_) (fun h => ?_) <;> (try simp only [Bool.not_eq_true', Bool.not_eq_false', decide_eq_true_eq, decide_eq_false_iff_not, beq_iff_eq, bne_iff_ne, ne_eq, Bool.not_eq_true, Bool.not_eq_false, bne_eq_false_iff_eq, beq_eq_false_iff_ne] at h) <;> (try simp only [C.len, C.isSl, C.stride, true_and, Int.toNat_natCast, toNat_sub1, toNat_add1] at h) <;> conv => whnf)
        | refine vend_tt ?_
        | refine vend_ff ?_
        | refine vend_b ?_
        | refine vend_n ?_
        | refine vend_c ?_
        | (refine vint_f (by (try simp only [C.len, C.isSl, C.stride, true_and, and_true, Int.toNat_natCast, toNat_sub1, toNat_add1, List.length_append, List.length_cons, List.length_nil, List.length_take, List.length_drop, List.length_replicate, List.length_set, List.length_map]) <;> omega) (by (try simp only [C.len, C.isSl, C.stride, true_and, and_true, Int.toNat_natCast, toNat_sub1, toNat_add1, List.length_append, List.length_cons, List.length_nil, List.length_take, List.length_drop, List.length_replicate, List.length_set, List.length_map]) <;> omega) ?_; conv => whnf)
        | (refine vcall_l (hw) rfl rfl rfl ?_; conv => whnf)
        | (refine vcall_p (ValidChain_nil) rfl rfl ?_; conv => whnf)
        | (refine vor_r (by omega) ?_; conv => whnf)
        | (refine vor_l (by first | rfl | omega) ?_; conv => whnf)
        | (refine vch_l ?_; conv => whnf)
        | (refine vpre_no ?_; conv => whnf)
      all_goals first | rfl | contradiction
  · rw [Bool.not_eq_true] at g
    have hv := ValidChain_v c hc
    have hs := specValidChain_v c hc
    rw [g] at hv hs
    repeat' first
      | (refine vneed_i (by kernel_rfl) ?_; conv => whnf)
      | (refine vneed_i (by (try simp only [C.len, C.isSl, C.stride, true_and, and_true, Int.toNat_natCast, toNat_sub1, toNat_add1, List.length_append, List.length_cons, List.length_nil, List.length_take, List.length_drop, List.length_replicate, List.length_set, List.length_map]) <;> omega) ?_; conv => whnf)
      | (refine vif_i (fun h => ?_) (fun h => ?_) <;> (try simp only [Bool.not_eq_true', Bool.not_eq_false', decide_eq_true_eq, decide_eq_false_iff_not, beq_iff_eq, bne_iff_ne, ne_eq, Bool.not_eq_true, Bool.not_eq_false, bne_eq_false_iff_eq, beq_eq_false_iff_ne] at h) <;> (try simp only [C.len, C.isSl, C.stride, true_and, Int.toNat_natCast, toNat_sub1, toNat_add1] at h) <;> conv => whnf)
      | refine vend_tt ?_
      | refine vend_ff ?_
      | refine vend_b ?_
      | refine vend_n ?_
      | refine vend_c ?_
      | (refine vint_f (by (try simp only [C.len, C.isSl, C.stride, true_and, and_true, Int.toNat_natCast, toNat_sub1, toNat_add1, List.length_append, List.length_cons, List.length_nil, List.length_take, List.length_drop, List.length_replicate, List.length_set, List.length_map]) <;> omega) (by (try simp only [C.len, C.isSl, C.stride, true_and, and_true, Int.toNat_natCast, toNat_sub1, toNat_add1, List.length_append, List.length_cons, List.length_nil, List.length_take, List.length_drop, List.length_replicate, List.length_set, List.length_map]) <;> omega) ?_; conv => whnf)
      | (refine vcall_a (hdr) rfl ?_; conv => whnf)
      | (refine vcall_l (hv) rfl rfl rfl ?_; conv => whnf)
      | (refine vcall_l (hs) rfl rfl rfl ?_; conv => whnf)
      | (refine vor_r (by omega) ?_; conv => whnf)
      | (refine vor_l (by first | rfl | omega) ?_; conv => whnf)
      | (refine vch_l ?_; conv => whnf)
      | (refine vpre_no ?_; conv => whnf)
    all_goals first | rfl | contradiction
end Go.VL
