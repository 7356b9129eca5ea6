import Derived.Test.YtkdgodkamaicjaaVMathAll
import Derived.Test.YtkdgodkamaicjaaVChG
namespace Go.VL
open Go.Proofs
set_option maxRecDepth 10000
set_option linter.unusedSimpArgs false
set_option linter.unusedVariables false
theorem pick_v (code : List Int) (hc : CodeOk code) (p n : Int) (h0 : 0 ≤ p) (h1 : p ≤ 1099511627776) (hn : n ≤ 1099511627776) : Spec Try.prog 38 1 [.ptr 0 0 0 0, .c (.int .i64 n)] [(0, .box [.c (.nums .u8 code), .c (.int .i64 p)] [] [])] 1 (.c (.int .i64 (pickF code p n))) [(0, .box [.c (.nums .u8 code), .c (.int .i64 (p + 1))] [] [])] := by
  have hcl := hc.len
  obtain ⟨p', hp'⟩ : ∃ p', p' = p + 1 - 1 := ⟨_, rfl⟩
  have hpp : p' = p := by omega
  have hb0 := hc.byte p'.toNat
  have hb1 := hc.byte (p'.tmod code.length).toNat
  have hb2 := hc.byte ((p' * 7 + 3).tmod code.length).toNat
  have hd0 : 0 ≤ p'.tdiv code.length := Int.tdiv_nonneg (by omega) (Int.natCast_nonneg _)
  have hd1 : p'.tdiv code.length ≤ p' := Int.tdiv_le_self _ (by omega)
  have hm0 : 0 ≤ p'.tmod code.length := Int.tmod_nonneg _ (by omega)
  have hm1 : 0 ≤ (p' * 7 + 3).tmod code.length := Int.tmod_nonneg _ (by omega)
  have hm2 : ¬ (code.length : Int) = 0 → p'.tmod code.length < code.length := fun h => Int.tmod_lt_of_pos _ (by omega)
  have hm3 : ¬ (code.length : Int) = 0 → (p' * 7 + 3).tmod code.length < code.length := fun h => Int.tmod_lt_of_pos _ (by omega)
  have hq := mixF_b hc (p := p') (by omega) (by omega)
  have hq0 : 0 ≤ (mixF code p').tdiv 64 := Int.tdiv_nonneg hq.1 (by decide)
  have hq1 : (mixF code p').tdiv 64 ≤ mixF code p' := Int.tdiv_le_self _ hq.1
  unfold mixF at hq hq0 hq1
  rw [show pickF code p n = pickF code p' n by rw [hpp]]
  rw [hp'] at hq hq0 hq1 ⊢
  rw [hp'] at hb0 hb1 hb2 hd0 hd1 hm0 hm1 hm2 hm3
  clear hp' hpp
  refine spec_intro (fn := Try.f38) tOk eOk mix _ (by kernel_rfl) (by decide +kernel) rfl rfl rfl ?_
  conv => whnf
  repeat' first
    | (refine vneed_i (by kernel_rfl) ?_; conv => whnf)
    | (refine vneed_i (by (try simp only [C.len, C.isSl, C.stride, true_and, and_true, Int.toNat_natCast, toNat_sub1, toNat_add1, List.length_append, List.length_cons, List.length_nil, List.length_take, List.length_drop, List.length_replicate, List.length_set, List.length_map]) <;> omega) ?_; conv => whnf)
    | (refine vif_i (fun h => ?_) (fun h => ?_) <;> (try simp only [Bool.not_eq_true', Bool.not_eq_false', decide_eq_true_eq, decide_eq_false_iff_not, beq_iff_eq, bne_iff_ne, ne_eq, Bool.not_eq_true, Bool.not_eq_false, bne_eq_false_iff_eq, beq_eq_false_iff_ne] at h) <;> (try simp only [C.len, C.isSl, C.stride, true_and, Int.toNat_natCast, toNat_sub1, toNat_add1] at h) <;> conv => whnf)
    | refine vend_tt ?_
    | refine vend_ff ?_
    | refine vend_b ?_
    | refine vend_n ?_
    | refine vend_c ?_
    | (refine vint_f (by (try simp only [C.len, C.isSl, C.stride, true_and, and_true, Int.toNat_natCast, toNat_sub1, toNat_add1, List.length_append, List.length_cons, List.length_nil, List.length_take, List.length_drop, List.length_replicate, List.length_set, List.length_map]) <;> omega) (by (try simp only [C.len, C.isSl, C.stride, true_and, and_true, Int.toNat_natCast, toNat_sub1, toNat_add1, List.length_append, List.length_cons, List.length_nil, List.length_take, List.length_drop, List.length_replicate, List.length_set, List.length_map]) <;> omega) ?_; conv => whnf)
    | (refine vor_r (by omega) ?_; conv => whnf)
    | (refine vor_l (by first | rfl | omega) ?_; conv => whnf)
    | (refine vch_l ?_; conv => whnf)
    | (refine vpre_no ?_; conv => whnf)
  all_goals (unfold pickF mixF; (repeat first | rw [if_pos (by assumption)] | rw [if_neg (by assumption)] | rw [if_neg (by rw [Bool.not_eq_true]; assumption)] | rw [if_neg (by rw [Bool.not_eq_false]; assumption)] | rw [if_pos (by omega)] | rw [if_neg (by omega)]); exact (vend_i [] [0] ⟨rfl, by repeat first | exact trivial | refine ⟨rfl, ?_⟩, rfl, rfl, rfl, rfl, rfl, rfl⟩))
end Go.VL
