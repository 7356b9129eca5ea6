import Derived.Test.YtkdgodkamaicjaaVChJ
namespace Go.VL
open Go.Proofs
set_option maxRecDepth 10000
set_option linter.unusedSimpArgs false
set_option linter.unusedVariables false
def spoY (code : List Int) (p : Int) (xs : List Int) (n : Int) : List Int :=
  if pickF code p 20 = 0 then xs ++ [n] else if pickF code p 20 = 1 then (if (xs.length : Int) > 0 then xs.drop 1 else xs)
  else if pickF code p 20 = 2 then (if (xs.length : Int) > 0 then xs.set (pickF code (p + 1) xs.length).toNat ([-1, n, 0, 1].getD (pickF code (p + 1 + 1) 4).toNat 0) else xs) else xs
def spoP (code : List Int) (p : Int) (xs : List Int) : Int :=
  if pickF code p 20 = 0 then p + 1 else if pickF code p 20 = 1 then p + 1
  else if pickF code p 20 = 2 then (if (xs.length : Int) > 0 then p + 1 + 1 + 1 else p + 1) else p + 1
theorem spoil_v (code : List Int) (hc : CodeOk code) (p n : Int) (xs : List Int) (h0 : 0 ≤ p) (h1 : p ≤ 1099511620000) (hl : xs.length ≤ 1000) : Spec Try.prog 40 1 [.ptr 0 0 0 0, .c (.nums .i64 xs), .c (.int .i64 n)] [(0, .box [.c (.nums .u8 code), .c (.int .i64 p)] [] [])] 1 (.c (.nums .i64 (spoY code p xs n))) [(0, .box [.c (.nums .u8 code), .c (.int .i64 (spoP code p xs))] [] [])] := by
  have hb := pickF_b hc (p := p + 1) (n := (xs.length : Int)) (by omega) (by omega)
  refine spec_intro (fn := Try.f40) tOk eOk mix _ (by kernel_rfl) (by decide +kernel) rfl rfl rfl ?_
  conv => whnf
  repeat' first
    | (refine vneed_i (by kernel_rfl) ?_; conv => whnf)
    | (refine vneed_i (by (try simp only [C.len, C.isSl, C.stride, true_and, and_true, Int.toNat_natCast, toNat_sub1, toNat_add1, List.length_append, List.length_cons, List.length_nil, List.length_take, List.length_drop, List.length_replicate, List.length_set, List.length_map]) <;> omega) ?_; conv => whnf)
    | (refine vif_i (fun h => ?_) (fun h => ?_) <;> (try simp only [Bool.not_eq_true', Bool.not_eq_false', decide_eq_true_eq, decide_eq_false_iff_not, beq_iff_eq, bne_iff_ne, ne_eq, Bool.not_eq_true, Bool.not_eq_false, bne_eq_false_iff_eq, beq_eq_false_iff_ne] at h) <;> (try simp only [C.len, C.isSl, C.stride, true_and, Int.toNat_natCast, toNat_sub1, toNat_add1] at h) <;> conv => whnf)
    | refine vend_tt ?_
    | refine vend_ff ?_
    | refine vend_b ?_
    | refine vend_n ?_
    | refine vend_c ?_
    | (refine vint_f (by (try simp only [C.len, C.isSl, C.stride, true_and, and_true, Int.toNat_natCast, toNat_sub1, toNat_add1, List.length_append, List.length_cons, List.length_nil, List.length_take, List.length_drop, List.length_replicate, List.length_set, List.length_map]) <;> omega) (by (try simp only [C.len, C.isSl, C.stride, true_and, and_true, Int.toNat_natCast, toNat_sub1, toNat_add1, List.length_append, List.length_cons, List.length_nil, List.length_take, List.length_drop, List.length_replicate, List.length_set, List.length_map]) <;> omega) ?_; conv => whnf)
    | (refine vcall_a (copyInts_v _ (by omega)) rfl ?_; conv => whnf)
    | (refine vcall_i [] [0] (pick_v code hc p 20 h0 (by omega) (by omega)) ⟨rfl, rfl, rfl, (by repeat first | exact trivial | refine ⟨rfl, ?_⟩), ⟨rfl, rfl, rfl, rfl, rfl, rfl⟩, ?_⟩; conv => whnf)
    | (refine vcall_i [] [0] (pick_v code hc (p + 1) (xs.length : Int) (by omega) (by omega) (by omega)) ⟨rfl, rfl, rfl, (by repeat first | exact trivial | refine ⟨rfl, ?_⟩), ⟨rfl, rfl, rfl, rfl, rfl, rfl⟩, ?_⟩; conv => whnf)
    | (refine vcall_i [2] [0] (one_v code hc (p + 1 + 1) [-1, n, 0, 1] (by omega) (by omega) (by simp) (by simp)) ?_; (conv => whnf); refine ⟨rfl, rfl, rfl, (by repeat first | exact trivial | refine ⟨rfl, ?_⟩), ⟨rfl, rfl, rfl, rfl, rfl, rfl⟩, ?_⟩; conv => whnf)
    | (refine vor_r (by omega) ?_; conv => whnf)
    | (refine vor_l (by first | rfl | omega) ?_; conv => whnf)
    | (refine vch_l ?_; conv => whnf)
    | (refine vpre_no ?_; conv => whnf)
  all_goals (unfold spoY spoP; (repeat first | rw [if_pos (by assumption)] | rw [if_neg (by assumption)] | rw [if_neg (by rw [Bool.not_eq_true]; assumption)] | rw [if_neg (by rw [Bool.not_eq_false]; assumption)] | rw [if_pos (by omega)] | rw [if_neg (by omega)]); first | exact (vend_i [] [0] ⟨rfl, by repeat first | exact trivial | refine ⟨rfl, ?_⟩, rfl, rfl, rfl, rfl, rfl, rfl⟩) | (refine vend_i [1] [0] ?_; (conv => whnf); exact ⟨rfl, by repeat first | exact trivial | refine ⟨rfl, ?_⟩, rfl, rfl, rfl, rfl, rfl, rfl⟩))
end Go.VL
