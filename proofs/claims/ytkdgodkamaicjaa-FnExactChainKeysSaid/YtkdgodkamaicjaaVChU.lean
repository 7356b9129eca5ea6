/- laws.FnExactChainKeys: the walk of the law -/
import Derived.Test.YtkdgodkamaicjaaVChS
namespace Go.VL
open Go.Proofs
set_option maxRecDepth 10000
set_option linter.unusedSimpArgs false
set_option linter.unusedVariables false
theorem eqIntS_nil : Spec Try.prog 16 0 [.nil, .nil] [] 0 (.c (.bool true)) [] := by
  refine spec_intro (fn := Try.f16) tOk eOk mix _ (by kernel_rfl) (by decide +kernel) rfl rfl rfl ?_
  conv => whnf
  repeat' first
    | (refine vneed_i (by kernel_rfl) ?_; conv => whnf)
    | (refine vneed_i (by (try simp only [C.len, C.isSl, C.stride, true_and, and_true, Int.toNat_natCast, toNat_sub1, toNat_add1, List.length_append, List.length_cons, List.length_nil, List.length_take, List.length_drop, List.length_replicate, List.length_set, List.length_map]) <;> omega) ?_; conv => whnf)
    | (refine vif_i (fun h => ?_) (fun h => ?_) <;> (try simp only [Bool.not_eq_true', Bool.not_eq_false', decide_eq_true_eq, decide_eq_false_iff_not, beq_iff_eq, bne_iff_ne, ne_eq, Bool.not_eq_true, Bool.not_eq_false, bne_eq_false_iff_eq, beq_eq_false_iff_ne] at h) <;> (try simp only [C.len, C.isSl, C.stride, true_and, Int.toNat_natCast, toNat_sub1, toNat_add1] at h) <;> conv => whnf)
    | refine vend_tt ?_
    | refine vend_ff ?_
    | refine vend_b ?_
    | refine vend_n ?_
    | refine vend_c ?_
    | (refine vint_f (by (try simp only [C.len, C.isSl, C.stride, true_and, and_true, Int.toNat_natCast, toNat_sub1, toNat_add1, List.length_append, List.length_cons, List.length_nil, List.length_take, List.length_drop, List.length_replicate, List.length_set, List.length_map]) <;> omega) (by (try simp only [C.len, C.isSl, C.stride, true_and, and_true, Int.toNat_natCast, toNat_sub1, toNat_add1, List.length_append, List.length_cons, List.length_nil, List.length_take, List.length_drop, List.length_replicate, List.length_set, List.length_map]) <;> omega) ?_; conv => whnf)
    | (refine vor_r (by omega) ?_; conv => whnf)
    | (refine vor_l (by first | rfl | omega) ?_; conv => whnf)
    | (refine vch_l ?_; conv => whnf)
    | (refine vpre_no ?_; conv => whnf)
  · exact absurd trivial h
  refine vloop1 (fun (_ : Nat) => True) (fun _ => ⟨26, 0, [(0, .nil), (1, .nil), (5, .c (.int .i64 0))], []⟩) (fun _ => 0) 0 trivial (fun _ => Nat.le_refl _) (ent_i [] [] ⟨by repeat first | exact trivial | refine ⟨rfl, ?_⟩, by repeat first | exact trivial | refine ⟨rfl, ?_⟩, rfl, rfl, rfl, rfl, rfl, rfl, rfl⟩) (fun i _ => ?_)
  conv => whnf
  repeat' first
    | (refine vneed_i (by kernel_rfl) ?_; conv => whnf)
    | (refine vneed_i (by (try simp only [C.len, C.isSl, C.stride, true_and, and_true, Int.toNat_natCast, toNat_sub1, toNat_add1, List.length_append, List.length_cons, List.length_nil, List.length_take, List.length_drop, List.length_replicate, List.length_set, List.length_map]) <;> omega) ?_; conv => whnf)
    | (refine vif_i (fun h => ?_) (fun h => ?_) <;> (try simp only [Bool.not_eq_true', Bool.not_eq_false', decide_eq_true_eq, decide_eq_false_iff_not, beq_iff_eq, bne_iff_ne, ne_eq, Bool.not_eq_true, Bool.not_eq_false, bne_eq_false_iff_eq, beq_eq_false_iff_ne] at h) <;> (try simp only [C.len, C.isSl, C.stride, true_and, Int.toNat_natCast, toNat_sub1, toNat_add1] at h) <;> conv => whnf)
    | refine vend_tt ?_
    | refine vend_ff ?_
    | refine vend_b ?_
    | refine vend_n ?_
    | refine vend_c ?_
    | (refine vint_f (by (try simp only [C.len, C.isSl, C.stride, true_and, and_true, Int.toNat_natCast, toNat_sub1, toNat_add1, List.length_append, List.length_cons, List.length_nil, List.length_take, List.length_drop, List.length_replicate, List.length_set, List.length_map]) <;> omega) (by (try simp only [C.len, C.isSl, C.stride, true_and, and_true, Int.toNat_natCast, toNat_sub1, toNat_add1, List.length_append, List.length_cons, List.length_nil, List.length_take, List.length_drop, List.length_replicate, List.length_set, List.length_map]) <;> omega) ?_; conv => whnf)
    | (refine vor_r (by omega) ?_; conv => whnf)
    | (refine vor_l (by first | rfl | omega) ?_; conv => whnf)
    | (refine vch_l ?_; conv => whnf)
    | (refine vpre_no ?_; conv => whnf)
  all_goals first | rfl | (exfalso; omega)
theorem FnExactChainKeys_v (c : List Lk) (hl : c.length ≤ 9223372036854775807) (hk : ∀ l ∈ c, l.keys.length ≤ 9223372036854775807) : Spec Try.prog 5 0 [.c (.lks c)] [] 0 (.c (.bool true)) [] := by
  refine spec_intro (fn := Try.f5) tOk eOk mix _ (by kernel_rfl) (by decide +kernel) rfl rfl rfl ?_
  conv => whnf
  repeat' first
    | (refine vneed_i (by kernel_rfl) ?_; conv => whnf)
    | (refine vneed_i (by (try simp only [C.len, C.isSl, C.stride, true_and, and_true, Int.toNat_natCast, toNat_sub1, toNat_add1, List.length_append, List.length_cons, List.length_nil, List.length_take, List.length_drop, List.length_replicate, List.length_set, List.length_map]) <;> omega) ?_; conv => whnf)
    | (refine vif_i (fun h => ?_) (fun h => ?_) <;> (try simp only [Bool.not_eq_true', Bool.not_eq_false', decide_eq_true_eq, decide_eq_false_iff_not, beq_iff_eq, bne_iff_ne, ne_eq, Bool.not_eq_true, Bool.not_eq_false, bne_eq_false_iff_eq, beq_eq_false_iff_ne] at h) <;> (try simp only [C.len, C.isSl, C.stride, true_and, Int.toNat_natCast, toNat_sub1, toNat_add1] at h) <;> conv => whnf)
    | refine vend_tt ?_
    | refine vend_ff ?_
    | refine vend_b ?_
    | refine vend_n ?_
    | refine vend_c ?_
    | (refine vint_f (by (try simp only [C.len, C.isSl, C.stride, true_and, and_true, Int.toNat_natCast, toNat_sub1, toNat_add1, List.length_append, List.length_cons, List.length_nil, List.length_take, List.length_drop, List.length_replicate, List.length_set, List.length_map]) <;> omega) (by (try simp only [C.len, C.isSl, C.stride, true_and, and_true, Int.toNat_natCast, toNat_sub1, toNat_add1, List.length_append, List.length_cons, List.length_nil, List.length_take, List.length_drop, List.length_replicate, List.length_set, List.length_map]) <;> omega) ?_; conv => whnf)
    | (refine vcall_p (szLinkS_v _ _ hl hk (by decide) (by decide)) rfl rfl ?_; conv => whnf)
    | (refine vor_r (by omega) ?_; conv => whnf)
    | (refine vor_l (by first | rfl | omega) ?_; conv => whnf)
    | (refine vch_l ?_; conv => whnf)
    | (refine vpre_no ?_; conv => whnf)
  · rfl
  have hb := szLS_b h (by decide)
  have hc : cB c := ⟨by omega, fun l hl => by have := hb.2 l hl; omega⟩
  have hml := mlN_snd c.length 0 c 1
  by_cases g : vChain c = true
  · have h64 : (chK c c.length 0).length ≤ 64 := chK_len g
    obtain ⟨xs, hxs⟩ : ∃ xs, chK c c.length 0 = xs := ⟨_, rfl⟩
    have hs := specChainKeys_v c hc g
    have hi := implChainKeys_v c hc g
    rw [hxs] at hs hi h64
    obtain ⟨m1, m2⟩ := mkN_snd xs.length 0 xs 1
    have hheld := heldIntS_v (mkN xs.length 0 xs 1).1 1 (by omega) (by omega) (by omega) (fun j hj => by rw [mkN_get xs.length 0 xs 1 j (by omega) (fun t ht => by omega) (by omega)]; omega)
    rw [m2] at hheld
    repeat' first
      | (refine vneed_i (by kernel_rfl) ?_; conv => whnf)
      | (refine vneed_i (by (try simp only [C.len, C.isSl, C.stride, true_and, and_true, Int.toNat_natCast, toNat_sub1, toNat_add1, List.length_append, List.length_cons, List.length_nil, List.length_take, List.length_drop, List.length_replicate, List.length_set, List.length_map]) <;> omega) ?_; conv => whnf)
      | (refine vif_i (fun h => ?_) (fun h => ?_) <;> (try simp only [Bool.not_eq_true', Bool.not_eq_false', decide_eq_true_eq, decide_eq_false_iff_not, beq_iff_eq, bne_iff_ne, ne_eq, Bool.not_eq_true, Bool.not_eq_false, bne_eq_false_iff_eq, beq_eq_false_iff_ne] at h) <;> (try simp only [C.len, C.isSl, C.stride, true_and, Int.toNat_natCast, toNat_sub1, toNat_add1] at h) <;> conv => whnf)
      | refine vend_tt ?_
      | refine vend_ff ?_
      | refine vend_b ?_
      | refine vend_n ?_
      | refine vend_c ?_
      | (refine vint_f (by (try simp only [C.len, C.isSl, C.stride, true_and, and_true, Int.toNat_natCast, toNat_sub1, toNat_add1, List.length_append, List.length_cons, List.length_nil, List.length_take, List.length_drop, List.length_replicate, List.length_set, List.length_map]) <;> omega) (by (try simp only [C.len, C.isSl, C.stride, true_and, and_true, Int.toNat_natCast, toNat_sub1, toNat_add1, List.length_append, List.length_cons, List.length_nil, List.length_take, List.length_drop, List.length_replicate, List.length_set, List.length_map]) <;> omega) ?_; conv => whnf)
      | (refine vcall_n (toLinkS_d _ hc) rfl rfl rfl rfl ?_; conv => whnf)
      | (refine vcall_n (hs) rfl rfl rfl rfl ?_; conv => whnf)
      | (refine vcall_n (hi) rfl rfl rfl rfl ?_; conv => whnf)
      | (refine vcall_l (eqIntS_v _ (by omega)) rfl rfl rfl ?_; conv => whnf)
      | (refine vcall_l (eqLinkS_v _ hc) rfl rfl rfl ?_; conv => whnf)
      | ((refine vpre_g [.pin 2] ?_; (conv => whnf); fail_if_success (guard_target =~ False)); conv => whnf)
      | ((refine vpre_g [.dp 3, .pin 3] ?_; (conv => whnf); fail_if_success (guard_target =~ False)); conv => whnf)
      | (refine vcall_i [] [2] (markLinkS_v c 1 hb.1 hb.2 (by decide) (by decide)) ⟨rfl, rfl, rfl, (by repeat first | exact trivial | refine ⟨rfl, ?_⟩), ⟨rfl, rfl, rfl, rfl, rfl, rfl⟩, ?_⟩; conv => whnf)
      | (refine vcall_i [] [3] (markIntS_v xs 1 (by omega) (by decide) (by decide)) ⟨rfl, rfl, rfl, (by repeat first | exact trivial | refine ⟨rfl, ?_⟩), ⟨rfl, rfl, rfl, rfl, rfl, rfl⟩, ?_⟩; conv => whnf)
      | (refine vcall_l (hheld) rfl rfl rfl ?_; conv => whnf)
      | (refine vor_r (by omega) ?_; conv => whnf)
      | (refine vor_l (by first | rfl | omega) ?_; conv => whnf)
      | (refine vch_l ?_; conv => whnf)
      | (refine vpre_no ?_; conv => whnf)
    all_goals first | rfl | (exfalso; omega) | (cases h; done) | exact absurd trivial h | exact absurd rfl h
  · rw [Bool.not_eq_true] at g
    have hs := specChainKeys_no c hc g
    have hi := implChainKeys_no c hc g
    repeat' first
      | (refine vneed_i (by kernel_rfl) ?_; conv => whnf)
      | (refine vneed_i (by (try simp only [C.len, C.isSl, C.stride, true_and, and_true, Int.toNat_natCast, toNat_sub1, toNat_add1, List.length_append, List.length_cons, List.length_nil, List.length_take, List.length_drop, List.length_replicate, List.length_set, List.length_map]) <;> omega) ?_; conv => whnf)
      | (refine vif_i (fun h => ?_) (fun h => ?_) <;> (try simp only [Bool.not_eq_true', Bool.not_eq_false', decide_eq_true_eq, decide_eq_false_iff_not, beq_iff_eq, bne_iff_ne, ne_eq, Bool.not_eq_true, Bool.not_eq_false, bne_eq_false_iff_eq, beq_eq_false_iff_ne] at h) <;> (try simp only [C.len, C.isSl, C.stride, true_and, Int.toNat_natCast, toNat_sub1, toNat_add1] at h) <;> conv => whnf)
      | refine vend_tt ?_
      | refine vend_ff ?_
      | refine vend_b ?_
      | refine vend_n ?_
      | refine vend_c ?_
      | (refine vint_f (by (try simp only [C.len, C.isSl, C.stride, true_and, and_true, Int.toNat_natCast, toNat_sub1, toNat_add1, List.length_append, List.length_cons, List.length_nil, List.length_take, List.length_drop, List.length_replicate, List.length_set, List.length_map]) <;> omega) (by (try simp only [C.len, C.isSl, C.stride, true_and, and_true, Int.toNat_natCast, toNat_sub1, toNat_add1, List.length_append, List.length_cons, List.length_nil, List.length_take, List.length_drop, List.length_replicate, List.length_set, List.length_map]) <;> omega) ?_; conv => whnf)
      | (refine vcall_n (toLinkS_d _ hc) rfl rfl rfl rfl ?_; conv => whnf)
      | (refine vcall_n (hs) rfl rfl rfl rfl ?_; conv => whnf)
      | (refine vcall_n (hi) rfl rfl rfl rfl ?_; conv => whnf)
      | (refine vcall_p (eqIntS_nil) rfl rfl ?_; conv => whnf)
      | (refine vcall_l (eqLinkS_v _ hc) rfl rfl rfl ?_; conv => whnf)
      | ((refine vpre_g [.pin 1] ?_; (conv => whnf); fail_if_success (guard_target =~ False)); conv => whnf)
      | (refine vcall_i [] [1] (markLinkS_v c 1 hb.1 hb.2 (by decide) (by decide)) ⟨rfl, rfl, rfl, (by repeat first | exact trivial | refine ⟨rfl, ?_⟩), ⟨rfl, rfl, rfl, rfl, rfl, rfl⟩, ?_⟩; conv => whnf)
      | (refine vcall_p (markIntS_nil _) rfl rfl ?_; conv => whnf)
      | (refine vcall_p (heldIntS_nil _) rfl rfl ?_; conv => whnf)
      | (refine vor_r (by omega) ?_; conv => whnf)
      | (refine vor_l (by first | rfl | omega) ?_; conv => whnf)
      | (refine vch_l ?_; conv => whnf)
      | (refine vpre_no ?_; conv => whnf)
    all_goals first | rfl | (exfalso; omega) | (cases h; done) | exact absurd trivial h | exact absurd rfl h | trace_state
end Go.VL
