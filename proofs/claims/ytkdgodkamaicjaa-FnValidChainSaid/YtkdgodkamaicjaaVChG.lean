import Derived.Test.YtkdgodkamaicjaaVMathAll
import Derived.Test.YtkdgodkamaicjaaVChF
namespace Go.VL
open Go.Proofs
set_option maxRecDepth 10000
set_option linter.unusedSimpArgs false
set_option linter.unusedVariables false
theorem moveRight_v (c : List Lk) (hc : c.length ≤ 4294967296) (q : List Int) (p : Path c q) (at_ n : Int) (h0 : 0 ≤ at_) (h1 : at_ < c.length) (hn : n ≤ 99) : Spec Try.prog 27 0 [.c (.lks c), .c (.int .i64 at_), .c (.int .i64 n)] [] 0 (.c (.int .i64 (mvR c n c.length at_))) [] := by
  obtain ⟨V, hV⟩ : ∃ V, mvR c n c.length at_ = V := ⟨_, rfl⟩
  rw [hV]
  obtain ⟨i0, hi0, rfl⟩ := p.all at_ h0 h1
  refine spec_intro (fn := Try.f27) tOk eOk mix _ (by kernel_rfl) (by decide +kernel) rfl rfl rfl ?_
  conv => whnf
  refine vloop2 (fun (i f : Nat) => i < c.length ∧ c.length - i ≤ f ∧ mvR c n f (q.getD i 0) = V)
    (fun i f => ⟨20, 0, [(0, .c (.lks c)), (1, .c (.int .i64 (q.getD i 0))), (2, .c (.int .i64 n))], []⟩) (fun i f => c.length - i) i0 c.length ⟨hi0, by omega, hV⟩ (fun _ _ => Nat.zero_le _) (ent_0 (by repeat first | exact trivial | refine ⟨rfl, ?_⟩) rfl rfl rfl rfl) (fun i f hi => ?_)
  obtain ⟨h2, h3, hs⟩ := hi
  obtain ⟨f, rfl⟩ : ∃ f', f = f' + 1 := ⟨f - 1, by omega⟩
  have hr := p.rng i h2
  unfold mvR at hs
  conv => whnf
  repeat' first
    | (refine vneed_i (by kernel_rfl) ?_; conv => whnf)
    | (refine vneed_i (by (try simp only [C.len, C.isSl, C.stride, true_and, and_true, Int.toNat_natCast, toNat_sub1, toNat_add1, List.length_append, List.length_cons, List.length_nil, List.length_take, List.length_drop, List.length_replicate, List.length_set, List.length_map]) <;> omega) ?_; conv => whnf)
    | (refine vif_i (fun h => ?_) (fun h => ?_) <;> (try simp only [Bool.not_eq_true', Bool.not_eq_false', decide_eq_true_eq, decide_eq_false_iff_not, beq_iff_eq, bne_iff_ne, ne_eq, Bool.not_eq_true, Bool.not_eq_false, bne_eq_false_iff_eq, beq_eq_false_iff_ne] at h) <;> (try simp only [C.len, C.isSl, C.stride, true_and, Int.toNat_natCast, toNat_sub1, toNat_add1] at h) <;> conv => whnf)
    | refine vend_tt ?_
    | refine vend_ff ?_
    | refine vend_b ?_
    | refine vend_n ?_
    | refine vend_c ?_
    | (refine vint_f (by (try simp only [C.len, C.isSl, C.stride, true_and, and_true, Int.toNat_natCast, toNat_sub1, toNat_add1, List.length_append, List.length_cons, List.length_nil, List.length_take, List.length_drop, List.length_replicate, List.length_set, List.length_map]) <;> omega) (by (try simp only [C.len, C.isSl, C.stride, true_and, and_true, Int.toNat_natCast, toNat_sub1, toNat_add1, List.length_append, List.length_cons, List.length_nil, List.length_take, List.length_drop, List.length_replicate, List.length_set, List.length_map]) <;> omega) ?_; conv => whnf)
    | (refine vor_r (by omega) ?_; conv => whnf)
    | (refine vor_l (by first | rfl | omega) ?_; conv => whnf)
    | (refine vch_l ?_; conv => whnf)
    | (refine vpre_no ?_; conv => whnf)
  · obtain ⟨h4, h5⟩ := p.mv hn h2 (by omega)
    rw [if_pos (by omega)] at hs
    rw [h5] at hs ⊢
    refine ⟨⟨(i + 1, f), ?_⟩, (ent_0 (by repeat first | exact trivial | refine ⟨rfl, ?_⟩) rfl rfl rfl rfl), by dsimp only; omega⟩; (try dsimp only)
    exact ⟨h4, by omega, hs⟩
  · rw [if_neg (by omega)] at hs
    exact hs
def findL (c : List Lk) (at_ n : Int) : Int := if vChain c = false then -1 else if ¬ (0 ≤ at_ ∧ at_ ≤ (c.length : Int) - 1) then -1 else if ¬ (0 ≤ n ∧ n ≤ 99) then -1 else mvR c n c.length at_
theorem specFindLink_v (c : List Lk) (hc : cB c) (at_ n : Int) : Spec Try.prog 12 0 [.c (.lks c), .c (.int .i64 at_), .c (.int .i64 n)] [] 0 (.c (.int .i64 (findL c at_ n))) [] := by
  have hcl := hc.1
  unfold findL
  refine spec_intro (fn := Try.f12) tOk eOk mix _ (by kernel_rfl) (by decide +kernel) rfl rfl rfl ?_
  conv => whnf
  repeat' first
    | (refine vneed_i (by kernel_rfl) ?_; conv => whnf)
    | (refine vneed_i (by (try simp only [C.len, C.isSl, C.stride, true_and, and_true, Int.toNat_natCast, toNat_sub1, toNat_add1, List.length_append, List.length_cons, List.length_nil, List.length_take, List.length_drop, List.length_replicate, List.length_set, List.length_map]) <;> omega) ?_; conv => whnf)
    | (refine vif_i (fun h => ?_) (fun h => ?_) <;> (try simp only [Bool.not_eq_true', Bool.not_eq_false', decide_eq_true_eq, decide_eq_false_iff_not, beq_iff_eq, bne_iff_ne, ne_eq, Bool.not_eq_true, Bool.not_eq_false, bne_eq_false_iff_eq, beq_eq_false_iff_ne] at h) <;> (try simp only [C.len, C.isSl, C.stride, true_and, Int.toNat_natCast, toNat_sub1, toNat_add1] at h) <;> conv => whnf)
    | refine vend_tt ?_
    | refine vend_ff ?_
    | refine vend_b ?_
    | refine vend_n ?_
    | refine vend_c ?_
    | (refine vint_f (by (try simp only [C.len, C.isSl, C.stride, true_and, and_true, Int.toNat_natCast, toNat_sub1, toNat_add1, List.length_append, List.length_cons, List.length_nil, List.length_take, List.length_drop, List.length_replicate, List.length_set, List.length_map]) <;> omega) (by (try simp only [C.len, C.isSl, C.stride, true_and, and_true, Int.toNat_natCast, toNat_sub1, toNat_add1, List.length_append, List.length_cons, List.length_nil, List.length_take, List.length_drop, List.length_replicate, List.length_set, List.length_map]) <;> omega) ?_; conv => whnf)
    | (refine vcall_p (validChain_v _ hc) rfl rfl ?_; conv => whnf)
    | (refine vcall_p (inRange_v _ _ _) rfl rfl ?_; conv => whnf)
    | (refine vor_r (by omega) ?_; conv => whnf)
    | (refine vor_l (by first | rfl | omega) ?_; conv => whnf)
    | (refine vch_l ?_; conv => whnf)
    | (refine vpre_no ?_; conv => whnf)
  · (repeat first | rw [if_pos (by assumption)] | rw [if_neg (by assumption)] | rw [if_neg (by rw [Bool.not_eq_true]; assumption)] | rw [if_neg (by rw [Bool.not_eq_false]; assumption)] | rw [if_pos (by omega)] | rw [if_neg (by omega)])
  · (repeat first | rw [if_pos (by assumption)] | rw [if_neg (by assumption)] | rw [if_neg (by rw [Bool.not_eq_true]; assumption)] | rw [if_neg (by rw [Bool.not_eq_false]; assumption)] | rw [if_pos (by omega)] | rw [if_neg (by omega)])
  · (repeat first | rw [if_pos (by assumption)] | rw [if_neg (by assumption)] | rw [if_neg (by rw [Bool.not_eq_true]; assumption)] | rw [if_neg (by rw [Bool.not_eq_false]; assumption)] | rw [if_pos (by omega)] | rw [if_neg (by omega)])
  rename_i g1 g2
  have g3 := h
  obtain ⟨q, p⟩ := path_of c g1
  repeat' first
    | (refine vneed_i (by kernel_rfl) ?_; conv => whnf)
    | (refine vneed_i (by (try simp only [C.len, C.isSl, C.stride, true_and, and_true, Int.toNat_natCast, toNat_sub1, toNat_add1, List.length_append, List.length_cons, List.length_nil, List.length_take, List.length_drop, List.length_replicate, List.length_set, List.length_map]) <;> omega) ?_; conv => whnf)
    | (refine vif_i (fun h => ?_) (fun h => ?_) <;> (try simp only [Bool.not_eq_true', Bool.not_eq_false', decide_eq_true_eq, decide_eq_false_iff_not, beq_iff_eq, bne_iff_ne, ne_eq, Bool.not_eq_true, Bool.not_eq_false, bne_eq_false_iff_eq, beq_eq_false_iff_ne] at h) <;> (try simp only [C.len, C.isSl, C.stride, true_and, Int.toNat_natCast, toNat_sub1, toNat_add1] at h) <;> conv => whnf)
    | refine vend_tt ?_
    | refine vend_ff ?_
    | refine vend_b ?_
    | refine vend_n ?_
    | refine vend_c ?_
    | (refine vint_f (by (try simp only [C.len, C.isSl, C.stride, true_and, and_true, Int.toNat_natCast, toNat_sub1, toNat_add1, List.length_append, List.length_cons, List.length_nil, List.length_take, List.length_drop, List.length_replicate, List.length_set, List.length_map]) <;> omega) (by (try simp only [C.len, C.isSl, C.stride, true_and, and_true, Int.toNat_natCast, toNat_sub1, toNat_add1, List.length_append, List.length_cons, List.length_nil, List.length_take, List.length_drop, List.length_replicate, List.length_set, List.length_map]) <;> omega) ?_; conv => whnf)
    | (refine vcall_p (moveRight_v c hcl q p _ _ g2.1 (by omega) g3.2) rfl rfl ?_; conv => whnf)
    | (refine vor_r (by omega) ?_; conv => whnf)
    | (refine vor_l (by first | rfl | omega) ?_; conv => whnf)
    | (refine vch_l ?_; conv => whnf)
    | (refine vpre_no ?_; conv => whnf)
  (repeat first | rw [if_pos (by assumption)] | rw [if_neg (by assumption)] | rw [if_neg (by rw [Bool.not_eq_true]; assumption)] | rw [if_neg (by rw [Bool.not_eq_false]; assumption)] | rw [if_pos (by omega)] | rw [if_neg (by omega)])
theorem FindLink_v (c : List Lk) (hc : cB c) (at_ n : Int) : Spec Try.prog 13 0 [.c (.lks c), .c (.int .i64 at_), .c (.int .i64 n)] [] 0 (.c (.int .i64 (findL c at_ n))) [] := by
  have hcl := hc.1
  obtain ⟨V, hV⟩ : ∃ V, findL c at_ n = V := ⟨_, rfl⟩
  rw [hV]
  unfold findL at hV
  refine spec_intro (fn := Try.f13) tOk eOk mix _ (by kernel_rfl) (by decide +kernel) rfl rfl rfl ?_
  conv => whnf
  repeat' first
    | (refine vneed_i (by kernel_rfl) ?_; conv => whnf)
    | (refine vneed_i (by (try simp only [C.len, C.isSl, C.stride, true_and, and_true, Int.toNat_natCast, toNat_sub1, toNat_add1, List.length_append, List.length_cons, List.length_nil, List.length_take, List.length_drop, List.length_replicate, List.length_set, List.length_map]) <;> omega) ?_; conv => whnf)
    | (refine vif_i (fun h => ?_) (fun h => ?_) <;> (try simp only [Bool.not_eq_true', Bool.not_eq_false', decide_eq_true_eq, decide_eq_false_iff_not, beq_iff_eq, bne_iff_ne, ne_eq, Bool.not_eq_true, Bool.not_eq_false, bne_eq_false_iff_eq, beq_eq_false_iff_ne] at h) <;> (try simp only [C.len, C.isSl, C.stride, true_and, Int.toNat_natCast, toNat_sub1, toNat_add1] at h) <;> conv => whnf)
    | refine vend_tt ?_
    | refine vend_ff ?_
    | refine vend_b ?_
    | refine vend_n ?_
    | refine vend_c ?_
    | (refine vint_f (by (try simp only [C.len, C.isSl, C.stride, true_and, and_true, Int.toNat_natCast, toNat_sub1, toNat_add1, List.length_append, List.length_cons, List.length_nil, List.length_take, List.length_drop, List.length_replicate, List.length_set, List.length_map]) <;> omega) (by (try simp only [C.len, C.isSl, C.stride, true_and, and_true, Int.toNat_natCast, toNat_sub1, toNat_add1, List.length_append, List.length_cons, List.length_nil, List.length_take, List.length_drop, List.length_replicate, List.length_set, List.length_map]) <;> omega) ?_; conv => whnf)
    | (refine vcall_p (ValidChain_v _ hc) rfl rfl ?_; conv => whnf)
    | (refine vcall_p (isKey_v _) rfl rfl ?_; conv => whnf)
    | (refine vor_r (by omega) ?_; conv => whnf)
    | (refine vor_l (by first | rfl | omega) ?_; conv => whnf)
    | (refine vch_l ?_; conv => whnf)
    | (refine vpre_no ?_; conv => whnf)
  · rw [← hV]; (repeat first | rw [if_pos (by assumption)] | rw [if_neg (by assumption)] | rw [if_neg (by rw [Bool.not_eq_true]; assumption)] | rw [if_neg (by rw [Bool.not_eq_false]; assumption)] | rw [if_pos (by omega)] | rw [if_neg (by omega)])
  · rw [← hV]; (repeat first | rw [if_pos (by assumption)] | rw [if_neg (by assumption)] | rw [if_neg (by rw [Bool.not_eq_true]; assumption)] | rw [if_neg (by rw [Bool.not_eq_false]; assumption)] | rw [if_pos (by omega)] | rw [if_neg (by omega)])
  · rw [← hV]; (repeat first | rw [if_pos (by assumption)] | rw [if_neg (by assumption)] | rw [if_neg (by rw [Bool.not_eq_true]; assumption)] | rw [if_neg (by rw [Bool.not_eq_false]; assumption)] | rw [if_pos (by omega)] | rw [if_neg (by omega)])
  · rw [← hV]; (repeat first | rw [if_pos (by assumption)] | rw [if_neg (by assumption)] | rw [if_neg (by rw [Bool.not_eq_true]; assumption)] | rw [if_neg (by rw [Bool.not_eq_false]; assumption)] | rw [if_pos (by omega)] | rw [if_neg (by omega)])
  rename_i g1 g2 g3
  have g4 := h
  obtain ⟨q, p⟩ := path_of c g1
  rw [if_neg (by rw [g1]; decide), if_neg (by omega), if_neg (by omega)] at hV
  obtain ⟨i0, hi0, rfl⟩ := p.all at_ (by omega) (by omega)
  have hn : n ≤ 99 := g4.2
  refine vloop2 (fun (i f : Nat) => i < c.length ∧ c.length - i ≤ f ∧ mvR c n f (q.getD i 0) = V)
    (fun i f => ⟨42, 0, [(0, .c (.lks c)), (1, .c (.int .i64 (q.getD i 0))), (2, .c (.int .i64 n))], []⟩) (fun i f => c.length - i) i0 c.length ⟨hi0, by omega, hV⟩ (fun _ _ => Nat.zero_le _) (ent_0 (by repeat first | exact trivial | refine ⟨rfl, ?_⟩) rfl rfl rfl rfl) (fun i f hi => ?_)
  obtain ⟨h2, h3, hs⟩ := hi
  obtain ⟨f, rfl⟩ : ∃ f', f = f' + 1 := ⟨f - 1, by omega⟩
  have hr := p.rng i h2
  unfold mvR at hs
  conv => whnf
  repeat' first
    | (refine vneed_i (by kernel_rfl) ?_; conv => whnf)
    | (refine vneed_i (by (try simp only [C.len, C.isSl, C.stride, true_and, and_true, Int.toNat_natCast, toNat_sub1, toNat_add1, List.length_append, List.length_cons, List.length_nil, List.length_take, List.length_drop, List.length_replicate, List.length_set, List.length_map]) <;> omega) ?_; conv => whnf)
    | (refine vif_i (fun h => ?_) (fun h => ?_) <;> (try simp only [Bool.not_eq_true', Bool.not_eq_false', decide_eq_true_eq, decide_eq_false_iff_not, beq_iff_eq, bne_iff_ne, ne_eq, Bool.not_eq_true, Bool.not_eq_false, bne_eq_false_iff_eq, beq_eq_false_iff_ne] at h) <;> (try simp only [C.len, C.isSl, C.stride, true_and, Int.toNat_natCast, toNat_sub1, toNat_add1] at h) <;> conv => whnf)
    | refine vend_tt ?_
    | refine vend_ff ?_
    | refine vend_b ?_
    | refine vend_n ?_
    | refine vend_c ?_
    | (refine vint_f (by (try simp only [C.len, C.isSl, C.stride, true_and, and_true, Int.toNat_natCast, toNat_sub1, toNat_add1, List.length_append, List.length_cons, List.length_nil, List.length_take, List.length_drop, List.length_replicate, List.length_set, List.length_map]) <;> omega) (by (try simp only [C.len, C.isSl, C.stride, true_and, and_true, Int.toNat_natCast, toNat_sub1, toNat_add1, List.length_append, List.length_cons, List.length_nil, List.length_take, List.length_drop, List.length_replicate, List.length_set, List.length_map]) <;> omega) ?_; conv => whnf)
    | (refine vor_r (by omega) ?_; conv => whnf)
    | (refine vor_l (by first | rfl | omega) ?_; conv => whnf)
    | (refine vch_l ?_; conv => whnf)
    | (refine vpre_no ?_; conv => whnf)
  · obtain ⟨h4, h5⟩ := p.mv hn h2 (by omega)
    rw [if_pos (by omega)] at hs
    rw [h5] at hs ⊢
    refine ⟨⟨(i + 1, f), ?_⟩, (ent_0 (by repeat first | exact trivial | refine ⟨rfl, ?_⟩) rfl rfl rfl rfl), by dsimp only; omega⟩; (try dsimp only)
    exact ⟨h4, by omega, hs⟩
  · rw [if_neg (by omega)] at hs
    exact hs
  · omega
theorem FnExactFindLink_v (c : List Lk) (at_ n : Int) (hl : c.length ≤ 9223372036854775807) (hk : ∀ l ∈ c, l.keys.length ≤ 9223372036854775807) : Spec Try.prog 4 0 [.c (.lks c), .c (.int .i64 at_), .c (.int .i64 n)] [] 0 (.c (.bool true)) [] := by
  refine spec_intro (fn := Try.f4) tOk eOk mix _ (by kernel_rfl) (by decide +kernel) rfl rfl rfl ?_
  conv => whnf
  repeat' first
    | (refine vneed_i (by kernel_rfl) ?_; conv => whnf)
    | (refine vneed_i (by (try simp only [C.len, C.isSl, C.stride, true_and, and_true, Int.toNat_natCast, toNat_sub1, toNat_add1, List.length_append, List.length_cons, List.length_nil, List.length_take, List.length_drop, List.length_replicate, List.length_set, List.length_map]) <;> omega) ?_; conv => whnf)
    | (refine vif_i (fun h => ?_) (fun h => ?_) <;> (try simp only [Bool.not_eq_true', Bool.not_eq_false', decide_eq_true_eq, decide_eq_false_iff_not, beq_iff_eq, bne_iff_ne, ne_eq, Bool.not_eq_true, Bool.not_eq_false, bne_eq_false_iff_eq, beq_eq_false_iff_ne] at h) <;> (try simp only [C.len, C.isSl, C.stride, true_and, Int.toNat_natCast, toNat_sub1, toNat_add1] at h) <;> conv => whnf)
    | refine vend_tt ?_
    | refine vend_ff ?_
    | refine vend_b ?_
    | refine vend_n ?_
    | refine vend_c ?_
    | (refine vint_f (by (try simp only [C.len, C.isSl, C.stride, true_and, and_true, Int.toNat_natCast, toNat_sub1, toNat_add1, List.length_append, List.length_cons, List.length_nil, List.length_take, List.length_drop, List.length_replicate, List.length_set, List.length_map]) <;> omega) (by (try simp only [C.len, C.isSl, C.stride, true_and, and_true, Int.toNat_natCast, toNat_sub1, toNat_add1, List.length_append, List.length_cons, List.length_nil, List.length_take, List.length_drop, List.length_replicate, List.length_set, List.length_map]) <;> omega) ?_; conv => whnf)
    | (refine vcall_p (szLinkS_v _ _ hl hk (by decide) (by decide)) rfl rfl ?_; conv => whnf)
    | (refine vor_r (by omega) ?_; conv => whnf)
    | (refine vor_l (by first | rfl | omega) ?_; conv => whnf)
    | (refine vch_l ?_; conv => whnf)
    | (refine vpre_no ?_; conv => whnf)
  · rfl
  have hb := szLS_b h (by decide)
  have hc : cB c := ⟨by omega, fun l hl => by have := hb.2 l hl; omega⟩
  clear hb
  repeat' first
    | (refine vneed_i (by kernel_rfl) ?_; conv => whnf)
    | (refine vneed_i (by (try simp only [C.len, C.isSl, C.stride, true_and, and_true, Int.toNat_natCast, toNat_sub1, toNat_add1, List.length_append, List.length_cons, List.length_nil, List.length_take, List.length_drop, List.length_replicate, List.length_set, List.length_map]) <;> omega) ?_; conv => whnf)
    | (refine vif_i (fun h => ?_) (fun h => ?_) <;> (try simp only [Bool.not_eq_true', Bool.not_eq_false', decide_eq_true_eq, decide_eq_false_iff_not, beq_iff_eq, bne_iff_ne, ne_eq, Bool.not_eq_true, Bool.not_eq_false, bne_eq_false_iff_eq, beq_eq_false_iff_ne] at h) <;> (try simp only [C.len, C.isSl, C.stride, true_and, Int.toNat_natCast, toNat_sub1, toNat_add1] at h) <;> conv => whnf)
    | refine vend_tt ?_
    | refine vend_ff ?_
    | refine vend_b ?_
    | refine vend_n ?_
    | refine vend_c ?_
    | (refine vint_f (by (try simp only [C.len, C.isSl, C.stride, true_and, and_true, Int.toNat_natCast, toNat_sub1, toNat_add1, List.length_append, List.length_cons, List.length_nil, List.length_take, List.length_drop, List.length_replicate, List.length_set, List.length_map]) <;> omega) (by (try simp only [C.len, C.isSl, C.stride, true_and, and_true, Int.toNat_natCast, toNat_sub1, toNat_add1, List.length_append, List.length_cons, List.length_nil, List.length_take, List.length_drop, List.length_replicate, List.length_set, List.length_map]) <;> omega) ?_; conv => whnf)
    | (refine vcall_a (toLinkS_v _ hc) rfl ?_; conv => whnf)
    | (refine vcall_l (specFindLink_v _ hc _ _) rfl rfl rfl ?_; conv => whnf)
    | (refine vcall_l (FindLink_v _ hc _ _) rfl rfl rfl ?_; conv => whnf)
    | (refine vcall_l (eqLinkS_v _ hc) rfl rfl rfl ?_; conv => whnf)
    | (refine vor_r (by omega) ?_; conv => whnf)
    | (refine vor_l (by first | rfl | omega) ?_; conv => whnf)
    | (refine vch_l ?_; conv => whnf)
    | (refine vpre_no ?_; conv => whnf)
  · exact absurd trivial h
  · cases h
  · rfl
end Go.VL
