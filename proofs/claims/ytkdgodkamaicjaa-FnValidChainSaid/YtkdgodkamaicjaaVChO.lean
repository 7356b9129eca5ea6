import Derived.Test.YtkdgodkamaicjaaVChN
namespace Go.VL
open Go.Proofs
set_option maxRecDepth 10000
set_option linter.unusedSimpArgs false
set_option linter.unusedVariables false
theorem keys_le {c : List Lk} {m : Nat} (h : ∀ l ∈ c, l.keys.length ≤ m) (i : Nat) : (c.getD i ⟨[], 0, 0⟩).keys.length ≤ m := by
  by_cases hi : i < c.length
  · have : c.getD i ⟨[], 0, 0⟩ = c[i] := by simp [List.getD, hi]
    rw [this]; exact h _ (List.getElem_mem hi)
  · have : c.getD i ⟨[], 0, 0⟩ = ⟨[], 0, 0⟩ := by simp [List.getD, List.getElem?_eq_none (Nat.le_of_not_lt hi)]
    rw [this]; exact Nat.zero_le _
def insK (xs : List Int) (n : Int) : List Int := if insOk xs n = true then xs.take (belF xs n) ++ [n] ++ xs.drop (belF xs n) else []
def setK (c : List Lk) (i : Nat) (ks : List Int) : List Lk := c.set i ⟨ks, (c.getD i ⟨[], 0, 0⟩).high, (c.getD i ⟨[], 0, 0⟩).right⟩
def putF (c : List Lk) (n : Int) : Option (List Lk) :=
  if vChain c = true ∧ 0 ≤ n ∧ n ≤ 99 then
    if (c.getD (mvR c n c.length 0).toNat ⟨[], 0, 0⟩).keys.contains n = true then some c
    else if ((c.getD (mvR c n c.length 0).toNat ⟨[], 0, 0⟩).keys.length : Int) = 4 then
      if splOk c (mvR c n c.length 0) = true then
        some (setK (splF c (mvR c n c.length 0).toNat (splH c (mvR c n c.length 0)).toNat)
          (mvR (splF c (mvR c n c.length 0).toNat (splH c (mvR c n c.length 0)).toNat) n (splF c (mvR c n c.length 0).toNat (splH c (mvR c n c.length 0)).toNat).length (mvR c n c.length 0)).toNat
          (insK ((splF c (mvR c n c.length 0).toNat (splH c (mvR c n c.length 0)).toNat).getD (mvR (splF c (mvR c n c.length 0).toNat (splH c (mvR c n c.length 0)).toNat) n (splF c (mvR c n c.length 0).toNat (splH c (mvR c n c.length 0)).toNat).length (mvR c n c.length 0)).toNat ⟨[], 0, 0⟩).keys n))
      else none
    else some (setK c (mvR c n c.length 0).toNat (insK (c.getD (mvR c n c.length 0).toNat ⟨[], 0, 0⟩).keys n))
  else none
theorem set_self {c : List Lk} {i : Nat} : c.set i ⟨(c.getD i ⟨[], 0, 0⟩).keys, (c.getD i ⟨[], 0, 0⟩).high, (c.getD i ⟨[], 0, 0⟩).right⟩ = c := by
  apply List.ext_getElem?
  intro j
  rw [List.getElem?_set]
  split
  · rename_i h
    subst h
    split
    · rename_i h2; simp [List.getD, h2]
    · rename_i h2; exact (List.getElem?_eq_none (Nat.le_of_not_lt h2)).symm
  · rfl
theorem splF_keys {c : List Lk} {m i h : Nat} (hk : ∀ l ∈ c, l.keys.length ≤ m) : ∀ l ∈ splF c i h, l.keys.length ≤ m := by
  have h1 := keys_le hk i
  intro l hl
  unfold splF at hl
  rcases List.mem_append.1 hl with hl | hl
  · rcases List.mem_or_eq_of_mem_set hl with hl | hl
    · exact hk l hl
    · rw [hl]; simp only [List.length_take]; omega
  · rw [List.mem_singleton] at hl; rw [hl]; simp only [List.length_drop]; omega
theorem PutLink_a (c : List Lk) (hc : cB c) (hk : ∀ l ∈ c, l.keys.length ≤ 1000) (n a : Int) (g1 : vChain c = true) (g2 : 0 ≤ n ∧ n ≤ 99) (ha : mvR c n c.length 0 = a) (g3 : (c.getD a.toNat ⟨[], 0, 0⟩).keys.contains n = true) :
    Spec Try.prog 37 0 [.c (.lks c), .c (.int .i64 n)] [] 1 (.tup [.slc 0, .c (.bool true)]) [(0, .deep false 0 (.lks c) [])] := by
  have hcl := hc.1
  have hkk := keys_le hk a.toNat
  obtain ⟨q, p⟩ := path_of c g1
  have hr := mvR_rng p g2.2 c.length 0 p.one (Nat.le_refl _)
  rw [p.first, ha] at hr
  have hmv := moveRight_v c (by omega) q p 0 n (by omega) (by have := p.one; omega) g2.2
  rw [ha] at hmv
  refine spec_intro (fn := Try.f37) tOk eOk mix _ (by kernel_rfl) (by decide +kernel) rfl rfl rfl ?_
  conv => whnf
  repeat' first
    | (refine vneed_i (by kernel_rfl) ?_; conv => whnf)
    | (refine vneed_i (by (try simp only [C.len, C.isSl, C.stride, true_and, and_true, Int.toNat_natCast, toNat_sub1, toNat_add1, List.length_append, List.length_cons, List.length_nil, List.length_take, List.length_drop, List.length_replicate, List.length_set, List.length_map]) <;> omega) ?_; conv => whnf)
    | (refine vif_i (fun h => ?_) (fun h => ?_) <;> (try simp only [Bool.not_eq_true', Bool.not_eq_false', decide_eq_true_eq, decide_eq_false_iff_not, beq_iff_eq, bne_iff_ne, ne_eq, Bool.not_eq_true, Bool.not_eq_false, bne_eq_false_iff_eq, beq_eq_false_iff_ne] at h) <;> (try simp only [C.len, C.isSl, C.stride, true_and, Int.toNat_natCast, toNat_sub1, toNat_add1] at h) <;> conv => whnf)
    | refine vend_tt ?_
    | refine vend_ff ?_
    | refine vend_b ?_
    | refine vend_n ?_
    | refine vend_c ?_
    | (refine vint_f (by (try simp only [C.len, C.isSl, C.stride, true_and, and_true, Int.toNat_natCast, toNat_sub1, toNat_add1, List.length_append, List.length_cons, List.length_nil, List.length_take, List.length_drop, List.length_replicate, List.length_set, List.length_map]) <;> omega) (by (try simp only [C.len, C.isSl, C.stride, true_and, and_true, Int.toNat_natCast, toNat_sub1, toNat_add1, List.length_append, List.length_cons, List.length_nil, List.length_take, List.length_drop, List.length_replicate, List.length_set, List.length_map]) <;> omega) ?_; conv => whnf)
    | (refine vcall_p (validChain_v _ hc) rfl rfl ?_; conv => whnf)
    | (refine vcall_p (inRange_v _ _ _) rfl rfl ?_; conv => whnf)
    | (refine vcall_n (copyChain_d _ hc) rfl rfl rfl rfl ?_; conv => whnf)
    | (refine vcall_l (hmv) rfl rfl rfl ?_; conv => whnf)
    | (refine vcall_l (isIn_v _ _ (by omega)) rfl rfl rfl ?_; conv => whnf)
    | (refine vor_r (by omega) ?_; conv => whnf)
    | (refine vor_l (by first | rfl | omega) ?_; conv => whnf)
  all_goals first | (rw [g1] at h; cases h) | (exact absurd g2 h) | skip
  refine vpre_no ?_
  conv => whnf
  repeat' first
    | (refine vneed_i (by kernel_rfl) ?_; conv => whnf)
    | (refine vneed_i (by (try simp only [C.len, C.isSl, C.stride, true_and, and_true, Int.toNat_natCast, toNat_sub1, toNat_add1, List.length_append, List.length_cons, List.length_nil, List.length_take, List.length_drop, List.length_replicate, List.length_set, List.length_map]) <;> omega) ?_; conv => whnf)
    | (refine vif_i (fun h => ?_) (fun h => ?_) <;> (try simp only [Bool.not_eq_true', Bool.not_eq_false', decide_eq_true_eq, decide_eq_false_iff_not, beq_iff_eq, bne_iff_ne, ne_eq, Bool.not_eq_true, Bool.not_eq_false, bne_eq_false_iff_eq, beq_eq_false_iff_ne] at h) <;> (try simp only [C.len, C.isSl, C.stride, true_and, Int.toNat_natCast, toNat_sub1, toNat_add1] at h) <;> conv => whnf)
    | refine vend_tt ?_
    | refine vend_ff ?_
    | refine vend_b ?_
    | refine vend_n ?_
    | refine vend_c ?_
    | (refine vint_f (by (try simp only [C.len, C.isSl, C.stride, true_and, and_true, Int.toNat_natCast, toNat_sub1, toNat_add1, List.length_append, List.length_cons, List.length_nil, List.length_take, List.length_drop, List.length_replicate, List.length_set, List.length_map]) <;> omega) (by (try simp only [C.len, C.isSl, C.stride, true_and, and_true, Int.toNat_natCast, toNat_sub1, toNat_add1, List.length_append, List.length_cons, List.length_nil, List.length_take, List.length_drop, List.length_replicate, List.length_set, List.length_map]) <;> omega) ?_; conv => whnf)
    | (refine vcall_p (validChain_v _ hc) rfl rfl ?_; conv => whnf)
    | (refine vcall_p (inRange_v _ _ _) rfl rfl ?_; conv => whnf)
    | (refine vcall_n (copyChain_d _ hc) rfl rfl rfl rfl ?_; conv => whnf)
    | (refine vcall_l (hmv) rfl rfl rfl ?_; conv => whnf)
    | (refine vcall_l (isIn_v _ _ (by omega)) rfl rfl rfl ?_; conv => whnf)
    | (refine vor_r (by omega) ?_; conv => whnf)
    | (refine vor_l (by first | rfl | omega) ?_; conv => whnf)
  refine vpre_g [.op 0 a.toNat] ?_
  conv => whnf
  repeat' first
    | (refine vneed_i (by kernel_rfl) ?_; conv => whnf)
    | (refine vneed_i (by (try simp only [C.len, C.isSl, C.stride, true_and, and_true, Int.toNat_natCast, toNat_sub1, toNat_add1, List.length_append, List.length_cons, List.length_nil, List.length_take, List.length_drop, List.length_replicate, List.length_set, List.length_map]) <;> omega) ?_; conv => whnf)
    | (refine vif_i (fun h => ?_) (fun h => ?_) <;> (try simp only [Bool.not_eq_true', Bool.not_eq_false', decide_eq_true_eq, decide_eq_false_iff_not, beq_iff_eq, bne_iff_ne, ne_eq, Bool.not_eq_true, Bool.not_eq_false, bne_eq_false_iff_eq, beq_eq_false_iff_ne] at h) <;> (try simp only [C.len, C.isSl, C.stride, true_and, Int.toNat_natCast, toNat_sub1, toNat_add1] at h) <;> conv => whnf)
    | refine vend_tt ?_
    | refine vend_ff ?_
    | refine vend_b ?_
    | refine vend_n ?_
    | refine vend_c ?_
    | (refine vint_f (by (try simp only [C.len, C.isSl, C.stride, true_and, and_true, Int.toNat_natCast, toNat_sub1, toNat_add1, List.length_append, List.length_cons, List.length_nil, List.length_take, List.length_drop, List.length_replicate, List.length_set, List.length_map]) <;> omega) (by (try simp only [C.len, C.isSl, C.stride, true_and, and_true, Int.toNat_natCast, toNat_sub1, toNat_add1, List.length_append, List.length_cons, List.length_nil, List.length_take, List.length_drop, List.length_replicate, List.length_set, List.length_map]) <;> omega) ?_; conv => whnf)
    | (refine vcall_p (validChain_v _ hc) rfl rfl ?_; conv => whnf)
    | (refine vcall_p (inRange_v _ _ _) rfl rfl ?_; conv => whnf)
    | (refine vcall_n (copyChain_d _ hc) rfl rfl rfl rfl ?_; conv => whnf)
    | (refine vcall_l (hmv) rfl rfl rfl ?_; conv => whnf)
    | (refine vcall_l (isIn_v _ _ (by omega)) rfl rfl rfl ?_; conv => whnf)
    | (refine vor_r (by omega) ?_; conv => whnf)
    | (refine vor_l (by first | rfl | omega) ?_; conv => whnf)
  · refine vpre_g [.cl 0] ?_
    conv => whnf
    repeat' first
      | (refine vneed_i (by kernel_rfl) ?_; conv => whnf)
      | (refine vneed_i (by (try simp only [C.len, C.isSl, C.stride, true_and, and_true, Int.toNat_natCast, toNat_sub1, toNat_add1, List.length_append, List.length_cons, List.length_nil, List.length_take, List.length_drop, List.length_replicate, List.length_set, List.length_map]) <;> omega) ?_; conv => whnf)
      | (refine vif_i (fun h => ?_) (fun h => ?_) <;> (try simp only [Bool.not_eq_true', Bool.not_eq_false', decide_eq_true_eq, decide_eq_false_iff_not, beq_iff_eq, bne_iff_ne, ne_eq, Bool.not_eq_true, Bool.not_eq_false, bne_eq_false_iff_eq, beq_eq_false_iff_ne] at h) <;> (try simp only [C.len, C.isSl, C.stride, true_and, Int.toNat_natCast, toNat_sub1, toNat_add1] at h) <;> conv => whnf)
      | refine vend_tt ?_
      | refine vend_ff ?_
      | refine vend_b ?_
      | refine vend_n ?_
      | refine vend_c ?_
      | (refine vint_f (by (try simp only [C.len, C.isSl, C.stride, true_and, and_true, Int.toNat_natCast, toNat_sub1, toNat_add1, List.length_append, List.length_cons, List.length_nil, List.length_take, List.length_drop, List.length_replicate, List.length_set, List.length_map]) <;> omega) (by (try simp only [C.len, C.isSl, C.stride, true_and, and_true, Int.toNat_natCast, toNat_sub1, toNat_add1, List.length_append, List.length_cons, List.length_nil, List.length_take, List.length_drop, List.length_replicate, List.length_set, List.length_map]) <;> omega) ?_; conv => whnf)
      | (refine vor_r (by omega) ?_; conv => whnf)
      | (refine vor_l (by first | rfl | omega) ?_; conv => whnf)
      | (refine vch_l ?_; conv => whnf)
      | (refine vpre_no ?_; conv => whnf)
    refine (vend_i [] [0] ⟨rfl, ⟨?_, trivial⟩, rfl, rfl, rfl, rfl, rfl, rfl⟩)
    exact congrArg (fun z => some (O.deep false 0 (C.lks z) [])) set_self
  all_goals (exfalso; rw [g3] at h; cases h)
theorem PutLink_b (c : List Lk) (hc : cB c) (hk : ∀ l ∈ c, l.keys.length ≤ 1000) (n a : Int) (g1 : vChain c = true) (g2 : 0 ≤ n ∧ n ≤ 99) (ha : mvR c n c.length 0 = a) (g3 : (c.getD a.toNat ⟨[], 0, 0⟩).keys.contains n = false) (g4 : ¬ ((c.getD a.toNat ⟨[], 0, 0⟩).keys.length : Int) = 4) :
    Spec Try.prog 37 0 [.c (.lks c), .c (.int .i64 n)] [] 1 (.tup [.slc 0, .c (.bool true)]) [(0, .deep false 0 (.lks (setK c a.toNat (insK (c.getD a.toNat ⟨[], 0, 0⟩).keys n))) [])] := by
  have hcl := hc.1
  have hkk := keys_le hk a.toNat
  obtain ⟨q, p⟩ := path_of c g1
  have hr := mvR_rng p g2.2 c.length 0 p.one (Nat.le_refl _)
  rw [p.first, ha] at hr
  have hmv := moveRight_v c (by omega) q p 0 n (by omega) (by have := p.one; omega) g2.2
  rw [ha] at hmv
  by_cases g6 : insOk (c.getD a.toNat ⟨[], 0, 0⟩).keys n = true
  · unfold insK
    rw [if_pos g6]
    refine spec_intro (fn := Try.f37) tOk eOk mix _ (by kernel_rfl) (by decide +kernel) rfl rfl rfl ?_
    conv => whnf
    repeat' first
      | (refine vneed_i (by kernel_rfl) ?_; conv => whnf)
      | (refine vneed_i (by (try simp only [C.len, C.isSl, C.stride, true_and, and_true, Int.toNat_natCast, toNat_sub1, toNat_add1, List.length_append, List.length_cons, List.length_nil, List.length_take, List.length_drop, List.length_replicate, List.length_set, List.length_map]) <;> omega) ?_; conv => whnf)
      | (refine vif_i (fun h => ?_) (fun h => ?_) <;> (try simp only [Bool.not_eq_true', Bool.not_eq_false', decide_eq_true_eq, decide_eq_false_iff_not, beq_iff_eq, bne_iff_ne, ne_eq, Bool.not_eq_true, Bool.not_eq_false, bne_eq_false_iff_eq, beq_eq_false_iff_ne] at h) <;> (try simp only [C.len, C.isSl, C.stride, true_and, Int.toNat_natCast, toNat_sub1, toNat_add1] at h) <;> conv => whnf)
      | refine vend_tt ?_
      | refine vend_ff ?_
      | refine vend_b ?_
      | refine vend_n ?_
      | refine vend_c ?_
      | (refine vint_f (by (try simp only [C.len, C.isSl, C.stride, true_and, and_true, Int.toNat_natCast, toNat_sub1, toNat_add1, List.length_append, List.length_cons, List.length_nil, List.length_take, List.length_drop, List.length_replicate, List.length_set, List.length_map]) <;> omega) (by (try simp only [C.len, C.isSl, C.stride, true_and, and_true, Int.toNat_natCast, toNat_sub1, toNat_add1, List.length_append, List.length_cons, List.length_nil, List.length_take, List.length_drop, List.length_replicate, List.length_set, List.length_map]) <;> omega) ?_; conv => whnf)
      | (refine vcall_p (validChain_v _ hc) rfl rfl ?_; conv => whnf)
      | (refine vcall_p (inRange_v _ _ _) rfl rfl ?_; conv => whnf)
      | (refine vcall_n (copyChain_d _ hc) rfl rfl rfl rfl ?_; conv => whnf)
      | (refine vcall_l (hmv) rfl rfl rfl ?_; conv => whnf)
      | (refine vcall_l (isIn_v _ _ (by omega)) rfl rfl rfl ?_; conv => whnf)
      | (refine vor_r (by omega) ?_; conv => whnf)
      | (refine vor_l (by first | rfl | omega) ?_; conv => whnf)
    all_goals first | (rw [g1] at h; cases h) | (exact absurd g2 h) | (rw [g3] at h; cases h) | (exact absurd g4 h) | (exact absurd h g4) | (cases h; done) | skip
    refine vpre_no ?_
    conv => whnf
    repeat' first
      | (refine vneed_i (by kernel_rfl) ?_; conv => whnf)
      | (refine vneed_i (by (try simp only [C.len, C.isSl, C.stride, true_and, and_true, Int.toNat_natCast, toNat_sub1, toNat_add1, List.length_append, List.length_cons, List.length_nil, List.length_take, List.length_drop, List.length_replicate, List.length_set, List.length_map]) <;> omega) ?_; conv => whnf)
      | (refine vif_i (fun h => ?_) (fun h => ?_) <;> (try simp only [Bool.not_eq_true', Bool.not_eq_false', decide_eq_true_eq, decide_eq_false_iff_not, beq_iff_eq, bne_iff_ne, ne_eq, Bool.not_eq_true, Bool.not_eq_false, bne_eq_false_iff_eq, beq_eq_false_iff_ne] at h) <;> (try simp only [C.len, C.isSl, C.stride, true_and, Int.toNat_natCast, toNat_sub1, toNat_add1] at h) <;> conv => whnf)
      | refine vend_tt ?_
      | refine vend_ff ?_
      | refine vend_b ?_
      | refine vend_n ?_
      | refine vend_c ?_
      | (refine vint_f (by (try simp only [C.len, C.isSl, C.stride, true_and, and_true, Int.toNat_natCast, toNat_sub1, toNat_add1, List.length_append, List.length_cons, List.length_nil, List.length_take, List.length_drop, List.length_replicate, List.length_set, List.length_map]) <;> omega) (by (try simp only [C.len, C.isSl, C.stride, true_and, and_true, Int.toNat_natCast, toNat_sub1, toNat_add1, List.length_append, List.length_cons, List.length_nil, List.length_take, List.length_drop, List.length_replicate, List.length_set, List.length_map]) <;> omega) ?_; conv => whnf)
      | (refine vcall_p (validChain_v _ hc) rfl rfl ?_; conv => whnf)
      | (refine vcall_p (inRange_v _ _ _) rfl rfl ?_; conv => whnf)
      | (refine vcall_n (copyChain_d _ hc) rfl rfl rfl rfl ?_; conv => whnf)
      | (refine vcall_l (hmv) rfl rfl rfl ?_; conv => whnf)
      | (refine vcall_l (isIn_v _ _ (by omega)) rfl rfl rfl ?_; conv => whnf)
      | (refine vor_r (by omega) ?_; conv => whnf)
      | (refine vor_l (by first | rfl | omega) ?_; conv => whnf)
    refine vpre_g [.op 0 a.toNat] ?_
    conv => whnf
    repeat' first
      | (refine vneed_i (by kernel_rfl) ?_; conv => whnf)
      | (refine vneed_i (by (try simp only [C.len, C.isSl, C.stride, true_and, and_true, Int.toNat_natCast, toNat_sub1, toNat_add1, List.length_append, List.length_cons, List.length_nil, List.length_take, List.length_drop, List.length_replicate, List.length_set, List.length_map]) <;> omega) ?_; conv => whnf)
      | (refine vif_i (fun h => ?_) (fun h => ?_) <;> (try simp only [Bool.not_eq_true', Bool.not_eq_false', decide_eq_true_eq, decide_eq_false_iff_not, beq_iff_eq, bne_iff_ne, ne_eq, Bool.not_eq_true, Bool.not_eq_false, bne_eq_false_iff_eq, beq_eq_false_iff_ne] at h) <;> (try simp only [C.len, C.isSl, C.stride, true_and, Int.toNat_natCast, toNat_sub1, toNat_add1] at h) <;> conv => whnf)
      | refine vend_tt ?_
      | refine vend_ff ?_
      | refine vend_b ?_
      | refine vend_n ?_
      | refine vend_c ?_
      | (refine vint_f (by (try simp only [C.len, C.isSl, C.stride, true_and, and_true, Int.toNat_natCast, toNat_sub1, toNat_add1, List.length_append, List.length_cons, List.length_nil, List.length_take, List.length_drop, List.length_replicate, List.length_set, List.length_map]) <;> omega) (by (try simp only [C.len, C.isSl, C.stride, true_and, and_true, Int.toNat_natCast, toNat_sub1, toNat_add1, List.length_append, List.length_cons, List.length_nil, List.length_take, List.length_drop, List.length_replicate, List.length_set, List.length_map]) <;> omega) ?_; conv => whnf)
      | (refine vcall_p (validChain_v _ hc) rfl rfl ?_; conv => whnf)
      | (refine vcall_p (inRange_v _ _ _) rfl rfl ?_; conv => whnf)
      | (refine vcall_n (copyChain_d _ hc) rfl rfl rfl rfl ?_; conv => whnf)
      | (refine vcall_l (hmv) rfl rfl rfl ?_; conv => whnf)
      | (refine vcall_l (isIn_v _ _ (by omega)) rfl rfl rfl ?_; conv => whnf)
      | (refine vor_r (by omega) ?_; conv => whnf)
      | (refine vor_l (by first | rfl | omega) ?_; conv => whnf)
    all_goals first | (rw [g1] at h; cases h) | (exact absurd g2 h) | (rw [g3] at h; cases h) | (exact absurd g4 h) | (exact absurd h g4) | (cases h; done) | skip
    refine vpre_no ?_
    conv => whnf
    repeat' first
      | (refine vneed_i (by kernel_rfl) ?_; conv => whnf)
      | (refine vneed_i (by (try simp only [C.len, C.isSl, C.stride, true_and, and_true, Int.toNat_natCast, toNat_sub1, toNat_add1, List.length_append, List.length_cons, List.length_nil, List.length_take, List.length_drop, List.length_replicate, List.length_set, List.length_map]) <;> omega) ?_; conv => whnf)
      | (refine vif_i (fun h => ?_) (fun h => ?_) <;> (try simp only [Bool.not_eq_true', Bool.not_eq_false', decide_eq_true_eq, decide_eq_false_iff_not, beq_iff_eq, bne_iff_ne, ne_eq, Bool.not_eq_true, Bool.not_eq_false, bne_eq_false_iff_eq, beq_eq_false_iff_ne] at h) <;> (try simp only [C.len, C.isSl, C.stride, true_and, Int.toNat_natCast, toNat_sub1, toNat_add1] at h) <;> conv => whnf)
      | refine vend_tt ?_
      | refine vend_ff ?_
      | refine vend_b ?_
      | refine vend_n ?_
      | refine vend_c ?_
      | (refine vint_f (by (try simp only [C.len, C.isSl, C.stride, true_and, and_true, Int.toNat_natCast, toNat_sub1, toNat_add1, List.length_append, List.length_cons, List.length_nil, List.length_take, List.length_drop, List.length_replicate, List.length_set, List.length_map]) <;> omega) (by (try simp only [C.len, C.isSl, C.stride, true_and, and_true, Int.toNat_natCast, toNat_sub1, toNat_add1, List.length_append, List.length_cons, List.length_nil, List.length_take, List.length_drop, List.length_replicate, List.length_set, List.length_map]) <;> omega) ?_; conv => whnf)
      | (refine vcall_p (validChain_v _ hc) rfl rfl ?_; conv => whnf)
      | (refine vcall_p (inRange_v _ _ _) rfl rfl ?_; conv => whnf)
      | (refine vcall_n (copyChain_d _ hc) rfl rfl rfl rfl ?_; conv => whnf)
      | (refine vcall_l (hmv) rfl rfl rfl ?_; conv => whnf)
      | (refine vcall_l (isIn_v _ _ (by omega)) rfl rfl rfl ?_; conv => whnf)
      | (refine vor_r (by omega) ?_; conv => whnf)
      | (refine vor_l (by first | rfl | omega) ?_; conv => whnf)
    all_goals first | (rw [g1] at h; cases h) | (exact absurd g2 h) | (rw [g3] at h; cases h) | (exact absurd g4 h) | (exact absurd h g4) | (cases h; done) | skip
    refine vpre_no ?_
    conv => whnf
    repeat' first
      | (refine vneed_i (by kernel_rfl) ?_; conv => whnf)
      | (refine vneed_i (by (try simp only [C.len, C.isSl, C.stride, true_and, and_true, Int.toNat_natCast, toNat_sub1, toNat_add1, List.length_append, List.length_cons, List.length_nil, List.length_take, List.length_drop, List.length_replicate, List.length_set, List.length_map]) <;> omega) ?_; conv => whnf)
      | (refine vif_i (fun h => ?_) (fun h => ?_) <;> (try simp only [Bool.not_eq_true', Bool.not_eq_false', decide_eq_true_eq, decide_eq_false_iff_not, beq_iff_eq, bne_iff_ne, ne_eq, Bool.not_eq_true, Bool.not_eq_false, bne_eq_false_iff_eq, beq_eq_false_iff_ne] at h) <;> (try simp only [C.len, C.isSl, C.stride, true_and, Int.toNat_natCast, toNat_sub1, toNat_add1] at h) <;> conv => whnf)
      | refine vend_tt ?_
      | refine vend_ff ?_
      | refine vend_b ?_
      | refine vend_n ?_
      | refine vend_c ?_
      | (refine vint_f (by (try simp only [C.len, C.isSl, C.stride, true_and, and_true, Int.toNat_natCast, toNat_sub1, toNat_add1, List.length_append, List.length_cons, List.length_nil, List.length_take, List.length_drop, List.length_replicate, List.length_set, List.length_map]) <;> omega) (by (try simp only [C.len, C.isSl, C.stride, true_and, and_true, Int.toNat_natCast, toNat_sub1, toNat_add1, List.length_append, List.length_cons, List.length_nil, List.length_take, List.length_drop, List.length_replicate, List.length_set, List.length_map]) <;> omega) ?_; conv => whnf)
      | (refine vcall_n (InsertKey_ok _ n (by omega) g6) rfl rfl rfl rfl ?_; conv => whnf)
      | (refine vor_r (by omega) ?_; conv => whnf)
      | (refine vor_l (by first | rfl | omega) ?_; conv => whnf)
    refine vpre_no ?_
    conv => whnf
    repeat' first
      | (refine vneed_i (by kernel_rfl) ?_; conv => whnf)
      | (refine vneed_i (by (try simp only [C.len, C.isSl, C.stride, true_and, and_true, Int.toNat_natCast, toNat_sub1, toNat_add1, List.length_append, List.length_cons, List.length_nil, List.length_take, List.length_drop, List.length_replicate, List.length_set, List.length_map]) <;> omega) ?_; conv => whnf)
      | (refine vif_i (fun h => ?_) (fun h => ?_) <;> (try simp only [Bool.not_eq_true', Bool.not_eq_false', decide_eq_true_eq, decide_eq_false_iff_not, beq_iff_eq, bne_iff_ne, ne_eq, Bool.not_eq_true, Bool.not_eq_false, bne_eq_false_iff_eq, beq_eq_false_iff_ne] at h) <;> (try simp only [C.len, C.isSl, C.stride, true_and, Int.toNat_natCast, toNat_sub1, toNat_add1] at h) <;> conv => whnf)
      | refine vend_tt ?_
      | refine vend_ff ?_
      | refine vend_b ?_
      | refine vend_n ?_
      | refine vend_c ?_
      | (refine vint_f (by (try simp only [C.len, C.isSl, C.stride, true_and, and_true, Int.toNat_natCast, toNat_sub1, toNat_add1, List.length_append, List.length_cons, List.length_nil, List.length_take, List.length_drop, List.length_replicate, List.length_set, List.length_map]) <;> omega) (by (try simp only [C.len, C.isSl, C.stride, true_and, and_true, Int.toNat_natCast, toNat_sub1, toNat_add1, List.length_append, List.length_cons, List.length_nil, List.length_take, List.length_drop, List.length_replicate, List.length_set, List.length_map]) <;> omega) ?_; conv => whnf)
      | (refine vor_r (by omega) ?_; conv => whnf)
      | (refine vor_l (by first | rfl | omega) ?_; conv => whnf)
    refine vpre_g [.cl 0] ?_
    conv => whnf
    repeat' first
      | (refine vneed_i (by kernel_rfl) ?_; conv => whnf)
      | (refine vneed_i (by (try simp only [C.len, C.isSl, C.stride, true_and, and_true, Int.toNat_natCast, toNat_sub1, toNat_add1, List.length_append, List.length_cons, List.length_nil, List.length_take, List.length_drop, List.length_replicate, List.length_set, List.length_map]) <;> omega) ?_; conv => whnf)
      | (refine vif_i (fun h => ?_) (fun h => ?_) <;> (try simp only [Bool.not_eq_true', Bool.not_eq_false', decide_eq_true_eq, decide_eq_false_iff_not, beq_iff_eq, bne_iff_ne, ne_eq, Bool.not_eq_true, Bool.not_eq_false, bne_eq_false_iff_eq, beq_eq_false_iff_ne] at h) <;> (try simp only [C.len, C.isSl, C.stride, true_and, Int.toNat_natCast, toNat_sub1, toNat_add1] at h) <;> conv => whnf)
      | refine vend_tt ?_
      | refine vend_ff ?_
      | refine vend_b ?_
      | refine vend_n ?_
      | refine vend_c ?_
      | (refine vint_f (by (try simp only [C.len, C.isSl, C.stride, true_and, and_true, Int.toNat_natCast, toNat_sub1, toNat_add1, List.length_append, List.length_cons, List.length_nil, List.length_take, List.length_drop, List.length_replicate, List.length_set, List.length_map]) <;> omega) (by (try simp only [C.len, C.isSl, C.stride, true_and, and_true, Int.toNat_natCast, toNat_sub1, toNat_add1, List.length_append, List.length_cons, List.length_nil, List.length_take, List.length_drop, List.length_replicate, List.length_set, List.length_map]) <;> omega) ?_; conv => whnf)
      | (refine vor_r (by omega) ?_; conv => whnf)
      | (refine vor_l (by first | rfl | omega) ?_; conv => whnf)
      | (refine vch_l ?_; conv => whnf)
      | (refine vpre_no ?_; conv => whnf)
    refine (vend_i [] [0] ⟨rfl, ⟨?_, trivial⟩, rfl, rfl, rfl, rfl, rfl, rfl⟩)
    rfl
  · rw [Bool.not_eq_true] at g6
    unfold insK
    rw [g6, if_neg (by decide)]
    refine spec_intro (fn := Try.f37) tOk eOk mix _ (by kernel_rfl) (by decide +kernel) rfl rfl rfl ?_
    conv => whnf
    repeat' first
      | (refine vneed_i (by kernel_rfl) ?_; conv => whnf)
      | (refine vneed_i (by (try simp only [C.len, C.isSl, C.stride, true_and, and_true, Int.toNat_natCast, toNat_sub1, toNat_add1, List.length_append, List.length_cons, List.length_nil, List.length_take, List.length_drop, List.length_replicate, List.length_set, List.length_map]) <;> omega) ?_; conv => whnf)
      | (refine vif_i (fun h => ?_) (fun h => ?_) <;> (try simp only [Bool.not_eq_true', Bool.not_eq_false', decide_eq_true_eq, decide_eq_false_iff_not, beq_iff_eq, bne_iff_ne, ne_eq, Bool.not_eq_true, Bool.not_eq_false, bne_eq_false_iff_eq, beq_eq_false_iff_ne] at h) <;> (try simp only [C.len, C.isSl, C.stride, true_and, Int.toNat_natCast, toNat_sub1, toNat_add1] at h) <;> conv => whnf)
      | refine vend_tt ?_
      | refine vend_ff ?_
      | refine vend_b ?_
      | refine vend_n ?_
      | refine vend_c ?_
      | (refine vint_f (by (try simp only [C.len, C.isSl, C.stride, true_and, and_true, Int.toNat_natCast, toNat_sub1, toNat_add1, List.length_append, List.length_cons, List.length_nil, List.length_take, List.length_drop, List.length_replicate, List.length_set, List.length_map]) <;> omega) (by (try simp only [C.len, C.isSl, C.stride, true_and, and_true, Int.toNat_natCast, toNat_sub1, toNat_add1, List.length_append, List.length_cons, List.length_nil, List.length_take, List.length_drop, List.length_replicate, List.length_set, List.length_map]) <;> omega) ?_; conv => whnf)
      | (refine vcall_p (validChain_v _ hc) rfl rfl ?_; conv => whnf)
      | (refine vcall_p (inRange_v _ _ _) rfl rfl ?_; conv => whnf)
      | (refine vcall_n (copyChain_d _ hc) rfl rfl rfl rfl ?_; conv => whnf)
      | (refine vcall_l (hmv) rfl rfl rfl ?_; conv => whnf)
      | (refine vcall_l (isIn_v _ _ (by omega)) rfl rfl rfl ?_; conv => whnf)
      | (refine vor_r (by omega) ?_; conv => whnf)
      | (refine vor_l (by first | rfl | omega) ?_; conv => whnf)
    all_goals first | (rw [g1] at h; cases h) | (exact absurd g2 h) | (rw [g3] at h; cases h) | (exact absurd g4 h) | (exact absurd h g4) | (cases h; done) | skip
    refine vpre_no ?_
    conv => whnf
    repeat' first
      | (refine vneed_i (by kernel_rfl) ?_; conv => whnf)
      | (refine vneed_i (by (try simp only [C.len, C.isSl, C.stride, true_and, and_true, Int.toNat_natCast, toNat_sub1, toNat_add1, List.length_append, List.length_cons, List.length_nil, List.length_take, List.length_drop, List.length_replicate, List.length_set, List.length_map]) <;> omega) ?_; conv => whnf)
      | (refine vif_i (fun h => ?_) (fun h => ?_) <;> (try simp only [Bool.not_eq_true', Bool.not_eq_false', decide_eq_true_eq, decide_eq_false_iff_not, beq_iff_eq, bne_iff_ne, ne_eq, Bool.not_eq_true, Bool.not_eq_false, bne_eq_false_iff_eq, beq_eq_false_iff_ne] at h) <;> (try simp only [C.len, C.isSl, C.stride, true_and, Int.toNat_natCast, toNat_sub1, toNat_add1] at h) <;> conv => whnf)
      | refine vend_tt ?_
      | refine vend_ff ?_
      | refine vend_b ?_
      | refine vend_n ?_
      | refine vend_c ?_
      | (refine vint_f (by (try simp only [C.len, C.isSl, C.stride, true_and, and_true, Int.toNat_natCast, toNat_sub1, toNat_add1, List.length_append, List.length_cons, List.length_nil, List.length_take, List.length_drop, List.length_replicate, List.length_set, List.length_map]) <;> omega) (by (try simp only [C.len, C.isSl, C.stride, true_and, and_true, Int.toNat_natCast, toNat_sub1, toNat_add1, List.length_append, List.length_cons, List.length_nil, List.length_take, List.length_drop, List.length_replicate, List.length_set, List.length_map]) <;> omega) ?_; conv => whnf)
      | (refine vcall_p (validChain_v _ hc) rfl rfl ?_; conv => whnf)
      | (refine vcall_p (inRange_v _ _ _) rfl rfl ?_; conv => whnf)
      | (refine vcall_n (copyChain_d _ hc) rfl rfl rfl rfl ?_; conv => whnf)
      | (refine vcall_l (hmv) rfl rfl rfl ?_; conv => whnf)
      | (refine vcall_l (isIn_v _ _ (by omega)) rfl rfl rfl ?_; conv => whnf)
      | (refine vor_r (by omega) ?_; conv => whnf)
      | (refine vor_l (by first | rfl | omega) ?_; conv => whnf)
    refine vpre_g [.op 0 a.toNat] ?_
    conv => whnf
    repeat' first
      | (refine vneed_i (by kernel_rfl) ?_; conv => whnf)
      | (refine vneed_i (by (try simp only [C.len, C.isSl, C.stride, true_and, and_true, Int.toNat_natCast, toNat_sub1, toNat_add1, List.length_append, List.length_cons, List.length_nil, List.length_take, List.length_drop, List.length_replicate, List.length_set, List.length_map]) <;> omega) ?_; conv => whnf)
      | (refine vif_i (fun h => ?_) (fun h => ?_) <;> (try simp only [Bool.not_eq_true', Bool.not_eq_false', decide_eq_true_eq, decide_eq_false_iff_not, beq_iff_eq, bne_iff_ne, ne_eq, Bool.not_eq_true, Bool.not_eq_false, bne_eq_false_iff_eq, beq_eq_false_iff_ne] at h) <;> (try simp only [C.len, C.isSl, C.stride, true_and, Int.toNat_natCast, toNat_sub1, toNat_add1] at h) <;> conv => whnf)
      | refine vend_tt ?_
      | refine vend_ff ?_
      | refine vend_b ?_
      | refine vend_n ?_
      | refine vend_c ?_
      | (refine vint_f (by (try simp only [C.len, C.isSl, C.stride, true_and, and_true, Int.toNat_natCast, toNat_sub1, toNat_add1, List.length_append, List.length_cons, List.length_nil, List.length_take, List.length_drop, List.length_replicate, List.length_set, List.length_map]) <;> omega) (by (try simp only [C.len, C.isSl, C.stride, true_and, and_true, Int.toNat_natCast, toNat_sub1, toNat_add1, List.length_append, List.length_cons, List.length_nil, List.length_take, List.length_drop, List.length_replicate, List.length_set, List.length_map]) <;> omega) ?_; conv => whnf)
      | (refine vcall_p (validChain_v _ hc) rfl rfl ?_; conv => whnf)
      | (refine vcall_p (inRange_v _ _ _) rfl rfl ?_; conv => whnf)
      | (refine vcall_n (copyChain_d _ hc) rfl rfl rfl rfl ?_; conv => whnf)
      | (refine vcall_l (hmv) rfl rfl rfl ?_; conv => whnf)
      | (refine vcall_l (isIn_v _ _ (by omega)) rfl rfl rfl ?_; conv => whnf)
      | (refine vor_r (by omega) ?_; conv => whnf)
      | (refine vor_l (by first | rfl | omega) ?_; conv => whnf)
    all_goals first | (rw [g1] at h; cases h) | (exact absurd g2 h) | (rw [g3] at h; cases h) | (exact absurd g4 h) | (exact absurd h g4) | (cases h; done) | skip
    refine vpre_no ?_
    conv => whnf
    repeat' first
      | (refine vneed_i (by kernel_rfl) ?_; conv => whnf)
      | (refine vneed_i (by (try simp only [C.len, C.isSl, C.stride, true_and, and_true, Int.toNat_natCast, toNat_sub1, toNat_add1, List.length_append, List.length_cons, List.length_nil, List.length_take, List.length_drop, List.length_replicate, List.length_set, List.length_map]) <;> omega) ?_; conv => whnf)
      | (refine vif_i (fun h => ?_) (fun h => ?_) <;> (try simp only [Bool.not_eq_true', Bool.not_eq_false', decide_eq_true_eq, decide_eq_false_iff_not, beq_iff_eq, bne_iff_ne, ne_eq, Bool.not_eq_true, Bool.not_eq_false, bne_eq_false_iff_eq, beq_eq_false_iff_ne] at h) <;> (try simp only [C.len, C.isSl, C.stride, true_and, Int.toNat_natCast, toNat_sub1, toNat_add1] at h) <;> conv => whnf)
      | refine vend_tt ?_
      | refine vend_ff ?_
      | refine vend_b ?_
      | refine vend_n ?_
      | refine vend_c ?_
      | (refine vint_f (by (try simp only [C.len, C.isSl, C.stride, true_and, and_true, Int.toNat_natCast, toNat_sub1, toNat_add1, List.length_append, List.length_cons, List.length_nil, List.length_take, List.length_drop, List.length_replicate, List.length_set, List.length_map]) <;> omega) (by (try simp only [C.len, C.isSl, C.stride, true_and, and_true, Int.toNat_natCast, toNat_sub1, toNat_add1, List.length_append, List.length_cons, List.length_nil, List.length_take, List.length_drop, List.length_replicate, List.length_set, List.length_map]) <;> omega) ?_; conv => whnf)
      | (refine vcall_p (validChain_v _ hc) rfl rfl ?_; conv => whnf)
      | (refine vcall_p (inRange_v _ _ _) rfl rfl ?_; conv => whnf)
      | (refine vcall_n (copyChain_d _ hc) rfl rfl rfl rfl ?_; conv => whnf)
      | (refine vcall_l (hmv) rfl rfl rfl ?_; conv => whnf)
      | (refine vcall_l (isIn_v _ _ (by omega)) rfl rfl rfl ?_; conv => whnf)
      | (refine vor_r (by omega) ?_; conv => whnf)
      | (refine vor_l (by first | rfl | omega) ?_; conv => whnf)
    all_goals first | (rw [g1] at h; cases h) | (exact absurd g2 h) | (rw [g3] at h; cases h) | (exact absurd g4 h) | (exact absurd h g4) | (cases h; done) | skip
    refine vpre_no ?_
    conv => whnf
    repeat' first
      | (refine vneed_i (by kernel_rfl) ?_; conv => whnf)
      | (refine vneed_i (by (try simp only [C.len, C.isSl, C.stride, true_and, and_true, Int.toNat_natCast, toNat_sub1, toNat_add1, List.length_append, List.length_cons, List.length_nil, List.length_take, List.length_drop, List.length_replicate, List.length_set, List.length_map]) <;> omega) ?_; conv => whnf)
      | (refine vif_i (fun h => ?_) (fun h => ?_) <;> (try simp only [Bool.not_eq_true', Bool.not_eq_false', decide_eq_true_eq, decide_eq_false_iff_not, beq_iff_eq, bne_iff_ne, ne_eq, Bool.not_eq_true, Bool.not_eq_false, bne_eq_false_iff_eq, beq_eq_false_iff_ne] at h) <;> (try simp only [C.len, C.isSl, C.stride, true_and, Int.toNat_natCast, toNat_sub1, toNat_add1] at h) <;> conv => whnf)
      | refine vend_tt ?_
      | refine vend_ff ?_
      | refine vend_b ?_
      | refine vend_n ?_
      | refine vend_c ?_
      | (refine vint_f (by (try simp only [C.len, C.isSl, C.stride, true_and, and_true, Int.toNat_natCast, toNat_sub1, toNat_add1, List.length_append, List.length_cons, List.length_nil, List.length_take, List.length_drop, List.length_replicate, List.length_set, List.length_map]) <;> omega) (by (try simp only [C.len, C.isSl, C.stride, true_and, and_true, Int.toNat_natCast, toNat_sub1, toNat_add1, List.length_append, List.length_cons, List.length_nil, List.length_take, List.length_drop, List.length_replicate, List.length_set, List.length_map]) <;> omega) ?_; conv => whnf)
      | (refine vcall_n (InsertKey_no _ n (by omega) g6) rfl rfl rfl rfl ?_; conv => whnf)
      | (refine vor_r (by omega) ?_; conv => whnf)
      | (refine vor_l (by first | rfl | omega) ?_; conv => whnf)
    refine vpre_no ?_
    conv => whnf
    repeat' first
      | (refine vneed_i (by kernel_rfl) ?_; conv => whnf)
      | (refine vneed_i (by (try simp only [C.len, C.isSl, C.stride, true_and, and_true, Int.toNat_natCast, toNat_sub1, toNat_add1, List.length_append, List.length_cons, List.length_nil, List.length_take, List.length_drop, List.length_replicate, List.length_set, List.length_map]) <;> omega) ?_; conv => whnf)
      | (refine vif_i (fun h => ?_) (fun h => ?_) <;> (try simp only [Bool.not_eq_true', Bool.not_eq_false', decide_eq_true_eq, decide_eq_false_iff_not, beq_iff_eq, bne_iff_ne, ne_eq, Bool.not_eq_true, Bool.not_eq_false, bne_eq_false_iff_eq, beq_eq_false_iff_ne] at h) <;> (try simp only [C.len, C.isSl, C.stride, true_and, Int.toNat_natCast, toNat_sub1, toNat_add1] at h) <;> conv => whnf)
      | refine vend_tt ?_
      | refine vend_ff ?_
      | refine vend_b ?_
      | refine vend_n ?_
      | refine vend_c ?_
      | (refine vint_f (by (try simp only [C.len, C.isSl, C.stride, true_and, and_true, Int.toNat_natCast, toNat_sub1, toNat_add1, List.length_append, List.length_cons, List.length_nil, List.length_take, List.length_drop, List.length_replicate, List.length_set, List.length_map]) <;> omega) (by (try simp only [C.len, C.isSl, C.stride, true_and, and_true, Int.toNat_natCast, toNat_sub1, toNat_add1, List.length_append, List.length_cons, List.length_nil, List.length_take, List.length_drop, List.length_replicate, List.length_set, List.length_map]) <;> omega) ?_; conv => whnf)
      | (refine vor_r (by omega) ?_; conv => whnf)
      | (refine vor_l (by first | rfl | omega) ?_; conv => whnf)
    refine vpre_g [.cl 0] ?_
    conv => whnf
    repeat' first
      | (refine vneed_i (by kernel_rfl) ?_; conv => whnf)
      | (refine vneed_i (by (try simp only [C.len, C.isSl, C.stride, true_and, and_true, Int.toNat_natCast, toNat_sub1, toNat_add1, List.length_append, List.length_cons, List.length_nil, List.length_take, List.length_drop, List.length_replicate, List.length_set, List.length_map]) <;> omega) ?_; conv => whnf)
      | (refine vif_i (fun h => ?_) (fun h => ?_) <;> (try simp only [Bool.not_eq_true', Bool.not_eq_false', decide_eq_true_eq, decide_eq_false_iff_not, beq_iff_eq, bne_iff_ne, ne_eq, Bool.not_eq_true, Bool.not_eq_false, bne_eq_false_iff_eq, beq_eq_false_iff_ne] at h) <;> (try simp only [C.len, C.isSl, C.stride, true_and, Int.toNat_natCast, toNat_sub1, toNat_add1] at h) <;> conv => whnf)
      | refine vend_tt ?_
      | refine vend_ff ?_
      | refine vend_b ?_
      | refine vend_n ?_
      | refine vend_c ?_
      | (refine vint_f (by (try simp only [C.len, C.isSl, C.stride, true_and, and_true, Int.toNat_natCast, toNat_sub1, toNat_add1, List.length_append, List.length_cons, List.length_nil, List.length_take, List.length_drop, List.length_replicate, List.length_set, List.length_map]) <;> omega) (by (try simp only [C.len, C.isSl, C.stride, true_and, and_true, Int.toNat_natCast, toNat_sub1, toNat_add1, List.length_append, List.length_cons, List.length_nil, List.length_take, List.length_drop, List.length_replicate, List.length_set, List.length_map]) <;> omega) ?_; conv => whnf)
      | (refine vor_r (by omega) ?_; conv => whnf)
      | (refine vor_l (by first | rfl | omega) ?_; conv => whnf)
      | (refine vch_l ?_; conv => whnf)
      | (refine vpre_no ?_; conv => whnf)
    refine (vend_i [] [0] ⟨rfl, ⟨?_, trivial⟩, rfl, rfl, rfl, rfl, rfl, rfl⟩)
    rfl
set_option maxHeartbeats 4000000 in
theorem PutLink_c (c : List Lk) (hc : cB c) (hk : ∀ l ∈ c, l.keys.length ≤ 1000) (n a b : Int) (c' : List Lk) (g1 : vChain c = true) (g2 : 0 ≤ n ∧ n ≤ 99) (ha : mvR c n c.length 0 = a) (g3 : (c.getD a.toNat ⟨[], 0, 0⟩).keys.contains n = false) (g4 : ((c.getD a.toNat ⟨[], 0, 0⟩).keys.length : Int) = 4)
    (g5 : splOk c a = true) (hc' : splF c a.toNat (splH c a).toNat = c') (hb : mvR c' n c'.length a = b) :
    Spec Try.prog 37 0 [.c (.lks c), .c (.int .i64 n)] [] 1 (.tup [.slc 0, .c (.bool true)]) [(0, .deep false 0 (.lks (setK c' b.toNat (insK (c'.getD b.toNat ⟨[], 0, 0⟩).keys n))) [])] := by
  have hcl := hc.1
  have hkk := keys_le hk a.toNat
  obtain ⟨q, p⟩ := path_of c g1
  have hr := mvR_rng p g2.2 c.length 0 p.one (Nat.le_refl _)
  rw [p.first, ha] at hr
  have hmv := moveRight_v c (by omega) q p 0 n (by omega) (by have := p.one; omega) g2.2
  rw [ha] at hmv
  have h16 := vChain_len g1
  have hsl := SplitLink_d c hc a g5
  rw [hc'] at hsl
  have hl' : c'.length = c.length + 1 := by rw [← hc']; exact splF_len _ _ _
  have hk' : ∀ l ∈ c', l.keys.length ≤ 1000 := by rw [← hc']; exact splF_keys hk
  obtain ⟨s, hs, hqs⟩ := p.all a hr.1 hr.2.1
  have p' := split_path p s a.toNat (splH c a).toNat hs (by rw [hqs]; omega)
  rw [hc'] at p'
  obtain ⟨t, ht, hqt⟩ := p'.all a hr.1 (by omega)
  have hr' := mvR_rng p' g2.2 c'.length t ht (by omega)
  rw [hqt, hb] at hr'
  have hmv' := moveRight_v c' (by omega) _ p' a n hr.1 (by omega) g2.2
  rw [hb] at hmv'
  have hkk' := keys_le hk' b.toNat
  have hsl2 : Spec Try.prog 39 0 [.c (.lks (c.set a.toNat ⟨(c.getD a.toNat ⟨[], 0, 0⟩).keys, (c.getD a.toNat ⟨[], 0, 0⟩).high, (c.getD a.toNat ⟨[], 0, 0⟩).right⟩)), .c (.int .i64 a)] [] 1 (.tup [.slc 0, .c (.bool true)]) [(0, .deep false 0 (.lks c') [])] := by rw [set_self]; exact hsl
  by_cases g6 : insOk (c'.getD b.toNat ⟨[], 0, 0⟩).keys n = true
  · unfold insK
    rw [if_pos g6]
    refine spec_intro (fn := Try.f37) tOk eOk mix _ (by kernel_rfl) (by decide +kernel) rfl rfl rfl ?_
    conv => whnf
    repeat' first
      | (refine vneed_i (by kernel_rfl) ?_; conv => whnf)
      | (refine vneed_i (by (try simp only [C.len, C.isSl, C.stride, true_and, and_true, Int.toNat_natCast, toNat_sub1, toNat_add1, List.length_append, List.length_cons, List.length_nil, List.length_take, List.length_drop, List.length_replicate, List.length_set, List.length_map]) <;> omega) ?_; conv => whnf)
      | (refine vif_i (fun h => ?_) (fun h => ?_) <;> (try simp only [Bool.not_eq_true', Bool.not_eq_false', decide_eq_true_eq, decide_eq_false_iff_not, beq_iff_eq, bne_iff_ne, ne_eq, Bool.not_eq_true, Bool.not_eq_false, bne_eq_false_iff_eq, beq_eq_false_iff_ne] at h) <;> (try simp only [C.len, C.isSl, C.stride, true_and, Int.toNat_natCast, toNat_sub1, toNat_add1] at h) <;> conv => whnf)
      | refine vend_tt ?_
      | refine vend_ff ?_
      | refine vend_b ?_
      | refine vend_n ?_
      | refine vend_c ?_
      | (refine vint_f (by (try simp only [C.len, C.isSl, C.stride, true_and, and_true, Int.toNat_natCast, toNat_sub1, toNat_add1, List.length_append, List.length_cons, List.length_nil, List.length_take, List.length_drop, List.length_replicate, List.length_set, List.length_map]) <;> omega) (by (try simp only [C.len, C.isSl, C.stride, true_and, and_true, Int.toNat_natCast, toNat_sub1, toNat_add1, List.length_append, List.length_cons, List.length_nil, List.length_take, List.length_drop, List.length_replicate, List.length_set, List.length_map]) <;> omega) ?_; conv => whnf)
      | (refine vcall_p (validChain_v _ hc) rfl rfl ?_; conv => whnf)
      | (refine vcall_p (inRange_v _ _ _) rfl rfl ?_; conv => whnf)
      | (refine vcall_n (copyChain_d _ hc) rfl rfl rfl rfl ?_; conv => whnf)
      | (refine vcall_l (hmv) rfl rfl rfl ?_; conv => whnf)
      | (refine vcall_l (isIn_v _ _ (by omega)) rfl rfl rfl ?_; conv => whnf)
      | (refine vor_r (by omega) ?_; conv => whnf)
      | (refine vor_l (by first | rfl | omega) ?_; conv => whnf)
    all_goals first | (rw [g1] at h; cases h) | (exact absurd g2 h) | (rw [g3] at h; cases h) | (exact absurd g4 h) | (exact absurd h g4) | (cases h; done) | skip
    refine vpre_no ?_
    conv => whnf
    repeat' first
      | (refine vneed_i (by kernel_rfl) ?_; conv => whnf)
      | (refine vneed_i (by (try simp only [C.len, C.isSl, C.stride, true_and, and_true, Int.toNat_natCast, toNat_sub1, toNat_add1, List.length_append, List.length_cons, List.length_nil, List.length_take, List.length_drop, List.length_replicate, List.length_set, List.length_map]) <;> omega) ?_; conv => whnf)
      | (refine vif_i (fun h => ?_) (fun h => ?_) <;> (try simp only [Bool.not_eq_true', Bool.not_eq_false', decide_eq_true_eq, decide_eq_false_iff_not, beq_iff_eq, bne_iff_ne, ne_eq, Bool.not_eq_true, Bool.not_eq_false, bne_eq_false_iff_eq, beq_eq_false_iff_ne] at h) <;> (try simp only [C.len, C.isSl, C.stride, true_and, Int.toNat_natCast, toNat_sub1, toNat_add1] at h) <;> conv => whnf)
      | refine vend_tt ?_
      | refine vend_ff ?_
      | refine vend_b ?_
      | refine vend_n ?_
      | refine vend_c ?_
      | (refine vint_f (by (try simp only [C.len, C.isSl, C.stride, true_and, and_true, Int.toNat_natCast, toNat_sub1, toNat_add1, List.length_append, List.length_cons, List.length_nil, List.length_take, List.length_drop, List.length_replicate, List.length_set, List.length_map]) <;> omega) (by (try simp only [C.len, C.isSl, C.stride, true_and, and_true, Int.toNat_natCast, toNat_sub1, toNat_add1, List.length_append, List.length_cons, List.length_nil, List.length_take, List.length_drop, List.length_replicate, List.length_set, List.length_map]) <;> omega) ?_; conv => whnf)
      | (refine vcall_p (validChain_v _ hc) rfl rfl ?_; conv => whnf)
      | (refine vcall_p (inRange_v _ _ _) rfl rfl ?_; conv => whnf)
      | (refine vcall_n (copyChain_d _ hc) rfl rfl rfl rfl ?_; conv => whnf)
      | (refine vcall_l (hmv) rfl rfl rfl ?_; conv => whnf)
      | (refine vcall_l (isIn_v _ _ (by omega)) rfl rfl rfl ?_; conv => whnf)
      | (refine vor_r (by omega) ?_; conv => whnf)
      | (refine vor_l (by first | rfl | omega) ?_; conv => whnf)
    refine vpre_g [.op 0 a.toNat] ?_
    conv => whnf
    repeat' first
      | (refine vneed_i (by kernel_rfl) ?_; conv => whnf)
      | (refine vneed_i (by (try simp only [C.len, C.isSl, C.stride, true_and, and_true, Int.toNat_natCast, toNat_sub1, toNat_add1, List.length_append, List.length_cons, List.length_nil, List.length_take, List.length_drop, List.length_replicate, List.length_set, List.length_map]) <;> omega) ?_; conv => whnf)
      | (refine vif_i (fun h => ?_) (fun h => ?_) <;> (try simp only [Bool.not_eq_true', Bool.not_eq_false', decide_eq_true_eq, decide_eq_false_iff_not, beq_iff_eq, bne_iff_ne, ne_eq, Bool.not_eq_true, Bool.not_eq_false, bne_eq_false_iff_eq, beq_eq_false_iff_ne] at h) <;> (try simp only [C.len, C.isSl, C.stride, true_and, Int.toNat_natCast, toNat_sub1, toNat_add1] at h) <;> conv => whnf)
      | refine vend_tt ?_
      | refine vend_ff ?_
      | refine vend_b ?_
      | refine vend_n ?_
      | refine vend_c ?_
      | (refine vint_f (by (try simp only [C.len, C.isSl, C.stride, true_and, and_true, Int.toNat_natCast, toNat_sub1, toNat_add1, List.length_append, List.length_cons, List.length_nil, List.length_take, List.length_drop, List.length_replicate, List.length_set, List.length_map]) <;> omega) (by (try simp only [C.len, C.isSl, C.stride, true_and, and_true, Int.toNat_natCast, toNat_sub1, toNat_add1, List.length_append, List.length_cons, List.length_nil, List.length_take, List.length_drop, List.length_replicate, List.length_set, List.length_map]) <;> omega) ?_; conv => whnf)
      | (refine vcall_p (validChain_v _ hc) rfl rfl ?_; conv => whnf)
      | (refine vcall_p (inRange_v _ _ _) rfl rfl ?_; conv => whnf)
      | (refine vcall_n (copyChain_d _ hc) rfl rfl rfl rfl ?_; conv => whnf)
      | (refine vcall_l (hmv) rfl rfl rfl ?_; conv => whnf)
      | (refine vcall_l (isIn_v _ _ (by omega)) rfl rfl rfl ?_; conv => whnf)
      | (refine vor_r (by omega) ?_; conv => whnf)
      | (refine vor_l (by first | rfl | omega) ?_; conv => whnf)
    all_goals first | (rw [g1] at h; cases h) | (exact absurd g2 h) | (rw [g3] at h; cases h) | (exact absurd g4 h) | (exact absurd h g4) | (cases h; done) | skip
    refine vpre_no ?_
    conv => whnf
    repeat' first
      | (refine vneed_i (by kernel_rfl) ?_; conv => whnf)
      | (refine vneed_i (by (try simp only [C.len, C.isSl, C.stride, true_and, and_true, Int.toNat_natCast, toNat_sub1, toNat_add1, List.length_append, List.length_cons, List.length_nil, List.length_take, List.length_drop, List.length_replicate, List.length_set, List.length_map]) <;> omega) ?_; conv => whnf)
      | (refine vif_i (fun h => ?_) (fun h => ?_) <;> (try simp only [Bool.not_eq_true', Bool.not_eq_false', decide_eq_true_eq, decide_eq_false_iff_not, beq_iff_eq, bne_iff_ne, ne_eq, Bool.not_eq_true, Bool.not_eq_false, bne_eq_false_iff_eq, beq_eq_false_iff_ne] at h) <;> (try simp only [C.len, C.isSl, C.stride, true_and, Int.toNat_natCast, toNat_sub1, toNat_add1] at h) <;> conv => whnf)
      | refine vend_tt ?_
      | refine vend_ff ?_
      | refine vend_b ?_
      | refine vend_n ?_
      | refine vend_c ?_
      | (refine vint_f (by (try simp only [C.len, C.isSl, C.stride, true_and, and_true, Int.toNat_natCast, toNat_sub1, toNat_add1, List.length_append, List.length_cons, List.length_nil, List.length_take, List.length_drop, List.length_replicate, List.length_set, List.length_map]) <;> omega) (by (try simp only [C.len, C.isSl, C.stride, true_and, and_true, Int.toNat_natCast, toNat_sub1, toNat_add1, List.length_append, List.length_cons, List.length_nil, List.length_take, List.length_drop, List.length_replicate, List.length_set, List.length_map]) <;> omega) ?_; conv => whnf)
      | (refine vor_r (by omega) ?_; conv => whnf)
      | (refine vor_l (by first | rfl | omega) ?_; conv => whnf)
    all_goals first | (rw [g1] at h; cases h) | (exact absurd g2 h) | (rw [g3] at h; cases h) | (exact absurd g4 h) | (exact absurd h g4) | (cases h; done) | skip
    refine vpre_g [.cl 0] ?_
    conv => whnf
    repeat' first
      | (refine vneed_i (by kernel_rfl) ?_; conv => whnf)
      | (refine vneed_i (by (try simp only [C.len, C.isSl, C.stride, true_and, and_true, Int.toNat_natCast, toNat_sub1, toNat_add1, List.length_append, List.length_cons, List.length_nil, List.length_take, List.length_drop, List.length_replicate, List.length_set, List.length_map]) <;> omega) ?_; conv => whnf)
      | (refine vif_i (fun h => ?_) (fun h => ?_) <;> (try simp only [Bool.not_eq_true', Bool.not_eq_false', decide_eq_true_eq, decide_eq_false_iff_not, beq_iff_eq, bne_iff_ne, ne_eq, Bool.not_eq_true, Bool.not_eq_false, bne_eq_false_iff_eq, beq_eq_false_iff_ne] at h) <;> (try simp only [C.len, C.isSl, C.stride, true_and, Int.toNat_natCast, toNat_sub1, toNat_add1] at h) <;> conv => whnf)
      | refine vend_tt ?_
      | refine vend_ff ?_
      | refine vend_b ?_
      | refine vend_n ?_
      | refine vend_c ?_
      | (refine vint_f (by (try simp only [C.len, C.isSl, C.stride, true_and, and_true, Int.toNat_natCast, toNat_sub1, toNat_add1, List.length_append, List.length_cons, List.length_nil, List.length_take, List.length_drop, List.length_replicate, List.length_set, List.length_map]) <;> omega) (by (try simp only [C.len, C.isSl, C.stride, true_and, and_true, Int.toNat_natCast, toNat_sub1, toNat_add1, List.length_append, List.length_cons, List.length_nil, List.length_take, List.length_drop, List.length_replicate, List.length_set, List.length_map]) <;> omega) ?_; conv => whnf)
      | (refine vcall_n (hsl2) rfl rfl rfl rfl ?_; conv => whnf)
      | (refine vor_r (by omega) ?_; conv => whnf)
      | (refine vor_l (by first | rfl | omega) ?_; conv => whnf)
    refine vpre_no ?_
    conv => whnf
    repeat' first
      | (refine vneed_i (by kernel_rfl) ?_; conv => whnf)
      | (refine vneed_i (by (try simp only [C.len, C.isSl, C.stride, true_and, and_true, Int.toNat_natCast, toNat_sub1, toNat_add1, List.length_append, List.length_cons, List.length_nil, List.length_take, List.length_drop, List.length_replicate, List.length_set, List.length_map]) <;> omega) ?_; conv => whnf)
      | (refine vif_i (fun h => ?_) (fun h => ?_) <;> (try simp only [Bool.not_eq_true', Bool.not_eq_false', decide_eq_true_eq, decide_eq_false_iff_not, beq_iff_eq, bne_iff_ne, ne_eq, Bool.not_eq_true, Bool.not_eq_false, bne_eq_false_iff_eq, beq_eq_false_iff_ne] at h) <;> (try simp only [C.len, C.isSl, C.stride, true_and, Int.toNat_natCast, toNat_sub1, toNat_add1] at h) <;> conv => whnf)
      | refine vend_tt ?_
      | refine vend_ff ?_
      | refine vend_b ?_
      | refine vend_n ?_
      | refine vend_c ?_
      | (refine vint_f (by (try simp only [C.len, C.isSl, C.stride, true_and, and_true, Int.toNat_natCast, toNat_sub1, toNat_add1, List.length_append, List.length_cons, List.length_nil, List.length_take, List.length_drop, List.length_replicate, List.length_set, List.length_map]) <;> omega) (by (try simp only [C.len, C.isSl, C.stride, true_and, and_true, Int.toNat_natCast, toNat_sub1, toNat_add1, List.length_append, List.length_cons, List.length_nil, List.length_take, List.length_drop, List.length_replicate, List.length_set, List.length_map]) <;> omega) ?_; conv => whnf)
      | (refine vor_r (by omega) ?_; conv => whnf)
      | (refine vor_l (by first | rfl | omega) ?_; conv => whnf)
    all_goals first | (rw [g1] at h; cases h) | (exact absurd g2 h) | (rw [g3] at h; cases h) | (exact absurd g4 h) | (exact absurd h g4) | (cases h; done) | skip
    refine vpre_no ?_
    conv => whnf
    repeat' first
      | (refine vneed_i (by kernel_rfl) ?_; conv => whnf)
      | (refine vneed_i (by (try simp only [C.len, C.isSl, C.stride, true_and, and_true, Int.toNat_natCast, toNat_sub1, toNat_add1, List.length_append, List.length_cons, List.length_nil, List.length_take, List.length_drop, List.length_replicate, List.length_set, List.length_map]) <;> omega) ?_; conv => whnf)
      | (refine vif_i (fun h => ?_) (fun h => ?_) <;> (try simp only [Bool.not_eq_true', Bool.not_eq_false', decide_eq_true_eq, decide_eq_false_iff_not, beq_iff_eq, bne_iff_ne, ne_eq, Bool.not_eq_true, Bool.not_eq_false, bne_eq_false_iff_eq, beq_eq_false_iff_ne] at h) <;> (try simp only [C.len, C.isSl, C.stride, true_and, Int.toNat_natCast, toNat_sub1, toNat_add1] at h) <;> conv => whnf)
      | refine vend_tt ?_
      | refine vend_ff ?_
      | refine vend_b ?_
      | refine vend_n ?_
      | refine vend_c ?_
      | (refine vint_f (by (try simp only [C.len, C.isSl, C.stride, true_and, and_true, Int.toNat_natCast, toNat_sub1, toNat_add1, List.length_append, List.length_cons, List.length_nil, List.length_take, List.length_drop, List.length_replicate, List.length_set, List.length_map]) <;> omega) (by (try simp only [C.len, C.isSl, C.stride, true_and, and_true, Int.toNat_natCast, toNat_sub1, toNat_add1, List.length_append, List.length_cons, List.length_nil, List.length_take, List.length_drop, List.length_replicate, List.length_set, List.length_map]) <;> omega) ?_; conv => whnf)
      | (refine vor_r (by omega) ?_; conv => whnf)
      | (refine vor_l (by first | rfl | omega) ?_; conv => whnf)
    refine vpre_no ?_
    conv => whnf
    repeat' first
      | (refine vneed_i (by kernel_rfl) ?_; conv => whnf)
      | (refine vneed_i (by (try simp only [C.len, C.isSl, C.stride, true_and, and_true, Int.toNat_natCast, toNat_sub1, toNat_add1, List.length_append, List.length_cons, List.length_nil, List.length_take, List.length_drop, List.length_replicate, List.length_set, List.length_map]) <;> omega) ?_; conv => whnf)
      | (refine vif_i (fun h => ?_) (fun h => ?_) <;> (try simp only [Bool.not_eq_true', Bool.not_eq_false', decide_eq_true_eq, decide_eq_false_iff_not, beq_iff_eq, bne_iff_ne, ne_eq, Bool.not_eq_true, Bool.not_eq_false, bne_eq_false_iff_eq, beq_eq_false_iff_ne] at h) <;> (try simp only [C.len, C.isSl, C.stride, true_and, Int.toNat_natCast, toNat_sub1, toNat_add1] at h) <;> conv => whnf)
      | refine vend_tt ?_
      | refine vend_ff ?_
      | refine vend_b ?_
      | refine vend_n ?_
      | refine vend_c ?_
      | (refine vint_f (by (try simp only [C.len, C.isSl, C.stride, true_and, and_true, Int.toNat_natCast, toNat_sub1, toNat_add1, List.length_append, List.length_cons, List.length_nil, List.length_take, List.length_drop, List.length_replicate, List.length_set, List.length_map]) <;> omega) (by (try simp only [C.len, C.isSl, C.stride, true_and, and_true, Int.toNat_natCast, toNat_sub1, toNat_add1, List.length_append, List.length_cons, List.length_nil, List.length_take, List.length_drop, List.length_replicate, List.length_set, List.length_map]) <;> omega) ?_; conv => whnf)
      | (refine vcall_l (hmv') rfl rfl rfl ?_; conv => whnf)
      | (refine vor_r (by omega) ?_; conv => whnf)
      | (refine vor_l (by first | rfl | omega) ?_; conv => whnf)
    refine vpre_g [.op 4 b.toNat] ?_
    conv => whnf
    repeat' first
      | (refine vneed_i (by kernel_rfl) ?_; conv => whnf)
      | (refine vneed_i (by (try simp only [C.len, C.isSl, C.stride, true_and, and_true, Int.toNat_natCast, toNat_sub1, toNat_add1, List.length_append, List.length_cons, List.length_nil, List.length_take, List.length_drop, List.length_replicate, List.length_set, List.length_map]) <;> omega) ?_; conv => whnf)
      | (refine vif_i (fun h => ?_) (fun h => ?_) <;> (try simp only [Bool.not_eq_true', Bool.not_eq_false', decide_eq_true_eq, decide_eq_false_iff_not, beq_iff_eq, bne_iff_ne, ne_eq, Bool.not_eq_true, Bool.not_eq_false, bne_eq_false_iff_eq, beq_eq_false_iff_ne] at h) <;> (try simp only [C.len, C.isSl, C.stride, true_and, Int.toNat_natCast, toNat_sub1, toNat_add1] at h) <;> conv => whnf)
      | refine vend_tt ?_
      | refine vend_ff ?_
      | refine vend_b ?_
      | refine vend_n ?_
      | refine vend_c ?_
      | (refine vint_f (by (try simp only [C.len, C.isSl, C.stride, true_and, and_true, Int.toNat_natCast, toNat_sub1, toNat_add1, List.length_append, List.length_cons, List.length_nil, List.length_take, List.length_drop, List.length_replicate, List.length_set, List.length_map]) <;> omega) (by (try simp only [C.len, C.isSl, C.stride, true_and, and_true, Int.toNat_natCast, toNat_sub1, toNat_add1, List.length_append, List.length_cons, List.length_nil, List.length_take, List.length_drop, List.length_replicate, List.length_set, List.length_map]) <;> omega) ?_; conv => whnf)
      | (refine vcall_n (InsertKey_ok _ n (by omega) g6) rfl rfl rfl rfl ?_; conv => whnf)
      | (refine vor_r (by omega) ?_; conv => whnf)
      | (refine vor_l (by first | rfl | omega) ?_; conv => whnf)
    refine vpre_no ?_
    conv => whnf
    repeat' first
      | (refine vneed_i (by kernel_rfl) ?_; conv => whnf)
      | (refine vneed_i (by (try simp only [C.len, C.isSl, C.stride, true_and, and_true, Int.toNat_natCast, toNat_sub1, toNat_add1, List.length_append, List.length_cons, List.length_nil, List.length_take, List.length_drop, List.length_replicate, List.length_set, List.length_map]) <;> omega) ?_; conv => whnf)
      | (refine vif_i (fun h => ?_) (fun h => ?_) <;> (try simp only [Bool.not_eq_true', Bool.not_eq_false', decide_eq_true_eq, decide_eq_false_iff_not, beq_iff_eq, bne_iff_ne, ne_eq, Bool.not_eq_true, Bool.not_eq_false, bne_eq_false_iff_eq, beq_eq_false_iff_ne] at h) <;> (try simp only [C.len, C.isSl, C.stride, true_and, Int.toNat_natCast, toNat_sub1, toNat_add1] at h) <;> conv => whnf)
      | refine vend_tt ?_
      | refine vend_ff ?_
      | refine vend_b ?_
      | refine vend_n ?_
      | refine vend_c ?_
      | (refine vint_f (by (try simp only [C.len, C.isSl, C.stride, true_and, and_true, Int.toNat_natCast, toNat_sub1, toNat_add1, List.length_append, List.length_cons, List.length_nil, List.length_take, List.length_drop, List.length_replicate, List.length_set, List.length_map]) <;> omega) (by (try simp only [C.len, C.isSl, C.stride, true_and, and_true, Int.toNat_natCast, toNat_sub1, toNat_add1, List.length_append, List.length_cons, List.length_nil, List.length_take, List.length_drop, List.length_replicate, List.length_set, List.length_map]) <;> omega) ?_; conv => whnf)
      | (refine vor_r (by omega) ?_; conv => whnf)
      | (refine vor_l (by first | rfl | omega) ?_; conv => whnf)
    refine vpre_g [.cl 4] ?_
    conv => whnf
    repeat' first
      | (refine vneed_i (by kernel_rfl) ?_; conv => whnf)
      | (refine vneed_i (by (try simp only [C.len, C.isSl, C.stride, true_and, and_true, Int.toNat_natCast, toNat_sub1, toNat_add1, List.length_append, List.length_cons, List.length_nil, List.length_take, List.length_drop, List.length_replicate, List.length_set, List.length_map]) <;> omega) ?_; conv => whnf)
      | (refine vif_i (fun h => ?_) (fun h => ?_) <;> (try simp only [Bool.not_eq_true', Bool.not_eq_false', decide_eq_true_eq, decide_eq_false_iff_not, beq_iff_eq, bne_iff_ne, ne_eq, Bool.not_eq_true, Bool.not_eq_false, bne_eq_false_iff_eq, beq_eq_false_iff_ne] at h) <;> (try simp only [C.len, C.isSl, C.stride, true_and, Int.toNat_natCast, toNat_sub1, toNat_add1] at h) <;> conv => whnf)
      | refine vend_tt ?_
      | refine vend_ff ?_
      | refine vend_b ?_
      | refine vend_n ?_
      | refine vend_c ?_
      | (refine vint_f (by (try simp only [C.len, C.isSl, C.stride, true_and, and_true, Int.toNat_natCast, toNat_sub1, toNat_add1, List.length_append, List.length_cons, List.length_nil, List.length_take, List.length_drop, List.length_replicate, List.length_set, List.length_map]) <;> omega) (by (try simp only [C.len, C.isSl, C.stride, true_and, and_true, Int.toNat_natCast, toNat_sub1, toNat_add1, List.length_append, List.length_cons, List.length_nil, List.length_take, List.length_drop, List.length_replicate, List.length_set, List.length_map]) <;> omega) ?_; conv => whnf)
      | (refine vor_r (by omega) ?_; conv => whnf)
      | (refine vor_l (by first | rfl | omega) ?_; conv => whnf)
      | (refine vch_l ?_; conv => whnf)
      | (refine vpre_no ?_; conv => whnf)
    refine (vend_i [] [4] ⟨rfl, ⟨?_, trivial⟩, rfl, rfl, rfl, rfl, rfl, rfl⟩)
    rfl
  · rw [Bool.not_eq_true] at g6
    unfold insK
    rw [g6, if_neg (by decide)]
    refine spec_intro (fn := Try.f37) tOk eOk mix _ (by kernel_rfl) (by decide +kernel) rfl rfl rfl ?_
    conv => whnf
    repeat' first
      | (refine vneed_i (by kernel_rfl) ?_; conv => whnf)
      | (refine vneed_i (by (try simp only [C.len, C.isSl, C.stride, true_and, and_true, Int.toNat_natCast, toNat_sub1, toNat_add1, List.length_append, List.length_cons, List.length_nil, List.length_take, List.length_drop, List.length_replicate, List.length_set, List.length_map]) <;> omega) ?_; conv => whnf)
      | (refine vif_i (fun h => ?_) (fun h => ?_) <;> (try simp only [Bool.not_eq_true', Bool.not_eq_false', decide_eq_true_eq, decide_eq_false_iff_not, beq_iff_eq, bne_iff_ne, ne_eq, Bool.not_eq_true, Bool.not_eq_false, bne_eq_false_iff_eq, beq_eq_false_iff_ne] at h) <;> (try simp only [C.len, C.isSl, C.stride, true_and, Int.toNat_natCast, toNat_sub1, toNat_add1] at h) <;> conv => whnf)
      | refine vend_tt ?_
      | refine vend_ff ?_
      | refine vend_b ?_
      | refine vend_n ?_
      | refine vend_c ?_
      | (refine vint_f (by (try simp only [C.len, C.isSl, C.stride, true_and, and_true, Int.toNat_natCast, toNat_sub1, toNat_add1, List.length_append, List.length_cons, List.length_nil, List.length_take, List.length_drop, List.length_replicate, List.length_set, List.length_map]) <;> omega) (by (try simp only [C.len, C.isSl, C.stride, true_and, and_true, Int.toNat_natCast, toNat_sub1, toNat_add1, List.length_append, List.length_cons, List.length_nil, List.length_take, List.length_drop, List.length_replicate, List.length_set, List.length_map]) <;> omega) ?_; conv => whnf)
      | (refine vcall_p (validChain_v _ hc) rfl rfl ?_; conv => whnf)
      | (refine vcall_p (inRange_v _ _ _) rfl rfl ?_; conv => whnf)
      | (refine vcall_n (copyChain_d _ hc) rfl rfl rfl rfl ?_; conv => whnf)
      | (refine vcall_l (hmv) rfl rfl rfl ?_; conv => whnf)
      | (refine vcall_l (isIn_v _ _ (by omega)) rfl rfl rfl ?_; conv => whnf)
      | (refine vor_r (by omega) ?_; conv => whnf)
      | (refine vor_l (by first | rfl | omega) ?_; conv => whnf)
    all_goals first | (rw [g1] at h; cases h) | (exact absurd g2 h) | (rw [g3] at h; cases h) | (exact absurd g4 h) | (exact absurd h g4) | (cases h; done) | skip
    refine vpre_no ?_
    conv => whnf
    repeat' first
      | (refine vneed_i (by kernel_rfl) ?_; conv => whnf)
      | (refine vneed_i (by (try simp only [C.len, C.isSl, C.stride, true_and, and_true, Int.toNat_natCast, toNat_sub1, toNat_add1, List.length_append, List.length_cons, List.length_nil, List.length_take, List.length_drop, List.length_replicate, List.length_set, List.length_map]) <;> omega) ?_; conv => whnf)
      | (refine vif_i (fun h => ?_) (fun h => ?_) <;> (try simp only [Bool.not_eq_true', Bool.not_eq_false', decide_eq_true_eq, decide_eq_false_iff_not, beq_iff_eq, bne_iff_ne, ne_eq, Bool.not_eq_true, Bool.not_eq_false, bne_eq_false_iff_eq, beq_eq_false_iff_ne] at h) <;> (try simp only [C.len, C.isSl, C.stride, true_and, Int.toNat_natCast, toNat_sub1, toNat_add1] at h) <;> conv => whnf)
      | refine vend_tt ?_
      | refine vend_ff ?_
      | refine vend_b ?_
      | refine vend_n ?_
      | refine vend_c ?_
      | (refine vint_f (by (try simp only [C.len, C.isSl, C.stride, true_and, and_true, Int.toNat_natCast, toNat_sub1, toNat_add1, List.length_append, List.length_cons, List.length_nil, List.length_take, List.length_drop, List.length_replicate, List.length_set, List.length_map]) <;> omega) (by (try simp only [C.len, C.isSl, C.stride, true_and, and_true, Int.toNat_natCast, toNat_sub1, toNat_add1, List.length_append, List.length_cons, List.length_nil, List.length_take, List.length_drop, List.length_replicate, List.length_set, List.length_map]) <;> omega) ?_; conv => whnf)
      | (refine vcall_p (validChain_v _ hc) rfl rfl ?_; conv => whnf)
      | (refine vcall_p (inRange_v _ _ _) rfl rfl ?_; conv => whnf)
      | (refine vcall_n (copyChain_d _ hc) rfl rfl rfl rfl ?_; conv => whnf)
      | (refine vcall_l (hmv) rfl rfl rfl ?_; conv => whnf)
      | (refine vcall_l (isIn_v _ _ (by omega)) rfl rfl rfl ?_; conv => whnf)
      | (refine vor_r (by omega) ?_; conv => whnf)
      | (refine vor_l (by first | rfl | omega) ?_; conv => whnf)
    refine vpre_g [.op 0 a.toNat] ?_
    conv => whnf
    repeat' first
      | (refine vneed_i (by kernel_rfl) ?_; conv => whnf)
      | (refine vneed_i (by (try simp only [C.len, C.isSl, C.stride, true_and, and_true, Int.toNat_natCast, toNat_sub1, toNat_add1, List.length_append, List.length_cons, List.length_nil, List.length_take, List.length_drop, List.length_replicate, List.length_set, List.length_map]) <;> omega) ?_; conv => whnf)
      | (refine vif_i (fun h => ?_) (fun h => ?_) <;> (try simp only [Bool.not_eq_true', Bool.not_eq_false', decide_eq_true_eq, decide_eq_false_iff_not, beq_iff_eq, bne_iff_ne, ne_eq, Bool.not_eq_true, Bool.not_eq_false, bne_eq_false_iff_eq, beq_eq_false_iff_ne] at h) <;> (try simp only [C.len, C.isSl, C.stride, true_and, Int.toNat_natCast, toNat_sub1, toNat_add1] at h) <;> conv => whnf)
      | refine vend_tt ?_
      | refine vend_ff ?_
      | refine vend_b ?_
      | refine vend_n ?_
      | refine vend_c ?_
      | (refine vint_f (by (try simp only [C.len, C.isSl, C.stride, true_and, and_true, Int.toNat_natCast, toNat_sub1, toNat_add1, List.length_append, List.length_cons, List.length_nil, List.length_take, List.length_drop, List.length_replicate, List.length_set, List.length_map]) <;> omega) (by (try simp only [C.len, C.isSl, C.stride, true_and, and_true, Int.toNat_natCast, toNat_sub1, toNat_add1, List.length_append, List.length_cons, List.length_nil, List.length_take, List.length_drop, List.length_replicate, List.length_set, List.length_map]) <;> omega) ?_; conv => whnf)
      | (refine vcall_p (validChain_v _ hc) rfl rfl ?_; conv => whnf)
      | (refine vcall_p (inRange_v _ _ _) rfl rfl ?_; conv => whnf)
      | (refine vcall_n (copyChain_d _ hc) rfl rfl rfl rfl ?_; conv => whnf)
      | (refine vcall_l (hmv) rfl rfl rfl ?_; conv => whnf)
      | (refine vcall_l (isIn_v _ _ (by omega)) rfl rfl rfl ?_; conv => whnf)
      | (refine vor_r (by omega) ?_; conv => whnf)
      | (refine vor_l (by first | rfl | omega) ?_; conv => whnf)
    all_goals first | (rw [g1] at h; cases h) | (exact absurd g2 h) | (rw [g3] at h; cases h) | (exact absurd g4 h) | (exact absurd h g4) | (cases h; done) | skip
    refine vpre_no ?_
    conv => whnf
    repeat' first
      | (refine vneed_i (by kernel_rfl) ?_; conv => whnf)
      | (refine vneed_i (by (try simp only [C.len, C.isSl, C.stride, true_and, and_true, Int.toNat_natCast, toNat_sub1, toNat_add1, List.length_append, List.length_cons, List.length_nil, List.length_take, List.length_drop, List.length_replicate, List.length_set, List.length_map]) <;> omega) ?_; conv => whnf)
      | (refine vif_i (fun h => ?_) (fun h => ?_) <;> (try simp only [Bool.not_eq_true', Bool.not_eq_false', decide_eq_true_eq, decide_eq_false_iff_not, beq_iff_eq, bne_iff_ne, ne_eq, Bool.not_eq_true, Bool.not_eq_false, bne_eq_false_iff_eq, beq_eq_false_iff_ne] at h) <;> (try simp only [C.len, C.isSl, C.stride, true_and, Int.toNat_natCast, toNat_sub1, toNat_add1] at h) <;> conv => whnf)
      | refine vend_tt ?_
      | refine vend_ff ?_
      | refine vend_b ?_
      | refine vend_n ?_
      | refine vend_c ?_
      | (refine vint_f (by (try simp only [C.len, C.isSl, C.stride, true_and, and_true, Int.toNat_natCast, toNat_sub1, toNat_add1, List.length_append, List.length_cons, List.length_nil, List.length_take, List.length_drop, List.length_replicate, List.length_set, List.length_map]) <;> omega) (by (try simp only [C.len, C.isSl, C.stride, true_and, and_true, Int.toNat_natCast, toNat_sub1, toNat_add1, List.length_append, List.length_cons, List.length_nil, List.length_take, List.length_drop, List.length_replicate, List.length_set, List.length_map]) <;> omega) ?_; conv => whnf)
      | (refine vor_r (by omega) ?_; conv => whnf)
      | (refine vor_l (by first | rfl | omega) ?_; conv => whnf)
    all_goals first | (rw [g1] at h; cases h) | (exact absurd g2 h) | (rw [g3] at h; cases h) | (exact absurd g4 h) | (exact absurd h g4) | (cases h; done) | skip
    refine vpre_g [.cl 0] ?_
    conv => whnf
    repeat' first
      | (refine vneed_i (by kernel_rfl) ?_; conv => whnf)
      | (refine vneed_i (by (try simp only [C.len, C.isSl, C.stride, true_and, and_true, Int.toNat_natCast, toNat_sub1, toNat_add1, List.length_append, List.length_cons, List.length_nil, List.length_take, List.length_drop, List.length_replicate, List.length_set, List.length_map]) <;> omega) ?_; conv => whnf)
      | (refine vif_i (fun h => ?_) (fun h => ?_) <;> (try simp only [Bool.not_eq_true', Bool.not_eq_false', decide_eq_true_eq, decide_eq_false_iff_not, beq_iff_eq, bne_iff_ne, ne_eq, Bool.not_eq_true, Bool.not_eq_false, bne_eq_false_iff_eq, beq_eq_false_iff_ne] at h) <;> (try simp only [C.len, C.isSl, C.stride, true_and, Int.toNat_natCast, toNat_sub1, toNat_add1] at h) <;> conv => whnf)
      | refine vend_tt ?_
      | refine vend_ff ?_
      | refine vend_b ?_
      | refine vend_n ?_
      | refine vend_c ?_
      | (refine vint_f (by (try simp only [C.len, C.isSl, C.stride, true_and, and_true, Int.toNat_natCast, toNat_sub1, toNat_add1, List.length_append, List.length_cons, List.length_nil, List.length_take, List.length_drop, List.length_replicate, List.length_set, List.length_map]) <;> omega) (by (try simp only [C.len, C.isSl, C.stride, true_and, and_true, Int.toNat_natCast, toNat_sub1, toNat_add1, List.length_append, List.length_cons, List.length_nil, List.length_take, List.length_drop, List.length_replicate, List.length_set, List.length_map]) <;> omega) ?_; conv => whnf)
      | (refine vcall_n (hsl2) rfl rfl rfl rfl ?_; conv => whnf)
      | (refine vor_r (by omega) ?_; conv => whnf)
      | (refine vor_l (by first | rfl | omega) ?_; conv => whnf)
    refine vpre_no ?_
    conv => whnf
    repeat' first
      | (refine vneed_i (by kernel_rfl) ?_; conv => whnf)
      | (refine vneed_i (by (try simp only [C.len, C.isSl, C.stride, true_and, and_true, Int.toNat_natCast, toNat_sub1, toNat_add1, List.length_append, List.length_cons, List.length_nil, List.length_take, List.length_drop, List.length_replicate, List.length_set, List.length_map]) <;> omega) ?_; conv => whnf)
      | (refine vif_i (fun h => ?_) (fun h => ?_) <;> (try simp only [Bool.not_eq_true', Bool.not_eq_false', decide_eq_true_eq, decide_eq_false_iff_not, beq_iff_eq, bne_iff_ne, ne_eq, Bool.not_eq_true, Bool.not_eq_false, bne_eq_false_iff_eq, beq_eq_false_iff_ne] at h) <;> (try simp only [C.len, C.isSl, C.stride, true_and, Int.toNat_natCast, toNat_sub1, toNat_add1] at h) <;> conv => whnf)
      | refine vend_tt ?_
      | refine vend_ff ?_
      | refine vend_b ?_
      | refine vend_n ?_
      | refine vend_c ?_
      | (refine vint_f (by (try simp only [C.len, C.isSl, C.stride, true_and, and_true, Int.toNat_natCast, toNat_sub1, toNat_add1, List.length_append, List.length_cons, List.length_nil, List.length_take, List.length_drop, List.length_replicate, List.length_set, List.length_map]) <;> omega) (by (try simp only [C.len, C.isSl, C.stride, true_and, and_true, Int.toNat_natCast, toNat_sub1, toNat_add1, List.length_append, List.length_cons, List.length_nil, List.length_take, List.length_drop, List.length_replicate, List.length_set, List.length_map]) <;> omega) ?_; conv => whnf)
      | (refine vor_r (by omega) ?_; conv => whnf)
      | (refine vor_l (by first | rfl | omega) ?_; conv => whnf)
    all_goals first | (rw [g1] at h; cases h) | (exact absurd g2 h) | (rw [g3] at h; cases h) | (exact absurd g4 h) | (exact absurd h g4) | (cases h; done) | skip
    refine vpre_no ?_
    conv => whnf
    repeat' first
      | (refine vneed_i (by kernel_rfl) ?_; conv => whnf)
      | (refine vneed_i (by (try simp only [C.len, C.isSl, C.stride, true_and, and_true, Int.toNat_natCast, toNat_sub1, toNat_add1, List.length_append, List.length_cons, List.length_nil, List.length_take, List.length_drop, List.length_replicate, List.length_set, List.length_map]) <;> omega) ?_; conv => whnf)
      | (refine vif_i (fun h => ?_) (fun h => ?_) <;> (try simp only [Bool.not_eq_true', Bool.not_eq_false', decide_eq_true_eq, decide_eq_false_iff_not, beq_iff_eq, bne_iff_ne, ne_eq, Bool.not_eq_true, Bool.not_eq_false, bne_eq_false_iff_eq, beq_eq_false_iff_ne] at h) <;> (try simp only [C.len, C.isSl, C.stride, true_and, Int.toNat_natCast, toNat_sub1, toNat_add1] at h) <;> conv => whnf)
      | refine vend_tt ?_
      | refine vend_ff ?_
      | refine vend_b ?_
      | refine vend_n ?_
      | refine vend_c ?_
      | (refine vint_f (by (try simp only [C.len, C.isSl, C.stride, true_and, and_true, Int.toNat_natCast, toNat_sub1, toNat_add1, List.length_append, List.length_cons, List.length_nil, List.length_take, List.length_drop, List.length_replicate, List.length_set, List.length_map]) <;> omega) (by (try simp only [C.len, C.isSl, C.stride, true_and, and_true, Int.toNat_natCast, toNat_sub1, toNat_add1, List.length_append, List.length_cons, List.length_nil, List.length_take, List.length_drop, List.length_replicate, List.length_set, List.length_map]) <;> omega) ?_; conv => whnf)
      | (refine vor_r (by omega) ?_; conv => whnf)
      | (refine vor_l (by first | rfl | omega) ?_; conv => whnf)
    refine vpre_no ?_
    conv => whnf
    repeat' first
      | (refine vneed_i (by kernel_rfl) ?_; conv => whnf)
      | (refine vneed_i (by (try simp only [C.len, C.isSl, C.stride, true_and, and_true, Int.toNat_natCast, toNat_sub1, toNat_add1, List.length_append, List.length_cons, List.length_nil, List.length_take, List.length_drop, List.length_replicate, List.length_set, List.length_map]) <;> omega) ?_; conv => whnf)
      | (refine vif_i (fun h => ?_) (fun h => ?_) <;> (try simp only [Bool.not_eq_true', Bool.not_eq_false', decide_eq_true_eq, decide_eq_false_iff_not, beq_iff_eq, bne_iff_ne, ne_eq, Bool.not_eq_true, Bool.not_eq_false, bne_eq_false_iff_eq, beq_eq_false_iff_ne] at h) <;> (try simp only [C.len, C.isSl, C.stride, true_and, Int.toNat_natCast, toNat_sub1, toNat_add1] at h) <;> conv => whnf)
      | refine vend_tt ?_
      | refine vend_ff ?_
      | refine vend_b ?_
      | refine vend_n ?_
      | refine vend_c ?_
      | (refine vint_f (by (try simp only [C.len, C.isSl, C.stride, true_and, and_true, Int.toNat_natCast, toNat_sub1, toNat_add1, List.length_append, List.length_cons, List.length_nil, List.length_take, List.length_drop, List.length_replicate, List.length_set, List.length_map]) <;> omega) (by (try simp only [C.len, C.isSl, C.stride, true_and, and_true, Int.toNat_natCast, toNat_sub1, toNat_add1, List.length_append, List.length_cons, List.length_nil, List.length_take, List.length_drop, List.length_replicate, List.length_set, List.length_map]) <;> omega) ?_; conv => whnf)
      | (refine vcall_l (hmv') rfl rfl rfl ?_; conv => whnf)
      | (refine vor_r (by omega) ?_; conv => whnf)
      | (refine vor_l (by first | rfl | omega) ?_; conv => whnf)
    refine vpre_g [.op 4 b.toNat] ?_
    conv => whnf
    repeat' first
      | (refine vneed_i (by kernel_rfl) ?_; conv => whnf)
      | (refine vneed_i (by (try simp only [C.len, C.isSl, C.stride, true_and, and_true, Int.toNat_natCast, toNat_sub1, toNat_add1, List.length_append, List.length_cons, List.length_nil, List.length_take, List.length_drop, List.length_replicate, List.length_set, List.length_map]) <;> omega) ?_; conv => whnf)
      | (refine vif_i (fun h => ?_) (fun h => ?_) <;> (try simp only [Bool.not_eq_true', Bool.not_eq_false', decide_eq_true_eq, decide_eq_false_iff_not, beq_iff_eq, bne_iff_ne, ne_eq, Bool.not_eq_true, Bool.not_eq_false, bne_eq_false_iff_eq, beq_eq_false_iff_ne] at h) <;> (try simp only [C.len, C.isSl, C.stride, true_and, Int.toNat_natCast, toNat_sub1, toNat_add1] at h) <;> conv => whnf)
      | refine vend_tt ?_
      | refine vend_ff ?_
      | refine vend_b ?_
      | refine vend_n ?_
      | refine vend_c ?_
      | (refine vint_f (by (try simp only [C.len, C.isSl, C.stride, true_and, and_true, Int.toNat_natCast, toNat_sub1, toNat_add1, List.length_append, List.length_cons, List.length_nil, List.length_take, List.length_drop, List.length_replicate, List.length_set, List.length_map]) <;> omega) (by (try simp only [C.len, C.isSl, C.stride, true_and, and_true, Int.toNat_natCast, toNat_sub1, toNat_add1, List.length_append, List.length_cons, List.length_nil, List.length_take, List.length_drop, List.length_replicate, List.length_set, List.length_map]) <;> omega) ?_; conv => whnf)
      | (refine vcall_n (InsertKey_no _ n (by omega) g6) rfl rfl rfl rfl ?_; conv => whnf)
      | (refine vor_r (by omega) ?_; conv => whnf)
      | (refine vor_l (by first | rfl | omega) ?_; conv => whnf)
    refine vpre_no ?_
    conv => whnf
    repeat' first
      | (refine vneed_i (by kernel_rfl) ?_; conv => whnf)
      | (refine vneed_i (by (try simp only [C.len, C.isSl, C.stride, true_and, and_true, Int.toNat_natCast, toNat_sub1, toNat_add1, List.length_append, List.length_cons, List.length_nil, List.length_take, List.length_drop, List.length_replicate, List.length_set, List.length_map]) <;> omega) ?_; conv => whnf)
      | (refine vif_i (fun h => ?_) (fun h => ?_) <;> (try simp only [Bool.not_eq_true', Bool.not_eq_false', decide_eq_true_eq, decide_eq_false_iff_not, beq_iff_eq, bne_iff_ne, ne_eq, Bool.not_eq_true, Bool.not_eq_false, bne_eq_false_iff_eq, beq_eq_false_iff_ne] at h) <;> (try simp only [C.len, C.isSl, C.stride, true_and, Int.toNat_natCast, toNat_sub1, toNat_add1] at h) <;> conv => whnf)
      | refine vend_tt ?_
      | refine vend_ff ?_
      | refine vend_b ?_
      | refine vend_n ?_
      | refine vend_c ?_
      | (refine vint_f (by (try simp only [C.len, C.isSl, C.stride, true_and, and_true, Int.toNat_natCast, toNat_sub1, toNat_add1, List.length_append, List.length_cons, List.length_nil, List.length_take, List.length_drop, List.length_replicate, List.length_set, List.length_map]) <;> omega) (by (try simp only [C.len, C.isSl, C.stride, true_and, and_true, Int.toNat_natCast, toNat_sub1, toNat_add1, List.length_append, List.length_cons, List.length_nil, List.length_take, List.length_drop, List.length_replicate, List.length_set, List.length_map]) <;> omega) ?_; conv => whnf)
      | (refine vor_r (by omega) ?_; conv => whnf)
      | (refine vor_l (by first | rfl | omega) ?_; conv => whnf)
    refine vpre_g [.cl 4] ?_
    conv => whnf
    repeat' first
      | (refine vneed_i (by kernel_rfl) ?_; conv => whnf)
      | (refine vneed_i (by (try simp only [C.len, C.isSl, C.stride, true_and, and_true, Int.toNat_natCast, toNat_sub1, toNat_add1, List.length_append, List.length_cons, List.length_nil, List.length_take, List.length_drop, List.length_replicate, List.length_set, List.length_map]) <;> omega) ?_; conv => whnf)
      | (refine vif_i (fun h => ?_) (fun h => ?_) <;> (try simp only [Bool.not_eq_true', Bool.not_eq_false', decide_eq_true_eq, decide_eq_false_iff_not, beq_iff_eq, bne_iff_ne, ne_eq, Bool.not_eq_true, Bool.not_eq_false, bne_eq_false_iff_eq, beq_eq_false_iff_ne] at h) <;> (try simp only [C.len, C.isSl, C.stride, true_and, Int.toNat_natCast, toNat_sub1, toNat_add1] at h) <;> conv => whnf)
      | refine vend_tt ?_
      | refine vend_ff ?_
      | refine vend_b ?_
      | refine vend_n ?_
      | refine vend_c ?_
      | (refine vint_f (by (try simp only [C.len, C.isSl, C.stride, true_and, and_true, Int.toNat_natCast, toNat_sub1, toNat_add1, List.length_append, List.length_cons, List.length_nil, List.length_take, List.length_drop, List.length_replicate, List.length_set, List.length_map]) <;> omega) (by (try simp only [C.len, C.isSl, C.stride, true_and, and_true, Int.toNat_natCast, toNat_sub1, toNat_add1, List.length_append, List.length_cons, List.length_nil, List.length_take, List.length_drop, List.length_replicate, List.length_set, List.length_map]) <;> omega) ?_; conv => whnf)
      | (refine vor_r (by omega) ?_; conv => whnf)
      | (refine vor_l (by first | rfl | omega) ?_; conv => whnf)
      | (refine vch_l ?_; conv => whnf)
      | (refine vpre_no ?_; conv => whnf)
    refine (vend_i [] [4] ⟨rfl, ⟨?_, trivial⟩, rfl, rfl, rfl, rfl, rfl, rfl⟩)
    rfl
theorem PutLink_ok (c : List Lk) (hc : cB c) (hk : ∀ l ∈ c, l.keys.length ≤ 1000) (n : Int) (c' : List Lk) (ho : putF c n = some c') : Spec Try.prog 37 0 [.c (.lks c), .c (.int .i64 n)] [] 1 (.tup [.slc 0, .c (.bool true)]) [(0, .deep false 0 (.lks c') [])] := by
  unfold putF at ho
  split at ho
  · rename_i g
    split at ho
    · rename_i g3
      cases ho
      exact PutLink_a c hc hk n _ g.1 g.2 rfl g3
    · rename_i g3
      rw [Bool.not_eq_true] at g3
      split at ho
      · rename_i g4
        split at ho
        · rename_i g5
          cases ho
          exact PutLink_c c hc hk n _ _ _ g.1 g.2 rfl g3 g4 g5 rfl rfl
        · cases ho
      · rename_i g4
        cases ho
        exact PutLink_b c hc hk n _ g.1 g.2 rfl g3 g4
  · cases ho
theorem PutLink_no (c : List Lk) (hc : cB c) (hk : ∀ l ∈ c, l.keys.length ≤ 1000) (n : Int) (ho : putF c n = none) : Spec Try.prog 37 0 [.c (.lks c), .c (.int .i64 n)] [] 0 (.tup [.nil, .c (.bool false)]) [] := by
  have hcl := hc.1
  unfold putF at ho
  split at ho
  · rename_i g
    obtain ⟨g1, g2⟩ := g
    obtain ⟨q, p⟩ := path_of c g1
    have hr := mvR_rng p g2.2 c.length 0 p.one (Nat.le_refl _)
    have hmv := moveRight_v c (by omega) q p 0 n (by omega) (by have := p.one; omega) g2.2
    rw [p.first] at hr
    obtain ⟨a, ha⟩ : ∃ a, mvR c n c.length 0 = a := ⟨_, rfl⟩
    rw [ha] at hr hmv ho
    have hkk := keys_le hk a.toNat
    split at ho
    · cases ho
    · rename_i g3
      rw [Bool.not_eq_true] at g3
      split at ho
      · rename_i g4
        split at ho
        · cases ho
        · rename_i g5
          rw [Bool.not_eq_true] at g5
          have hsl := SplitLink_no c hc a g5
          have hsl2 : Spec Try.prog 39 0 [.c (.lks (c.set a.toNat ⟨(c.getD a.toNat ⟨[], 0, 0⟩).keys, (c.getD a.toNat ⟨[], 0, 0⟩).high, (c.getD a.toNat ⟨[], 0, 0⟩).right⟩)), .c (.int .i64 a)] [] 0 (.tup [.nil, .c (.bool false)]) [] := by rw [set_self]; exact hsl
          refine spec_intro (fn := Try.f37) tOk eOk mix _ (by kernel_rfl) (by decide +kernel) rfl rfl rfl ?_
          conv => whnf
          repeat' first
            | (refine vneed_i (by kernel_rfl) ?_; conv => whnf)
            | (refine vneed_i (by (try simp only [C.len, C.isSl, C.stride, true_and, and_true, Int.toNat_natCast, toNat_sub1, toNat_add1, List.length_append, List.length_cons, List.length_nil, List.length_take, List.length_drop, List.length_replicate, List.length_set, List.length_map]) <;> omega) ?_; conv => whnf)
            | (refine vif_i (fun h => ?_) (fun h => ?_) <;> (try simp only [Bool.not_eq_true', Bool.not_eq_false', decide_eq_true_eq, decide_eq_false_iff_not, beq_iff_eq, bne_iff_ne, ne_eq, Bool.not_eq_true, Bool.not_eq_false, bne_eq_false_iff_eq, beq_eq_false_iff_ne] at h) <;> (try simp only [C.len, C.isSl, C.stride, true_and, Int.toNat_natCast, toNat_sub1, toNat_add1] at h) <;> conv => whnf)
            | refine vend_tt ?_
            | refine vend_ff ?_
            | refine vend_b ?_
            | refine vend_n ?_
            | refine vend_c ?_
            | (refine vint_f (by (try simp only [C.len, C.isSl, C.stride, true_and, and_true, Int.toNat_natCast, toNat_sub1, toNat_add1, List.length_append, List.length_cons, List.length_nil, List.length_take, List.length_drop, List.length_replicate, List.length_set, List.length_map]) <;> omega) (by (try simp only [C.len, C.isSl, C.stride, true_and, and_true, Int.toNat_natCast, toNat_sub1, toNat_add1, List.length_append, List.length_cons, List.length_nil, List.length_take, List.length_drop, List.length_replicate, List.length_set, List.length_map]) <;> omega) ?_; conv => whnf)
            | (refine vcall_p (validChain_v _ hc) rfl rfl ?_; conv => whnf)
            | (refine vcall_p (inRange_v _ _ _) rfl rfl ?_; conv => whnf)
            | (refine vcall_n (copyChain_d _ hc) rfl rfl rfl rfl ?_; conv => whnf)
            | (refine vcall_l (hmv) rfl rfl rfl ?_; conv => whnf)
            | (refine vcall_l (isIn_v _ _ (by omega)) rfl rfl rfl ?_; conv => whnf)
            | (refine vor_r (by omega) ?_; conv => whnf)
            | (refine vor_l (by first | rfl | omega) ?_; conv => whnf)
          all_goals first | (rw [g1] at h; cases h) | (exact absurd g2 h) | (rw [g3] at h; cases h) | (exact absurd g4 h) | (exact absurd h g4) | (cases h; done) | skip
          refine vpre_no ?_
          conv => whnf
          repeat' first
            | (refine vneed_i (by kernel_rfl) ?_; conv => whnf)
            | (refine vneed_i (by (try simp only [C.len, C.isSl, C.stride, true_and, and_true, Int.toNat_natCast, toNat_sub1, toNat_add1, List.length_append, List.length_cons, List.length_nil, List.length_take, List.length_drop, List.length_replicate, List.length_set, List.length_map]) <;> omega) ?_; conv => whnf)
            | (refine vif_i (fun h => ?_) (fun h => ?_) <;> (try simp only [Bool.not_eq_true', Bool.not_eq_false', decide_eq_true_eq, decide_eq_false_iff_not, beq_iff_eq, bne_iff_ne, ne_eq, Bool.not_eq_true, Bool.not_eq_false, bne_eq_false_iff_eq, beq_eq_false_iff_ne] at h) <;> (try simp only [C.len, C.isSl, C.stride, true_and, Int.toNat_natCast, toNat_sub1, toNat_add1] at h) <;> conv => whnf)
            | refine vend_tt ?_
            | refine vend_ff ?_
            | refine vend_b ?_
            | refine vend_n ?_
            | refine vend_c ?_
            | (refine vint_f (by (try simp only [C.len, C.isSl, C.stride, true_and, and_true, Int.toNat_natCast, toNat_sub1, toNat_add1, List.length_append, List.length_cons, List.length_nil, List.length_take, List.length_drop, List.length_replicate, List.length_set, List.length_map]) <;> omega) (by (try simp only [C.len, C.isSl, C.stride, true_and, and_true, Int.toNat_natCast, toNat_sub1, toNat_add1, List.length_append, List.length_cons, List.length_nil, List.length_take, List.length_drop, List.length_replicate, List.length_set, List.length_map]) <;> omega) ?_; conv => whnf)
            | (refine vcall_p (validChain_v _ hc) rfl rfl ?_; conv => whnf)
            | (refine vcall_p (inRange_v _ _ _) rfl rfl ?_; conv => whnf)
            | (refine vcall_n (copyChain_d _ hc) rfl rfl rfl rfl ?_; conv => whnf)
            | (refine vcall_l (hmv) rfl rfl rfl ?_; conv => whnf)
            | (refine vcall_l (isIn_v _ _ (by omega)) rfl rfl rfl ?_; conv => whnf)
            | (refine vor_r (by omega) ?_; conv => whnf)
            | (refine vor_l (by first | rfl | omega) ?_; conv => whnf)
          refine vpre_g [.op 0 a.toNat] ?_
          conv => whnf
          repeat' first
            | (refine vneed_i (by kernel_rfl) ?_; conv => whnf)
            | (refine vneed_i (by (try simp only [C.len, C.isSl, C.stride, true_and, and_true, Int.toNat_natCast, toNat_sub1, toNat_add1, List.length_append, List.length_cons, List.length_nil, List.length_take, List.length_drop, List.length_replicate, List.length_set, List.length_map]) <;> omega) ?_; conv => whnf)
            | (refine vif_i (fun h => ?_) (fun h => ?_) <;> (try simp only [Bool.not_eq_true', Bool.not_eq_false', decide_eq_true_eq, decide_eq_false_iff_not, beq_iff_eq, bne_iff_ne, ne_eq, Bool.not_eq_true, Bool.not_eq_false, bne_eq_false_iff_eq, beq_eq_false_iff_ne] at h) <;> (try simp only [C.len, C.isSl, C.stride, true_and, Int.toNat_natCast, toNat_sub1, toNat_add1] at h) <;> conv => whnf)
            | refine vend_tt ?_
            | refine vend_ff ?_
            | refine vend_b ?_
            | refine vend_n ?_
            | refine vend_c ?_
            | (refine vint_f (by (try simp only [C.len, C.isSl, C.stride, true_and, and_true, Int.toNat_natCast, toNat_sub1, toNat_add1, List.length_append, List.length_cons, List.length_nil, List.length_take, List.length_drop, List.length_replicate, List.length_set, List.length_map]) <;> omega) (by (try simp only [C.len, C.isSl, C.stride, true_and, and_true, Int.toNat_natCast, toNat_sub1, toNat_add1, List.length_append, List.length_cons, List.length_nil, List.length_take, List.length_drop, List.length_replicate, List.length_set, List.length_map]) <;> omega) ?_; conv => whnf)
            | (refine vcall_p (validChain_v _ hc) rfl rfl ?_; conv => whnf)
            | (refine vcall_p (inRange_v _ _ _) rfl rfl ?_; conv => whnf)
            | (refine vcall_n (copyChain_d _ hc) rfl rfl rfl rfl ?_; conv => whnf)
            | (refine vcall_l (hmv) rfl rfl rfl ?_; conv => whnf)
            | (refine vcall_l (isIn_v _ _ (by omega)) rfl rfl rfl ?_; conv => whnf)
            | (refine vor_r (by omega) ?_; conv => whnf)
            | (refine vor_l (by first | rfl | omega) ?_; conv => whnf)
          all_goals first | (rw [g1] at h; cases h) | (exact absurd g2 h) | (rw [g3] at h; cases h) | (exact absurd g4 h) | (exact absurd h g4) | (cases h; done) | skip
          refine vpre_no ?_
          conv => whnf
          repeat' first
            | (refine vneed_i (by kernel_rfl) ?_; conv => whnf)
            | (refine vneed_i (by (try simp only [C.len, C.isSl, C.stride, true_and, and_true, Int.toNat_natCast, toNat_sub1, toNat_add1, List.length_append, List.length_cons, List.length_nil, List.length_take, List.length_drop, List.length_replicate, List.length_set, List.length_map]) <;> omega) ?_; conv => whnf)
            | (refine vif_i (fun h => ?_) (fun h => ?_) <;> (try simp only [Bool.not_eq_true', Bool.not_eq_false', decide_eq_true_eq, decide_eq_false_iff_not, beq_iff_eq, bne_iff_ne, ne_eq, Bool.not_eq_true, Bool.not_eq_false, bne_eq_false_iff_eq, beq_eq_false_iff_ne] at h) <;> (try simp only [C.len, C.isSl, C.stride, true_and, Int.toNat_natCast, toNat_sub1, toNat_add1] at h) <;> conv => whnf)
            | refine vend_tt ?_
            | refine vend_ff ?_
            | refine vend_b ?_
            | refine vend_n ?_
            | refine vend_c ?_
            | (refine vint_f (by (try simp only [C.len, C.isSl, C.stride, true_and, and_true, Int.toNat_natCast, toNat_sub1, toNat_add1, List.length_append, List.length_cons, List.length_nil, List.length_take, List.length_drop, List.length_replicate, List.length_set, List.length_map]) <;> omega) (by (try simp only [C.len, C.isSl, C.stride, true_and, and_true, Int.toNat_natCast, toNat_sub1, toNat_add1, List.length_append, List.length_cons, List.length_nil, List.length_take, List.length_drop, List.length_replicate, List.length_set, List.length_map]) <;> omega) ?_; conv => whnf)
            | (refine vor_r (by omega) ?_; conv => whnf)
            | (refine vor_l (by first | rfl | omega) ?_; conv => whnf)
          all_goals first | (rw [g1] at h; cases h) | (exact absurd g2 h) | (rw [g3] at h; cases h) | (exact absurd g4 h) | (exact absurd h g4) | (cases h; done) | skip
          refine vpre_g [.cl 0] ?_
          conv => whnf
          repeat' first
            | (refine vneed_i (by kernel_rfl) ?_; conv => whnf)
            | (refine vneed_i (by (try simp only [C.len, C.isSl, C.stride, true_and, and_true, Int.toNat_natCast, toNat_sub1, toNat_add1, List.length_append, List.length_cons, List.length_nil, List.length_take, List.length_drop, List.length_replicate, List.length_set, List.length_map]) <;> omega) ?_; conv => whnf)
            | (refine vif_i (fun h => ?_) (fun h => ?_) <;> (try simp only [Bool.not_eq_true', Bool.not_eq_false', decide_eq_true_eq, decide_eq_false_iff_not, beq_iff_eq, bne_iff_ne, ne_eq, Bool.not_eq_true, Bool.not_eq_false, bne_eq_false_iff_eq, beq_eq_false_iff_ne] at h) <;> (try simp only [C.len, C.isSl, C.stride, true_and, Int.toNat_natCast, toNat_sub1, toNat_add1] at h) <;> conv => whnf)
            | refine vend_tt ?_
            | refine vend_ff ?_
            | refine vend_b ?_
            | refine vend_n ?_
            | refine vend_c ?_
            | (refine vint_f (by (try simp only [C.len, C.isSl, C.stride, true_and, and_true, Int.toNat_natCast, toNat_sub1, toNat_add1, List.length_append, List.length_cons, List.length_nil, List.length_take, List.length_drop, List.length_replicate, List.length_set, List.length_map]) <;> omega) (by (try simp only [C.len, C.isSl, C.stride, true_and, and_true, Int.toNat_natCast, toNat_sub1, toNat_add1, List.length_append, List.length_cons, List.length_nil, List.length_take, List.length_drop, List.length_replicate, List.length_set, List.length_map]) <;> omega) ?_; conv => whnf)
            | (refine vcall_n (hsl2) rfl rfl rfl rfl ?_; conv => whnf)
            | (refine vor_r (by omega) ?_; conv => whnf)
            | (refine vor_l (by first | rfl | omega) ?_; conv => whnf)
          refine vpre_no ?_
          conv => whnf
          repeat' first
            | (refine vneed_i (by kernel_rfl) ?_; conv => whnf)
            | (refine vneed_i (by (try simp only [C.len, C.isSl, C.stride, true_and, and_true, Int.toNat_natCast, toNat_sub1, toNat_add1, List.length_append, List.length_cons, List.length_nil, List.length_take, List.length_drop, List.length_replicate, List.length_set, List.length_map]) <;> omega) ?_; conv => whnf)
            | (refine vif_i (fun h => ?_) (fun h => ?_) <;> (try simp only [Bool.not_eq_true', Bool.not_eq_false', decide_eq_true_eq, decide_eq_false_iff_not, beq_iff_eq, bne_iff_ne, ne_eq, Bool.not_eq_true, Bool.not_eq_false, bne_eq_false_iff_eq, beq_eq_false_iff_ne] at h) <;> (try simp only [C.len, C.isSl, C.stride, true_and, Int.toNat_natCast, toNat_sub1, toNat_add1] at h) <;> conv => whnf)
            | refine vend_tt ?_
            | refine vend_ff ?_
            | refine vend_b ?_
            | refine vend_n ?_
            | refine vend_c ?_
            | (refine vint_f (by (try simp only [C.len, C.isSl, C.stride, true_and, and_true, Int.toNat_natCast, toNat_sub1, toNat_add1, List.length_append, List.length_cons, List.length_nil, List.length_take, List.length_drop, List.length_replicate, List.length_set, List.length_map]) <;> omega) (by (try simp only [C.len, C.isSl, C.stride, true_and, and_true, Int.toNat_natCast, toNat_sub1, toNat_add1, List.length_append, List.length_cons, List.length_nil, List.length_take, List.length_drop, List.length_replicate, List.length_set, List.length_map]) <;> omega) ?_; conv => whnf)
            | (refine vor_r (by omega) ?_; conv => whnf)
            | (refine vor_l (by first | rfl | omega) ?_; conv => whnf)
          all_goals first | (refine vpre_no ?_; conv => whnf) | skip
          repeat' first
            | (refine vneed_i (by kernel_rfl) ?_; conv => whnf)
            | (refine vneed_i (by (try simp only [C.len, C.isSl, C.stride, true_and, and_true, Int.toNat_natCast, toNat_sub1, toNat_add1, List.length_append, List.length_cons, List.length_nil, List.length_take, List.length_drop, List.length_replicate, List.length_set, List.length_map]) <;> omega) ?_; conv => whnf)
            | (refine vif_i (fun h => ?_) (fun h => ?_) <;> (try simp only [Bool.not_eq_true', Bool.not_eq_false', decide_eq_true_eq, decide_eq_false_iff_not, beq_iff_eq, bne_iff_ne, ne_eq, Bool.not_eq_true, Bool.not_eq_false, bne_eq_false_iff_eq, beq_eq_false_iff_ne] at h) <;> (try simp only [C.len, C.isSl, C.stride, true_and, Int.toNat_natCast, toNat_sub1, toNat_add1] at h) <;> conv => whnf)
            | refine vend_tt ?_
            | refine vend_ff ?_
            | refine vend_b ?_
            | refine vend_n ?_
            | refine vend_c ?_
            | (refine vint_f (by (try simp only [C.len, C.isSl, C.stride, true_and, and_true, Int.toNat_natCast, toNat_sub1, toNat_add1, List.length_append, List.length_cons, List.length_nil, List.length_take, List.length_drop, List.length_replicate, List.length_set, List.length_map]) <;> omega) (by (try simp only [C.len, C.isSl, C.stride, true_and, and_true, Int.toNat_natCast, toNat_sub1, toNat_add1, List.length_append, List.length_cons, List.length_nil, List.length_take, List.length_drop, List.length_replicate, List.length_set, List.length_map]) <;> omega) ?_; conv => whnf)
            | (refine vor_r (by omega) ?_; conv => whnf)
            | (refine vor_l (by first | rfl | omega) ?_; conv => whnf)
            | (refine vch_l ?_; conv => whnf)
            | (refine vpre_no ?_; conv => whnf)
          all_goals first | (cases h; done) | exact (vend_i [] [] ⟨rfl, by repeat first | exact trivial | refine ⟨rfl, ?_⟩, rfl, rfl, rfl, rfl, rfl, rfl⟩)
      · cases ho
  · rename_i g
    refine spec_intro (fn := Try.f37) tOk eOk mix _ (by kernel_rfl) (by decide +kernel) rfl rfl rfl ?_
    conv => whnf
    repeat' first
      | (refine vneed_i (by kernel_rfl) ?_; conv => whnf)
      | (refine vneed_i (by (try simp only [C.len, C.isSl, C.stride, true_and, and_true, Int.toNat_natCast, toNat_sub1, toNat_add1, List.length_append, List.length_cons, List.length_nil, List.length_take, List.length_drop, List.length_replicate, List.length_set, List.length_map]) <;> omega) ?_; conv => whnf)
      | (refine vif_i (fun h => ?_) (fun h => ?_) <;> (try simp only [Bool.not_eq_true', Bool.not_eq_false', decide_eq_true_eq, decide_eq_false_iff_not, beq_iff_eq, bne_iff_ne, ne_eq, Bool.not_eq_true, Bool.not_eq_false, bne_eq_false_iff_eq, beq_eq_false_iff_ne] at h) <;> (try simp only [C.len, C.isSl, C.stride, true_and, Int.toNat_natCast, toNat_sub1, toNat_add1] at h) <;> conv => whnf)
      | refine vend_tt ?_
      | refine vend_ff ?_
      | refine vend_b ?_
      | refine vend_n ?_
      | refine vend_c ?_
      | (refine vint_f (by (try simp only [C.len, C.isSl, C.stride, true_and, and_true, Int.toNat_natCast, toNat_sub1, toNat_add1, List.length_append, List.length_cons, List.length_nil, List.length_take, List.length_drop, List.length_replicate, List.length_set, List.length_map]) <;> omega) (by (try simp only [C.len, C.isSl, C.stride, true_and, and_true, Int.toNat_natCast, toNat_sub1, toNat_add1, List.length_append, List.length_cons, List.length_nil, List.length_take, List.length_drop, List.length_replicate, List.length_set, List.length_map]) <;> omega) ?_; conv => whnf)
      | (refine vcall_p (validChain_v _ hc) rfl rfl ?_; conv => whnf)
      | (refine vcall_p (inRange_v _ _ _) rfl rfl ?_; conv => whnf)
      | (refine vor_r (by omega) ?_; conv => whnf)
      | (refine vor_l (by first | rfl | omega) ?_; conv => whnf)
      | (refine vch_l ?_; conv => whnf)
      | (refine vpre_no ?_; conv => whnf)
    · exact (vend_i [] [] ⟨rfl, by repeat first | exact trivial | refine ⟨rfl, ?_⟩, rfl, rfl, rfl, rfl, rfl, rfl⟩)
    · exact (vend_i [] [] ⟨rfl, by repeat first | exact trivial | refine ⟨rfl, ?_⟩, rfl, rfl, rfl, rfl, rfl, rfl⟩)
    · exfalso
      rename_i g1
      exact g ⟨g1, h⟩
end Go.VL
