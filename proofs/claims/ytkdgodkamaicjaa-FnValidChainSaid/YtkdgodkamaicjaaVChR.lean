/- laws.FnExactChainKeys -/
import Derived.Test.YtkdgodkamaicjaaVChG
namespace Go.VL
open Go.Proofs
set_option maxRecDepth 10000
set_option linter.unusedSimpArgs false
set_option linter.unusedVariables false
theorem keys_le' {c : List Lk} {m : Nat} (h : ∀ l ∈ c, l.keys.length ≤ m) (i : Nat) : (c.getD i ⟨[], 0, 0⟩).keys.length ≤ m := by
  by_cases hi : i < c.length
  · have : c.getD i ⟨[], 0, 0⟩ = c[i] := by simp [List.getD, hi]
    rw [this]; exact h _ (List.getElem_mem hi)
  · have : c.getD i ⟨[], 0, 0⟩ = ⟨[], 0, 0⟩ := by simp [List.getD, List.getElem?_eq_none (Nat.le_of_not_lt hi)]
    rw [this]; exact Nat.zero_le _
theorem toLinkS_d (c : List Lk) (hc : cB c) : Spec Try.prog 9 0 [.c (.lks c)] [] 1 (.slc 0) [(0, .deep false 0 (.lks c) [])] := by
  have hcl := hc.1
  refine spec_intro (fn := Try.f9) tOk eOk mix _ (by kernel_rfl) (by decide +kernel) rfl rfl rfl ?_
  conv => whnf
  repeat' first
    | (refine vneed_i (by kernel_rfl) ?_; conv => whnf)
    | (refine vneed_i (by (try simp only [C.len, C.isSl, C.stride, true_and, and_true, Int.toNat_natCast, toNat_sub1, toNat_add1, List.length_append, List.length_cons, List.length_nil, List.length_take, List.length_drop, List.length_replicate, List.length_set, List.length_map]) <;> omega) ?_; conv => whnf)
    | (refine vif_i (fun h => ?_) (fun h => ?_) <;> (try simp only [Bool.not_eq_true', Bool.not_eq_false', decide_eq_true_eq, decide_eq_false_iff_not, beq_iff_eq, bne_iff_ne, ne_eq, Bool.not_eq_true, Bool.not_eq_false, bne_eq_false_iff_eq, beq_eq_false_iff_ne] at h) <;> (try simp only [C.len, C.isSl, C.stride, true_and, Int.toNat_natCast, toNat_sub1, toNat_add1] at h) <;> conv => whnf)
    | refine vend_tt ?_
    | refine vend_ff ?_
    | refine vend_b ?_
    | refine vend_n ?_
    | refine vend_c ?_
    | (refine vint_f (by (try simp only [C.len, C.isSl, C.stride, true_and, and_true, Int.toNat_natCast, toNat_sub1, toNat_add1, List.length_append, List.length_cons, List.length_nil, List.length_take, List.length_drop, List.length_replicate, List.length_set, List.length_map]) <;> omega) (by (try simp only [C.len, C.isSl, C.stride, true_and, and_true, Int.toNat_natCast, toNat_sub1, toNat_add1, List.length_append, List.length_cons, List.length_nil, List.length_take, List.length_drop, List.length_replicate, List.length_set, List.length_map]) <;> omega) ?_; conv => whnf)
    | (refine vor_r (by omega) ?_; conv => whnf)
    | (refine vor_l (by first | rfl | omega) ?_; conv => whnf)
  refine vch_r ?_
  conv => whnf
  repeat' first
    | (refine vneed_i (by kernel_rfl) ?_; conv => whnf)
    | (refine vneed_i (by (try simp only [C.len, C.isSl, C.stride, true_and, and_true, Int.toNat_natCast, toNat_sub1, toNat_add1, List.length_append, List.length_cons, List.length_nil, List.length_take, List.length_drop, List.length_replicate, List.length_set, List.length_map]) <;> omega) ?_; conv => whnf)
    | (refine vif_i (fun h => ?_) (fun h => ?_) <;> (try simp only [Bool.not_eq_true', Bool.not_eq_false', decide_eq_true_eq, decide_eq_false_iff_not, beq_iff_eq, bne_iff_ne, ne_eq, Bool.not_eq_true, Bool.not_eq_false, bne_eq_false_iff_eq, beq_eq_false_iff_ne] at h) <;> (try simp only [C.len, C.isSl, C.stride, true_and, Int.toNat_natCast, toNat_sub1, toNat_add1] at h) <;> conv => whnf)
    | refine vend_tt ?_
    | refine vend_ff ?_
    | refine vend_b ?_
    | refine vend_n ?_
    | refine vend_c ?_
    | (refine vint_f (by (try simp only [C.len, C.isSl, C.stride, true_and, and_true, Int.toNat_natCast, toNat_sub1, toNat_add1, List.length_append, List.length_cons, List.length_nil, List.length_take, List.length_drop, List.length_replicate, List.length_set, List.length_map]) <;> omega) (by (try simp only [C.len, C.isSl, C.stride, true_and, and_true, Int.toNat_natCast, toNat_sub1, toNat_add1, List.length_append, List.length_cons, List.length_nil, List.length_take, List.length_drop, List.length_replicate, List.length_set, List.length_map]) <;> omega) ?_; conv => whnf)
    | (refine vor_r (by omega) ?_; conv => whnf)
    | (refine vor_l (by first | rfl | omega) ?_; conv => whnf)
    | (refine vch_l ?_; conv => whnf)
    | (refine vpre_no ?_; conv => whnf)
  refine vloop1 (fun (i : Nat) => i ≤ c.length)
    (fun i => ⟨23, 1, [(0, .c (.lks c)), (3, .slc 0), (4, .c (.int .i64 i))], [(0, .deep false 0 (.lks (c.take i ++ List.replicate (c.length - i) ⟨[], 0, 0⟩)) [])]⟩) (fun i => c.length - i) 0 (by omega) (fun _ => Nat.zero_le _) (ent_i [] [0] ⟨by repeat first | exact trivial | refine ⟨rfl, ?_⟩, by repeat first | exact trivial | refine ⟨rfl, ?_⟩, rfl, rfl, rfl, rfl, rfl, rfl, rfl⟩) (fun i hi => ?_)
  conv => whnf
  repeat' first
    | (refine vneed_i (by kernel_rfl) ?_; conv => whnf)
    | (refine vneed_i (by (try simp only [C.len, C.isSl, C.stride, true_and, and_true, Int.toNat_natCast, toNat_sub1, toNat_add1, List.length_append, List.length_cons, List.length_nil, List.length_take, List.length_drop, List.length_replicate, List.length_set, List.length_map]) <;> omega) ?_; conv => whnf)
    | (refine vif_i (fun h => ?_) (fun h => ?_) <;> (try simp only [Bool.not_eq_true', Bool.not_eq_false', decide_eq_true_eq, decide_eq_false_iff_not, beq_iff_eq, bne_iff_ne, ne_eq, Bool.not_eq_true, Bool.not_eq_false, bne_eq_false_iff_eq, beq_eq_false_iff_ne] at h) <;> (try simp only [C.len, C.isSl, C.stride, true_and, Int.toNat_natCast, toNat_sub1, toNat_add1] at h) <;> conv => whnf)
    | refine vend_tt ?_
    | refine vend_ff ?_
    | refine vend_b ?_
    | refine vend_n ?_
    | refine vend_c ?_
    | (refine vint_f (by (try simp only [C.len, C.isSl, C.stride, true_and, and_true, Int.toNat_natCast, toNat_sub1, toNat_add1, List.length_append, List.length_cons, List.length_nil, List.length_take, List.length_drop, List.length_replicate, List.length_set, List.length_map]) <;> omega) (by (try simp only [C.len, C.isSl, C.stride, true_and, and_true, Int.toNat_natCast, toNat_sub1, toNat_add1, List.length_append, List.length_cons, List.length_nil, List.length_take, List.length_drop, List.length_replicate, List.length_set, List.length_map]) <;> omega) ?_; conv => whnf)
    | (refine vcall_n (toLink_v _ (hc.keys _)) rfl rfl rfl rfl ?_; conv => whnf)
    | (refine vor_r (by omega) ?_; conv => whnf)
    | (refine vor_l (by first | rfl | omega) ?_; conv => whnf)
    | (refine vch_l ?_; conv => whnf)
    | (refine vpre_no ?_; conv => whnf)
  · have e := set_fill (⟨[], 0, 0⟩ : Lk) ⟨[], 0, 0⟩ (xs := c) (k := i) (by omega)
    refine ⟨⟨i + 1, by omega⟩, (ent_g [.cl 0] [] [0] ?_), by dsimp only; omega⟩
    conv => whnf
    refine ⟨by repeat first | exact trivial | refine ⟨rfl, ?_⟩, ⟨?_, trivial⟩, rfl, rfl, rfl, rfl, rfl, rfl, rfl⟩
    exact congrArg (fun z => some (O.deep false 0 (C.lks z) [])) e
  · rw [fill_done (⟨[], 0, 0⟩ : Lk) (xs := c) (k := i) (by omega)]
    exact (vend_i [] [0] ⟨rfl, by repeat first | exact trivial | refine ⟨rfl, ?_⟩, rfl, rfl, rfl, rfl, rfl, rfl⟩)
/-- the marks from place i on -/
def mkN : Nat → Nat → List Int → Int → List Int × Int
  | 0, _, xs, k => (xs, k)
  | n + 1, i, xs, k => mkN n (i + 1) (xs.set i k) (k + 1)
theorem mkN_snd (n : Nat) : ∀ (i : Nat) (xs : List Int) (k : Int), (mkN n i xs k).2 = k + n ∧ (mkN n i xs k).1.length = xs.length := by
  induction n with
  | zero => intro i xs k; exact ⟨by simp [mkN], rfl⟩
  | succ n ih =>
    intro i xs k
    unfold mkN
    obtain ⟨h1, h2⟩ := ih (i + 1) (xs.set i k) (k + 1)
    exact ⟨by rw [h1]; omega, by rw [h2]; simp⟩
theorem mkN_get (n : Nat) : ∀ (i : Nat) (xs : List Int) (k : Int) (j : Nat), i + n = xs.length → (∀ t, t < i → xs.getD t 0 = k - i + t) → j < xs.length → (mkN n i xs k).1.getD j 0 = k - i + j := by
  induction n with
  | zero => intro i xs k j h1 h2 h3; exact h2 j (by omega)
  | succ n ih =>
    intro i xs k j h1 h2 h3
    unfold mkN
    rw [ih (i + 1) (xs.set i k) (k + 1) j (by simp; omega) (fun t ht => ?_) (by simp; omega)]
    · omega
    · rw [getD_set _ _ _ _ _ (by omega)]
      split
      · omega
      · rw [h2 t (by omega)]; omega
theorem markIntS_v (xs : List Int) (k : Int) (hl : xs.length ≤ 4294967296) (h0 : 0 ≤ k) (h1 : k ≤ 1099511627776000) : Spec Try.prog 18 1 [.slc 0, .c (.int .i64 k)] [(0, .deep true 0 (.nums .i64 xs) [])] 1 (.c (.int .i64 (k + xs.length))) [(0, .deep true 0 (.nums .i64 (mkN xs.length 0 xs k).1) [])] := by
  obtain ⟨V, hV⟩ : ∃ V, mkN xs.length 0 xs k = V := ⟨_, rfl⟩
  have hs := (mkN_snd xs.length 0 xs k).1
  rw [hV] at hs ⊢
  rw [← hs]
  refine spec_intro (fn := Try.f18) tOk eOk mix _ (by kernel_rfl) (by decide +kernel) rfl rfl rfl ?_
  conv => whnf
  repeat' first
    | (refine vneed_i (by kernel_rfl) ?_; conv => whnf)
    | (refine vneed_i (by (try simp only [C.len, C.isSl, C.stride, true_and, and_true, Int.toNat_natCast, toNat_sub1, toNat_add1, List.length_append, List.length_cons, List.length_nil, List.length_take, List.length_drop, List.length_replicate, List.length_set, List.length_map]) <;> omega) ?_; conv => whnf)
    | (refine vif_i (fun h => ?_) (fun h => ?_) <;> (try simp only [Bool.not_eq_true', Bool.not_eq_false', decide_eq_true_eq, decide_eq_false_iff_not, beq_iff_eq, bne_iff_ne, ne_eq, Bool.not_eq_true, Bool.not_eq_false, bne_eq_false_iff_eq, beq_eq_false_iff_ne] at h) <;> (try simp only [C.len, C.isSl, C.stride, true_and, Int.toNat_natCast, toNat_sub1, toNat_add1] at h) <;> conv => whnf)
    | refine vend_tt ?_
    | refine vend_ff ?_
    | refine vend_b ?_
    | refine vend_n ?_
    | refine vend_c ?_
    | (refine vint_f (by (try simp only [C.len, C.isSl, C.stride, true_and, and_true, Int.toNat_natCast, toNat_sub1, toNat_add1, List.length_append, List.length_cons, List.length_nil, List.length_take, List.length_drop, List.length_replicate, List.length_set, List.length_map]) <;> omega) (by (try simp only [C.len, C.isSl, C.stride, true_and, and_true, Int.toNat_natCast, toNat_sub1, toNat_add1, List.length_append, List.length_cons, List.length_nil, List.length_take, List.length_drop, List.length_replicate, List.length_set, List.length_map]) <;> omega) ?_; conv => whnf)
    | (refine vor_r (by omega) ?_; conv => whnf)
    | (refine vor_l (by first | rfl | omega) ?_; conv => whnf)
    | (refine vch_l ?_; conv => whnf)
    | (refine vpre_no ?_; conv => whnf)
  refine vloop3 (fun (i : Nat) (ys : List Int) (q : Int) => i ≤ xs.length ∧ ys.length = xs.length ∧ q = k + i ∧ mkN (xs.length - i) i ys q = V)
    (fun i ys q => ⟨19, 1, [(0, .slc 0), (1, .c (.int .i64 q)), (5, .c (.int .i64 i))], [(0, .deep true 0 (.nums .i64 ys) [])]⟩) (fun i ys q => xs.length - i) 0 xs k ⟨by omega, rfl, by omega, by simpa using hV⟩ (fun _ _ _ => Nat.le_refl _) (ent_i [] [0] ⟨by repeat first | exact trivial | refine ⟨rfl, ?_⟩, by repeat first | exact trivial | refine ⟨rfl, ?_⟩, rfl, rfl, rfl, rfl, rfl, rfl, rfl⟩) (fun i ys q hi => ?_)
  obtain ⟨hi, hy, hq, hv⟩ := hi
  conv => whnf
  repeat' first
    | (refine vneed_i (by kernel_rfl) ?_; conv => whnf)
    | (refine vneed_i (by (try simp only [C.len, C.isSl, C.stride, true_and, and_true, Int.toNat_natCast, toNat_sub1, toNat_add1, List.length_append, List.length_cons, List.length_nil, List.length_take, List.length_drop, List.length_replicate, List.length_set, List.length_map]) <;> omega) ?_; conv => whnf)
    | (refine vif_i (fun h => ?_) (fun h => ?_) <;> (try simp only [Bool.not_eq_true', Bool.not_eq_false', decide_eq_true_eq, decide_eq_false_iff_not, beq_iff_eq, bne_iff_ne, ne_eq, Bool.not_eq_true, Bool.not_eq_false, bne_eq_false_iff_eq, beq_eq_false_iff_ne] at h) <;> (try simp only [C.len, C.isSl, C.stride, true_and, Int.toNat_natCast, toNat_sub1, toNat_add1] at h) <;> conv => whnf)
    | refine vend_tt ?_
    | refine vend_ff ?_
    | refine vend_b ?_
    | refine vend_n ?_
    | refine vend_c ?_
    | (refine vint_f (by (try simp only [C.len, C.isSl, C.stride, true_and, and_true, Int.toNat_natCast, toNat_sub1, toNat_add1, List.length_append, List.length_cons, List.length_nil, List.length_take, List.length_drop, List.length_replicate, List.length_set, List.length_map]) <;> omega) (by (try simp only [C.len, C.isSl, C.stride, true_and, and_true, Int.toNat_natCast, toNat_sub1, toNat_add1, List.length_append, List.length_cons, List.length_nil, List.length_take, List.length_drop, List.length_replicate, List.length_set, List.length_map]) <;> omega) ?_; conv => whnf)
    | (refine vor_r (by omega) ?_; conv => whnf)
    | (refine vor_l (by first | rfl | omega) ?_; conv => whnf)
    | (refine vch_l ?_; conv => whnf)
    | (refine vpre_no ?_; conv => whnf)
  · refine ⟨⟨(i + 1, ys.set i q, q + 1), ?_⟩, (ent_i [] [0] ⟨by repeat first | exact trivial | refine ⟨rfl, ?_⟩, by repeat first | exact trivial | refine ⟨rfl, ?_⟩, rfl, rfl, rfl, rfl, rfl, rfl, rfl⟩), by dsimp only; omega⟩; (try dsimp only)
    refine ⟨by omega, by simp [hy], by omega, ?_⟩
    rw [show xs.length - i = xs.length - (i + 1) + 1 by omega] at hv
    exact hv
  · rw [show xs.length - i = 0 by omega] at hv
    subst hv
    exact (vend_i [] [0] ⟨rfl, by repeat first | exact trivial | refine ⟨rfl, ?_⟩, rfl, rfl, rfl, rfl, rfl, rfl⟩)
theorem markIntS_nil (k : Int) : Spec Try.prog 18 0 [.nil, .c (.int .i64 k)] [] 0 (.c (.int .i64 k)) [] := by
  refine spec_intro (fn := Try.f18) tOk eOk mix _ (by kernel_rfl) (by decide +kernel) rfl rfl rfl ?_
  conv => whnf
  repeat' first
    | (refine vneed_i (by kernel_rfl) ?_; conv => whnf)
    | (refine vneed_i (by (try simp only [C.len, C.isSl, C.stride, true_and, and_true, Int.toNat_natCast, toNat_sub1, toNat_add1, List.length_append, List.length_cons, List.length_nil, List.length_take, List.length_drop, List.length_replicate, List.length_set, List.length_map]) <;> omega) ?_; conv => whnf)
    | (refine vif_i (fun h => ?_) (fun h => ?_) <;> (try simp only [Bool.not_eq_true', Bool.not_eq_false', decide_eq_true_eq, decide_eq_false_iff_not, beq_iff_eq, bne_iff_ne, ne_eq, Bool.not_eq_true, Bool.not_eq_false, bne_eq_false_iff_eq, beq_eq_false_iff_ne] at h) <;> (try simp only [C.len, C.isSl, C.stride, true_and, Int.toNat_natCast, toNat_sub1, toNat_add1] at h) <;> conv => whnf)
    | refine vend_tt ?_
    | refine vend_ff ?_
    | refine vend_b ?_
    | refine vend_n ?_
    | refine vend_c ?_
    | (refine vint_f (by (try simp only [C.len, C.isSl, C.stride, true_and, and_true, Int.toNat_natCast, toNat_sub1, toNat_add1, List.length_append, List.length_cons, List.length_nil, List.length_take, List.length_drop, List.length_replicate, List.length_set, List.length_map]) <;> omega) (by (try simp only [C.len, C.isSl, C.stride, true_and, and_true, Int.toNat_natCast, toNat_sub1, toNat_add1, List.length_append, List.length_cons, List.length_nil, List.length_take, List.length_drop, List.length_replicate, List.length_set, List.length_map]) <;> omega) ?_; conv => whnf)
    | (refine vor_r (by omega) ?_; conv => whnf)
    | (refine vor_l (by first | rfl | omega) ?_; conv => whnf)
    | (refine vch_l ?_; conv => whnf)
    | (refine vpre_no ?_; conv => whnf)
  refine vloop1 (fun (_ : Nat) => True) (fun _ => ⟨19, 0, [(0, .nil), (1, .c (.int .i64 k)), (5, .c (.int .i64 0))], []⟩) (fun _ => 0) 0 trivial (fun _ => Nat.le_refl _) (ent_i [] [] ⟨by repeat first | exact trivial | refine ⟨rfl, ?_⟩, by repeat first | exact trivial | refine ⟨rfl, ?_⟩, rfl, rfl, rfl, rfl, rfl, rfl, rfl⟩) (fun i _ => ?_)
  conv => whnf
  repeat' first
    | (refine vneed_i (by kernel_rfl) ?_; conv => whnf)
    | (refine vneed_i (by (try simp only [C.len, C.isSl, C.stride, true_and, and_true, Int.toNat_natCast, toNat_sub1, toNat_add1, List.length_append, List.length_cons, List.length_nil, List.length_take, List.length_drop, List.length_replicate, List.length_set, List.length_map]) <;> omega) ?_; conv => whnf)
    | (refine vif_i (fun h => ?_) (fun h => ?_) <;> (try simp only [Bool.not_eq_true', Bool.not_eq_false', decide_eq_true_eq, decide_eq_false_iff_not, beq_iff_eq, bne_iff_ne, ne_eq, Bool.not_eq_true, Bool.not_eq_false, bne_eq_false_iff_eq, beq_eq_false_iff_ne] at h) <;> (try simp only [C.len, C.isSl, C.stride, true_and, Int.toNat_natCast, toNat_sub1, toNat_add1] at h) <;> conv => whnf)
    | refine vend_tt ?_
    | refine vend_ff ?_
    | refine vend_b ?_
    | refine vend_n ?_
    | refine vend_c ?_
    | (refine vint_f (by (try simp only [C.len, C.isSl, C.stride, true_and, and_true, Int.toNat_natCast, toNat_sub1, toNat_add1, List.length_append, List.length_cons, List.length_nil, List.length_take, List.length_drop, List.length_replicate, List.length_set, List.length_map]) <;> omega) (by (try simp only [C.len, C.isSl, C.stride, true_and, and_true, Int.toNat_natCast, toNat_sub1, toNat_add1, List.length_append, List.length_cons, List.length_nil, List.length_take, List.length_drop, List.length_replicate, List.length_set, List.length_map]) <;> omega) ?_; conv => whnf)
    | (refine vor_r (by omega) ?_; conv => whnf)
    | (refine vor_l (by first | rfl | omega) ?_; conv => whnf)
    | (refine vch_l ?_; conv => whnf)
    | (refine vpre_no ?_; conv => whnf)
  all_goals first | rfl | (exfalso; omega)
theorem heldIntS_nil (k : Int) : Spec Try.prog 19 0 [.nil, .c (.int .i64 k)] [] 0 (.c (.int .i64 k)) [] := by
  refine spec_intro (fn := Try.f19) tOk eOk mix _ (by kernel_rfl) (by decide +kernel) rfl rfl rfl ?_
  conv => whnf
  repeat' first
    | (refine vneed_i (by kernel_rfl) ?_; conv => whnf)
    | (refine vneed_i (by (try simp only [C.len, C.isSl, C.stride, true_and, and_true, Int.toNat_natCast, toNat_sub1, toNat_add1, List.length_append, List.length_cons, List.length_nil, List.length_take, List.length_drop, List.length_replicate, List.length_set, List.length_map]) <;> omega) ?_; conv => whnf)
    | (refine vif_i (fun h => ?_) (fun h => ?_) <;> (try simp only [Bool.not_eq_true', Bool.not_eq_false', decide_eq_true_eq, decide_eq_false_iff_not, beq_iff_eq, bne_iff_ne, ne_eq, Bool.not_eq_true, Bool.not_eq_false, bne_eq_false_iff_eq, beq_eq_false_iff_ne] at h) <;> (try simp only [C.len, C.isSl, C.stride, true_and, Int.toNat_natCast, toNat_sub1, toNat_add1] at h) <;> conv => whnf)
    | refine vend_tt ?_
    | refine vend_ff ?_
    | refine vend_b ?_
    | refine vend_n ?_
    | refine vend_c ?_
    | (refine vint_f (by (try simp only [C.len, C.isSl, C.stride, true_and, and_true, Int.toNat_natCast, toNat_sub1, toNat_add1, List.length_append, List.length_cons, List.length_nil, List.length_take, List.length_drop, List.length_replicate, List.length_set, List.length_map]) <;> omega) (by (try simp only [C.len, C.isSl, C.stride, true_and, and_true, Int.toNat_natCast, toNat_sub1, toNat_add1, List.length_append, List.length_cons, List.length_nil, List.length_take, List.length_drop, List.length_replicate, List.length_set, List.length_map]) <;> omega) ?_; conv => whnf)
    | (refine vor_r (by omega) ?_; conv => whnf)
    | (refine vor_l (by first | rfl | omega) ?_; conv => whnf)
    | (refine vch_l ?_; conv => whnf)
    | (refine vpre_no ?_; conv => whnf)
  refine vloop1 (fun (_ : Nat) => True) (fun _ => ⟨21, 0, [(0, .nil), (1, .c (.int .i64 k)), (5, .c (.int .i64 0))], []⟩) (fun _ => 0) 0 trivial (fun _ => Nat.le_refl _) (ent_i [] [] ⟨by repeat first | exact trivial | refine ⟨rfl, ?_⟩, by repeat first | exact trivial | refine ⟨rfl, ?_⟩, rfl, rfl, rfl, rfl, rfl, rfl, rfl⟩) (fun i _ => ?_)
  conv => whnf
  repeat' first
    | (refine vneed_i (by kernel_rfl) ?_; conv => whnf)
    | (refine vneed_i (by (try simp only [C.len, C.isSl, C.stride, true_and, and_true, Int.toNat_natCast, toNat_sub1, toNat_add1, List.length_append, List.length_cons, List.length_nil, List.length_take, List.length_drop, List.length_replicate, List.length_set, List.length_map]) <;> omega) ?_; conv => whnf)
    | (refine vif_i (fun h => ?_) (fun h => ?_) <;> (try simp only [Bool.not_eq_true', Bool.not_eq_false', decide_eq_true_eq, decide_eq_false_iff_not, beq_iff_eq, bne_iff_ne, ne_eq, Bool.not_eq_true, Bool.not_eq_false, bne_eq_false_iff_eq, beq_eq_false_iff_ne] at h) <;> (try simp only [C.len, C.isSl, C.stride, true_and, Int.toNat_natCast, toNat_sub1, toNat_add1] at h) <;> conv => whnf)
    | refine vend_tt ?_
    | refine vend_ff ?_
    | refine vend_b ?_
    | refine vend_n ?_
    | refine vend_c ?_
    | (refine vint_f (by (try simp only [C.len, C.isSl, C.stride, true_and, and_true, Int.toNat_natCast, toNat_sub1, toNat_add1, List.length_append, List.length_cons, List.length_nil, List.length_take, List.length_drop, List.length_replicate, List.length_set, List.length_map]) <;> omega) (by (try simp only [C.len, C.isSl, C.stride, true_and, and_true, Int.toNat_natCast, toNat_sub1, toNat_add1, List.length_append, List.length_cons, List.length_nil, List.length_take, List.length_drop, List.length_replicate, List.length_set, List.length_map]) <;> omega) ?_; conv => whnf)
    | (refine vor_r (by omega) ?_; conv => whnf)
    | (refine vor_l (by first | rfl | omega) ?_; conv => whnf)
    | (refine vch_l ?_; conv => whnf)
    | (refine vpre_no ?_; conv => whnf)
  all_goals first | rfl | (exfalso; omega)
theorem heldIntS_v (xs : List Int) (k : Int) (hl : xs.length ≤ 4294967296) (h0 : 0 ≤ k) (h1 : k ≤ 1099511627776000) (hx : ∀ j : Nat, j < xs.length → xs.getD j 0 = k + j) : Spec Try.prog 19 0 [.c (.nums .i64 xs), .c (.int .i64 k)] [] 0 (.c (.int .i64 (k + xs.length))) [] := by
  refine spec_intro (fn := Try.f19) tOk eOk mix _ (by kernel_rfl) (by decide +kernel) rfl rfl rfl ?_
  conv => whnf
  repeat' first
    | (refine vneed_i (by kernel_rfl) ?_; conv => whnf)
    | (refine vneed_i (by (try simp only [C.len, C.isSl, C.stride, true_and, and_true, Int.toNat_natCast, toNat_sub1, toNat_add1, List.length_append, List.length_cons, List.length_nil, List.length_take, List.length_drop, List.length_replicate, List.length_set, List.length_map]) <;> omega) ?_; conv => whnf)
    | (refine vif_i (fun h => ?_) (fun h => ?_) <;> (try simp only [Bool.not_eq_true', Bool.not_eq_false', decide_eq_true_eq, decide_eq_false_iff_not, beq_iff_eq, bne_iff_ne, ne_eq, Bool.not_eq_true, Bool.not_eq_false, bne_eq_false_iff_eq, beq_eq_false_iff_ne] at h) <;> (try simp only [C.len, C.isSl, C.stride, true_and, Int.toNat_natCast, toNat_sub1, toNat_add1] at h) <;> conv => whnf)
    | refine vend_tt ?_
    | refine vend_ff ?_
    | refine vend_b ?_
    | refine vend_n ?_
    | refine vend_c ?_
    | (refine vint_f (by (try simp only [C.len, C.isSl, C.stride, true_and, and_true, Int.toNat_natCast, toNat_sub1, toNat_add1, List.length_append, List.length_cons, List.length_nil, List.length_take, List.length_drop, List.length_replicate, List.length_set, List.length_map]) <;> omega) (by (try simp only [C.len, C.isSl, C.stride, true_and, and_true, Int.toNat_natCast, toNat_sub1, toNat_add1, List.length_append, List.length_cons, List.length_nil, List.length_take, List.length_drop, List.length_replicate, List.length_set, List.length_map]) <;> omega) ?_; conv => whnf)
    | (refine vor_r (by omega) ?_; conv => whnf)
    | (refine vor_l (by first | rfl | omega) ?_; conv => whnf)
    | (refine vch_l ?_; conv => whnf)
    | (refine vpre_no ?_; conv => whnf)
  refine vloop2 (fun (i : Nat) (q : Int) => i ≤ xs.length ∧ q = k + i)
    (fun i q => ⟨21, 0, [(0, .c (.nums .i64 xs)), (1, .c (.int .i64 q)), (5, .c (.int .i64 i))], []⟩) (fun i q => xs.length - i) 0 k ⟨by omega, by omega⟩ (fun _ _ => Nat.zero_le _) (ent_i [] [] ⟨by repeat first | exact trivial | refine ⟨rfl, ?_⟩, by repeat first | exact trivial | refine ⟨rfl, ?_⟩, rfl, rfl, rfl, rfl, rfl, rfl, rfl⟩) (fun i q hi => ?_)
  obtain ⟨hi, hq⟩ := hi
  conv => whnf
  repeat' first
    | (refine vneed_i (by kernel_rfl) ?_; conv => whnf)
    | (refine vneed_i (by (try simp only [C.len, C.isSl, C.stride, true_and, and_true, Int.toNat_natCast, toNat_sub1, toNat_add1, List.length_append, List.length_cons, List.length_nil, List.length_take, List.length_drop, List.length_replicate, List.length_set, List.length_map]) <;> omega) ?_; conv => whnf)
    | (refine vif_i (fun h => ?_) (fun h => ?_) <;> (try simp only [Bool.not_eq_true', Bool.not_eq_false', decide_eq_true_eq, decide_eq_false_iff_not, beq_iff_eq, bne_iff_ne, ne_eq, Bool.not_eq_true, Bool.not_eq_false, bne_eq_false_iff_eq, beq_eq_false_iff_ne] at h) <;> (try simp only [C.len, C.isSl, C.stride, true_and, Int.toNat_natCast, toNat_sub1, toNat_add1] at h) <;> conv => whnf)
    | refine vend_tt ?_
    | refine vend_ff ?_
    | refine vend_b ?_
    | refine vend_n ?_
    | refine vend_c ?_
    | (refine vint_f (by (try simp only [C.len, C.isSl, C.stride, true_and, and_true, Int.toNat_natCast, toNat_sub1, toNat_add1, List.length_append, List.length_cons, List.length_nil, List.length_take, List.length_drop, List.length_replicate, List.length_set, List.length_map]) <;> omega) (by (try simp only [C.len, C.isSl, C.stride, true_and, and_true, Int.toNat_natCast, toNat_sub1, toNat_add1, List.length_append, List.length_cons, List.length_nil, List.length_take, List.length_drop, List.length_replicate, List.length_set, List.length_map]) <;> omega) ?_; conv => whnf)
    | (refine vor_r (by omega) ?_; conv => whnf)
    | (refine vor_l (by first | rfl | omega) ?_; conv => whnf)
    | (refine vch_l ?_; conv => whnf)
    | (refine vpre_no ?_; conv => whnf)
  · exact absurd ((hx i (by omega)).trans hq.symm) h
  · refine ⟨⟨(i + 1, q + 1), ?_⟩, (ent_i [] [] ⟨by repeat first | exact trivial | refine ⟨rfl, ?_⟩, by repeat first | exact trivial | refine ⟨rfl, ?_⟩, rfl, rfl, rfl, rfl, rfl, rfl, rfl⟩), by dsimp only; omega⟩; (try dsimp only)
    exact ⟨by omega, by omega⟩
  · omega
def mlN : Nat → Nat → List Lk → Int → List Lk × Int
  | 0, _, d, k => (d, k)
  | n + 1, i, d, k => mlN n (i + 1) (d.set i ⟨(mkN (d.getD i ⟨[], 0, 0⟩).keys.length 0 (d.getD i ⟨[], 0, 0⟩).keys k).1, k + (d.getD i ⟨[], 0, 0⟩).keys.length, k + (d.getD i ⟨[], 0, 0⟩).keys.length + 1⟩) (k + (d.getD i ⟨[], 0, 0⟩).keys.length + 1 + 1)
theorem mlN_snd (n : Nat) : ∀ (i : Nat) (d : List Lk) (k : Int), k ≤ (mlN n i d k).2 := by
  induction n with
  | zero => intro i d k; exact Int.le_refl _
  | succ n ih =>
    intro i d k
    unfold mlN
    exact Int.le_trans (by omega) (ih _ _ _)
theorem markLinkS_v (c : List Lk) (k : Int) (hl : c.length ≤ 1048576) (hk : ∀ l ∈ c, l.keys.length ≤ 1048576) (h0 : 0 ≤ k) (h1 : k ≤ 1) : Spec Try.prog 17 1 [.slc 0, .c (.int .i64 k)] [(0, .deep true 0 (.lks c) [])] 1 (.c (.int .i64 (mlN c.length 0 c k).2)) [(0, .deep true 0 (.lks (mlN c.length 0 c k).1) [])] := by
  obtain ⟨V, hV⟩ : ∃ V, mlN c.length 0 c k = V := ⟨_, rfl⟩
  rw [hV]
  refine spec_intro (fn := Try.f17) tOk eOk mix _ (by kernel_rfl) (by decide +kernel) rfl rfl rfl ?_
  conv => whnf
  repeat' first
    | (refine vneed_i (by kernel_rfl) ?_; conv => whnf)
    | (refine vneed_i (by (try simp only [C.len, C.isSl, C.stride, true_and, and_true, Int.toNat_natCast, toNat_sub1, toNat_add1, List.length_append, List.length_cons, List.length_nil, List.length_take, List.length_drop, List.length_replicate, List.length_set, List.length_map]) <;> omega) ?_; conv => whnf)
    | (refine vif_i (fun h => ?_) (fun h => ?_) <;> (try simp only [Bool.not_eq_true', Bool.not_eq_false', decide_eq_true_eq, decide_eq_false_iff_not, beq_iff_eq, bne_iff_ne, ne_eq, Bool.not_eq_true, Bool.not_eq_false, bne_eq_false_iff_eq, beq_eq_false_iff_ne] at h) <;> (try simp only [C.len, C.isSl, C.stride, true_and, Int.toNat_natCast, toNat_sub1, toNat_add1] at h) <;> conv => whnf)
    | refine vend_tt ?_
    | refine vend_ff ?_
    | refine vend_b ?_
    | refine vend_n ?_
    | refine vend_c ?_
    | (refine vint_f (by (try simp only [C.len, C.isSl, C.stride, true_and, and_true, Int.toNat_natCast, toNat_sub1, toNat_add1, List.length_append, List.length_cons, List.length_nil, List.length_take, List.length_drop, List.length_replicate, List.length_set, List.length_map]) <;> omega) (by (try simp only [C.len, C.isSl, C.stride, true_and, and_true, Int.toNat_natCast, toNat_sub1, toNat_add1, List.length_append, List.length_cons, List.length_nil, List.length_take, List.length_drop, List.length_replicate, List.length_set, List.length_map]) <;> omega) ?_; conv => whnf)
    | (refine vor_r (by omega) ?_; conv => whnf)
    | (refine vor_l (by first | rfl | omega) ?_; conv => whnf)
    | (refine vch_l ?_; conv => whnf)
    | (refine vpre_no ?_; conv => whnf)
  refine vloop3 (fun (i : Nat) (d : List Lk) (q : Int) => i ≤ c.length ∧ d.length = c.length ∧ (∀ j, i ≤ j → (d.getD j ⟨[], 0, 0⟩).keys.length ≤ 1048576) ∧ 0 ≤ q ∧ q ≤ 1 + i * 1048578 ∧ mlN (c.length - i) i d q = V)
    (fun i d q => ⟨34, 1, [(0, .slc 0), (1, .c (.int .i64 q)), (5, .c (.int .i64 i))], [(0, .deep true 0 (.lks d) [])]⟩) (fun i d q => c.length - i) 0 c k ⟨by omega, rfl, fun j _ => keys_le' hk j, h0, by omega, by simpa using hV⟩ (fun _ _ _ => Nat.le_refl _) (ent_i [] [0] ⟨by repeat first | exact trivial | refine ⟨rfl, ?_⟩, by repeat first | exact trivial | refine ⟨rfl, ?_⟩, rfl, rfl, rfl, rfl, rfl, rfl, rfl⟩) (fun i d q hi => ?_)
  obtain ⟨hi, hy, hd, hq0, hq1, hv⟩ := hi
  have hdi := hd i (Nat.le_refl _)
  conv => whnf
  repeat' first
    | (refine vneed_i (by kernel_rfl) ?_; conv => whnf)
    | (refine vneed_i (by (try simp only [C.len, C.isSl, C.stride, true_and, and_true, Int.toNat_natCast, toNat_sub1, toNat_add1, List.length_append, List.length_cons, List.length_nil, List.length_take, List.length_drop, List.length_replicate, List.length_set, List.length_map]) <;> omega) ?_; conv => whnf)
    | (refine vif_i (fun h => ?_) (fun h => ?_) <;> (try simp only [Bool.not_eq_true', Bool.not_eq_false', decide_eq_true_eq, decide_eq_false_iff_not, beq_iff_eq, bne_iff_ne, ne_eq, Bool.not_eq_true, Bool.not_eq_false, bne_eq_false_iff_eq, beq_eq_false_iff_ne] at h) <;> (try simp only [C.len, C.isSl, C.stride, true_and, Int.toNat_natCast, toNat_sub1, toNat_add1] at h) <;> conv => whnf)
    | refine vend_tt ?_
    | refine vend_ff ?_
    | refine vend_b ?_
    | refine vend_n ?_
    | refine vend_c ?_
    | (refine vint_f (by (try simp only [C.len, C.isSl, C.stride, true_and, and_true, Int.toNat_natCast, toNat_sub1, toNat_add1, List.length_append, List.length_cons, List.length_nil, List.length_take, List.length_drop, List.length_replicate, List.length_set, List.length_map]) <;> omega) (by (try simp only [C.len, C.isSl, C.stride, true_and, and_true, Int.toNat_natCast, toNat_sub1, toNat_add1, List.length_append, List.length_cons, List.length_nil, List.length_take, List.length_drop, List.length_replicate, List.length_set, List.length_map]) <;> omega) ?_; conv => whnf)
    | (refine vor_r (by omega) ?_; conv => whnf)
    | (refine vor_l (by first | rfl | omega) ?_; conv => whnf)
  refine vpre_no ?_
  conv => whnf
  repeat' first
    | (refine vneed_i (by kernel_rfl) ?_; conv => whnf)
    | (refine vneed_i (by (try simp only [C.len, C.isSl, C.stride, true_and, and_true, Int.toNat_natCast, toNat_sub1, toNat_add1, List.length_append, List.length_cons, List.length_nil, List.length_take, List.length_drop, List.length_replicate, List.length_set, List.length_map]) <;> omega) ?_; conv => whnf)
    | (refine vif_i (fun h => ?_) (fun h => ?_) <;> (try simp only [Bool.not_eq_true', Bool.not_eq_false', decide_eq_true_eq, decide_eq_false_iff_not, beq_iff_eq, bne_iff_ne, ne_eq, Bool.not_eq_true, Bool.not_eq_false, bne_eq_false_iff_eq, beq_eq_false_iff_ne] at h) <;> (try simp only [C.len, C.isSl, C.stride, true_and, Int.toNat_natCast, toNat_sub1, toNat_add1] at h) <;> conv => whnf)
    | refine vend_tt ?_
    | refine vend_ff ?_
    | refine vend_b ?_
    | refine vend_n ?_
    | refine vend_c ?_
    | (refine vint_f (by (try simp only [C.len, C.isSl, C.stride, true_and, and_true, Int.toNat_natCast, toNat_sub1, toNat_add1, List.length_append, List.length_cons, List.length_nil, List.length_take, List.length_drop, List.length_replicate, List.length_set, List.length_map]) <;> omega) (by (try simp only [C.len, C.isSl, C.stride, true_and, and_true, Int.toNat_natCast, toNat_sub1, toNat_add1, List.length_append, List.length_cons, List.length_nil, List.length_take, List.length_drop, List.length_replicate, List.length_set, List.length_map]) <;> omega) ?_; conv => whnf)
    | (refine vor_r (by omega) ?_; conv => whnf)
    | (refine vor_l (by first | rfl | omega) ?_; conv => whnf)
  · refine vpre_g [.op 0 i, .dp 1, .pin 1] ?_
    conv => whnf
    repeat' first
      | (refine vneed_i (by kernel_rfl) ?_; conv => whnf)
      | (refine vneed_i (by (try simp only [C.len, C.isSl, C.stride, true_and, and_true, Int.toNat_natCast, toNat_sub1, toNat_add1, List.length_append, List.length_cons, List.length_nil, List.length_take, List.length_drop, List.length_replicate, List.length_set, List.length_map]) <;> omega) ?_; conv => whnf)
      | (refine vif_i (fun h => ?_) (fun h => ?_) <;> (try simp only [Bool.not_eq_true', Bool.not_eq_false', decide_eq_true_eq, decide_eq_false_iff_not, beq_iff_eq, bne_iff_ne, ne_eq, Bool.not_eq_true, Bool.not_eq_false, bne_eq_false_iff_eq, beq_eq_false_iff_ne] at h) <;> (try simp only [C.len, C.isSl, C.stride, true_and, Int.toNat_natCast, toNat_sub1, toNat_add1] at h) <;> conv => whnf)
      | refine vend_tt ?_
      | refine vend_ff ?_
      | refine vend_b ?_
      | refine vend_n ?_
      | refine vend_c ?_
      | (refine vint_f (by (try simp only [C.len, C.isSl, C.stride, true_and, and_true, Int.toNat_natCast, toNat_sub1, toNat_add1, List.length_append, List.length_cons, List.length_nil, List.length_take, List.length_drop, List.length_replicate, List.length_set, List.length_map]) <;> omega) (by (try simp only [C.len, C.isSl, C.stride, true_and, and_true, Int.toNat_natCast, toNat_sub1, toNat_add1, List.length_append, List.length_cons, List.length_nil, List.length_take, List.length_drop, List.length_replicate, List.length_set, List.length_map]) <;> omega) ?_; conv => whnf)
      | (refine vcall_i [] [1] (markIntS_v _ q ?_ ?_ ?_) ⟨rfl, rfl, rfl, (by repeat first | exact trivial | refine ⟨rfl, ?_⟩), ⟨rfl, rfl, rfl, rfl, rfl, rfl⟩, ?_⟩; (first | assumption | omega | exact (by (try simp only [C.len, C.isSl, C.stride, true_and, and_true, Int.toNat_natCast, toNat_sub1, toNat_add1, List.length_append, List.length_cons, List.length_nil, List.length_take, List.length_drop, List.length_replicate, List.length_set, List.length_map]) <;> omega)); (first | assumption | omega | exact (by (try simp only [C.len, C.isSl, C.stride, true_and, and_true, Int.toNat_natCast, toNat_sub1, toNat_add1, List.length_append, List.length_cons, List.length_nil, List.length_take, List.length_drop, List.length_replicate, List.length_set, List.length_map]) <;> omega)); (first | assumption | omega | exact (by (try simp only [C.len, C.isSl, C.stride, true_and, and_true, Int.toNat_natCast, toNat_sub1, toNat_add1, List.length_append, List.length_cons, List.length_nil, List.length_take, List.length_drop, List.length_replicate, List.length_set, List.length_map]) <;> omega)); conv => whnf)
      | (refine vor_r (by omega) ?_; conv => whnf)
      | (refine vor_l (by first | rfl | omega) ?_; conv => whnf)
      | (refine vch_l ?_; conv => whnf)
      | (refine vpre_no ?_; conv => whnf)
    refine ⟨⟨(i + 1, d.set i ⟨(mkN (d.getD i ⟨[], 0, 0⟩).keys.length 0 (d.getD i ⟨[], 0, 0⟩).keys q).1, q + (d.getD i ⟨[], 0, 0⟩).keys.length, q + (d.getD i ⟨[], 0, 0⟩).keys.length + 1⟩, q + (d.getD i ⟨[], 0, 0⟩).keys.length + 1 + 1), ?_⟩, (ent_g [.cl 0] [] [0] ?_), by dsimp only; omega⟩
    · dsimp only
      refine ⟨by omega, by simp [hy], fun j hj => ?_, by omega, by omega, ?_⟩
      · rw [getD_set _ _ _ _ _ (by omega), if_neg (by omega)]
        exact hd j (by omega)
      · rw [show c.length - i = c.length - (i + 1) + 1 by omega] at hv
        exact hv
    conv => whnf
    exact ⟨by repeat first | exact trivial | refine ⟨rfl, ?_⟩, by repeat first | exact trivial | refine ⟨rfl, ?_⟩, rfl, rfl, rfl, rfl, rfl, rfl, rfl⟩
  · skip
    repeat' first
      | (refine vneed_i (by kernel_rfl) ?_; conv => whnf)
      | (refine vneed_i (by (try simp only [C.len, C.isSl, C.stride, true_and, and_true, Int.toNat_natCast, toNat_sub1, toNat_add1, List.length_append, List.length_cons, List.length_nil, List.length_take, List.length_drop, List.length_replicate, List.length_set, List.length_map]) <;> omega) ?_; conv => whnf)
      | (refine vif_i (fun h => ?_) (fun h => ?_) <;> (try simp only [Bool.not_eq_true', Bool.not_eq_false', decide_eq_true_eq, decide_eq_false_iff_not, beq_iff_eq, bne_iff_ne, ne_eq, Bool.not_eq_true, Bool.not_eq_false, bne_eq_false_iff_eq, beq_eq_false_iff_ne] at h) <;> (try simp only [C.len, C.isSl, C.stride, true_and, Int.toNat_natCast, toNat_sub1, toNat_add1] at h) <;> conv => whnf)
      | refine vend_tt ?_
      | refine vend_ff ?_
      | refine vend_b ?_
      | refine vend_n ?_
      | refine vend_c ?_
      | (refine vint_f (by (try simp only [C.len, C.isSl, C.stride, true_and, and_true, Int.toNat_natCast, toNat_sub1, toNat_add1, List.length_append, List.length_cons, List.length_nil, List.length_take, List.length_drop, List.length_replicate, List.length_set, List.length_map]) <;> omega) (by (try simp only [C.len, C.isSl, C.stride, true_and, and_true, Int.toNat_natCast, toNat_sub1, toNat_add1, List.length_append, List.length_cons, List.length_nil, List.length_take, List.length_drop, List.length_replicate, List.length_set, List.length_map]) <;> omega) ?_; conv => whnf)
      | (refine vor_r (by omega) ?_; conv => whnf)
      | (refine vor_l (by first | rfl | omega) ?_; conv => whnf)
      | (refine vch_l ?_; conv => whnf)
      | (refine vpre_no ?_; conv => whnf)
    rw [show c.length - i = 0 by omega] at hv
    subst hv
    exact (vend_i [] [0] ⟨rfl, by repeat first | exact trivial | refine ⟨rfl, ?_⟩, rfl, rfl, rfl, rfl, rfl, rfl⟩)
end Go.VL
