/- laws.FnExactChainKeys: the two ChainKeys -/
import Derived.Test.YtkdgodkamaicjaaVChR
namespace Go.VL
open Go.Proofs
set_option maxRecDepth 10000
set_option linter.unusedSimpArgs false
set_option linter.unusedVariables false
/-- n links' keys, from at_ on -/
def chK (c : List Lk) : Nat → Int → List Int
  | 0, _ => []
  | n + 1, at_ => (c.getD at_.toNat ⟨[], 0, 0⟩).keys ++ chK c n (c.getD at_.toNat ⟨[], 0, 0⟩).right
theorem vc_step {c : List Lk} {seen : List Int} {at_ low : Int} {n : Nat} (h : vcSpec c seen at_ low (n + 1) = true) :
    (c.getD at_.toNat ⟨[], 0, 0⟩).keys.length ≤ 4 ∧ (n = 0 → (c.getD at_.toNat ⟨[], 0, 0⟩).right = -1) ∧
    (n ≠ 0 → 0 ≤ (c.getD at_.toNat ⟨[], 0, 0⟩).right ∧ (c.getD at_.toNat ⟨[], 0, 0⟩).right ≤ (c.length : Int) - 1 ∧ vcSpec c (seen ++ [at_]) (c.getD at_.toNat ⟨[], 0, 0⟩).right (c.getD at_.toNat ⟨[], 0, 0⟩).high n = true) := by
  unfold vcSpec at h
  repeat' split at h
  all_goals first | (cases h; done) | skip
  · exact ⟨by omega, fun _ => by assumption, fun h => by omega⟩
  · rename_i g7
    exact ⟨by omega, fun h => by omega, fun _ => ⟨g7.1, g7.2, h⟩⟩
theorem vChain_len' {c : List Lk} (h : vChain c = true) : 1 ≤ c.length ∧ c.length ≤ 16 := by
  rw [vChain_eq] at h
  split at h
  · cases h
  · omega
structure CkI (c : List Lk) (V acc : List Int) (at_ : Int) (n : Nat) : Prop where
  v : acc ++ chK c n at_ = V
  l : acc.length + 4 * n ≤ 64
  z : n = 0 → at_ = -1
  s : n ≠ 0 → 0 ≤ at_ ∧ at_ ≤ (c.length : Int) - 1 ∧ ∃ seen low, vcSpec c seen at_ low n = true
theorem CkI.next {c : List Lk} {V acc : List Int} {at_ : Int} {n : Nat} (h : CkI c V acc at_ (n + 1)) : (c.getD at_.toNat ⟨[], 0, 0⟩).keys.length ≤ 4 ∧ CkI c V (acc ++ (c.getD at_.toNat ⟨[], 0, 0⟩).keys) (c.getD at_.toNat ⟨[], 0, 0⟩).right n := by
  obtain ⟨h1, h2, seen, low, h3⟩ := h.s (Nat.succ_ne_zero _)
  obtain ⟨a1, a2, a3⟩ := vc_step h3
  have hl := h.l
  refine ⟨a1, by rw [List.append_assoc]; exact h.v, by rw [List.length_append]; omega, a2, fun hn => ?_⟩
  obtain ⟨b1, b2, b3⟩ := a3 hn
  exact ⟨b1, b2, _, _, b3⟩
theorem CkI.start {c : List Lk} (h : vChain c = true) : CkI c (chK c c.length 0) [] 0 c.length := by
  have hl := vChain_len' h
  exact ⟨rfl, by simp; omega, fun h => by omega, fun _ => ⟨by omega, by omega, _, _, h⟩⟩
theorem CkI.pos {c : List Lk} {V acc : List Int} {at_ : Int} {n : Nat} (h : CkI c V acc at_ n) (h0 : at_ ≥ 0) : ∃ m, n = m + 1 := ⟨n - 1, by
  by_cases c : n = 0
  · have := h.z c; omega
  · omega⟩
theorem CkI.fin {c : List Lk} {V acc : List Int} {at_ : Int} {n : Nat} (h : CkI c V acc at_ n) (h0 : ¬ at_ ≥ 0) : acc = V := by
  by_cases c : n = 0
  · subst c; simpa [chK] using h.v
  · have := h.s c; omega
theorem chK_len {c : List Lk} (h : vChain c = true) : (chK c c.length 0).length ≤ 64 := by
  have key : ∀ (n : Nat) (V acc : List Int) (at_ : Int), CkI c V acc at_ n → V.length ≤ 64 := by
    intro n
    induction n with
    | zero => intro V acc at_ h; have := h.v; have hl := h.l; simp [chK] at this; subst this; omega
    | succ n ih => intro V acc at_ h; exact ih _ _ _ h.next.2
  exact key _ _ _ _ (CkI.start h)
theorem specChainKeys_v (c : List Lk) (hc : cB c) (g : vChain c = true) : Spec Try.prog 14 0 [.c (.lks c)] [] 1 (.slc 0) [(0, .arr (.nums .i64 (chK c c.length 0)))] := by
  have hcl := hc.1
  have h0 := CkI.start g
  obtain ⟨V, hV⟩ : ∃ V, chK c c.length 0 = V := ⟨_, rfl⟩
  rw [hV] at h0 ⊢
  refine spec_intro (fn := Try.f14) tOk eOk mix _ (by kernel_rfl) (by decide +kernel) rfl rfl rfl ?_
  conv => whnf
  repeat' first
    | (refine vneed_i (by kernel_rfl) ?_; conv => whnf)
    | (refine vneed_i (by (try simp only [C.len, C.isSl, C.stride, true_and, and_true, Int.toNat_natCast, toNat_sub1, toNat_add1, List.length_append, List.length_cons, List.length_nil, List.length_take, List.length_drop, List.length_replicate, List.length_set, List.length_map]) <;> omega) ?_; conv => whnf)
    | (refine vif_i (fun h => ?_) (fun h => ?_) <;> (try simp only [Bool.not_eq_true', Bool.not_eq_false', decide_eq_true_eq, decide_eq_false_iff_not, beq_iff_eq, bne_iff_ne, ne_eq, Bool.not_eq_true, Bool.not_eq_false, bne_eq_false_iff_eq, beq_eq_false_iff_ne] at h) <;> (try simp only [C.len, C.isSl, C.stride, true_and, Int.toNat_natCast, toNat_sub1, toNat_add1] at h) <;> conv => whnf)
    | refine vend_tt ?_
    | refine vend_ff ?_
    | refine vend_b ?_
    | refine vend_n ?_
    | refine vend_c ?_
    | (refine vint_f (by (try simp only [C.len, C.isSl, C.stride, true_and, and_true, Int.toNat_natCast, toNat_sub1, toNat_add1, List.length_append, List.length_cons, List.length_nil, List.length_take, List.length_drop, List.length_replicate, List.length_set, List.length_map]) <;> omega) (by (try simp only [C.len, C.isSl, C.stride, true_and, and_true, Int.toNat_natCast, toNat_sub1, toNat_add1, List.length_append, List.length_cons, List.length_nil, List.length_take, List.length_drop, List.length_replicate, List.length_set, List.length_map]) <;> omega) ?_; conv => whnf)
    | (refine vcall_p (validChain_v _ hc) rfl rfl ?_; conv => whnf)
    | (refine vor_r (by omega) ?_; conv => whnf)
    | (refine vor_l (by first | rfl | omega) ?_; conv => whnf)
    | (refine vch_l ?_; conv => whnf)
    | (refine vpre_no ?_; conv => whnf)
  · rw [g] at h; cases h
  refine vloop3 (fun (acc : List Int) (at_ : Int) (n : Nat) => CkI c V acc at_ n)
    (fun acc at_ n => ⟨24, 1, [(0, .c (.lks c)), (3, .slc 0), (4, .c (.int .i64 at_))], [(0, .arr (.nums .i64 acc))]⟩) (fun acc at_ n => n) [] 0 c.length h0 (fun _ _ _ => Nat.zero_le _) (ent_i [] [0] ⟨by repeat first | exact trivial | refine ⟨rfl, ?_⟩, by repeat first | exact trivial | refine ⟨rfl, ?_⟩, rfl, rfl, rfl, rfl, rfl, rfl, rfl⟩) (fun acc at_ n hi => ?_)
  by_cases hp : at_ ≥ 0
  · obtain ⟨m, rfl⟩ := hi.pos hp
    obtain ⟨h1, h2⟩ := hi.next
    have h3 := hi.s (Nat.succ_ne_zero _)
    have h4 := h2.l
    rw [List.length_append] at h4
    conv => whnf
    repeat' first
      | (refine vneed_i (by kernel_rfl) ?_; conv => whnf)
      | (refine vneed_i (by (try simp only [C.len, C.isSl, C.stride, true_and, and_true, Int.toNat_natCast, toNat_sub1, toNat_add1, List.length_append, List.length_cons, List.length_nil, List.length_take, List.length_drop, List.length_replicate, List.length_set, List.length_map]) <;> omega) ?_; conv => whnf)
      | (refine vif_i (fun h => ?_) (fun h => ?_) <;> (try simp only [Bool.not_eq_true', Bool.not_eq_false', decide_eq_true_eq, decide_eq_false_iff_not, beq_iff_eq, bne_iff_ne, ne_eq, Bool.not_eq_true, Bool.not_eq_false, bne_eq_false_iff_eq, beq_eq_false_iff_ne] at h) <;> (try simp only [C.len, C.isSl, C.stride, true_and, Int.toNat_natCast, toNat_sub1, toNat_add1] at h) <;> conv => whnf)
      | refine vend_tt ?_
      | refine vend_ff ?_
      | refine vend_b ?_
      | refine vend_n ?_
      | refine vend_c ?_
      | (refine vint_f (by (try simp only [C.len, C.isSl, C.stride, true_and, and_true, Int.toNat_natCast, toNat_sub1, toNat_add1, List.length_append, List.length_cons, List.length_nil, List.length_take, List.length_drop, List.length_replicate, List.length_set, List.length_map]) <;> omega) (by (try simp only [C.len, C.isSl, C.stride, true_and, and_true, Int.toNat_natCast, toNat_sub1, toNat_add1, List.length_append, List.length_cons, List.length_nil, List.length_take, List.length_drop, List.length_replicate, List.length_set, List.length_map]) <;> omega) ?_; conv => whnf)
      | (refine vor_r (by omega) ?_; conv => whnf)
      | (refine vor_l (by first | rfl | omega) ?_; conv => whnf)
      | (refine vch_l ?_; conv => whnf)
      | (refine vpre_no ?_; conv => whnf)
    · refine ⟨⟨(acc ++ (c.getD at_.toNat ⟨[], 0, 0⟩).keys, (c.getD at_.toNat ⟨[], 0, 0⟩).right, m), h2⟩, (ent_i [] [0] ⟨by repeat first | exact trivial | refine ⟨rfl, ?_⟩, by repeat first | exact trivial | refine ⟨rfl, ?_⟩, rfl, rfl, rfl, rfl, rfl, rfl, rfl⟩), by dsimp only; omega⟩
    · exact absurd hp h
  · have hf := hi.fin hp
    subst hf
    conv => whnf
    repeat' first
      | (refine vneed_i (by kernel_rfl) ?_; conv => whnf)
      | (refine vneed_i (by (try simp only [C.len, C.isSl, C.stride, true_and, and_true, Int.toNat_natCast, toNat_sub1, toNat_add1, List.length_append, List.length_cons, List.length_nil, List.length_take, List.length_drop, List.length_replicate, List.length_set, List.length_map]) <;> omega) ?_; conv => whnf)
      | (refine vif_i (fun h => ?_) (fun h => ?_) <;> (try simp only [Bool.not_eq_true', Bool.not_eq_false', decide_eq_true_eq, decide_eq_false_iff_not, beq_iff_eq, bne_iff_ne, ne_eq, Bool.not_eq_true, Bool.not_eq_false, bne_eq_false_iff_eq, beq_eq_false_iff_ne] at h) <;> (try simp only [C.len, C.isSl, C.stride, true_and, Int.toNat_natCast, toNat_sub1, toNat_add1] at h) <;> conv => whnf)
      | refine vend_tt ?_
      | refine vend_ff ?_
      | refine vend_b ?_
      | refine vend_n ?_
      | refine vend_c ?_
      | (refine vint_f (by (try simp only [C.len, C.isSl, C.stride, true_and, and_true, Int.toNat_natCast, toNat_sub1, toNat_add1, List.length_append, List.length_cons, List.length_nil, List.length_take, List.length_drop, List.length_replicate, List.length_set, List.length_map]) <;> omega) (by (try simp only [C.len, C.isSl, C.stride, true_and, and_true, Int.toNat_natCast, toNat_sub1, toNat_add1, List.length_append, List.length_cons, List.length_nil, List.length_take, List.length_drop, List.length_replicate, List.length_set, List.length_map]) <;> omega) ?_; conv => whnf)
      | (refine vor_r (by omega) ?_; conv => whnf)
      | (refine vor_l (by first | rfl | omega) ?_; conv => whnf)
      | (refine vch_l ?_; conv => whnf)
      | (refine vpre_no ?_; conv => whnf)
    · exact absurd h hp
    · exact (vend_i [] [0] ⟨rfl, by repeat first | exact trivial | refine ⟨rfl, ?_⟩, rfl, rfl, rfl, rfl, rfl, rfl⟩)
theorem implChainKeys_v (c : List Lk) (hc : cB c) (g : vChain c = true) : Spec Try.prog 15 0 [.c (.lks c)] [] 1 (.slc 0) [(0, .arr (.nums .i64 (chK c c.length 0)))] := by
  have hcl := hc.1
  have h0 := CkI.start g
  obtain ⟨V, hV⟩ : ∃ V, chK c c.length 0 = V := ⟨_, rfl⟩
  rw [hV] at h0 ⊢
  refine spec_intro (fn := Try.f15) tOk eOk mix _ (by kernel_rfl) (by decide +kernel) rfl rfl rfl ?_
  conv => whnf
  repeat' first
    | (refine vneed_i (by kernel_rfl) ?_; conv => whnf)
    | (refine vneed_i (by (try simp only [C.len, C.isSl, C.stride, true_and, and_true, Int.toNat_natCast, toNat_sub1, toNat_add1, List.length_append, List.length_cons, List.length_nil, List.length_take, List.length_drop, List.length_replicate, List.length_set, List.length_map]) <;> omega) ?_; conv => whnf)
    | (refine vif_i (fun h => ?_) (fun h => ?_) <;> (try simp only [Bool.not_eq_true', Bool.not_eq_false', decide_eq_true_eq, decide_eq_false_iff_not, beq_iff_eq, bne_iff_ne, ne_eq, Bool.not_eq_true, Bool.not_eq_false, bne_eq_false_iff_eq, beq_eq_false_iff_ne] at h) <;> (try simp only [C.len, C.isSl, C.stride, true_and, Int.toNat_natCast, toNat_sub1, toNat_add1] at h) <;> conv => whnf)
    | refine vend_tt ?_
    | refine vend_ff ?_
    | refine vend_b ?_
    | refine vend_n ?_
    | refine vend_c ?_
    | (refine vint_f (by (try simp only [C.len, C.isSl, C.stride, true_and, and_true, Int.toNat_natCast, toNat_sub1, toNat_add1, List.length_append, List.length_cons, List.length_nil, List.length_take, List.length_drop, List.length_replicate, List.length_set, List.length_map]) <;> omega) (by (try simp only [C.len, C.isSl, C.stride, true_and, and_true, Int.toNat_natCast, toNat_sub1, toNat_add1, List.length_append, List.length_cons, List.length_nil, List.length_take, List.length_drop, List.length_replicate, List.length_set, List.length_map]) <;> omega) ?_; conv => whnf)
    | (refine vcall_p (ValidChain_v _ hc) rfl rfl ?_; conv => whnf)
    | (refine vor_r (by omega) ?_; conv => whnf)
    | (refine vor_l (by first | rfl | omega) ?_; conv => whnf)
    | (refine vch_l ?_; conv => whnf)
    | (refine vpre_no ?_; conv => whnf)
  · rw [g] at h; cases h
  refine vloop3 (fun (acc : List Int) (at_ : Int) (n : Nat) => CkI c V acc at_ n)
    (fun acc at_ n => ⟨23, 1, [(0, .c (.lks c)), (3, .slc 0), (4, .c (.int .i64 at_))], [(0, .arr (.nums .i64 acc))]⟩) (fun acc at_ n => n) [] 0 c.length h0 (fun _ _ _ => Nat.zero_le _)
    (ent_g [.nl 3 false (.nums .i64 [])] [] [0] (by conv => whnf
                                                    exact ⟨by repeat first | exact trivial | refine ⟨rfl, ?_⟩, by repeat first | exact trivial | refine ⟨rfl, ?_⟩, rfl, rfl, rfl, rfl, rfl, rfl, rfl⟩)) (fun acc at_ n hi => ?_)
  by_cases hp : at_ ≥ 0
  · obtain ⟨m, rfl⟩ := hi.pos hp
    obtain ⟨h1, h2⟩ := hi.next
    have h3 := hi.s (Nat.succ_ne_zero _)
    have h4 := h2.l
    rw [List.length_append] at h4
    conv => whnf
    repeat' first
      | (refine vneed_i (by kernel_rfl) ?_; conv => whnf)
      | (refine vneed_i (by (try simp only [C.len, C.isSl, C.stride, true_and, and_true, Int.toNat_natCast, toNat_sub1, toNat_add1, List.length_append, List.length_cons, List.length_nil, List.length_take, List.length_drop, List.length_replicate, List.length_set, List.length_map]) <;> omega) ?_; conv => whnf)
      | (refine vif_i (fun h => ?_) (fun h => ?_) <;> (try simp only [Bool.not_eq_true', Bool.not_eq_false', decide_eq_true_eq, decide_eq_false_iff_not, beq_iff_eq, bne_iff_ne, ne_eq, Bool.not_eq_true, Bool.not_eq_false, bne_eq_false_iff_eq, beq_eq_false_iff_ne] at h) <;> (try simp only [C.len, C.isSl, C.stride, true_and, Int.toNat_natCast, toNat_sub1, toNat_add1] at h) <;> conv => whnf)
      | refine vend_tt ?_
      | refine vend_ff ?_
      | refine vend_b ?_
      | refine vend_n ?_
      | refine vend_c ?_
      | (refine vint_f (by (try simp only [C.len, C.isSl, C.stride, true_and, and_true, Int.toNat_natCast, toNat_sub1, toNat_add1, List.length_append, List.length_cons, List.length_nil, List.length_take, List.length_drop, List.length_replicate, List.length_set, List.length_map]) <;> omega) (by (try simp only [C.len, C.isSl, C.stride, true_and, and_true, Int.toNat_natCast, toNat_sub1, toNat_add1, List.length_append, List.length_cons, List.length_nil, List.length_take, List.length_drop, List.length_replicate, List.length_set, List.length_map]) <;> omega) ?_; conv => whnf)
      | (refine vor_r (by omega) ?_; conv => whnf)
      | (refine vor_l (by first | rfl | omega) ?_; conv => whnf)
      | (refine vch_l ?_; conv => whnf)
      | (refine vpre_no ?_; conv => whnf)
    · refine ⟨⟨(acc ++ (c.getD at_.toNat ⟨[], 0, 0⟩).keys, (c.getD at_.toNat ⟨[], 0, 0⟩).right, m), h2⟩, (ent_i [] [0] ⟨by repeat first | exact trivial | refine ⟨rfl, ?_⟩, by repeat first | exact trivial | refine ⟨rfl, ?_⟩, rfl, rfl, rfl, rfl, rfl, rfl, rfl⟩), by dsimp only; omega⟩
    · exact absurd hp h
  · have hf := hi.fin hp
    subst hf
    conv => whnf
    repeat' first
      | (refine vneed_i (by kernel_rfl) ?_; conv => whnf)
      | (refine vneed_i (by (try simp only [C.len, C.isSl, C.stride, true_and, and_true, Int.toNat_natCast, toNat_sub1, toNat_add1, List.length_append, List.length_cons, List.length_nil, List.length_take, List.length_drop, List.length_replicate, List.length_set, List.length_map]) <;> omega) ?_; conv => whnf)
      | (refine vif_i (fun h => ?_) (fun h => ?_) <;> (try simp only [Bool.not_eq_true', Bool.not_eq_false', decide_eq_true_eq, decide_eq_false_iff_not, beq_iff_eq, bne_iff_ne, ne_eq, Bool.not_eq_true, Bool.not_eq_false, bne_eq_false_iff_eq, beq_eq_false_iff_ne] at h) <;> (try simp only [C.len, C.isSl, C.stride, true_and, Int.toNat_natCast, toNat_sub1, toNat_add1] at h) <;> conv => whnf)
      | refine vend_tt ?_
      | refine vend_ff ?_
      | refine vend_b ?_
      | refine vend_n ?_
      | refine vend_c ?_
      | (refine vint_f (by (try simp only [C.len, C.isSl, C.stride, true_and, and_true, Int.toNat_natCast, toNat_sub1, toNat_add1, List.length_append, List.length_cons, List.length_nil, List.length_take, List.length_drop, List.length_replicate, List.length_set, List.length_map]) <;> omega) (by (try simp only [C.len, C.isSl, C.stride, true_and, and_true, Int.toNat_natCast, toNat_sub1, toNat_add1, List.length_append, List.length_cons, List.length_nil, List.length_take, List.length_drop, List.length_replicate, List.length_set, List.length_map]) <;> omega) ?_; conv => whnf)
      | (refine vor_r (by omega) ?_; conv => whnf)
      | (refine vor_l (by first | rfl | omega) ?_; conv => whnf)
      | (refine vch_l ?_; conv => whnf)
      | (refine vpre_no ?_; conv => whnf)
    · exact absurd h hp
    · exact (vend_i [] [0] ⟨rfl, by repeat first | exact trivial | refine ⟨rfl, ?_⟩, rfl, rfl, rfl, rfl, rfl, rfl⟩)
theorem specChainKeys_no (c : List Lk) (hc : cB c) (g : vChain c = false) : Spec Try.prog 14 0 [.c (.lks c)] [] 0 .nil [] := by
  have hcl := hc.1
  refine spec_intro (fn := Try.f14) tOk eOk mix _ (by kernel_rfl) (by decide +kernel) rfl rfl rfl ?_
  conv => whnf
  repeat' first
    | (refine vneed_i (by kernel_rfl) ?_; conv => whnf)
    | (refine vneed_i (by (try simp only [C.len, C.isSl, C.stride, true_and, and_true, Int.toNat_natCast, toNat_sub1, toNat_add1, List.length_append, List.length_cons, List.length_nil, List.length_take, List.length_drop, List.length_replicate, List.length_set, List.length_map]) <;> omega) ?_; conv => whnf)
    | (refine vif_i (fun h => ?_) (fun h => ?_) <;> (try simp only [Bool.not_eq_true', Bool.not_eq_false', decide_eq_true_eq, decide_eq_false_iff_not, beq_iff_eq, bne_iff_ne, ne_eq, Bool.not_eq_true, Bool.not_eq_false, bne_eq_false_iff_eq, beq_eq_false_iff_ne] at h) <;> (try simp only [C.len, C.isSl, C.stride, true_and, Int.toNat_natCast, toNat_sub1, toNat_add1] at h) <;> conv => whnf)
    | refine vend_tt ?_
    | refine vend_ff ?_
    | refine vend_b ?_
    | refine vend_n ?_
    | refine vend_c ?_
    | (refine vint_f (by (try simp only [C.len, C.isSl, C.stride, true_and, and_true, Int.toNat_natCast, toNat_sub1, toNat_add1, List.length_append, List.length_cons, List.length_nil, List.length_take, List.length_drop, List.length_replicate, List.length_set, List.length_map]) <;> omega) (by (try simp only [C.len, C.isSl, C.stride, true_and, and_true, Int.toNat_natCast, toNat_sub1, toNat_add1, List.length_append, List.length_cons, List.length_nil, List.length_take, List.length_drop, List.length_replicate, List.length_set, List.length_map]) <;> omega) ?_; conv => whnf)
    | (refine vcall_p (validChain_v _ hc) rfl rfl ?_; conv => whnf)
    | (refine vor_r (by omega) ?_; conv => whnf)
    | (refine vor_l (by first | rfl | omega) ?_; conv => whnf)
    | (refine vch_l ?_; conv => whnf)
    | (refine vpre_no ?_; conv => whnf)
  · exact (vend_i [] [] ⟨rfl, by repeat first | exact trivial | refine ⟨rfl, ?_⟩, rfl, rfl, rfl, rfl, rfl, rfl⟩)
  · rw [g] at h; cases h
theorem implChainKeys_no (c : List Lk) (hc : cB c) (g : vChain c = false) : Spec Try.prog 15 0 [.c (.lks c)] [] 0 .nil [] := by
  have hcl := hc.1
  refine spec_intro (fn := Try.f15) tOk eOk mix _ (by kernel_rfl) (by decide +kernel) rfl rfl rfl ?_
  conv => whnf
  repeat' first
    | (refine vneed_i (by kernel_rfl) ?_; conv => whnf)
    | (refine vneed_i (by (try simp only [C.len, C.isSl, C.stride, true_and, and_true, Int.toNat_natCast, toNat_sub1, toNat_add1, List.length_append, List.length_cons, List.length_nil, List.length_take, List.length_drop, List.length_replicate, List.length_set, List.length_map]) <;> omega) ?_; conv => whnf)
    | (refine vif_i (fun h => ?_) (fun h => ?_) <;> (try simp only [Bool.not_eq_true', Bool.not_eq_false', decide_eq_true_eq, decide_eq_false_iff_not, beq_iff_eq, bne_iff_ne, ne_eq, Bool.not_eq_true, Bool.not_eq_false, bne_eq_false_iff_eq, beq_eq_false_iff_ne] at h) <;> (try simp only [C.len, C.isSl, C.stride, true_and, Int.toNat_natCast, toNat_sub1, toNat_add1] at h) <;> conv => whnf)
    | refine vend_tt ?_
    | refine vend_ff ?_
    | refine vend_b ?_
    | refine vend_n ?_
    | refine vend_c ?_
    | (refine vint_f (by (try simp only [C.len, C.isSl, C.stride, true_and, and_true, Int.toNat_natCast, toNat_sub1, toNat_add1, List.length_append, List.length_cons, List.length_nil, List.length_take, List.length_drop, List.length_replicate, List.length_set, List.length_map]) <;> omega) (by (try simp only [C.len, C.isSl, C.stride, true_and, and_true, Int.toNat_natCast, toNat_sub1, toNat_add1, List.length_append, List.length_cons, List.length_nil, List.length_take, List.length_drop, List.length_replicate, List.length_set, List.length_map]) <;> omega) ?_; conv => whnf)
    | (refine vcall_p (ValidChain_v _ hc) rfl rfl ?_; conv => whnf)
    | (refine vor_r (by omega) ?_; conv => whnf)
    | (refine vor_l (by first | rfl | omega) ?_; conv => whnf)
    | (refine vch_l ?_; conv => whnf)
    | (refine vpre_no ?_; conv => whnf)
  · exact (vend_i [] [] ⟨rfl, by repeat first | exact trivial | refine ⟨rfl, ?_⟩, rfl, rfl, rfl, rfl, rfl, rfl⟩)
  · rw [g] at h; cases h
end Go.VL
