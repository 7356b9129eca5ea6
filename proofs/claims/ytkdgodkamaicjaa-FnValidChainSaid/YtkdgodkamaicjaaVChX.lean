/- the chains that are drawn, and laws.FnValidChain's walk -/
import Derived.Test.YtkdgodkamaicjaaVChW
import Derived.Test.YtkdgodkamaicjaaVChS
namespace Go.VL
open Go.Proofs
set_option maxRecDepth 10000
set_option linter.unusedSimpArgs false
set_option linter.unusedVariables false
theorem n0C_le (code : List Int) : n0C code ≤ 40 := by
  unfold n0C
  generalize (pickF code 0 6).toNat = t
  match t with
  | 0 => decide
  | 1 => decide
  | 2 => decide
  | 3 => decide
  | 4 => decide
  | 5 => decide
  | t + 6 => exact (by decide : (0 : Int).toNat ≤ 40)
theorem AcI.start (code : List Int) : AcI code (loopC code (n0C code) c0C 1) c0C 1 (n0C code) := by
  have h := n0C_le code
  refine ⟨by decide, ?_, h, fun l hl => ?_, by decide, by omega, rfl⟩
  · show 1 + 2 * n0C code ≤ 82
    omega
  · cases List.mem_singleton.1 hl; exact Nat.zero_le _
theorem AcI.run {code : List Int} {V : List Lk × Int} (n : Nat) : ∀ {c : List Lk} {p : Int}, AcI code V c p n → AcI code V V.1 V.2 0 := by
  induction n with
  | zero => intro c p h; have hv : (c, p) = V := h.v; subst hv; exact h
  | succ n ih => intro c p h; exact ih h.next
theorem spoY_len (code : List Int) (p : Int) (xs : List Int) (n : Int) : (spoY code p xs n).length ≤ xs.length + 1 := by
  unfold spoY
  repeat' split
  all_goals simp
  all_goals omega
theorem finC_b {code : List Int} {c : List Lk} {p : Int} (h1 : c.length ≤ 82) (h2 : ∀ l ∈ c, l.keys.length ≤ 40) : cB (finC code c p) := by
  have hk := keys_le h2 (pickF code p c.length).toNat
  have hset : ∀ (l : Lk), l.keys.length ≤ 42 → cB (c.set (pickF code p c.length).toNat l) := fun l hl => ⟨by rw [List.length_set]; omega, fun x hx => by
    rcases List.mem_or_eq_of_mem_set hx with hx | hx
    · have := h2 x hx; omega
    · rw [hx]; omega⟩
  unfold finC
  split
  · exact hset _ (by dsimp only; omega)
  · split
    · exact hset _ (by dsimp only; omega)
    · split
      · refine hset _ ?_
        have := spoY_len code (p + 1 + 1) ((c.getD (pickF code p c.length).toNat ⟨[], 0, 0⟩).keys ++ [50]) 100
        rw [List.length_append, List.length_singleton] at this
        dsimp only
        omega
      · exact ⟨by omega, fun l hl => by have := h2 l hl; omega⟩
theorem anyC_b (code : List Int) : cB (anyC code) := by
  have h := (AcI.start code).run
  have l2 := h.l2
  exact finC_b (by omega) (fun l hl => by have := h.k l hl; omega)
theorem drawChain_v (code : List Int) (hl : code.length ≤ 1048576) (hb : ∀ x ∈ code, 0 ≤ x ∧ x ≤ 255) : Spec Try.prog 20 0 [.c (.nums .u8 code)] [] 1 (.slc 0) [(0, .arr (.lks (anyC (code.take 2000))))] := by
  have hc : CodeOk (code.take 2000) := ⟨by rw [List.length_take]; omega, fun i => by
    by_cases h : i < (code.take 2000).length
    · have e : (code.take 2000).getD i 0 = (code.take 2000)[i] := by rw [List.getD_eq_getElem?_getD, List.getElem?_eq_getElem h]; rfl
      rw [e]; exact hb _ (List.mem_of_mem_take (List.getElem_mem h))
    · have e : (code.take 2000).getD i 0 = 0 := by simp only [List.getD, List.getElem?_eq_none (Nat.le_of_not_lt h)]; rfl
      rw [e]; exact ⟨Int.le_refl 0, by decide⟩⟩
  refine spec_intro (fn := Try.f20) tOk eOk mix _ (by kernel_rfl) (by decide +kernel) rfl rfl rfl ?_
  conv => whnf
  repeat' first
    | (refine vneed_i (by kernel_rfl) ?_; conv => whnf)
    | (refine vneed_i (by (try simp only [C.len, C.isSl, C.stride, true_and, and_true, Int.toNat_natCast, toNat_sub1, toNat_add1, List.length_append, List.length_cons, List.length_nil, List.length_take, List.length_drop, List.length_replicate, List.length_set, List.length_map]) <;> omega) ?_; conv => whnf)
    | (refine vif_i (fun h => ?_) (fun h => ?_) <;> (try simp only [Bool.not_eq_true', Bool.not_eq_false', decide_eq_true_eq, decide_eq_false_iff_not, beq_iff_eq, bne_iff_ne, ne_eq, Bool.not_eq_true, Bool.not_eq_false, bne_eq_false_iff_eq, beq_eq_false_iff_ne] at h) <;> (try simp only [C.len, C.isSl, C.stride, true_and, Int.toNat_natCast, toNat_sub1, toNat_add1] at h) <;> conv => whnf)
    | refine vend_tt ?_
    | refine vend_ff ?_
    | refine vend_b ?_
    | refine vend_n ?_
    | refine vend_c ?_
    | (refine vint_f (by (try simp only [C.len, C.isSl, C.stride, true_and, and_true, Int.toNat_natCast, toNat_sub1, toNat_add1, List.length_append, List.length_cons, List.length_nil, List.length_take, List.length_drop, List.length_replicate, List.length_set, List.length_map]) <;> omega) (by (try simp only [C.len, C.isSl, C.stride, true_and, and_true, Int.toNat_natCast, toNat_sub1, toNat_add1, List.length_append, List.length_cons, List.length_nil, List.length_take, List.length_drop, List.length_replicate, List.length_set, List.length_map]) <;> omega) ?_; conv => whnf)
    | (refine vcall_i [] [0] (newReader_v code hl) ⟨rfl, rfl, rfl, (by repeat first | exact trivial | refine ⟨rfl, ?_⟩), ⟨rfl, rfl, rfl, rfl, rfl, rfl⟩, ?_⟩; conv => whnf)
    | (refine vcall_i [] [0, 1] (anyChain_v (code.take 2000) hc) ⟨rfl, rfl, rfl, (by repeat first | exact trivial | refine ⟨rfl, ?_⟩), ⟨rfl, rfl, rfl, rfl, rfl, rfl⟩, ?_⟩; conv => whnf)
    | (refine vor_r (by omega) ?_; conv => whnf)
    | (refine vor_l (by first | rfl | omega) ?_; conv => whnf)
    | (refine vch_l ?_; conv => whnf)
    | (refine vpre_no ?_; conv => whnf)
  exact (vend_i [] [1] ⟨rfl, by repeat first | exact trivial | refine ⟨rfl, ?_⟩, rfl, rfl, rfl, rfl, rfl, rfl⟩)
/-- a link without its keys -/
def strip (l : Lk) : Lk := ⟨[], l.high, l.right⟩
theorem getD_strip (c : List Lk) (i : Nat) : (c.map strip).getD i ⟨[], 0, 0⟩ = strip (c.getD i ⟨[], 0, 0⟩) := by
  simp only [List.getD, List.getElem?_map]
  cases c[i]? <;> rfl
theorem vc_strip (c : List Lk) (n : Nat) : ∀ (seen : List Int) (at_ low : Int), vcSpec c seen at_ low n = true → vcSpec (c.map strip) seen at_ low n = true := by
  induction n with
  | zero => intro seen at_ low h; exact h
  | succ n ih =>
    intro seen at_ low h
    unfold vcSpec at h ⊢
    rw [getD_strip]
    have e1 : (strip (c.getD at_.toNat ⟨[], 0, 0⟩)).keys = [] := rfl
    have e2 : (strip (c.getD at_.toNat ⟨[], 0, 0⟩)).high = (c.getD at_.toNat ⟨[], 0, 0⟩).high := rfl
    have e3 : (strip (c.getD at_.toNat ⟨[], 0, 0⟩)).right = (c.getD at_.toNat ⟨[], 0, 0⟩).right := rfl
    rw [e1, e2, e3, List.length_map]
    repeat' split at h
    all_goals first | (cases h; done) | skip
    · rename_i g1 g2 g3 g4 g5 g6 g7 g8
      rw [if_neg g1, if_neg g2, if_neg (by simp), if_neg (by decide), if_neg (by simp), if_pos g6, if_pos g7, if_pos g8]; exact h
    · rename_i g1 g2 g3 g4 g5 g6 g7
      rw [if_neg g1, if_neg g2, if_neg (by simp), if_neg (by decide), if_neg (by simp), if_neg g6, if_pos g7]; exact ih _ _ _ h
theorem vChain_strip {c : List Lk} (h : vChain c = true) : vChain (c.map strip) = true := by
  unfold vChain
  rw [List.length_map]
  exact vc_strip c _ _ _ _ h
theorem ValidChain_nil : Spec Try.prog 10 0 [.nil] [] 0 (.c (.bool false)) [] := by
  refine spec_intro (fn := Try.f10) tOk eOk mix _ (by kernel_rfl) (by decide +kernel) rfl rfl rfl ?_
  conv => whnf
  repeat' first
    | (refine vneed_i (by kernel_rfl) ?_; conv => whnf)
    | (refine vneed_i (by (try simp only [C.len, C.isSl, C.stride, true_and, and_true, Int.toNat_natCast, toNat_sub1, toNat_add1, List.length_append, List.length_cons, List.length_nil, List.length_take, List.length_drop, List.length_replicate, List.length_set, List.length_map]) <;> omega) ?_; conv => whnf)
    | (refine vif_i (fun h => ?_) (fun h => ?_) <;> (try simp only [Bool.not_eq_true', Bool.not_eq_false', decide_eq_true_eq, decide_eq_false_iff_not, beq_iff_eq, bne_iff_ne, ne_eq, Bool.not_eq_true, Bool.not_eq_false, bne_eq_false_iff_eq, beq_eq_false_iff_ne] at h) <;> (try simp only [C.len, C.isSl, C.stride, true_and, Int.toNat_natCast, toNat_sub1, toNat_add1] at h) <;> conv => whnf)
    | refine vend_tt ?_
    | refine vend_ff ?_
    | refine vend_b ?_
    | refine vend_n ?_
    | refine vend_c ?_
    | (refine vint_f (by (try simp only [C.len, C.isSl, C.stride, true_and, and_true, Int.toNat_natCast, toNat_sub1, toNat_add1, List.length_append, List.length_cons, List.length_nil, List.length_take, List.length_drop, List.length_replicate, List.length_set, List.length_map]) <;> omega) (by (try simp only [C.len, C.isSl, C.stride, true_and, and_true, Int.toNat_natCast, toNat_sub1, toNat_add1, List.length_append, List.length_cons, List.length_nil, List.length_take, List.length_drop, List.length_replicate, List.length_set, List.length_map]) <;> omega) ?_; conv => whnf)
    | (refine vor_r (by omega) ?_; conv => whnf)
    | (refine vor_l (by first | rfl | omega) ?_; conv => whnf)
    | (refine vch_l ?_; conv => whnf)
    | (refine vpre_no ?_; conv => whnf)
  all_goals first | rfl | (exfalso; omega)
end Go.VL
