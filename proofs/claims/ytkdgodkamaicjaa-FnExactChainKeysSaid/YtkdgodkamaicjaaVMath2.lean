/- chains -/
import Derived.Test.YtkdgodkamaicjaaVMath1
namespace Go.VL
set_option linter.unusedVariables false
set_option linter.unusedSimpArgs false
/-- what the reference's validChain says -/
def vcSpec (c : List Lk) (seen : List Int) (at_ low : Int) : Nat → Bool
  | 0 => false
  | n + 1 =>
    if seen.contains at_ = true then false
    else if ¬ (low ≤ (c.getD at_.toNat ⟨[], 0, 0⟩).high ∧ (c.getD at_.toNat ⟨[], 0, 0⟩).high ≤ 100) then false
    else if 4 < (c.getD at_.toNat ⟨[], 0, 0⟩).keys.length then false
    else if vKeys (c.getD at_.toNat ⟨[], 0, 0⟩).keys = false then false
    else if ((c.getD at_.toNat ⟨[], 0, 0⟩).keys.all fun x => decide (low ≤ x ∧ x ≤ (c.getD at_.toNat ⟨[], 0, 0⟩).high - 1)) = false then false
    else if n = 0 then (if (c.getD at_.toNat ⟨[], 0, 0⟩).right = -1 then if (c.getD at_.toNat ⟨[], 0, 0⟩).high = 100 then decide (c.length ≤ 16) else false else false)
    else if 0 ≤ (c.getD at_.toNat ⟨[], 0, 0⟩).right ∧ (c.getD at_.toNat ⟨[], 0, 0⟩).right ≤ (c.length : Int) - 1 then vcSpec c (seen ++ [at_]) (c.getD at_.toNat ⟨[], 0, 0⟩).right (c.getD at_.toNat ⟨[], 0, 0⟩).high n
    else false
/-- what the program's ValidChain says -/
def vcImpl (c : List Lk) (bs : List Bool) (at_ low : Int) : Nat → Bool
  | 0 => false
  | n + 1 =>
    if at_ < 0 then false
    else if at_ ≥ (c.length : Int) then false
    else if bs.getD at_.toNat false = true then false
    else if (c.getD at_.toNat ⟨[], 0, 0⟩).high < low then false
    else if 4 < (c.getD at_.toNat ⟨[], 0, 0⟩).keys.length then false
    else if vKeys (c.getD at_.toNat ⟨[], 0, 0⟩).keys = false then false
    else if ((c.getD at_.toNat ⟨[], 0, 0⟩).keys.all fun x => decide (low ≤ x ∧ x < (c.getD at_.toNat ⟨[], 0, 0⟩).high)) = false then false
    else if n = 0 then (if (c.getD at_.toNat ⟨[], 0, 0⟩).right = -1 then decide ((c.getD at_.toNat ⟨[], 0, 0⟩).high = 100) else false)
    else vcImpl c (bs.set at_.toNat true) (c.getD at_.toNat ⟨[], 0, 0⟩).right (c.getD at_.toNat ⟨[], 0, 0⟩).high n
def vChain (c : List Lk) : Bool := vcSpec c [] 0 0 c.length

theorem vcImpl_high (c : List Lk) (n : Nat) : ∀ (bs : List Bool) (at_ low : Int), 100 < low → vcImpl c bs at_ low n = false := by
  induction n with
  | zero => intro bs at_ low _; rfl
  | succ n ih =>
    intro bs at_ low h
    unfold vcImpl
    repeat' split
    all_goals first | rfl | (exact decide_eq_false (by omega)) | (exact ih _ _ _ (by omega))

theorem vcSpec_long (c : List Lk) (hc : 16 < c.length) (n : Nat) : ∀ (seen : List Int) (at_ low : Int), vcSpec c seen at_ low n = false := by
  induction n with
  | zero => intro seen at_ low; rfl
  | succ n ih =>
    intro seen at_ low
    unfold vcSpec
    repeat' split
    all_goals first | rfl | (exact decide_eq_false (by omega)) | (exact ih _ _ _)

theorem vc_same (c : List Lk) (hc : c.length ≤ 16) (n : Nat) : ∀ (seen : List Int) (bs : List Bool) (at_ low : Int), bs.length = 16 → (∀ j : Nat, j < 16 → bs.getD j false = seen.contains (j : Int)) → 0 ≤ at_ → at_ < c.length →
    vcSpec c seen at_ low n = vcImpl c bs at_ low n := by
  induction n with
  | zero => intros; rfl
  | succ n ih =>
    intro seen bs at_ low hb hs h0 h1
    unfold vcSpec vcImpl
    have e1 : bs.getD at_.toNat false = seen.contains at_ := by
      have := hs at_.toNat (by omega)
      rwa [show ((at_.toNat : Nat) : Int) = at_ by omega] at this
    rw [e1, if_neg (show ¬ at_ < 0 by omega), if_neg (show ¬ at_ ≥ (c.length : Int) by omega)]
    have h5 : ((c.getD at_.toNat ⟨[], 0, 0⟩).keys.all fun x => decide (low ≤ x ∧ x ≤ (c.getD at_.toNat ⟨[], 0, 0⟩).high - 1)) = ((c.getD at_.toNat ⟨[], 0, 0⟩).keys.all fun x => decide (low ≤ x ∧ x < (c.getD at_.toNat ⟨[], 0, 0⟩).high)) := by
      congr 1; funext x; exact decide_eq_decide.2 (by omega)
    rw [h5]
    generalize c.getD at_.toNat ⟨[], 0, 0⟩ = l
    by_cases q1 : seen.contains at_ = true
    · rw [if_pos q1, if_pos q1]
    · rw [if_neg q1, if_neg q1]
      by_cases c1 : l.high < low
      · rw [if_pos (by omega), if_pos c1]
      · rw [if_neg c1]
        by_cases c2 : 100 < l.high
        · rw [if_pos (by omega), vcImpl_high c n _ _ _ c2]
          repeat' split
          all_goals first | rfl | (exact decide_eq_false (by omega)) | (exact (decide_eq_false (by omega)).symm)
        · rw [if_neg (by omega)]
          split
          · rfl
          · split
            · rfl
            · split
              · rfl
              · split
                · split
                  · split
                    · rename_i e; simp [e, hc]
                    · rename_i e; simp [e]
                  · rfl
                · split
                  · rename_i h6
                    refine ih _ _ _ _ (by simpa using hb) (fun j hj => ?_) h6.1 (by omega)
                    rw [getD_set _ _ _ _ _ (by omega), List.contains_append, ← hs j hj]
                    by_cases c4 : j = at_.toNat
                    · simp [c4]; right; omega
                    · rw [if_neg c4]; simp; omega
                  · rename_i h6
                    cases n with
                    | zero => rfl
                    | succ n =>
                      unfold vcImpl
                      by_cases c4 : l.right < 0
                      · rw [if_pos c4]
                      · rw [if_neg c4, if_pos (by omega)]

theorem vChain_eq (c : List Lk) : vChain c = (if c.length < 1 ∨ 16 < c.length then false else vcImpl c (List.replicate 16 false) 0 0 c.length) := by
  unfold vChain
  split
  · rename_i h
    rcases h with h | h
    · have : c.length = 0 := by omega
      rw [this]; rfl
    · exact vcSpec_long c h _ _ _ _
  · rename_i h
    refine vc_same c (by omega) _ _ _ _ _ (by simp) (fun j hj => ?_) (by omega) (by omega)
    rw [List.getD_eq_getElem?_getD, List.getElem?_replicate, if_pos hj]; rfl
end Go.VL
