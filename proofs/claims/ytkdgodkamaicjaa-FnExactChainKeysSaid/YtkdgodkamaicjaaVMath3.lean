/- sizes and copies -/
import Derived.Test.YtkdgodkamaicjaaVMath2
namespace Go.VL
set_option linter.unusedVariables false
set_option linter.unusedSimpArgs false
theorem drop_getD {α : Type} (d : α) {xs : List α} {i : Nat} (h : i < xs.length) : xs.drop i = xs.getD i d :: xs.drop (i + 1) := by
  rw [List.drop_eq_getElem_cons h]; simp [h]
theorem take_getD {α : Type} (d : α) {xs : List α} {i : Nat} (h : i < xs.length) : xs.take (i + 1) = xs.take i ++ [xs.getD i d] := by
  rw [List.take_add_one]; simp [h]
def szI (n : Nat) (k : Int) : Int := if k - n < 0 then -1 else k - n
theorem szI_neg {n : Nat} {k : Int} (h : szI n k < 0) : szI n k = -1 := by unfold szI at *; split <;> first | rfl | (rw [if_neg (by assumption)] at h; contradiction)
theorem szI_hi {n : Nat} {k m : Int} (h : k ≤ m) (hm : 0 ≤ m) : szI n k ≤ m := by unfold szI; split <;> omega
theorem szI_lo {n : Nat} {k : Int} (h : ¬ szI n k < 0) : (n : Int) ≤ k := by unfold szI at h; split at h <;> omega
theorem szI_le {n : Nat} {k : Int} (h : 0 ≤ k) : szI n k ≤ k := by unfold szI; split <;> omega
def szL : List Lk → Int → Int
  | [], k => k
  | l :: t, k => if szI l.keys.length k < 0 then -1 else szL t (szI l.keys.length k)
def szLS (c : List Lk) (k : Int) : Int := if k - c.length < 0 then -1 else szL c (k - c.length)
theorem szL_keys {c : List Lk} : ∀ {k : Int}, ¬ szL c k < 0 → ∀ l ∈ c, (l.keys.length : Int) ≤ k := by
  induction c with
  | nil => intro k _ l hl; cases hl
  | cons a t ih =>
    intro k h l hl
    unfold szL at h
    split at h
    · omega
    · rename_i h1
      have h2 := szI_lo h1
      cases hl with
      | head => exact h2
      | tail _ hl =>
        have := ih h l hl
        have := szI_le (n := a.keys.length) (k := k) (by omega)
        omega
theorem szLS_b {c : List Lk} {k : Int} (h : ¬ szLS c k < 0) (hk : k ≤ 1048576) : c.length ≤ 1048576 ∧ ∀ l ∈ c, l.keys.length ≤ 1048576 := by
  unfold szLS at h
  split at h
  · omega
  · refine ⟨by omega, fun l hl => ?_⟩
    have := szL_keys h l hl
    omega
theorem set_fill {α : Type} (d z : α) {xs : List α} {k : Nat} (h : k < xs.length) : (xs.take k ++ List.replicate (xs.length - k) z).set k (xs.getD k d) = xs.take (k + 1) ++ List.replicate (xs.length - (k + 1)) z := by
  rw [take_getD d h, List.set_append_right _ _ (by simp; omega), List.append_assoc]
  congr 1
  rw [show xs.length - k = (xs.length - (k + 1)) + 1 by omega, List.replicate_succ, show k - (xs.take k).length = 0 by simp; omega]
  rfl
theorem fill_done {α : Type} (z : α) {xs : List α} {k : Nat} (h : ¬ k < xs.length) : xs.take k ++ List.replicate (xs.length - k) z = xs := by
  rw [List.take_of_length_le (by omega), show xs.length - k = 0 by omega]; simp
end Go.VL
