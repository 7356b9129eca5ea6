/- plain facts about lists -/
import Derived.Test.YtkdgodkamaicjaaVTyC
namespace Go.VL
set_option linter.unusedVariables false
set_option linter.unusedSimpArgs false
theorem contains_take {xs : List Int} {n : Int} {k : Nat} (hk : (xs.take k).contains n = false) (h : k < xs.length) (hne : xs.getD k 0 ≠ n) : (xs.take (k + 1)).contains n = false := by
  rw [List.take_add_one, List.contains_eq_any_beq, List.any_append] at *
  simp [h] at *
  exact ⟨hk, fun e => hne e.symm⟩
theorem all_succ {α : Type} {p : α → Bool} {xs : List α} {k : Nat} (d : α) (hk : (xs.take k).all p = true) (h : k < xs.length) (hp : p (xs.getD k d) = true) : (xs.take (k + 1)).all p = true := by
  rw [List.take_add_one, List.all_append, hk]
  simp [h] at *
  exact hp
theorem all_done {α : Type} {p : α → Bool} {xs : List α} {k : Nat} (hk : (xs.take k).all p = true) (h : ¬ k < xs.length) : xs.all p = true := by
  rwa [List.take_of_length_le (by omega)] at hk
theorem all_not {α : Type} {p : α → Bool} {xs : List α} {k : Nat} (d : α) (h : k < xs.length) (hp : p (xs.getD k d) = false) : xs.all p = false := by
  cases hq : xs.all p with
  | false => rfl
  | true =>
    rw [List.all_eq_true] at hq
    have := hq (xs.getD k d) (by simp [h])
    rw [hp] at this; cases this
abbrev Asc (xs : List Int) : Prop := xs.Pairwise (· < ·)
theorem asc_getD {xs : List Int} (h : Asc xs) {i j : Nat} (hij : i < j) (hj : j < xs.length) : xs.getD i 0 < xs.getD j 0 := by
  have := List.pairwise_iff_getElem.1 h i j (by omega) hj hij
  simpa [hj, show i < xs.length by omega] using this
theorem asc_of {xs : List Int} (h : ∀ i, i + 1 < xs.length → xs.getD i 0 < xs.getD (i + 1) 0) : Asc xs := by
  refine List.pairwise_iff_getElem.2 fun i j hi hj hij => ?_
  have key : ∀ d, i + d + 1 < xs.length → xs.getD i 0 < xs.getD (i + d + 1) 0 := by
    intro d
    induction d with
    | zero => exact h i
    | succ d ih => intro hd; exact Int.lt_trans (ih (by omega)) (h (i + d + 1) (by omega))
  have := key (j - i - 1) (by omega)
  rw [show i + (j - i - 1) + 1 = j by omega] at this
  simpa [hi, hj] using this
theorem asc_succ {xs : List Int} {k : Nat} (hk : Asc (xs.take k)) (h : k < xs.length) (hp : 0 < k → xs.getD (k - 1) 0 < xs.getD k 0) : Asc (xs.take (k + 1)) := by
  refine asc_of fun i hi => ?_
  simp only [List.length_take] at hi
  rw [getD_take _ _ _ _ (by omega), getD_take _ _ _ _ (by omega)]
  by_cases c : i + 1 < k
  · have := asc_getD hk (i := i) (j := i + 1) (by omega) (by simp; omega)
    rwa [getD_take _ _ _ _ (by omega), getD_take _ _ _ _ (by omega)] at this
  · have := hp (by omega)
    rwa [show k - 1 = i by omega, show k = i + 1 by omega] at this
/-- the keys are keys, in order -/
def vKeys (xs : List Int) : Bool := decide (Asc xs) && xs.all (fun x => decide (0 ≤ x ∧ x ≤ 99))
end Go.VL
