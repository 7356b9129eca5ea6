import Derived.Test.YtkdgodkamaicjaaVChO
namespace Go.VL
open Go.Proofs
set_option maxRecDepth 10000
set_option linter.unusedSimpArgs false
set_option linter.unusedVariables false
theorem setK_len (c : List Lk) (i : Nat) (ks : List Int) : (setK c i ks).length = c.length := by simp [setK]
theorem setK_keys {c : List Lk} {m : Nat} (hk : ∀ l ∈ c, l.keys.length ≤ m) {i : Nat} {ks : List Int} (hs : ks.length ≤ m + 1) : ∀ l ∈ setK c i ks, l.keys.length ≤ m + 1 := by
  intro l hl
  unfold setK at hl
  rcases List.mem_or_eq_of_mem_set hl with hl | hl
  · have := hk l hl; omega
  · rw [hl]; exact hs
theorem insK_len (xs : List Int) (n : Int) : (insK xs n).length ≤ xs.length + 1 := by
  unfold insK
  split
  · have := belF_le xs n
    simp only [List.length_append, List.length_take, List.length_drop, List.length_cons, List.length_nil]; omega
  · exact Nat.zero_le _
theorem putF_b {c c' : List Lk} {n : Int} (h : putF c n = some c') {m : Nat} (hk : ∀ l ∈ c, l.keys.length ≤ m) : c.length ≤ c'.length ∧ c'.length ≤ c.length + 1 ∧ ∀ l ∈ c', l.keys.length ≤ m + 1 := by
  have up : ∀ {c : List Lk} (hk : ∀ l ∈ c, l.keys.length ≤ m) (i : Nat), ∀ l ∈ setK c i (insK (c.getD i ⟨[], 0, 0⟩).keys n), l.keys.length ≤ m + 1 := fun {c} hk i => setK_keys hk (by have := insK_len (c.getD i ⟨[], 0, 0⟩).keys n; have := keys_le hk i; omega)
  unfold putF at h
  split at h
  · split at h
    · cases h; exact ⟨Nat.le_refl _, Nat.le_succ _, fun l hl => Nat.le_succ_of_le (hk l hl)⟩
    · split at h
      · split at h
        · cases h
          refine ⟨?_, ?_, up (splF_keys hk) _⟩
          · rw [setK_len, splF_len]; omega
          · rw [setK_len, splF_len]; exact Nat.le_refl _
        · cases h
      · cases h
        exact ⟨by rw [setK_len]; exact Nat.le_refl _, by rw [setK_len]; exact Nat.le_succ _, up hk _⟩
  · cases h
/-- one turn of anyChain's loop -/
def stepC (code : List Int) (c : List Lk) (p : Int) : List Lk × Int :=
  if pickF code (p + 1) 6 = 0 then
    (if splOk ((putF c (pickF code p 100)).getD c) (pickF code (p + 1 + 1) ((putF c (pickF code p 100)).getD c).length) = true then
      splF ((putF c (pickF code p 100)).getD c) (pickF code (p + 1 + 1) ((putF c (pickF code p 100)).getD c).length).toNat (splH ((putF c (pickF code p 100)).getD c) (pickF code (p + 1 + 1) ((putF c (pickF code p 100)).getD c).length)).toNat
      else (putF c (pickF code p 100)).getD c, p + 1 + 1 + 1)
  else ((putF c (pickF code p 100)).getD c, p + 1 + 1)
def loopC (code : List Int) : Nat → List Lk → Int → List Lk × Int
  | 0, c, p => (c, p)
  | n + 1, c, p => loopC code n (stepC code c p).1 (stepC code c p).2
def finC (code : List Int) (c : List Lk) (p : Int) : List Lk :=
  if pickF code (p + 1) 24 = 0 then c.set (pickF code p c.length).toNat ⟨(c.getD (pickF code p c.length).toNat ⟨[], 0, 0⟩).keys, [-1, 50, 101].getD (pickF code (p + 1 + 1) 3).toNat 0, (c.getD (pickF code p c.length).toNat ⟨[], 0, 0⟩).right⟩
  else if pickF code (p + 1) 24 = 1 then c.set (pickF code p c.length).toNat ⟨(c.getD (pickF code p c.length).toNat ⟨[], 0, 0⟩).keys, (c.getD (pickF code p c.length).toNat ⟨[], 0, 0⟩).high, [-1, pickF code p c.length, 16].getD (pickF code (p + 1 + 1) 3).toNat 0⟩
  else if pickF code (p + 1) 24 = 2 then setK c (pickF code p c.length).toNat (spoY code (p + 1 + 1) ((c.getD (pickF code p c.length).toNat ⟨[], 0, 0⟩).keys ++ [50]) 100)
  else c
def finP (code : List Int) (c : List Lk) (p : Int) : Int :=
  if pickF code (p + 1) 24 = 0 then p + 1 + 1 + 1 else if pickF code (p + 1) 24 = 1 then p + 1 + 1 + 1
  else if pickF code (p + 1) 24 = 2 then spoP code (p + 1 + 1) ((c.getD (pickF code p c.length).toNat ⟨[], 0, 0⟩).keys ++ [50])
  else p + 1 + 1
structure AcI (code : List Int) (V : List Lk × Int) (c : List Lk) (p : Int) (n : Nat) : Prop where
  l1 : 1 ≤ c.length
  l2 : c.length + 2 * n ≤ 82
  n40 : n ≤ 40
  k : ∀ l ∈ c, l.keys.length ≤ 40 - n
  p0 : 0 ≤ p
  p1 : p + 3 * n ≤ 200
  v : loopC code n c p = V
theorem AcI.cB {code : List Int} {V : List Lk × Int} {c : List Lk} {p : Int} {n : Nat} (h : AcI code V c p n) : cB c := ⟨by have := h.l2; omega, fun l hl => by have := h.k l hl; omega⟩
def c0C : List Lk := [⟨[], 100, -1⟩]
def n0C (code : List Int) : Nat := ([8, 14, 4, 24, 0, 40].getD (pickF code 0 6).toNat 0 : Int).toNat
def anyC (code : List Int) : List Lk := finC code (loopC code (n0C code) c0C 1).1 (loopC code (n0C code) c0C 1).2
def anyP (code : List Int) : Int := finP code (loopC code (n0C code) c0C 1).1 (loopC code (n0C code) c0C 1).2
theorem AcI.put {code : List Int} {V : List Lk × Int} {c : List Lk} {p : Int} {m : Nat} (h : AcI code V c p (m + 1)) (n : Int) : c.length ≤ ((putF c n).getD c).length ∧ ((putF c n).getD c).length ≤ c.length + 1 ∧ ∀ l ∈ (putF c n).getD c, l.keys.length ≤ 40 - m := by
  have hn := h.n40
  have hk := h.k
  cases hp : putF c n with
  | none =>
    exact ⟨Nat.le_refl _, Nat.le_succ _, fun l hl => by have := hk l hl; omega⟩
  | some c1 =>
    obtain ⟨h1, h2, h3⟩ := putF_b hp hk
    exact ⟨h1, h2, fun l hl => by have := h3 l hl; omega⟩
theorem AcI.next {code : List Int} {V : List Lk × Int} {c : List Lk} {p : Int} {m : Nat} (h : AcI code V c p (m + 1)) : AcI code V (stepC code c p).1 (stepC code c p).2 m := by
  obtain ⟨h1, h2, h3⟩ := h.put (pickF code p 100)
  have a1 := h.l1
  have a2 := h.l2
  have a3 := h.n40
  have a4 := h.p0
  have a5 := h.p1
  have key : 1 ≤ (stepC code c p).1.length ∧ (stepC code c p).1.length ≤ c.length + 2 ∧ (∀ l ∈ (stepC code c p).1, l.keys.length ≤ 40 - m) ∧ 0 ≤ (stepC code c p).2 ∧ (stepC code c p).2 ≤ p + 3 := by
    unfold stepC
    split
    · split
      · refine ⟨?_, ?_, splF_keys h3, ?_, ?_⟩ <;> dsimp only <;> first | (rw [splF_len]; omega) | omega
      · exact ⟨by dsimp only; omega, by dsimp only; omega, h3, by dsimp only; omega, by dsimp only; omega⟩
    · exact ⟨by dsimp only; omega, by dsimp only; omega, h3, by dsimp only; omega, by dsimp only; omega⟩
  obtain ⟨k1, k2, k3, k4, k5⟩ := key
  exact ⟨k1, by omega, by omega, k3, k4, by omega, h.v⟩
end Go.VL
