/- the way through a chain -/
import Derived.Test.YtkdgodkamaicjaaVMath3
namespace Go.VL
set_option linter.unusedVariables false
set_option linter.unusedSimpArgs false
theorem pig (n : Nat) : ∀ (q : List Int), q.Nodup → (∀ x ∈ q, 0 ≤ x ∧ x < (n : Int)) → q.length ≤ n := by
  induction n with
  | zero =>
    intro q _ h
    cases q with
    | nil => simp
    | cons a t => have := h a (by simp); omega
  | succ n ih =>
    intro q nd h
    have h1 := ih (q.erase (n : Int)) (nd.erase _) (fun x hx => by
      have h2 := (nd.mem_erase_iff).1 hx
      have := h x h2.2
      have := h2.1
      omega)
    have := List.length_erase (a := (n : Int)) (l := q)
    split at this <;> omega

abbrev lk0 : Lk := ⟨[], 0, 0⟩
abbrev atL (c : List Lk) (i : Int) : Lk := c.getD i.toNat ⟨[], 0, 0⟩

theorem vc_path (c : List Lk) (n : Nat) : ∀ (seen : List Int) (at_ low : Int), 0 ≤ at_ → at_ < c.length → vcSpec c seen at_ low (n + 1) = true →
    ∃ q : List Int, q.length = n + 1 ∧ q.getD 0 0 = at_ ∧ q.Nodup ∧ (∀ x ∈ q, 0 ≤ x ∧ x < (c.length : Int) ∧ ¬ x ∈ seen) ∧
      (∀ i, i < n → (atL c (q.getD i 0)).right = q.getD (i + 1) 0) ∧ (atL c (q.getD n 0)).high = 100 := by
  induction n with
  | zero =>
    intro seen at_ low h0 h1 h
    unfold vcSpec at h
    refine ⟨[at_], rfl, rfl, by simp, fun x hx => ?_, fun i hi => by omega, ?_⟩
    · cases List.mem_singleton.1 hx
      refine ⟨h0, h1, fun hm => ?_⟩
      rw [if_pos (List.contains_iff_mem.2 hm)] at h; cases h
    · repeat' split at h
      all_goals first | assumption | (cases h) | contradiction | omega
  | succ n ih =>
    intro seen at_ low h0 h1 h
    unfold vcSpec at h
    repeat' split at h
    all_goals first | (cases h; done) | skip
    all_goals try omega
    rename_i g1 g2 g3 g4 g5 g6 g7
    obtain ⟨q, ql, q0, qn, qm, qr, qh⟩ := ih _ _ _ g7.1 (by omega) h
    refine ⟨at_ :: q, by simp [ql], rfl, List.nodup_cons.2 ⟨fun hm => (qm _ hm).2.2 (by simp), qn⟩, fun x hx => ?_, fun i hi => ?_, by simpa using qh⟩
    · rcases List.mem_cons.1 hx with rfl | hx
      · exact ⟨h0, h1, fun hm => g1 (List.contains_iff_mem.2 hm)⟩
      · have := qm _ hx
        exact ⟨this.1, this.2.1, fun hm => this.2.2 (by simp [hm])⟩
    · cases i with
      | zero => simpa using q0.symm
      | succ i => simpa using qr i (by omega)

/-- the way through the links of a chain: q tells the places in the order in which they come -/
structure Path (c : List Lk) (q : List Int) : Prop where
  len : q.length = c.length
  one : 0 < c.length
  rng : ∀ i, i < c.length → 0 ≤ q.getD i 0 ∧ q.getD i 0 < (c.length : Int)
  first : q.getD 0 0 = 0
  next : ∀ i, i + 1 < c.length → (atL c (q.getD i 0)).right = q.getD (i + 1) 0
  last : (atL c (q.getD (c.length - 1) 0)).high = 100
  all : ∀ j : Int, 0 ≤ j → j < c.length → ∃ i, i < c.length ∧ q.getD i 0 = j
  inj : ∀ s t, s < c.length → t < c.length → q.getD s 0 = q.getD t 0 → s = t

theorem path_of (c : List Lk) (h : vChain c = true) : ∃ q, Path c q := by
  unfold vChain at h
  cases hl : c.length with
  | zero => rw [hl] at h; cases h
  | succ n =>
    rw [hl] at h
    obtain ⟨q, ql, q0, qn, qm, qr, qh⟩ := vc_path c n [] 0 0 (by omega) (by omega) h
    have hm : ∀ i, i < c.length → q.getD i 0 ∈ q := fun i hi => by
      have : i < q.length := by omega
      simp [List.getD, this]
    refine ⟨q, by omega, by omega, fun i hi => ⟨(qm _ (hm i hi)).1, (qm _ (hm i hi)).2.1⟩, q0, fun i hi => qr i (by omega), by rw [hl]; exact qh, fun j h0 h1 => ?_, fun s t h1 h2 he => ?_⟩
    rotate_left
    · have e1 : q.getD s 0 = q[s]'(by omega) := by simp [List.getD, show s < q.length by omega]
      have e2 : q.getD t 0 = q[t]'(by omega) := by simp [List.getD, show t < q.length by omega]
      rw [e1, e2] at he
      have pw := List.pairwise_iff_getElem.1 qn
      rcases Nat.lt_trichotomy s t with h | h | h
      · exact absurd he (pw s t (by omega) (by omega) h)
      · exact h
      · exact absurd he.symm (pw t s (by omega) (by omega) h)
    by_cases hj : j ∈ q
    · obtain ⟨i, hi, rfl⟩ := List.getElem_of_mem hj
      exact ⟨i, by omega, by simp [List.getD, hi]⟩
    · have := pig c.length (j :: q) (List.nodup_cons.2 ⟨hj, qn⟩) (fun x hx => by
        rcases List.mem_cons.1 hx with rfl | hx
        · exact ⟨h0, h1⟩
        · exact ⟨(qm x hx).1, (qm x hx).2.1⟩)
      simp at this
      omega

/-- where moveRight stops -/
def mvR (c : List Lk) (n : Int) : Nat → Int → Int
  | 0, at_ => at_
  | f + 1, at_ => if (c.getD at_.toNat ⟨[], 0, 0⟩).high ≤ n then mvR c n f (c.getD at_.toNat ⟨[], 0, 0⟩).right else at_

theorem Path.mv {c : List Lk} {q : List Int} (p : Path c q) {n : Int} (hn : n ≤ 99) {i : Nat} (hi : i < c.length) (h : (c.getD (q.getD i 0).toNat ⟨[], 0, 0⟩).high ≤ n) : i + 1 < c.length ∧ (c.getD (q.getD i 0).toNat ⟨[], 0, 0⟩).right = q.getD (i + 1) 0 := by
  by_cases hl : i + 1 < c.length
  · exact ⟨hl, p.next i hl⟩
  · have : i = c.length - 1 := by omega
    have h2 := p.last
    rw [← this] at h2
    have h2 : (c.getD (q.getD i 0).toNat ⟨[], 0, 0⟩).high = 100 := h2
    omega

theorem mvR_rng {c : List Lk} {q : List Int} (p : Path c q) {n : Int} (hn : n ≤ 99) (f : Nat) : ∀ i, i < c.length → c.length - i ≤ f → 0 ≤ mvR c n f (q.getD i 0) ∧ mvR c n f (q.getD i 0) < c.length ∧ n < (c.getD (mvR c n f (q.getD i 0)).toNat ⟨[], 0, 0⟩).high := by
  induction f with
  | zero => intro i hi hf; omega
  | succ f ih =>
    intro i hi hf
    unfold mvR
    split
    · rename_i h
      obtain ⟨h1, h2⟩ := p.mv hn hi h
      rw [h2]
      exact ih _ h1 (by omega)
    · rename_i h
      exact ⟨(p.rng i hi).1, (p.rng i hi).2, by omega⟩
end Go.VL
