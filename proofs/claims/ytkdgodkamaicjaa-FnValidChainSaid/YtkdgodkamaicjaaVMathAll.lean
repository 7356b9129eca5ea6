/- plain facts about lists -/
import Derived.Test.YtkdgodkamaicjaaVTyC
namespace Go.VL
set_option linter.unusedVariables false
set_option linter.unusedSimpArgs false
theorem contains_take {xs : List Int} {n : Int} {k : Nat} (hk : (xs.take k).contains n = false) (h : k < xs.length) (hne : xs.getD k 0 ≠ n) : (xs.take (k + 1)).contains n = false := by
  rw [List.take_add_one, List.contains_eq_any_beq, List.any_append] at *
  simp [h] at *
  exact ⟨hk, fun e => hne e.symm⟩
theorem all_succ {α : Type} {p : α → Bool} {xs : List α} {k : Nat} (d : α) (hk : (xs.take k).all p = true) (h : k < xs.length) (hp : p (xs.getD k d) = true) : (xs.take (k + 1)).all p = true := by
  rw [List.take_add_one, List.all_append, hk]
  simp [h] at *
  exact hp
theorem all_done {α : Type} {p : α → Bool} {xs : List α} {k : Nat} (hk : (xs.take k).all p = true) (h : ¬ k < xs.length) : xs.all p = true := by
  rwa [List.take_of_length_le (by omega)] at hk
theorem all_not {α : Type} {p : α → Bool} {xs : List α} {k : Nat} (d : α) (h : k < xs.length) (hp : p (xs.getD k d) = false) : xs.all p = false := by
  cases hq : xs.all p with
  | false => rfl
  | true =>
    rw [List.all_eq_true] at hq
    have := hq (xs.getD k d) (by simp [h])
    rw [hp] at this; cases this
abbrev Asc (xs : List Int) : Prop := xs.Pairwise (· < ·)
theorem asc_getD {xs : List Int} (h : Asc xs) {i j : Nat} (hij : i < j) (hj : j < xs.length) : xs.getD i 0 < xs.getD j 0 := by
  have := List.pairwise_iff_getElem.1 h i j (by omega) hj hij
  simpa [hj, show i < xs.length by omega] using this
theorem asc_of {xs : List Int} (h : ∀ i, i + 1 < xs.length → xs.getD i 0 < xs.getD (i + 1) 0) : Asc xs := by
  refine List.pairwise_iff_getElem.2 fun i j hi hj hij => ?_
  have key : ∀ d, i + d + 1 < xs.length → xs.getD i 0 < xs.getD (i + d + 1) 0 := by
    intro d
    induction d with
    | zero => exact h i
    | succ d ih => intro hd; exact Int.lt_trans (ih (by omega)) (h (i + d + 1) (by omega))
  have := key (j - i - 1) (by omega)
  rw [show i + (j - i - 1) + 1 = j by omega] at this
  simpa [hi, hj] using this
theorem asc_succ {xs : List Int} {k : Nat} (hk : Asc (xs.take k)) (h : k < xs.length) (hp : 0 < k → xs.getD (k - 1) 0 < xs.getD k 0) : Asc (xs.take (k + 1)) := by
  refine asc_of fun i hi => ?_
  simp only [List.length_take] at hi
  rw [getD_take _ _ _ _ (by omega), getD_take _ _ _ _ (by omega)]
  by_cases c : i + 1 < k
  · have := asc_getD hk (i := i) (j := i + 1) (by omega) (by simp; omega)
    rwa [getD_take _ _ _ _ (by omega), getD_take _ _ _ _ (by omega)] at this
  · have := hp (by omega)
    rwa [show k - 1 = i by omega, show k = i + 1 by omega] at this
/-- the keys are keys, in order -/
def vKeys (xs : List Int) : Bool := decide (Asc xs) && xs.all (fun x => decide (0 ≤ x ∧ x ≤ 99))
end Go.VL
namespace Go.VL
set_option linter.unusedVariables false
set_option linter.unusedSimpArgs false
/-- what the reference's validChain says -/
def vcSpec (c : List Lk) (seen : List Int) (at_ low : Int) : Nat → Bool
  | 0 => false
  | n + 1 =>
    if seen.contains at_ = true then false
    else if ¬ (low ≤ (c.getD at_.toNat ⟨[], 0, 0⟩).high ∧ (c.getD at_.toNat ⟨[], 0, 0⟩).high ≤ 100) then false
    else if 4 < (c.getD at_.toNat ⟨[], 0, 0⟩).keys.length then false
    else if vKeys (c.getD at_.toNat ⟨[], 0, 0⟩).keys = false then false
    else if ((c.getD at_.toNat ⟨[], 0, 0⟩).keys.all fun x => decide (low ≤ x ∧ x ≤ (c.getD at_.toNat ⟨[], 0, 0⟩).high - 1)) = false then false
    else if n = 0 then (if (c.getD at_.toNat ⟨[], 0, 0⟩).right = -1 then if (c.getD at_.toNat ⟨[], 0, 0⟩).high = 100 then decide (c.length ≤ 16) else false else false)
    else if 0 ≤ (c.getD at_.toNat ⟨[], 0, 0⟩).right ∧ (c.getD at_.toNat ⟨[], 0, 0⟩).right ≤ (c.length : Int) - 1 then vcSpec c (seen ++ [at_]) (c.getD at_.toNat ⟨[], 0, 0⟩).right (c.getD at_.toNat ⟨[], 0, 0⟩).high n
    else false
/-- what the program's ValidChain says -/
def vcImpl (c : List Lk) (bs : List Bool) (at_ low : Int) : Nat → Bool
  | 0 => false
  | n + 1 =>
    if at_ < 0 then false
    else if at_ ≥ (c.length : Int) then false
    else if bs.getD at_.toNat false = true then false
    else if (c.getD at_.toNat ⟨[], 0, 0⟩).high < low then false
    else if 4 < (c.getD at_.toNat ⟨[], 0, 0⟩).keys.length then false
    else if vKeys (c.getD at_.toNat ⟨[], 0, 0⟩).keys = false then false
    else if ((c.getD at_.toNat ⟨[], 0, 0⟩).keys.all fun x => decide (low ≤ x ∧ x < (c.getD at_.toNat ⟨[], 0, 0⟩).high)) = false then false
    else if n = 0 then (if (c.getD at_.toNat ⟨[], 0, 0⟩).right = -1 then decide ((c.getD at_.toNat ⟨[], 0, 0⟩).high = 100) else false)
    else vcImpl c (bs.set at_.toNat true) (c.getD at_.toNat ⟨[], 0, 0⟩).right (c.getD at_.toNat ⟨[], 0, 0⟩).high n
def vChain (c : List Lk) : Bool := vcSpec c [] 0 0 c.length

theorem vcImpl_high (c : List Lk) (n : Nat) : ∀ (bs : List Bool) (at_ low : Int), 100 < low → vcImpl c bs at_ low n = false := by
  induction n with
  | zero => intro bs at_ low _; rfl
  | succ n ih =>
    intro bs at_ low h
    unfold vcImpl
    repeat' split
    all_goals first | rfl | (exact decide_eq_false (by omega)) | (exact ih _ _ _ (by omega))

theorem vcSpec_long (c : List Lk) (hc : 16 < c.length) (n : Nat) : ∀ (seen : List Int) (at_ low : Int), vcSpec c seen at_ low n = false := by
  induction n with
  | zero => intro seen at_ low; rfl
  | succ n ih =>
    intro seen at_ low
    unfold vcSpec
    repeat' split
    all_goals first | rfl | (exact decide_eq_false (by omega)) | (exact ih _ _ _)

theorem vc_same (c : List Lk) (hc : c.length ≤ 16) (n : Nat) : ∀ (seen : List Int) (bs : List Bool) (at_ low : Int), bs.length = 16 → (∀ j : Nat, j < 16 → bs.getD j false = seen.contains (j : Int)) → 0 ≤ at_ → at_ < c.length →
    vcSpec c seen at_ low n = vcImpl c bs at_ low n := by
  induction n with
  | zero => intros; rfl
  | succ n ih =>
    intro seen bs at_ low hb hs h0 h1
    unfold vcSpec vcImpl
    have e1 : bs.getD at_.toNat false = seen.contains at_ := by
      have := hs at_.toNat (by omega)
      rwa [show ((at_.toNat : Nat) : Int) = at_ by omega] at this
    rw [e1, if_neg (show ¬ at_ < 0 by omega), if_neg (show ¬ at_ ≥ (c.length : Int) by omega)]
    have h5 : ((c.getD at_.toNat ⟨[], 0, 0⟩).keys.all fun x => decide (low ≤ x ∧ x ≤ (c.getD at_.toNat ⟨[], 0, 0⟩).high - 1)) = ((c.getD at_.toNat ⟨[], 0, 0⟩).keys.all fun x => decide (low ≤ x ∧ x < (c.getD at_.toNat ⟨[], 0, 0⟩).high)) := by
      congr 1; funext x; exact decide_eq_decide.2 (by omega)
    rw [h5]
    generalize c.getD at_.toNat ⟨[], 0, 0⟩ = l
    by_cases q1 : seen.contains at_ = true
    · rw [if_pos q1, if_pos q1]
    · rw [if_neg q1, if_neg q1]
      by_cases c1 : l.high < low
      · rw [if_pos (by omega), if_pos c1]
      · rw [if_neg c1]
        by_cases c2 : 100 < l.high
        · rw [if_pos (by omega), vcImpl_high c n _ _ _ c2]
          repeat' split
          all_goals first | rfl | (exact decide_eq_false (by omega)) | (exact (decide_eq_false (by omega)).symm)
        · rw [if_neg (by omega)]
          split
          · rfl
          · split
            · rfl
            · split
              · rfl
              · split
                · split
                  · split
                    · rename_i e; simp [e, hc]
                    · rename_i e; simp [e]
                  · rfl
                · split
                  · rename_i h6
                    refine ih _ _ _ _ (by simpa using hb) (fun j hj => ?_) h6.1 (by omega)
                    rw [getD_set _ _ _ _ _ (by omega), List.contains_append, ← hs j hj]
                    by_cases c4 : j = at_.toNat
                    · simp [c4]; right; omega
                    · rw [if_neg c4]; simp; omega
                  · rename_i h6
                    cases n with
                    | zero => rfl
                    | succ n =>
                      unfold vcImpl
                      by_cases c4 : l.right < 0
                      · rw [if_pos c4]
                      · rw [if_neg c4, if_pos (by omega)]

theorem vChain_eq (c : List Lk) : vChain c = (if c.length < 1 ∨ 16 < c.length then false else vcImpl c (List.replicate 16 false) 0 0 c.length) := by
  unfold vChain
  split
  · rename_i h
    rcases h with h | h
    · have : c.length = 0 := by omega
      rw [this]; rfl
    · exact vcSpec_long c h _ _ _ _
  · rename_i h
    refine vc_same c (by omega) _ _ _ _ _ (by simp) (fun j hj => ?_) (by omega) (by omega)
    rw [List.getD_eq_getElem?_getD, List.getElem?_replicate, if_pos hj]; rfl
end Go.VL
namespace Go.VL
set_option linter.unusedVariables false
set_option linter.unusedSimpArgs false
theorem drop_getD {α : Type} (d : α) {xs : List α} {i : Nat} (h : i < xs.length) : xs.drop i = xs.getD i d :: xs.drop (i + 1) := by
  rw [List.drop_eq_getElem_cons h]; simp [h]
theorem take_getD {α : Type} (d : α) {xs : List α} {i : Nat} (h : i < xs.length) : xs.take (i + 1) = xs.take i ++ [xs.getD i d] := by
  rw [List.take_add_one]; simp [h]
def szI (n : Nat) (k : Int) : Int := if k - n < 0 then -1 else k - n
theorem szI_neg {n : Nat} {k : Int} (h : szI n k < 0) : szI n k = -1 := by unfold szI at *; split <;> first | rfl | (rw [if_neg (by assumption)] at h; contradiction)
theorem szI_hi {n : Nat} {k m : Int} (h : k ≤ m) (hm : 0 ≤ m) : szI n k ≤ m := by unfold szI; split <;> omega
theorem szI_lo {n : Nat} {k : Int} (h : ¬ szI n k < 0) : (n : Int) ≤ k := by unfold szI at h; split at h <;> omega
theorem szI_le {n : Nat} {k : Int} (h : 0 ≤ k) : szI n k ≤ k := by unfold szI; split <;> omega
def szL : List Lk → Int → Int
  | [], k => k
  | l :: t, k => if szI l.keys.length k < 0 then -1 else szL t (szI l.keys.length k)
def szLS (c : List Lk) (k : Int) : Int := if k - c.length < 0 then -1 else szL c (k - c.length)
theorem szL_keys {c : List Lk} : ∀ {k : Int}, ¬ szL c k < 0 → ∀ l ∈ c, (l.keys.length : Int) ≤ k := by
  induction c with
  | nil => intro k _ l hl; cases hl
  | cons a t ih =>
    intro k h l hl
    unfold szL at h
    split at h
    · omega
    · rename_i h1
      have h2 := szI_lo h1
      cases hl with
      | head => exact h2
      | tail _ hl =>
        have := ih h l hl
        have := szI_le (n := a.keys.length) (k := k) (by omega)
        omega
theorem szLS_b {c : List Lk} {k : Int} (h : ¬ szLS c k < 0) (hk : k ≤ 1048576) : c.length ≤ 1048576 ∧ ∀ l ∈ c, l.keys.length ≤ 1048576 := by
  unfold szLS at h
  split at h
  · omega
  · refine ⟨by omega, fun l hl => ?_⟩
    have := szL_keys h l hl
    omega
theorem set_fill {α : Type} (d z : α) {xs : List α} {k : Nat} (h : k < xs.length) : (xs.take k ++ List.replicate (xs.length - k) z).set k (xs.getD k d) = xs.take (k + 1) ++ List.replicate (xs.length - (k + 1)) z := by
  rw [take_getD d h, List.set_append_right _ _ (by simp; omega), List.append_assoc]
  congr 1
  rw [show xs.length - k = (xs.length - (k + 1)) + 1 by omega, List.replicate_succ, show k - (xs.take k).length = 0 by simp; omega]
  rfl
theorem fill_done {α : Type} (z : α) {xs : List α} {k : Nat} (h : ¬ k < xs.length) : xs.take k ++ List.replicate (xs.length - k) z = xs := by
  rw [List.take_of_length_le (by omega), show xs.length - k = 0 by omega]; simp
end Go.VL
namespace Go.VL
set_option linter.unusedVariables false
set_option linter.unusedSimpArgs false
theorem pig (n : Nat) : ∀ (q : List Int), q.Nodup → (∀ x ∈ q, 0 ≤ x ∧ x < (n : Int)) → q.length ≤ n := by
  induction n with
  | zero =>
    intro q _ h
    cases q with
    | nil => simp
    | cons a t => have := h a (by simp); omega
  | succ n ih =>
    intro q nd h
    have h1 := ih (q.erase (n : Int)) (nd.erase _) (fun x hx => by
      have h2 := (nd.mem_erase_iff).1 hx
      have := h x h2.2
      have := h2.1
      omega)
    have := List.length_erase (a := (n : Int)) (l := q)
    split at this <;> omega

abbrev lk0 : Lk := ⟨[], 0, 0⟩
abbrev atL (c : List Lk) (i : Int) : Lk := c.getD i.toNat ⟨[], 0, 0⟩

theorem vc_path (c : List Lk) (n : Nat) : ∀ (seen : List Int) (at_ low : Int), 0 ≤ at_ → at_ < c.length → vcSpec c seen at_ low (n + 1) = true →
    ∃ q : List Int, q.length = n + 1 ∧ q.getD 0 0 = at_ ∧ q.Nodup ∧ (∀ x ∈ q, 0 ≤ x ∧ x < (c.length : Int) ∧ ¬ x ∈ seen) ∧
      (∀ i, i < n → (atL c (q.getD i 0)).right = q.getD (i + 1) 0) ∧ (atL c (q.getD n 0)).high = 100 := by
  induction n with
  | zero =>
    intro seen at_ low h0 h1 h
    unfold vcSpec at h
    refine ⟨[at_], rfl, rfl, by simp, fun x hx => ?_, fun i hi => by omega, ?_⟩
    · cases List.mem_singleton.1 hx
      refine ⟨h0, h1, fun hm => ?_⟩
      rw [if_pos (List.contains_iff_mem.2 hm)] at h; cases h
    · repeat' split at h
      all_goals first | assumption | (cases h) | contradiction | omega
  | succ n ih =>
    intro seen at_ low h0 h1 h
    unfold vcSpec at h
    repeat' split at h
    all_goals first | (cases h; done) | skip
    all_goals try omega
    rename_i g1 g2 g3 g4 g5 g6 g7
    obtain ⟨q, ql, q0, qn, qm, qr, qh⟩ := ih _ _ _ g7.1 (by omega) h
    refine ⟨at_ :: q, by simp [ql], rfl, List.nodup_cons.2 ⟨fun hm => (qm _ hm).2.2 (by simp), qn⟩, fun x hx => ?_, fun i hi => ?_, by simpa using qh⟩
    · rcases List.mem_cons.1 hx with rfl | hx
      · exact ⟨h0, h1, fun hm => g1 (List.contains_iff_mem.2 hm)⟩
      · have := qm _ hx
        exact ⟨this.1, this.2.1, fun hm => this.2.2 (by simp [hm])⟩
    · cases i with
      | zero => simpa using q0.symm
      | succ i => simpa using qr i (by omega)

/-- the way through the links of a chain: q tells the places in the order in which they come -/
structure Path (c : List Lk) (q : List Int) : Prop where
  len : q.length = c.length
  one : 0 < c.length
  rng : ∀ i, i < c.length → 0 ≤ q.getD i 0 ∧ q.getD i 0 < (c.length : Int)
  first : q.getD 0 0 = 0
  next : ∀ i, i + 1 < c.length → (atL c (q.getD i 0)).right = q.getD (i + 1) 0
  last : (atL c (q.getD (c.length - 1) 0)).high = 100
  all : ∀ j : Int, 0 ≤ j → j < c.length → ∃ i, i < c.length ∧ q.getD i 0 = j
  inj : ∀ s t, s < c.length → t < c.length → q.getD s 0 = q.getD t 0 → s = t

theorem path_of (c : List Lk) (h : vChain c = true) : ∃ q, Path c q := by
  unfold vChain at h
  cases hl : c.length with
  | zero => rw [hl] at h; cases h
  | succ n =>
    rw [hl] at h
    obtain ⟨q, ql, q0, qn, qm, qr, qh⟩ := vc_path c n [] 0 0 (by omega) (by omega) h
    have hm : ∀ i, i < c.length → q.getD i 0 ∈ q := fun i hi => by
      have : i < q.length := by omega
      simp [List.getD, this]
    refine ⟨q, by omega, by omega, fun i hi => ⟨(qm _ (hm i hi)).1, (qm _ (hm i hi)).2.1⟩, q0, fun i hi => qr i (by omega), by rw [hl]; exact qh, fun j h0 h1 => ?_, fun s t h1 h2 he => ?_⟩
    rotate_left
    · have e1 : q.getD s 0 = q[s]'(by omega) := by simp [List.getD, show s < q.length by omega]
      have e2 : q.getD t 0 = q[t]'(by omega) := by simp [List.getD, show t < q.length by omega]
      rw [e1, e2] at he
      have pw := List.pairwise_iff_getElem.1 qn
      rcases Nat.lt_trichotomy s t with h | h | h
      · exact absurd he (pw s t (by omega) (by omega) h)
      · exact h
      · exact absurd he.symm (pw t s (by omega) (by omega) h)
    by_cases hj : j ∈ q
    · obtain ⟨i, hi, rfl⟩ := List.getElem_of_mem hj
      exact ⟨i, by omega, by simp [List.getD, hi]⟩
    · have := pig c.length (j :: q) (List.nodup_cons.2 ⟨hj, qn⟩) (fun x hx => by
        rcases List.mem_cons.1 hx with rfl | hx
        · exact ⟨h0, h1⟩
        · exact ⟨(qm x hx).1, (qm x hx).2.1⟩)
      simp at this
      omega

/-- where moveRight stops -/
def mvR (c : List Lk) (n : Int) : Nat → Int → Int
  | 0, at_ => at_
  | f + 1, at_ => if (c.getD at_.toNat ⟨[], 0, 0⟩).high ≤ n then mvR c n f (c.getD at_.toNat ⟨[], 0, 0⟩).right else at_

theorem Path.mv {c : List Lk} {q : List Int} (p : Path c q) {n : Int} (hn : n ≤ 99) {i : Nat} (hi : i < c.length) (h : (c.getD (q.getD i 0).toNat ⟨[], 0, 0⟩).high ≤ n) : i + 1 < c.length ∧ (c.getD (q.getD i 0).toNat ⟨[], 0, 0⟩).right = q.getD (i + 1) 0 := by
  by_cases hl : i + 1 < c.length
  · exact ⟨hl, p.next i hl⟩
  · have : i = c.length - 1 := by omega
    have h2 := p.last
    rw [← this] at h2
    have h2 : (c.getD (q.getD i 0).toNat ⟨[], 0, 0⟩).high = 100 := h2
    omega

theorem mvR_rng {c : List Lk} {q : List Int} (p : Path c q) {n : Int} (hn : n ≤ 99) (f : Nat) : ∀ i, i < c.length → c.length - i ≤ f → 0 ≤ mvR c n f (q.getD i 0) ∧ mvR c n f (q.getD i 0) < c.length ∧ n < (c.getD (mvR c n f (q.getD i 0)).toNat ⟨[], 0, 0⟩).high := by
  induction f with
  | zero => intro i hi hf; omega
  | succ f ih =>
    intro i hi hf
    unfold mvR
    split
    · rename_i h
      obtain ⟨h1, h2⟩ := p.mv hn hi h
      rw [h2]
      exact ih _ h1 (by omega)
    · rename_i h
      exact ⟨(p.rng i hi).1, (p.rng i hi).2, by omega⟩
end Go.VL
namespace Go.VL
set_option linter.unusedVariables false
set_option linter.unusedSimpArgs false
def mixF (code : List Int) (p : Int) : Int :=
  code.getD (p.tmod code.length).toNat 0 * 131 + code.getD ((p * 7 + 3).tmod code.length).toNat 0 * 1117 + p * 29 + p.tdiv code.length * 53
def pickF (code : List Int) (p n : Int) : Int :=
  if n < 1 then 0 else if (code.length : Int) = 0 then 0 else if p < code.length then (code.getD p.toNat 0).tmod n
  else (vbit .xor .i64 (mixF code p) ((mixF code p).tdiv 64)).tmod n
/-- what the reader holds -/
structure CodeOk (code : List Int) : Prop where
  len : code.length ≤ 2000
  byte : ∀ i, 0 ≤ code.getD i 0 ∧ code.getD i 0 ≤ 255
theorem xor_pos {a b : Int} (h0 : 0 ≤ a) (h1 : a < 9223372036854775808) (h2 : 0 ≤ b) (h3 : b < 9223372036854775808) : 0 ≤ vbit .xor .i64 a b ∧ vbit .xor .i64 a b < 9223372036854775808 := by
  obtain ⟨a, rfl⟩ := Int.eq_ofNat_of_zero_le h0
  obtain ⟨b, rfl⟩ := Int.eq_ofNat_of_zero_le h2
  have ha : a < 2 ^ 63 := by omega
  have hb : b < 2 ^ 63 := by omega
  have hx := Nat.xor_lt_two_pow ha hb
  have e : (BitVec.ofInt 64 (a : Int) ^^^ BitVec.ofInt 64 (b : Int)).toNat = a ^^^ b := by
    rw [BitVec.toNat_xor, BitVec.toNat_ofInt, BitVec.toNat_ofInt]
    congr 1 <;> omega
  have e2 : vbit .xor .i64 (a : Int) (b : Int) = IntKind.i64.wrap ((a ^^^ b : Nat) : Int) := by
    show IntKind.i64.wrap ((BitVec.ofInt 64 (a : Int) ^^^ BitVec.ofInt 64 (b : Int)).toNat : Int) = _
    rw [e]
  rw [e2, IntKind.wrap_i64]
  omega
theorem mixF_b {code : List Int} (h : CodeOk code) {p : Int} (h0 : 0 ≤ p) (h1 : p ≤ 1099511627776) : 0 ≤ mixF code p ∧ mixF code p < 9223372036854775808 := by
  have a := h.byte (p.tmod code.length).toNat
  have b := h.byte ((p * 7 + 3).tmod code.length).toNat
  have c : 0 ≤ p.tdiv code.length := Int.tdiv_nonneg h0 (Int.natCast_nonneg _)
  have d : p.tdiv code.length ≤ p := Int.tdiv_le_self _ h0
  unfold mixF
  omega
theorem pickF_b {code : List Int} (h : CodeOk code) {p n : Int} (h0 : 0 ≤ p) (h1 : p ≤ 1099511627776) : 0 ≤ pickF code p n ∧ (1 ≤ n → pickF code p n < n) := by
  unfold pickF
  have hm := mixF_b h h0 h1
  have hd : 0 ≤ (mixF code p).tdiv 64 ∧ (mixF code p).tdiv 64 < 9223372036854775808 := ⟨Int.tdiv_nonneg hm.1 (by decide), by have := Int.tdiv_le_self 64 hm.1; omega⟩
  have hx := xor_pos hm.1 hm.2 hd.1 hd.2
  split
  · exact ⟨Int.le_refl _, fun _ => by omega⟩
  · split
    · exact ⟨Int.le_refl _, fun _ => by omega⟩
    · split
      · exact ⟨Int.tmod_nonneg _ (h.byte _).1, fun hn => Int.tmod_lt_of_pos _ (by omega)⟩
      · exact ⟨Int.tmod_nonneg _ hx.1, fun hn => Int.tmod_lt_of_pos _ (by omega)⟩
/-- how many keys at the front are below n -/
def belF (xs : List Int) (n : Int) : Nat := (xs.takeWhile fun x => decide (x < n)).length
theorem belF_le (xs : List Int) (n : Int) : belF xs n ≤ xs.length := (List.takeWhile_sublist _).length_le
theorem belF_eq (n : Int) : ∀ (xs : List Int) (k : Nat), (xs.take k).all (fun x => decide (x < n)) = true → k ≤ xs.length → (k < xs.length → ¬ xs.getD k 0 < n) → k = belF xs n := by
  intro xs
  induction xs with
  | nil => intro k _ h _; simp at h; simp [belF, h]
  | cons a t ih =>
    intro k h1 h2 h3
    cases k with
    | zero =>
      have := h3 (by simp)
      simp at this
      simp [belF, List.takeWhile_cons, this]
    | succ k =>
      simp only [List.take_succ_cons, List.all_cons, Bool.and_eq_true, decide_eq_true_eq] at h1
      have := ih k h1.2 (by simpa using h2) (fun h => by simpa using h3 (by simpa using h))
      simp only [belF, List.takeWhile_cons] at *
      rw [if_pos (by simpa using h1.1)]
      simp; omega
theorem set_snoc {α : Type} (d z : α) {xs : List α} {k : Nat} (h : k < xs.length) : (xs.take k ++ [z]).set k (xs.getD k d) = xs.take (k + 1) := by
  rw [take_getD d h, List.set_append_right _ _ (by simp; omega)]
  congr 1
  rw [show k - (xs.take k).length = 0 by simp; omega]
  rfl
theorem set_snoc1 {α : Type} (d z : α) {xs : List α} {k : Nat} (h : k < xs.length) : (xs.take k ++ List.replicate 1 z).set ((xs.take k).length + 0) (xs.getD k d) = xs.take (k + 1) := by
  rw [show (xs.take k).length + 0 = k by simp; omega]; exact set_snoc d z h
end Go.VL
namespace Go.VL
set_option linter.unusedVariables false
set_option linter.unusedSimpArgs false
/-- the chain c with link i split at h -/
def splF (c : List Lk) (i h : Nat) : List Lk :=
  c.set i ⟨(c.getD i ⟨[], 0, 0⟩).keys.take h, (c.getD i ⟨[], 0, 0⟩).keys.getD h 0, c.length⟩ ++ [⟨(c.getD i ⟨[], 0, 0⟩).keys.drop h, (c.getD i ⟨[], 0, 0⟩).high, (c.getD i ⟨[], 0, 0⟩).right⟩]
theorem splF_len (c : List Lk) (i h : Nat) : (splF c i h).length = c.length + 1 := by simp [splF]
theorem getD_app {α : Type} (d : α) (a b : List α) (i : Nat) : (a ++ b).getD i d = if i < a.length then a.getD i d else b.getD (i - a.length) d := by
  simp only [List.getD_eq_getElem?_getD, List.getElem?_append]
  split <;> rfl
theorem splF_get (c : List Lk) (i h j : Nat) (hi : i < c.length) : (splF c i h).getD j ⟨[], 0, 0⟩ =
    if j = i then ⟨(c.getD i ⟨[], 0, 0⟩).keys.take h, (c.getD i ⟨[], 0, 0⟩).keys.getD h 0, c.length⟩
    else if j = c.length then ⟨(c.getD i ⟨[], 0, 0⟩).keys.drop h, (c.getD i ⟨[], 0, 0⟩).high, (c.getD i ⟨[], 0, 0⟩).right⟩ else c.getD j ⟨[], 0, 0⟩ := by
  unfold splF
  rw [getD_app, List.length_set]
  split
  · rename_i h1
    rw [getD_set _ _ _ _ _ (by omega)]
    split
    · rfl
    · rw [if_neg (by omega)]
  · rename_i h1
    rw [if_neg (by omega)]
    by_cases h2 : j = c.length
    · rw [if_pos h2, show j - c.length = 0 by omega]; rfl
    · rw [if_neg h2]
      have e1 : c[j]? = none := List.getElem?_eq_none (by omega)
      have e2 : ([⟨(c.getD i ⟨[], 0, 0⟩).keys.drop h, (c.getD i ⟨[], 0, 0⟩).high, (c.getD i ⟨[], 0, 0⟩).right⟩] : List Lk)[j - c.length]? = none := List.getElem?_eq_none (by simp; omega)
      simp only [List.getD_eq_getElem?_getD] at e2 ⊢
      rw [e1, e2]
/-- the way after the split: position s in the old way is link i -/
theorem split_path {c : List Lk} {q : List Int} (p : Path c q) (s i h : Nat) (hs : s < c.length) (hi : q.getD s 0 = (i : Int)) :
    Path (splF c i h) (q.take (s + 1) ++ [(c.length : Int)] ++ q.drop (s + 1)) := by
  have hu : ∀ t, t < c.length → q.getD t 0 = (i : Int) → t = s := fun t ht h => p.inj t s ht hs (by rw [h, hi])
  have hil : i < c.length := by have := p.rng s hs; omega
  have hql := p.len
  have get : ∀ t, (q.take (s + 1) ++ [(c.length : Int)] ++ q.drop (s + 1)).getD t 0 = if t < s + 1 then q.getD t 0 else if t = s + 1 then (c.length : Int) else q.getD (t - 1) 0 := by
    intro t
    rw [List.append_assoc, getD_app, show (q.take (s + 1)).length = s + 1 by simp; omega]
    split
    · rename_i h1
      simp [List.getD, List.getElem?_take, h1]
    · rename_i h1
      rw [getD_app]
      by_cases h2 : t = s + 1
      · rw [if_pos (by simp; omega), if_pos h2, show t - (s + 1) = 0 by omega]; rfl
      · rw [if_neg (by simp; omega), if_neg h2]
        simp only [List.getD, List.getElem?_drop, List.length_singleton]
        congr 2
        omega
  have rget : ∀ x : Int, 0 ≤ x → x < c.length → x ≠ i → atL (splF c i h) x = atL c x := by
    intro x h0 h1 h2
    unfold atL
    rw [splF_get c i h _ hil, if_neg (by omega), if_neg (by omega)]
  have iget : atL (splF c i h) i = ⟨(c.getD i ⟨[], 0, 0⟩).keys.take h, (c.getD i ⟨[], 0, 0⟩).keys.getD h 0, c.length⟩ := by
    unfold atL
    rw [Int.toNat_natCast, splF_get c i h _ hil, if_pos rfl]
  have nget : atL (splF c i h) (c.length : Int) = ⟨(c.getD i ⟨[], 0, 0⟩).keys.drop h, (c.getD i ⟨[], 0, 0⟩).high, (c.getD i ⟨[], 0, 0⟩).right⟩ := by
    unfold atL
    rw [Int.toNat_natCast, splF_get c i h _ hil, if_neg (by omega), if_pos rfl]
  have ii : atL c (q.getD s 0) = c.getD i ⟨[], 0, 0⟩ := by unfold atL; rw [hi, Int.toNat_natCast]
  have hone := p.one
  refine ⟨?_, ?_, ?_, ?_, ?_, ?_, ?_, ?_⟩
  · rw [splF_len]; simp; omega
  · rw [splF_len]; omega
  · intro t ht
    rw [splF_len] at *
    rw [get t]
    split
    · have := p.rng t (by omega); omega
    · split
      · omega
      · have := p.rng (t - 1) (by omega); omega
  · rw [get 0, if_pos (by omega)]; exact p.first
  · intro t ht
    rw [splF_len] at ht
    rw [get t, get (t + 1)]
    by_cases h1 : t < s
    · rw [if_pos (by omega), if_pos (by omega), rget _ (p.rng t (by omega)).1 (p.rng t (by omega)).2 (fun h => by have := hu t (by omega) h; omega)]
      exact p.next t (by omega)
    · by_cases h2 : t = s
      · subst h2
        rw [if_pos (by omega), if_neg (by omega), if_pos rfl, hi, iget]
      · by_cases h3 : t = s + 1
        · subst h3
          rw [if_neg (by omega), if_pos rfl, if_neg (by omega), if_neg (by omega), nget]
          have := p.next s (by omega)
          rw [ii] at this
          rw [show s + 1 + 1 - 1 = s + 1 by omega]
          exact this
        · rw [if_neg (by omega), if_neg h3, if_neg (by omega), if_neg (by omega), rget _ (p.rng (t - 1) (by omega)).1 (p.rng (t - 1) (by omega)).2 (fun h => by have := hu (t - 1) (by omega) h; omega)]
          have := p.next (t - 1) (by omega)
          rw [show t - 1 + 1 = t by omega] at this
          exact this
  · rw [splF_len, get, show c.length + 1 - 1 = c.length by omega]
    have hl := p.last
    rw [if_neg (by omega)]
    by_cases h1 : c.length = s + 1
    · rw [if_pos h1, nget]
      rw [show c.length - 1 = s by omega, ii] at hl
      exact hl
    · rw [if_neg h1, rget _ (p.rng (c.length - 1) (by omega)).1 (p.rng (c.length - 1) (by omega)).2 (fun h => by have := hu (c.length - 1) (by omega) h; omega)]
      exact hl
  · intro j h0 h1
    rw [splF_len] at *
    by_cases h2 : j = c.length
    · exact ⟨s + 1, by omega, by rw [get, if_neg (by omega), if_pos rfl, h2]⟩
    · obtain ⟨t, ht, hq⟩ := p.all j h0 (by omega)
      by_cases h3 : t < s + 1
      · exact ⟨t, by omega, by rw [get, if_pos h3, hq]⟩
      · exact ⟨t + 1, by omega, by rw [get, if_neg (by omega), if_neg (by omega), show t + 1 - 1 = t by omega, hq]⟩
  · intro t u ht hu2 he
    rw [splF_len] at ht hu2
    rw [get, get] at he
    have pt := p.rng
    by_cases a1 : t < s + 1
    · rw [if_pos a1] at he
      by_cases b1 : u < s + 1
      · rw [if_pos b1] at he; exact p.inj _ _ (by omega) (by omega) he
      · rw [if_neg b1] at he
        have r1 := pt t (by omega)
        by_cases b2 : u = s + 1
        · rw [if_pos b2] at he; omega
        · rw [if_neg b2] at he
          have := p.inj _ _ (by omega) (by omega) he
          omega
    · rw [if_neg a1] at he
      by_cases a2 : t = s + 1
      · rw [if_pos a2] at he
        by_cases b1 : u < s + 1
        · rw [if_pos b1] at he
          have := pt u (by omega); omega
        · rw [if_neg b1] at he
          by_cases b2 : u = s + 1
          · omega
          · rw [if_neg b2] at he
            have := pt (u - 1) (by omega); omega
      · rw [if_neg a2] at he
        by_cases b1 : u < s + 1
        · rw [if_pos b1] at he
          have := p.inj _ _ (by omega) (by omega) he
          omega
        · rw [if_neg b1] at he
          by_cases b2 : u = s + 1
          · rw [if_pos b2] at he
            have := pt (t - 1) (by omega); omega
          · rw [if_neg b2] at he
            have := p.inj _ _ (by omega) (by omega) he
            omega
end Go.VL
