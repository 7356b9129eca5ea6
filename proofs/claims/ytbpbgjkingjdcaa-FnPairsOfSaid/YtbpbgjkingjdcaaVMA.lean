/- V-logic: Math1 Math2 Math3 Math4 Math5 Math6 TMath1 TMath2 TV PT1 PT2 -/
import Derived.Test.YtbpbgjkingjdcaaVEA
namespace Go.VL
set_option linter.unusedVariables false
set_option linter.unusedSimpArgs false
theorem contains_take {xs : List Int} {n : Int} {k : Nat} (hk : (xs.take k).contains n = false) (h : k < xs.length) (hne : xs.getD k 0 ≠ n) : (xs.take (k + 1)).contains n = false := by
 rw [List.take_add_one, List.contains_eq_any_beq, List.any_append] at *
 simp [h] at *
 exact ⟨hk, fun e => hne e.symm⟩
theorem all_succ {α : Type} {p : α → Bool} {xs : List α} {k : Nat} (d : α) (hk : (xs.take k).all p = true) (h : k < xs.length) (hp : p (xs.getD k d) = true) : (xs.take (k + 1)).all p = true := by
 rw [List.take_add_one, List.all_append, hk]
 simp [h] at *
 exact hp
theorem all_done {α : Type} {p : α → Bool} {xs : List α} {k : Nat} (hk : (xs.take k).all p = true) (h : ¬ k < xs.length) : xs.all p = true := by
 rwa [List.take_of_length_le (by omega)] at hk
theorem all_not {α : Type} {p : α → Bool} {xs : List α} {k : Nat} (d : α) (h : k < xs.length) (hp : p (xs.getD k d) = false) : xs.all p = false := by
 cases hq : xs.all p with
 |false => rfl
 |true =>
  rw [List.all_eq_true] at hq
  have := hq (xs.getD k d) (by simp [h])
  rw [hp] at this; cases this
abbrev Asc (xs : List Int) : Prop := xs.Pairwise (· < ·)
theorem asc_getD {xs : List Int} (h : Asc xs) {i j : Nat} (hij : i < j) (hj : j < xs.length) : xs.getD i 0 < xs.getD j 0 := by
 have := List.pairwise_iff_getElem.1 h i j (by omega) hj hij
 simpa [hj, show i < xs.length by omega] using this
theorem asc_of {xs : List Int} (h : ∀ i, i + 1 < xs.length → xs.getD i 0 < xs.getD (i + 1) 0) : Asc xs := by
 refine List.pairwise_iff_getElem.2 fun i j hi hj hij => ?_
 have key : ∀ d, i + d + 1 < xs.length → xs.getD i 0 < xs.getD (i + d + 1) 0 := by
  intro d
  induction d with
  |zero => exact h i
  |succ d ih => intro hd; exact Int.lt_trans (ih (by omega)) (h (i + d + 1) (by omega))
 have := key (j - i - 1) (by omega)
 rw [show i + (j - i - 1) + 1 = j by omega] at this
 simpa [hi, hj] using this
theorem asc_succ {xs : List Int} {k : Nat} (hk : Asc (xs.take k)) (h : k < xs.length) (hp : 0 < k → xs.getD (k - 1) 0 < xs.getD k 0) : Asc (xs.take (k + 1)) := by
 refine asc_of fun i hi => ?_
 simp only [List.length_take] at hi
 rw [getD_take _ _ _ _ (by omega), getD_take _ _ _ _ (by omega)]
 by_cases c : i + 1 < k
 ·have := asc_getD hk (i := i) (j := i + 1) (by omega) (by simp; omega)
  rwa [getD_take _ _ _ _ (by omega), getD_take _ _ _ _ (by omega)] at this
 ·have := hp (by omega)
  rwa [show k - 1 = i by omega, show k = i + 1 by omega] at this
def vKeys (xs : List Int) : Bool := decide (Asc xs) && xs.all (fun x => decide (0 ≤ x ∧ x ≤ 99))
end Go.VL
namespace Go.VL
set_option linter.unusedVariables false
set_option linter.unusedSimpArgs false
def vcSpec (c : List Lk) (seen : List Int) (at_ low : Int) : Nat → Bool
 |0 => false
 |n + 1 =>
  if seen.contains at_ = true then false
  else if ¬ (low ≤ (c.getD at_.toNat ⟨[], 0, 0⟩).high ∧ (c.getD at_.toNat ⟨[], 0, 0⟩).high ≤ 100) then false
  else if 4 < (c.getD at_.toNat ⟨[], 0, 0⟩).keys.length then false
  else if vKeys (c.getD at_.toNat ⟨[], 0, 0⟩).keys = false then false
  else if ((c.getD at_.toNat ⟨[], 0, 0⟩).keys.all fun x => decide (low ≤ x ∧ x ≤ (c.getD at_.toNat ⟨[], 0, 0⟩).high - 1)) = false then false
  else if n = 0 then (if (c.getD at_.toNat ⟨[], 0, 0⟩).right = -1 then if (c.getD at_.toNat ⟨[], 0, 0⟩).high = 100 then decide (c.length ≤ 16) else false else false)
  else if 0 ≤ (c.getD at_.toNat ⟨[], 0, 0⟩).right ∧ (c.getD at_.toNat ⟨[], 0, 0⟩).right ≤ (c.length : Int) - 1 then vcSpec c (seen ++ [at_]) (c.getD at_.toNat ⟨[], 0, 0⟩).right (c.getD at_.toNat ⟨[], 0, 0⟩).high n
  else false
def vcImpl (c : List Lk) (bs : List Bool) (at_ low : Int) : Nat → Bool
 |0 => false
 |n + 1 =>
  if at_ < 0 then false
  else if at_ ≥ (c.length : Int) then false
  else if bs.getD at_.toNat false = true then false
  else if (c.getD at_.toNat ⟨[], 0, 0⟩).high < low then false
  else if 4 < (c.getD at_.toNat ⟨[], 0, 0⟩).keys.length then false
  else if vKeys (c.getD at_.toNat ⟨[], 0, 0⟩).keys = false then false
  else if ((c.getD at_.toNat ⟨[], 0, 0⟩).keys.all fun x => decide (low ≤ x ∧ x < (c.getD at_.toNat ⟨[], 0, 0⟩).high)) = false then false
  else if n = 0 then (if (c.getD at_.toNat ⟨[], 0, 0⟩).right = -1 then decide ((c.getD at_.toNat ⟨[], 0, 0⟩).high = 100) else false)
  else vcImpl c (bs.set at_.toNat true) (c.getD at_.toNat ⟨[], 0, 0⟩).right (c.getD at_.toNat ⟨[], 0, 0⟩).high n
def vChain (c : List Lk) : Bool := vcSpec c [] 0 0 c.length
theorem vcImpl_high (c : List Lk) (n : Nat) : ∀ (bs : List Bool) (at_ low : Int), 100 < low → vcImpl c bs at_ low n = false := by
 induction n with
 |zero => intro bs at_ low _; rfl
 |succ n ih =>
  intro bs at_ low h
  unfold vcImpl
  repeat' split
  all_goals first | rfl | (exact decide_eq_false (by omega)) | (exact ih _ _ _ (by omega))
theorem vcSpec_long (c : List Lk) (hc : 16 < c.length) (n : Nat) : ∀ (seen : List Int) (at_ low : Int), vcSpec c seen at_ low n = false := by
 induction n with
 |zero => intro seen at_ low; rfl
 |succ n ih =>
  intro seen at_ low
  unfold vcSpec
  repeat' split
  all_goals first | rfl | (exact decide_eq_false (by omega)) | (exact ih _ _ _)
theorem vc_same (c : List Lk) (hc : c.length ≤ 16) (n : Nat) : ∀ (seen : List Int) (bs : List Bool) (at_ low : Int), bs.length = 16 → (∀ j : Nat, j < 16 → bs.getD j false = seen.contains (j : Int)) → 0 ≤ at_ → at_ < c.length →
  vcSpec c seen at_ low n = vcImpl c bs at_ low n := by
 induction n with
 |zero => intros; rfl
 |succ n ih =>
  intro seen bs at_ low hb hs h0 h1
  unfold vcSpec vcImpl
  have e1 : bs.getD at_.toNat false = seen.contains at_ := by
   have := hs at_.toNat (by omega)
   rwa [show ((at_.toNat : Nat) : Int) = at_ by omega] at this
  rw [e1, if_neg (show ¬ at_ < 0 by omega), if_neg (show ¬ at_ ≥ (c.length : Int) by omega)]
  have h5 : ((c.getD at_.toNat ⟨[], 0, 0⟩).keys.all fun x => decide (low ≤ x ∧ x ≤ (c.getD at_.toNat ⟨[], 0, 0⟩).high - 1)) = ((c.getD at_.toNat ⟨[], 0, 0⟩).keys.all fun x => decide (low ≤ x ∧ x < (c.getD at_.toNat ⟨[], 0, 0⟩).high)) := by
   congr 1; funext x; exact decide_eq_decide.2 (by omega)
  rw [h5]
  generalize c.getD at_.toNat ⟨[], 0, 0⟩ = l
  by_cases q1 : seen.contains at_ = true
  ·rw [if_pos q1, if_pos q1]
  ·rw [if_neg q1, if_neg q1]
   by_cases c1 : l.high < low
   ·rw [if_pos (by omega), if_pos c1]
   ·rw [if_neg c1]
    by_cases c2 : 100 < l.high
    ·rw [if_pos (by omega), vcImpl_high c n _ _ _ c2]
     repeat' split
     all_goals first | rfl | (exact decide_eq_false (by omega)) | (exact (decide_eq_false (by omega)).symm)
    ·rw [if_neg (by omega)]
     split
     ·rfl
     ·split
      ·rfl
      ·split
       ·rfl
       ·split
        ·split
         ·split
          ·rename_i e; simp [e, hc]
          ·rename_i e; simp [e]
         ·rfl
        ·split
         ·rename_i h6
          refine ih _ _ _ _ (by simpa using hb) (fun j hj => ?_) h6.1 (by omega)
          rw [getD_set _ _ _ _ _ (by omega), List.contains_append, ← hs j hj]
          by_cases c4 : j = at_.toNat
          ·simp [c4]; right; omega
          ·rw [if_neg c4]; simp; omega
         ·rename_i h6
          cases n with
          |zero => rfl
          |succ n =>
           unfold vcImpl
           by_cases c4 : l.right < 0
           ·rw [if_pos c4]
           ·rw [if_neg c4, if_pos (by omega)]
theorem vChain_eq (c : List Lk) : vChain c = (if c.length < 1 ∨ 16 < c.length then false else vcImpl c (List.replicate 16 false) 0 0 c.length) := by
 unfold vChain
 split
 ·rename_i h
  rcases h with h | h
  ·have : c.length = 0 := by omega
   rw [this]; rfl
  ·exact vcSpec_long c h _ _ _ _
 ·rename_i h
  refine vc_same c (by omega) _ _ _ _ _ (by simp) (fun j hj => ?_) (by omega) (by omega)
  rw [List.getD_eq_getElem?_getD, List.getElem?_replicate, if_pos hj]; rfl
end Go.VL
namespace Go.VL
set_option linter.unusedVariables false
set_option linter.unusedSimpArgs false
def szI (n : Nat) (k : Int) : Int := if k - n < 0 then -1 else k - n
theorem szI_neg {n : Nat} {k : Int} (h : szI n k < 0) : szI n k = -1 := by unfold szI at *; split <;> first | rfl | (rw [if_neg (by assumption)] at h; contradiction)
theorem szI_hi {n : Nat} {k m : Int} (h : k ≤ m) (hm : 0 ≤ m) : szI n k ≤ m := by unfold szI; split <;> omega
theorem szI_lo {n : Nat} {k : Int} (h : ¬ szI n k < 0) : (n : Int) ≤ k := by unfold szI at h; split at h <;> omega
theorem szI_le {n : Nat} {k : Int} (h : 0 ≤ k) : szI n k ≤ k := by unfold szI; split <;> omega
def szL : List Lk → Int → Int
 |[], k => k
 |l :: t, k => if szI l.keys.length k < 0 then -1 else szL t (szI l.keys.length k)
def szLS (c : List Lk) (k : Int) : Int := if k - c.length < 0 then -1 else szL c (k - c.length)
theorem szL_keys {c : List Lk} : ∀ {k : Int}, ¬ szL c k < 0 → ∀ l ∈ c, (l.keys.length : Int) ≤ k := by
 induction c with
 |nil => intro k _ l hl; cases hl
 |cons a t ih =>
  intro k h l hl
  unfold szL at h
  split at h
  ·omega
  ·rename_i h1
   have h2 := szI_lo h1
   cases hl with
   |head => exact h2
   |tail _ hl =>
    have := ih h l hl
    have := szI_le (n := a.keys.length) (k := k) (by omega)
    omega
theorem szLS_b {c : List Lk} {k : Int} (h : ¬ szLS c k < 0) (hk : k ≤ 1048576) : c.length ≤ 1048576 ∧ ∀ l ∈ c, l.keys.length ≤ 1048576 := by
 unfold szLS at h
 split at h
 ·omega
 ·refine ⟨by omega, fun l hl => ?_⟩
  have := szL_keys h l hl
  omega
theorem set_fill {α : Type} (d z : α) {xs : List α} {k : Nat} (h : k < xs.length) : (xs.take k ++ List.replicate (xs.length - k) z).set k (xs.getD k d) = xs.take (k + 1) ++ List.replicate (xs.length - (k + 1)) z := by
 rw [take_getD d h, List.set_append_right _ _ (by simp; omega), List.append_assoc]
 congr 1
 rw [show xs.length - k = (xs.length - (k + 1)) + 1 by omega, List.replicate_succ, show k - (xs.take k).length = 0 by simp; omega]
 rfl
theorem fill_done {α : Type} (z : α) {xs : List α} {k : Nat} (h : ¬ k < xs.length) : xs.take k ++ List.replicate (xs.length - k) z = xs := by
 rw [List.take_of_length_le (by omega), show xs.length - k = 0 by omega]; simp
end Go.VL
namespace Go.VL
set_option linter.unusedVariables false
set_option linter.unusedSimpArgs false
theorem pig (n : Nat) : ∀ (q : List Int), q.Nodup → (∀ x ∈ q, 0 ≤ x ∧ x < (n : Int)) → q.length ≤ n := by
 induction n with
 |zero =>
  intro q _ h
  cases q with
  |nil => simp
  |cons a t => have := h a (by simp); omega
 |succ n ih =>
  intro q nd h
  have h1 := ih (q.erase (n : Int)) (nd.erase _) (fun x hx => by
   have h2 := (nd.mem_erase_iff).1 hx
   have := h x h2.2
   have := h2.1
   omega)
  have := List.length_erase (a := (n : Int)) (l := q)
  split at this <;> omega
abbrev lk0 : Lk := ⟨[], 0, 0⟩
abbrev atL (c : List Lk) (i : Int) : Lk := c.getD i.toNat ⟨[], 0, 0⟩
theorem vc_path (c : List Lk) (n : Nat) : ∀ (seen : List Int) (at_ low : Int), 0 ≤ at_ → at_ < c.length → vcSpec c seen at_ low (n + 1) = true →
  ∃ q : List Int, q.length = n + 1 ∧ q.getD 0 0 = at_ ∧ q.Nodup ∧ (∀ x ∈ q, 0 ≤ x ∧ x < (c.length : Int) ∧ ¬ x ∈ seen) ∧
   (∀ i, i < n → (atL c (q.getD i 0)).right = q.getD (i + 1) 0) ∧ (atL c (q.getD n 0)).high = 100 := by
 induction n with
 |zero =>
  intro seen at_ low h0 h1 h
  unfold vcSpec at h
  refine ⟨[at_], rfl, rfl, by simp, fun x hx => ?_, fun i hi => by omega, ?_⟩
  ·cases List.mem_singleton.1 hx
   refine ⟨h0, h1, fun hm => ?_⟩
   rw [if_pos (List.contains_iff_mem.2 hm)] at h; cases h
  ·repeat' split at h
   all_goals first | assumption | (cases h) | contradiction | omega
 |succ n ih =>
  intro seen at_ low h0 h1 h
  unfold vcSpec at h
  repeat' split at h
  all_goals first | (cases h; done) | skip
  all_goals try omega
  rename_i g1 g2 g3 g4 g5 g6 g7
  obtain ⟨q, ql, q0, qn, qm, qr, qh⟩ := ih _ _ _ g7.1 (by omega) h
  refine ⟨at_ :: q, by simp [ql], rfl, List.nodup_cons.2 ⟨fun hm => (qm _ hm).2.2 (by simp), qn⟩, fun x hx => ?_, fun i hi => ?_, by simpa using qh⟩
  ·rcases List.mem_cons.1 hx with rfl | hx
   ·exact ⟨h0, h1, fun hm => g1 (List.contains_iff_mem.2 hm)⟩
   ·have := qm _ hx
    exact ⟨this.1, this.2.1, fun hm => this.2.2 (by simp [hm])⟩
  ·cases i with
   |zero => simpa using q0.symm
   |succ i => simpa using qr i (by omega)
structure Path (c : List Lk) (q : List Int) : Prop where
 len : q.length = c.length
 one : 0 < c.length
 rng : ∀ i, i < c.length → 0 ≤ q.getD i 0 ∧ q.getD i 0 < (c.length : Int)
 first : q.getD 0 0 = 0
 next : ∀ i, i + 1 < c.length → (atL c (q.getD i 0)).right = q.getD (i + 1) 0
 last : (atL c (q.getD (c.length - 1) 0)).high = 100
 all : ∀ j : Int, 0 ≤ j → j < c.length → ∃ i, i < c.length ∧ q.getD i 0 = j
 inj : ∀ s t, s < c.length → t < c.length → q.getD s 0 = q.getD t 0 → s = t
theorem path_of (c : List Lk) (h : vChain c = true) : ∃ q, Path c q := by
 unfold vChain at h
 cases hl : c.length with
 |zero => rw [hl] at h; cases h
 |succ n =>
  rw [hl] at h
  obtain ⟨q, ql, q0, qn, qm, qr, qh⟩ := vc_path c n [] 0 0 (by omega) (by omega) h
  have hm : ∀ i, i < c.length → q.getD i 0 ∈ q := fun i hi => by
   have : i < q.length := by omega
   simp [List.getD, this]
  refine ⟨q, by omega, by omega, fun i hi => ⟨(qm _ (hm i hi)).1, (qm _ (hm i hi)).2.1⟩, q0, fun i hi => qr i (by omega), by rw [hl]; exact qh, fun j h0 h1 => ?_, fun s t h1 h2 he => ?_⟩
  rotate_left
  ·have e1 : q.getD s 0 = q[s]'(by omega) := by simp [List.getD, show s < q.length by omega]
   have e2 : q.getD t 0 = q[t]'(by omega) := by simp [List.getD, show t < q.length by omega]
   rw [e1, e2] at he
   have pw := List.pairwise_iff_getElem.1 qn
   rcases Nat.lt_trichotomy s t with h | h | h
   ·exact absurd he (pw s t (by omega) (by omega) h)
   ·exact h
   ·exact absurd he.symm (pw t s (by omega) (by omega) h)
  by_cases hj : j ∈ q
  ·obtain ⟨i, hi, rfl⟩ := List.getElem_of_mem hj
   exact ⟨i, by omega, by simp [List.getD, hi]⟩
  ·have := pig c.length (j :: q) (List.nodup_cons.2 ⟨hj, qn⟩) (fun x hx => by
    rcases List.mem_cons.1 hx with rfl | hx
    ·exact ⟨h0, h1⟩
    ·exact ⟨(qm x hx).1, (qm x hx).2.1⟩)
   simp at this
   omega
def mvR (c : List Lk) (n : Int) : Nat → Int → Int
 |0, at_ => at_
 |f + 1, at_ => if (c.getD at_.toNat ⟨[], 0, 0⟩).high ≤ n then mvR c n f (c.getD at_.toNat ⟨[], 0, 0⟩).right else at_
theorem Path.mv {c : List Lk} {q : List Int} (p : Path c q) {n : Int} (hn : n ≤ 99) {i : Nat} (hi : i < c.length) (h : (c.getD (q.getD i 0).toNat ⟨[], 0, 0⟩).high ≤ n) : i + 1 < c.length ∧ (c.getD (q.getD i 0).toNat ⟨[], 0, 0⟩).right = q.getD (i + 1) 0 := by
 by_cases hl : i + 1 < c.length
 ·exact ⟨hl, p.next i hl⟩
 ·have : i = c.length - 1 := by omega
  have h2 := p.last
  rw [← this] at h2
  have h2 : (c.getD (q.getD i 0).toNat ⟨[], 0, 0⟩).high = 100 := h2
  omega
theorem mvR_rng {c : List Lk} {q : List Int} (p : Path c q) {n : Int} (hn : n ≤ 99) (f : Nat) : ∀ i, i < c.length → c.length - i ≤ f → 0 ≤ mvR c n f (q.getD i 0) ∧ mvR c n f (q.getD i 0) < c.length ∧ n < (c.getD (mvR c n f (q.getD i 0)).toNat ⟨[], 0, 0⟩).high := by
 induction f with
 |zero => intro i hi hf; omega
 |succ f ih =>
  intro i hi hf
  unfold mvR
  split
  ·rename_i h
   obtain ⟨h1, h2⟩ := p.mv hn hi h
   rw [h2]
   exact ih _ h1 (by omega)
  ·rename_i h
   exact ⟨(p.rng i hi).1, (p.rng i hi).2, by omega⟩
end Go.VL
namespace Go.VL
set_option linter.unusedVariables false
set_option linter.unusedSimpArgs false
def mixF (code : List Int) (p : Int) : Int :=
 code.getD (p.tmod code.length).toNat 0 * 131 + code.getD ((p * 7 + 3).tmod code.length).toNat 0 * 1117 + p * 29 + p.tdiv code.length * 53
def pickF (code : List Int) (p n : Int) : Int :=
 if n < 1 then 0 else if (code.length : Int) = 0 then 0 else if p < code.length then (code.getD p.toNat 0).tmod n
 else (vbit .xor .i64 (mixF code p) ((mixF code p).tdiv 64)).tmod n
structure CodeOk (code : List Int) : Prop where
 len : code.length ≤ 2000
 byte : ∀ i, 0 ≤ code.getD i 0 ∧ code.getD i 0 ≤ 255
theorem xor_pos {a b : Int} (h0 : 0 ≤ a) (h1 : a < 9223372036854775808) (h2 : 0 ≤ b) (h3 : b < 9223372036854775808) : 0 ≤ vbit .xor .i64 a b ∧ vbit .xor .i64 a b < 9223372036854775808 := by
 obtain ⟨a, rfl⟩ := Int.eq_ofNat_of_zero_le h0
 obtain ⟨b, rfl⟩ := Int.eq_ofNat_of_zero_le h2
 have ha : a < 2 ^ 63 := by omega
 have hb : b < 2 ^ 63 := by omega
 have hx := Nat.xor_lt_two_pow ha hb
 have e : (BitVec.ofInt 64 (a : Int) ^^^ BitVec.ofInt 64 (b : Int)).toNat = a ^^^ b := by
  rw [BitVec.toNat_xor, BitVec.toNat_ofInt, BitVec.toNat_ofInt]
  congr 1 <;> omega
 have e2 : vbit .xor .i64 (a : Int) (b : Int) = IntKind.i64.wrap ((a ^^^ b : Nat) : Int) := by
  show IntKind.i64.wrap ((BitVec.ofInt 64 (a : Int) ^^^ BitVec.ofInt 64 (b : Int)).toNat : Int) = _
  rw [e]
 rw [e2, IntKind.wrap_i64]
 omega
theorem mixF_b {code : List Int} (h : CodeOk code) {p : Int} (h0 : 0 ≤ p) (h1 : p ≤ 1099511627776) : 0 ≤ mixF code p ∧ mixF code p < 9223372036854775808 := by
 have a := h.byte (p.tmod code.length).toNat
 have b := h.byte ((p * 7 + 3).tmod code.length).toNat
 have c : 0 ≤ p.tdiv code.length := Int.tdiv_nonneg h0 (Int.natCast_nonneg _)
 have d : p.tdiv code.length ≤ p := Int.tdiv_le_self _ h0
 unfold mixF
 omega
theorem pickF_b {code : List Int} (h : CodeOk code) {p n : Int} (h0 : 0 ≤ p) (h1 : p ≤ 1099511627776) : 0 ≤ pickF code p n ∧ (1 ≤ n → pickF code p n < n) := by
 unfold pickF
 have hm := mixF_b h h0 h1
 have hd : 0 ≤ (mixF code p).tdiv 64 ∧ (mixF code p).tdiv 64 < 9223372036854775808 := ⟨Int.tdiv_nonneg hm.1 (by decide), by have := Int.tdiv_le_self 64 hm.1; omega⟩
 have hx := xor_pos hm.1 hm.2 hd.1 hd.2
 split
 ·exact ⟨Int.le_refl _, fun _ => by omega⟩
 ·split
  ·exact ⟨Int.le_refl _, fun _ => by omega⟩
  ·split
   ·exact ⟨Int.tmod_nonneg _ (h.byte _).1, fun hn => Int.tmod_lt_of_pos _ (by omega)⟩
   ·exact ⟨Int.tmod_nonneg _ hx.1, fun hn => Int.tmod_lt_of_pos _ (by omega)⟩
def belF (xs : List Int) (n : Int) : Nat := (xs.takeWhile fun x => decide (x < n)).length
theorem belF_le (xs : List Int) (n : Int) : belF xs n ≤ xs.length := (List.takeWhile_sublist _).length_le
theorem belF_eq (n : Int) : ∀ (xs : List Int) (k : Nat), (xs.take k).all (fun x => decide (x < n)) = true → k ≤ xs.length → (k < xs.length → ¬ xs.getD k 0 < n) → k = belF xs n := by
 intro xs
 induction xs with
 |nil => intro k _ h _; simp at h; simp [belF, h]
 |cons a t ih =>
  intro k h1 h2 h3
  cases k with
  |zero =>
   have := h3 (by simp)
   simp at this
   simp [belF, List.takeWhile_cons, this]
  |succ k =>
   simp only [List.take_succ_cons, List.all_cons, Bool.and_eq_true, decide_eq_true_eq] at h1
   have := ih k h1.2 (by simpa using h2) (fun h => by simpa using h3 (by simpa using h))
   simp only [belF, List.takeWhile_cons] at *
   rw [if_pos (by simpa using h1.1)]
   simp; omega
theorem set_snoc {α : Type} (d z : α) {xs : List α} {k : Nat} (h : k < xs.length) : (xs.take k ++ [z]).set k (xs.getD k d) = xs.take (k + 1) := by
 rw [take_getD d h, List.set_append_right _ _ (by simp; omega)]
 congr 1
 rw [show k - (xs.take k).length = 0 by simp; omega]
 rfl
theorem set_snoc1 {α : Type} (d z : α) {xs : List α} {k : Nat} (h : k < xs.length) : (xs.take k ++ List.replicate 1 z).set ((xs.take k).length + 0) (xs.getD k d) = xs.take (k + 1) := by
 rw [show (xs.take k).length + 0 = k by simp; omega]; exact set_snoc d z h
end Go.VL
namespace Go.VL
set_option linter.unusedVariables false
set_option linter.unusedSimpArgs false
def splF (c : List Lk) (i h : Nat) : List Lk :=
 c.set i ⟨(c.getD i ⟨[], 0, 0⟩).keys.take h, (c.getD i ⟨[], 0, 0⟩).keys.getD h 0, c.length⟩ ++ [⟨(c.getD i ⟨[], 0, 0⟩).keys.drop h, (c.getD i ⟨[], 0, 0⟩).high, (c.getD i ⟨[], 0, 0⟩).right⟩]
theorem splF_len (c : List Lk) (i h : Nat) : (splF c i h).length = c.length + 1 := by simp [splF]
theorem splF_get (c : List Lk) (i h j : Nat) (hi : i < c.length) : (splF c i h).getD j ⟨[], 0, 0⟩ =
  if j = i then ⟨(c.getD i ⟨[], 0, 0⟩).keys.take h, (c.getD i ⟨[], 0, 0⟩).keys.getD h 0, c.length⟩
  else if j = c.length then ⟨(c.getD i ⟨[], 0, 0⟩).keys.drop h, (c.getD i ⟨[], 0, 0⟩).high, (c.getD i ⟨[], 0, 0⟩).right⟩ else c.getD j ⟨[], 0, 0⟩ := by
 unfold splF
 rw [getD_app, List.length_set]
 split
 ·rename_i h1
  rw [getD_set _ _ _ _ _ (by omega)]
  split
  ·rfl
  ·rw [if_neg (by omega)]
 ·rename_i h1
  rw [if_neg (by omega)]
  by_cases h2 : j = c.length
  ·rw [if_pos h2, show j - c.length = 0 by omega]; rfl
  ·rw [if_neg h2]
   have e1 : c[j]? = none := List.getElem?_eq_none (by omega)
   have e2 : ([⟨(c.getD i ⟨[], 0, 0⟩).keys.drop h, (c.getD i ⟨[], 0, 0⟩).high, (c.getD i ⟨[], 0, 0⟩).right⟩] : List Lk)[j - c.length]? = none := List.getElem?_eq_none (by simp; omega)
   simp only [List.getD_eq_getElem?_getD] at e2 ⊢
   rw [e1, e2]
theorem split_path {c : List Lk} {q : List Int} (p : Path c q) (s i h : Nat) (hs : s < c.length) (hi : q.getD s 0 = (i : Int)) :
  Path (splF c i h) (q.take (s + 1) ++ [(c.length : Int)] ++ q.drop (s + 1)) := by
 have hu : ∀ t, t < c.length → q.getD t 0 = (i : Int) → t = s := fun t ht h => p.inj t s ht hs (by rw [h, hi])
 have hil : i < c.length := by have := p.rng s hs; omega
 have hql := p.len
 have get : ∀ t, (q.take (s + 1) ++ [(c.length : Int)] ++ q.drop (s + 1)).getD t 0 = if t < s + 1 then q.getD t 0 else if t = s + 1 then (c.length : Int) else q.getD (t - 1) 0 := by
  intro t
  rw [List.append_assoc, getD_app, show (q.take (s + 1)).length = s + 1 by simp; omega]
  split
  ·rename_i h1
   simp [List.getD, List.getElem?_take, h1]
  ·rename_i h1
   rw [getD_app]
   by_cases h2 : t = s + 1
   ·rw [if_pos (by simp; omega), if_pos h2, show t - (s + 1) = 0 by omega]; rfl
   ·rw [if_neg (by simp; omega), if_neg h2]
    simp only [List.getD, List.getElem?_drop, List.length_singleton]
    congr 2
    omega
 have rget : ∀ x : Int, 0 ≤ x → x < c.length → x ≠ i → atL (splF c i h) x = atL c x := by
  intro x h0 h1 h2
  unfold atL
  rw [splF_get c i h _ hil, if_neg (by omega), if_neg (by omega)]
 have iget : atL (splF c i h) i = ⟨(c.getD i ⟨[], 0, 0⟩).keys.take h, (c.getD i ⟨[], 0, 0⟩).keys.getD h 0, c.length⟩ := by
  unfold atL
  rw [Int.toNat_natCast, splF_get c i h _ hil, if_pos rfl]
 have nget : atL (splF c i h) (c.length : Int) = ⟨(c.getD i ⟨[], 0, 0⟩).keys.drop h, (c.getD i ⟨[], 0, 0⟩).high, (c.getD i ⟨[], 0, 0⟩).right⟩ := by
  unfold atL
  rw [Int.toNat_natCast, splF_get c i h _ hil, if_neg (by omega), if_pos rfl]
 have ii : atL c (q.getD s 0) = c.getD i ⟨[], 0, 0⟩ := by unfold atL; rw [hi, Int.toNat_natCast]
 have hone := p.one
 refine ⟨?_, ?_, ?_, ?_, ?_, ?_, ?_, ?_⟩
 ·rw [splF_len]; simp; omega
 ·rw [splF_len]; omega
 ·intro t ht
  rw [splF_len] at *
  rw [get t]
  split
  ·have := p.rng t (by omega); omega
  ·split
   ·omega
   ·have := p.rng (t - 1) (by omega); omega
 ·rw [get 0, if_pos (by omega)]; exact p.first
 ·intro t ht
  rw [splF_len] at ht
  rw [get t, get (t + 1)]
  by_cases h1 : t < s
  ·rw [if_pos (by omega), if_pos (by omega), rget _ (p.rng t (by omega)).1 (p.rng t (by omega)).2 (fun h => by have := hu t (by omega) h; omega)]
   exact p.next t (by omega)
  ·by_cases h2 : t = s
   ·subst h2
    rw [if_pos (by omega), if_neg (by omega), if_pos rfl, hi, iget]
   ·by_cases h3 : t = s + 1
    ·subst h3
     rw [if_neg (by omega), if_pos rfl, if_neg (by omega), if_neg (by omega), nget]
     have := p.next s (by omega)
     rw [ii] at this
     rw [show s + 1 + 1 - 1 = s + 1 by omega]
     exact this
    ·rw [if_neg (by omega), if_neg h3, if_neg (by omega), if_neg (by omega), rget _ (p.rng (t - 1) (by omega)).1 (p.rng (t - 1) (by omega)).2 (fun h => by have := hu (t - 1) (by omega) h; omega)]
     have := p.next (t - 1) (by omega)
     rw [show t - 1 + 1 = t by omega] at this
     exact this
 ·rw [splF_len, get, show c.length + 1 - 1 = c.length by omega]
  have hl := p.last
  rw [if_neg (by omega)]
  by_cases h1 : c.length = s + 1
  ·rw [if_pos h1, nget]
   rw [show c.length - 1 = s by omega, ii] at hl
   exact hl
  ·rw [if_neg h1, rget _ (p.rng (c.length - 1) (by omega)).1 (p.rng (c.length - 1) (by omega)).2 (fun h => by have := hu (c.length - 1) (by omega) h; omega)]
   exact hl
 ·intro j h0 h1
  rw [splF_len] at *
  by_cases h2 : j = c.length
  ·exact ⟨s + 1, by omega, by rw [get, if_neg (by omega), if_pos rfl, h2]⟩
  ·obtain ⟨t, ht, hq⟩ := p.all j h0 (by omega)
   by_cases h3 : t < s + 1
   ·exact ⟨t, by omega, by rw [get, if_pos h3, hq]⟩
   ·exact ⟨t + 1, by omega, by rw [get, if_neg (by omega), if_neg (by omega), show t + 1 - 1 = t by omega, hq]⟩
 ·intro t u ht hu2 he
  rw [splF_len] at ht hu2
  rw [get, get] at he
  have pt := p.rng
  by_cases a1 : t < s + 1
  ·rw [if_pos a1] at he
   by_cases b1 : u < s + 1
   ·rw [if_pos b1] at he; exact p.inj _ _ (by omega) (by omega) he
   ·rw [if_neg b1] at he
    have r1 := pt t (by omega)
    by_cases b2 : u = s + 1
    ·rw [if_pos b2] at he; omega
    ·rw [if_neg b2] at he
     have := p.inj _ _ (by omega) (by omega) he
     omega
  ·rw [if_neg a1] at he
   by_cases a2 : t = s + 1
   ·rw [if_pos a2] at he
    by_cases b1 : u < s + 1
    ·rw [if_pos b1] at he
     have := pt u (by omega); omega
    ·rw [if_neg b1] at he
     by_cases b2 : u = s + 1
     ·omega
     ·rw [if_neg b2] at he
      have := pt (u - 1) (by omega); omega
   ·rw [if_neg a2] at he
    by_cases b1 : u < s + 1
    ·rw [if_pos b1] at he
     have := p.inj _ _ (by omega) (by omega) he
     omega
    ·rw [if_neg b1] at he
     by_cases b2 : u = s + 1
     ·rw [if_pos b2] at he
      have := pt (t - 1) (by omega); omega
     ·rw [if_neg b2] at he
      have := p.inj _ _ (by omega) (by omega) he
      omega
end Go.VL
namespace Go.VL
set_option linter.unusedVariables false
set_option linter.unusedSimpArgs false
abbrev pgAt (ps : List Pg) (i : Int) : Pg := ps.getD i.toNat ⟨[], [], []⟩
def pgF (ps : List Pg) (root : Int) : Nat → Int → Int → Int → Bool
 |0, _, _, _ => false
 |d + 1, at_, low, high =>
  if vKeys (pgAt ps at_).keys = false then false
  else if 4 < (pgAt ps at_).keys.length then false
  else if ((pgAt ps at_).keys.all fun x => decide (low ≤ x ∧ x ≤ high)) = false then false
  else if at_ ≠ root ∧ (pgAt ps at_).keys.length < 2 then false
  else if d = 0 then (if (pgAt ps at_).kids.length ≠ 0 then false else if (pgAt ps at_).vals.length ≠ (pgAt ps at_).keys.length then false else (pgAt ps at_).vals.all fun x => decide (-1000 ≤ x ∧ x ≤ 1000))
  else if (pgAt ps at_).keys.length = 0 then false
  else if (pgAt ps at_).vals.length ≠ 0 then false
  else if (pgAt ps at_).kids.length ≠ (pgAt ps at_).keys.length + 1 then false
  else if ((pgAt ps at_).kids.all fun x => decide (0 ≤ x ∧ x ≤ (ps.length : Int) - 1)) = false then false
  else (List.range (pgAt ps at_).kids.length).all fun i =>
   pgF ps root d ((pgAt ps at_).kids.getD i 0) (if 0 < i then (pgAt ps at_).keys.getD (i - 1) 0 else low) (if i < (pgAt ps at_).keys.length then (pgAt ps at_).keys.getD i 0 - 1 else high)
def hgF (ps : List Pg) : Nat → Int → Int → Int
 |0, _, n => n
 |f + 1, at_, n => if 0 ≤ at_ ∧ at_ ≤ (ps.length : Int) - 1 ∧ 0 < (pgAt ps at_).kids.length then hgF ps f ((pgAt ps at_).kids.getD 0 0) (n + 1) else n
def wkF (ps : List Pg) : Nat → Int → List Int
 |0, _ => []
 |d + 1, at_ => at_ :: (pgAt ps at_).kids.flatMap (wkF ps d)
def wkOk (ps : List Pg) : Nat → Int → Prop
 |0, _ => False
 |d + 1, at_ => 0 ≤ at_ ∧ at_ < ps.length ∧ (pgAt ps at_).kids.length ≤ 5 ∧ ∀ k ∈ (pgAt ps at_).kids, wkOk ps d k
def wkB : Nat → Nat
 |0 => 0
 |d + 1 => 1 + 5 * wkB d
theorem wk_len {ps : List Pg} (d : Nat) : ∀ {at_ : Int}, wkOk ps d at_ → (wkF ps d at_).length ≤ wkB d := by
 induction d with
 |zero => intro at_ h; exact h.elim
 |succ d ih =>
  intro at_ h
  obtain ⟨_, _, h3, h4⟩ := h
  have key : ∀ l : List Int, (∀ k ∈ l, wkOk ps d k) → (l.flatMap (wkF ps d)).length ≤ l.length * wkB d := by
   intro l
   induction l with
   |nil => intro _; simp
   |cons a t iht =>
    intro hl
    rw [List.flatMap_cons, List.length_append, List.length_cons, Nat.add_mul]
    have := ih (hl a List.mem_cons_self)
    have := iht fun k hk => hl k (List.mem_cons_of_mem _ hk)
    omega
  have h5 := key _ h4
  have h6 : (pgAt ps at_).kids.length * wkB d ≤ 5 * wkB d := Nat.mul_le_mul_right _ h3
  simp only [wkF, wkB, List.length_cons]
  omega
theorem wk_of_fits {ps : List Pg} {root : Int} (d : Nat) : ∀ {at_ low high : Int}, 0 ≤ at_ → at_ < ps.length → pgF ps root d at_ low high = true → wkOk ps d at_ := by
 induction d with
 |zero => intro at_ low high _ _ h; cases h
 |succ d ih =>
  intro at_ low high h0 h1 h
  unfold pgF at h
  repeat' split at h
  all_goals first | (cases h; done) | skip
  ·rename_i g1 g2 g3 g4 g5 g6 g7
   refine ⟨h0, h1, by omega, fun k hk => ?_⟩
   have := List.eq_nil_of_length_eq_zero (Decidable.of_not_not g6)
   rw [this] at hk; cases hk
  ·rename_i g1 g2 g3 g4 g5 g6 g7 g8 g9
   have g8' : (pgAt ps at_).kids.length = (pgAt ps at_).keys.length + 1 := Decidable.of_not_not g8
   refine ⟨h0, h1, by rw [g8']; omega, fun k hk => ?_⟩
   rw [Bool.not_eq_false, List.all_eq_true] at g9
   have h9 := g9 k hk
   simp only [decide_eq_true_eq] at h9
   obtain ⟨i, hi, rfl⟩ := List.getElem_of_mem hk
   rw [List.all_eq_true] at h
   have := h i (List.mem_range.2 hi)
   have e : (pgAt ps at_).kids.getD i 0 = (pgAt ps at_).kids[i] := by rw [List.getD_eq_getElem?_getD, List.getElem?_eq_getElem hi]; rfl
   rw [e] at this
   exact ih h9.1 (by omega) this
section
variable {ps : List Pg} {root : Int} {d : Nat} {at_ low high : Int} {V : Bool} (hV : pgF ps root (d + 1) at_ low high = V)
include hV
theorem pgF_1 (h : vKeys (ps.getD at_.toNat ⟨[], [], []⟩).keys = false) : V = false := by
 rw [← hV]; unfold pgF; rw [if_pos h]
theorem pgF_2 (h : 4 < (ps.getD at_.toNat ⟨[], [], []⟩).keys.length) : V = false := by
 rw [← hV]; unfold pgF; rw [if_pos (c := 4 < _) h]; simp only [ite_self]
theorem pgF_3 (h : ((ps.getD at_.toNat ⟨[], [], []⟩).keys.all fun x => decide (low ≤ x ∧ x ≤ high)) = false) : V = false := by
 rw [← hV]; unfold pgF; rw [if_pos (c := _ = false) h]; simp only [ite_self]
theorem pgF_4 (h : at_ ≠ root) (h2 : (ps.getD at_.toNat ⟨[], [], []⟩).keys.length < 2) : V = false := by
 rw [← hV]; unfold pgF; rw [if_pos (c := _ ∧ _) ⟨h, h2⟩]; simp only [ite_self]
theorem pgF_5 (hd : d = 0) (h : (ps.getD at_.toNat ⟨[], [], []⟩).kids.length ≠ 0) : V = false := by
 rw [← hV]; unfold pgF; rw [if_pos hd, if_pos (c := _ ≠ 0) h]; simp only [ite_self]
theorem pgF_6 (hd : d = 0) (h : (ps.getD at_.toNat ⟨[], [], []⟩).vals.length ≠ (ps.getD at_.toNat ⟨[], [], []⟩).keys.length) : V = false := by
 rw [← hV]; unfold pgF; rw [if_pos hd, if_pos (c := (ps.getD at_.toNat ⟨[], [], []⟩).vals.length ≠ (ps.getD at_.toNat ⟨[], [], []⟩).keys.length) h]; simp only [ite_self]
theorem pgF_8 (hd : d ≠ 0) (h : (ps.getD at_.toNat ⟨[], [], []⟩).keys.length = 0) : V = false := by
 rw [← hV]; unfold pgF; rw [if_neg hd, if_pos (c := (ps.getD at_.toNat ⟨[], [], []⟩).keys.length = 0) h]; simp only [ite_self]
theorem pgF_9 (hd : d ≠ 0) (h : (ps.getD at_.toNat ⟨[], [], []⟩).vals.length ≠ 0) : V = false := by
 rw [← hV]; unfold pgF; rw [if_neg hd, if_pos (c := (ps.getD at_.toNat ⟨[], [], []⟩).vals.length ≠ 0) h]; simp only [ite_self]
theorem pgF_10 (hd : d ≠ 0) (h : (ps.getD at_.toNat ⟨[], [], []⟩).kids.length ≠ (ps.getD at_.toNat ⟨[], [], []⟩).keys.length + 1) : V = false := by
 rw [← hV]; unfold pgF; rw [if_neg hd, if_pos (c := (ps.getD at_.toNat ⟨[], [], []⟩).kids.length ≠ (ps.getD at_.toNat ⟨[], [], []⟩).keys.length + 1) h]; simp only [ite_self]
theorem pgF_11 (hd : d ≠ 0) (h : ((ps.getD at_.toNat ⟨[], [], []⟩).kids.all fun x => decide (0 ≤ x ∧ x ≤ (ps.length : Int) - 1)) = false) : V = false := by
 rw [← hV]; unfold pgF; rw [if_neg hd, if_pos (c := ((ps.getD at_.toNat ⟨[], [], []⟩).kids.all fun x => decide (0 ≤ x ∧ x ≤ (ps.length : Int) - 1)) = false) h]; simp only [ite_self]
theorem pgF_12 (h1 : vKeys (ps.getD at_.toNat ⟨[], [], []⟩).keys = true) (h2 : ¬ 4 < (ps.getD at_.toNat ⟨[], [], []⟩).keys.length) (h3 : ((ps.getD at_.toNat ⟨[], [], []⟩).keys.all fun x => decide (low ≤ x ∧ x ≤ high)) = true) (h4 : ¬ (at_ ≠ root ∧ (ps.getD at_.toNat ⟨[], [], []⟩).keys.length < 2)) :
  V = (if d = 0 then (if (ps.getD at_.toNat ⟨[], [], []⟩).kids.length ≠ 0 then false else if (ps.getD at_.toNat ⟨[], [], []⟩).vals.length ≠ (ps.getD at_.toNat ⟨[], [], []⟩).keys.length then false else (ps.getD at_.toNat ⟨[], [], []⟩).vals.all fun x => decide (-1000 ≤ x ∧ x ≤ 1000))
   else if (ps.getD at_.toNat ⟨[], [], []⟩).keys.length = 0 then false
   else if (ps.getD at_.toNat ⟨[], [], []⟩).vals.length ≠ 0 then false
   else if (ps.getD at_.toNat ⟨[], [], []⟩).kids.length ≠ (ps.getD at_.toNat ⟨[], [], []⟩).keys.length + 1 then false
   else if ((ps.getD at_.toNat ⟨[], [], []⟩).kids.all fun x => decide (0 ≤ x ∧ x ≤ (ps.length : Int) - 1)) = false then false
   else (List.range (ps.getD at_.toNat ⟨[], [], []⟩).kids.length).all fun i =>
    pgF ps root d ((ps.getD at_.toNat ⟨[], [], []⟩).kids.getD i 0) (if 0 < i then (ps.getD at_.toNat ⟨[], [], []⟩).keys.getD (i - 1) 0 else low) (if i < (ps.getD at_.toNat ⟨[], [], []⟩).keys.length then (ps.getD at_.toNat ⟨[], [], []⟩).keys.getD i 0 - 1 else high)) := by
 rw [← hV, pgF]
 rw [if_neg (c := vKeys (ps.getD at_.toNat ⟨[], [], []⟩).keys = false) (by rw [h1]; decide), if_neg (c := 4 < (ps.getD at_.toNat ⟨[], [], []⟩).keys.length) h2, if_neg (c := ((ps.getD at_.toNat ⟨[], [], []⟩).keys.all fun x => decide (low ≤ x ∧ x ≤ high)) = false) (by rw [h3]; decide), if_neg (c := at_ ≠ root ∧ (ps.getD at_.toNat ⟨[], [], []⟩).keys.length < 2) h4]
theorem pgF_7 (hd : d = 0) (h1 : vKeys (ps.getD at_.toNat ⟨[], [], []⟩).keys = true) (h2 : ¬ 4 < (ps.getD at_.toNat ⟨[], [], []⟩).keys.length) (h3 : ((ps.getD at_.toNat ⟨[], [], []⟩).keys.all fun x => decide (low ≤ x ∧ x ≤ high)) = true) (h4 : ¬ (at_ ≠ root ∧ (ps.getD at_.toNat ⟨[], [], []⟩).keys.length < 2)) (h5 : (ps.getD at_.toNat ⟨[], [], []⟩).kids.length = 0) (h6 : (ps.getD at_.toNat ⟨[], [], []⟩).vals.length = (ps.getD at_.toNat ⟨[], [], []⟩).keys.length) :
  V = (ps.getD at_.toNat ⟨[], [], []⟩).vals.all fun x => decide (-1000 ≤ x ∧ x ≤ 1000) := by
 rw [pgF_12 hV h1 h2 h3 h4, if_pos hd, if_neg (c := (ps.getD at_.toNat ⟨[], [], []⟩).kids.length ≠ 0) (by omega), if_neg (c := (ps.getD at_.toNat ⟨[], [], []⟩).vals.length ≠ (ps.getD at_.toNat ⟨[], [], []⟩).keys.length) (by omega)]
theorem pgF_13 (hd : d ≠ 0) (h1 : vKeys (ps.getD at_.toNat ⟨[], [], []⟩).keys = true) (h2 : ¬ 4 < (ps.getD at_.toNat ⟨[], [], []⟩).keys.length) (h3 : ((ps.getD at_.toNat ⟨[], [], []⟩).keys.all fun x => decide (low ≤ x ∧ x ≤ high)) = true) (h4 : ¬ (at_ ≠ root ∧ (ps.getD at_.toNat ⟨[], [], []⟩).keys.length < 2)) (h5 : (ps.getD at_.toNat ⟨[], [], []⟩).keys.length ≠ 0) (h6 : (ps.getD at_.toNat ⟨[], [], []⟩).vals.length = 0)
  (h7 : (ps.getD at_.toNat ⟨[], [], []⟩).kids.length = (ps.getD at_.toNat ⟨[], [], []⟩).keys.length + 1) (h8 : ((ps.getD at_.toNat ⟨[], [], []⟩).kids.all fun x => decide (0 ≤ x ∧ x ≤ (ps.length : Int) - 1)) = true) :
  V = (List.range (ps.getD at_.toNat ⟨[], [], []⟩).kids.length).all fun i =>
    pgF ps root d ((ps.getD at_.toNat ⟨[], [], []⟩).kids.getD i 0) (if 0 < i then (ps.getD at_.toNat ⟨[], [], []⟩).keys.getD (i - 1) 0 else low) (if i < (ps.getD at_.toNat ⟨[], [], []⟩).keys.length then (ps.getD at_.toNat ⟨[], [], []⟩).keys.getD i 0 - 1 else high) := by
 rw [pgF_12 hV h1 h2 h3 h4, if_neg hd, if_neg (c := (ps.getD at_.toNat ⟨[], [], []⟩).keys.length = 0) h5, if_neg (c := (ps.getD at_.toNat ⟨[], [], []⟩).vals.length ≠ 0) (by omega), if_neg (c := (ps.getD at_.toNat ⟨[], [], []⟩).kids.length ≠ (ps.getD at_.toNat ⟨[], [], []⟩).keys.length + 1) (by omega), if_neg (c := ((ps.getD at_.toNat ⟨[], [], []⟩).kids.all fun x => decide (0 ≤ x ∧ x ≤ (ps.length : Int) - 1)) = false) (by rw [h8]; decide)]
end
theorem range_all_false {n i : Nat} {p : Nat → Bool} (hi : i < n) (h : p i = false) : (List.range n).all p = false := by
 cases hq : (List.range n).all p with
 |false => rfl
 |true => rw [List.all_eq_true] at hq; rw [hq i (List.mem_range.2 hi)] at h; cases h
theorem range_all_true {n : Nat} {p : Nat → Bool} (h : ∀ j, j < n → p j = true) : (List.range n).all p = true := by
 rw [List.all_eq_true]; exact fun j hj => h j (List.mem_range.1 hj)
theorem all_getD {xs : List Int} {p : Int → Bool} (h : xs.all p = true) {i : Nat} (hi : i < xs.length) : p (xs.getD i 0) = true := by
 rw [List.all_eq_true] at h
 have e : xs.getD i 0 = xs[i] := by rw [List.getD_eq_getElem?_getD, List.getElem?_eq_getElem hi]; rfl
 rw [e]; exact h _ (List.getElem_mem hi)
theorem vKeys_b {xs : List Int} (h : vKeys xs = true) (i : Nat) : 0 ≤ xs.getD i 0 ∧ xs.getD i 0 ≤ 99 := by
 unfold vKeys at h
 rw [Bool.and_eq_true] at h
 by_cases hi : i < xs.length
 ·exact of_decide_eq_true (all_getD (p := fun x => decide (0 ≤ x ∧ x ≤ 99)) h.2 hi)
 ·rw [List.getD_eq_getElem?_getD, List.getElem?_eq_none (Nat.le_of_not_lt hi)]
  exact ⟨Int.le_refl 0, (by decide : (0 : Int) ≤ 99)⟩
end Go.VL
namespace Go.VL
set_option linter.unusedVariables false
set_option linter.unusedSimpArgs false
theorem flat_len {ps : List Pg} {d : Nat} {l : List Int} (h : ∀ k ∈ l, wkOk ps d k) : (l.flatMap (wkF ps d)).length ≤ l.length * wkB d := by
  induction l with
  | nil => simp
  | cons a t iht =>
    rw [List.flatMap_cons, List.length_append, List.length_cons, Nat.add_mul]
    have := wk_len d (h a List.mem_cons_self)
    have := iht fun k hk => h k (List.mem_cons_of_mem _ hk)
    omega
theorem flat_step (f : Int → List Int) (l : List Int) (i : Nat) (h : i < l.length) : (l.take (i + 1)).flatMap f = (l.take i).flatMap f ++ f (l.getD i 0) := by
  rw [take_getD (0 : Int) h, List.flatMap_append, List.flatMap_cons, List.flatMap_nil, List.append_nil]
theorem wkB_mono {d e : Nat} (h : d ≤ e) : wkB d ≤ wkB e := by
  induction e with
  | zero => have : d = 0 := by omega
            subst this; exact Nat.le_refl _
  | succ e ih =>
    by_cases c : d ≤ e
    · have := ih c; simp only [wkB]; omega
    · have : d = e + 1 := by omega
      subst this; exact Nat.le_refl _
theorem hg_step {ps : List Pg} {f : Nat} {at_ n : Int} (h1 : 0 ≤ at_ ∧ at_ ≤ (ps.length : Int) - 1) (h2 : 0 < (ps.getD at_.toNat ⟨[], [], []⟩).kids.length) : hgF ps (f + 1) at_ n = hgF ps f ((ps.getD at_.toNat ⟨[], [], []⟩).kids.getD 0 0) (n + 1) := by
  rw [hgF, if_pos (c := 0 ≤ at_ ∧ at_ ≤ (ps.length : Int) - 1 ∧ 0 < (pgAt ps at_).kids.length) ⟨h1.1, h1.2, h2⟩]
theorem hg_stop {ps : List Pg} {f : Nat} {at_ n : Int} (h : ¬ (0 ≤ at_ ∧ at_ ≤ (ps.length : Int) - 1) ∨ ¬ 0 < (ps.getD at_.toNat ⟨[], [], []⟩).kids.length) : hgF ps (f + 1) at_ n = n := by
  rw [hgF, if_neg (c := 0 ≤ at_ ∧ at_ ≤ (ps.length : Int) - 1 ∧ 0 < (pgAt ps at_).kids.length) (fun c => h.elim (fun h => h ⟨c.1, c.2.1⟩) fun h => h c.2.2)]
theorem hg_b {ps : List Pg} (f : Nat) : ∀ {at_ n : Int}, n ≤ hgF ps f at_ n ∧ hgF ps f at_ n ≤ n + f := by
  induction f with
  | zero => intro at_ n; exact ⟨Int.le_refl _, by simp [hgF]⟩
  | succ f ih =>
    intro at_ n
    rw [hgF]
    split
    · have := ih (at_ := (pgAt ps at_).kids.getD 0 0) (n := n + 1); omega
    · omega
def vTree (root : Int) (ps : List Pg) : Bool :=
  if ¬ (1 ≤ (ps.length : Int) ∧ (ps.length : Int) ≤ 16) then false
  else if ¬ (0 ≤ root ∧ root ≤ (ps.length : Int) - 1) then false
  else if 3 < hgF ps 3 root 1 then false
  else if pgF ps root (hgF ps 3 root 1).toNat root 0 99 = false then false
  else if ¬ (wkF ps (hgF ps 3 root 1).toNat root).Nodup then false
  else decide ((wkF ps (hgF ps 3 root 1).toNat root).length = ps.length)
section
variable {root : Int} {ps : List Pg} {V : Bool} {d : Nat} (hV : vTree root ps = V) (hH : hgF ps 3 root 1 = (d : Int) + 1)
include hV
theorem vT_1 (h : ¬ (1 ≤ (ps.length : Int) ∧ (ps.length : Int) ≤ 16)) : V = false := by
  rw [← hV]; unfold vTree; rw [if_pos h]
theorem vT_2 (h : ¬ (0 ≤ root ∧ root ≤ (ps.length : Int) - 1)) : V = false := by
  rw [← hV]; unfold vTree; rw [if_pos h]; simp only [ite_self]
theorem vT_3 (h : 3 < hgF ps 3 root 1) : V = false := by
  rw [← hV]; unfold vTree; rw [if_pos h]; simp only [ite_self]
include hH
theorem vT_n : (hgF ps 3 root 1).toNat = d + 1 := by
  have := hV
  rw [hH]; omega
theorem vT_4 (h : pgF ps root (d + 1) root 0 99 = false) : V = false := by
  rw [← hV]; unfold vTree; rw [vT_n hV hH, if_pos h]; simp only [ite_self]
theorem vT_5 (h : ¬ (wkF ps (d + 1) root).Nodup) : V = false := by
  rw [← hV]; unfold vTree; rw [vT_n hV hH, if_pos (c := ¬ (wkF ps (d + 1) root).Nodup) h]; simp only [ite_self]
theorem vT_6 (h1 : 1 ≤ (ps.length : Int) ∧ (ps.length : Int) ≤ 16) (h2 : 0 ≤ root ∧ root ≤ (ps.length : Int) - 1) (h3 : ¬ 3 < hgF ps 3 root 1) (h4 : pgF ps root (d + 1) root 0 99 = true) (h5 : (wkF ps (d + 1) root).Nodup) : V = decide ((wkF ps (d + 1) root).length = ps.length) := by
  rw [← hV]; unfold vTree
  rw [if_neg (fun c => c h1), if_neg (fun c => c h2), if_neg h3, vT_n hV hH, if_neg (by rw [h4]; decide), if_neg (fun c => c h5)]
end
theorem nodup_take {l : List Int} {i : Nat} (hi : i < l.length) (h : (l.take i).Nodup) (hn : (l.take i).contains (l.getD i 0) = false) : (l.take (i + 1)).Nodup := by
  rw [take_getD (0 : Int) hi, List.nodup_append]
  refine ⟨h, by simp, fun x hx y hy => ?_⟩
  rw [List.mem_singleton] at hy
  subst hy
  intro e
  subst e
  rw [List.contains_iff_mem.2 hx] at hn; cases hn
theorem not_nodup {l : List Int} {i : Nat} (hi : i < l.length) (hn : (l.take i).contains (l.getD i 0) = true) : ¬ l.Nodup := by
  intro h
  have h2 := h.sublist (List.take_sublist (i + 1) l)
  rw [take_getD (0 : Int) hi, List.nodup_append] at h2
  exact h2.2.2 _ (List.contains_iff_mem.1 hn) _ List.mem_cons_self rfl
end Go.VL
namespace Go.VL
abbrev trV (root : Int) (ps : List Pg) : V := .agg [.c (.int .i64 root), .c (.pgs ps)]
abbrev pgV (p : Pg) : V := .agg [.c (.nums .i64 p.keys), .c (.nums .i64 p.kids), .c (.nums .i64 p.vals)]
abbrev prV (x : Pr) : V := .agg [.c (.int .i64 x.key), .c (.int .i64 x.value)]
abbrev inV (x : Pg) : V := .agg [.c (.nums .i64 x.keys), .c (.nums .i64 x.kids)]
structure pB (ps : List Pg) : Prop where
 len : ps.length ≤ 4294967296
 keys : ∀ i, (pgAt ps i).keys.length ≤ 4294967296
 kids : ∀ i, (pgAt ps i).kids.length ≤ 4294967296
 vals : ∀ i, (pgAt ps i).vals.length ≤ 4294967296
end Go.VL
namespace Go.VL
set_option linter.unusedVariables false
set_option linter.unusedSimpArgs false
def Seg (F : Int → Int → Int → Prop) : Int → Int → List Int → List Int → Prop
 |lo, hi, [], [c] => F c lo hi
 |lo, hi, k :: ks, c :: cs => F c lo (k - 1) ∧ Seg F k hi ks cs
 |_, _, _, _ => False
def SegL (F : Int → Int → Int → Prop) : Int → List Int → List Int → Int → Prop
 |lo, [], [], l => l = lo
 |lo, k :: ks, c :: cs, l => F c lo (k - 1) ∧ SegL F k ks cs l
 |_, _, _, _ => False
def SegR (F : Int → Int → Int → Prop) (r hi : Int) : List Int → List Int → Prop
 |[], [] => r = hi
 |k :: ks, c :: cs => r = k - 1 ∧ Seg F k hi ks (c :: cs)
 |_, _ => False
section
variable {F G : Int → Int → Int → Prop}
theorem Seg.len : ∀ {ks cs : List Int} {lo hi : Int}, Seg F lo hi ks cs → cs.length = ks.length + 1
 |[], [], _, _, h => h.elim
 |[], [_], _, _, _ => rfl
 |[], _ :: _ :: _, _, _, h => h.elim
 |_ :: _, [], _, _, h => h.elim
 |_ :: ks, _ :: cs, _, _, h => by have := Seg.len h.2; simp only [List.length_cons]; omega
theorem SegL.len : ∀ {ks cs : List Int} {lo l : Int}, SegL F lo ks cs l → cs.length = ks.length
 |[], [], _, _, _ => rfl
 |[], _ :: _, _, _, h => h.elim
 |_ :: _, [], _, _, h => h.elim
 |_ :: ks, _ :: cs, _, _, h => by have := SegL.len h.2; simp only [List.length_cons]; omega
theorem SegR.len {r hi : Int} : ∀ {ks cs : List Int}, SegR F r hi ks cs → cs.length = ks.length
 |[], [], _ => rfl
 |[], _ :: _, h => h.elim
 |_ :: _, [], h => h.elim
 |_ :: ks, _ :: cs, h => by have := Seg.len h.2; simp only [List.length_cons] at this ⊢; omega
theorem Seg_mid {hi c : Int} : ∀ {KA A KB B : List Int} {lo : Int}, A.length = KA.length → B.length = KB.length →
  (Seg F lo hi (KA ++ KB) (A ++ c :: B) ↔ ∃ l r, SegL F lo KA A l ∧ F c l r ∧ SegR F r hi KB B) := by
 intro KA
 induction KA with
 |nil =>
  intro A KB B lo hA hB
  have : A = [] := List.eq_nil_of_length_eq_zero (by simpa using hA)
  subst this
  cases KB with
  |nil =>
   have : B = [] := List.eq_nil_of_length_eq_zero (by simpa using hB)
   subst this
   exact ⟨fun h => ⟨lo, hi, rfl, h, rfl⟩, fun ⟨l, r, h1, h2, h3⟩ => by cases h1; cases h3; exact h2⟩
  |cons k ks =>
   cases B with
   |nil => simp at hB
   |cons b bs =>
    exact ⟨fun h => ⟨lo, k - 1, rfl, h.1, rfl, h.2⟩, fun ⟨l, r, h1, h2, h3, h4⟩ => by cases h1; cases h3; exact ⟨h2, h4⟩⟩
 |cons k ks ih =>
  intro A KB B lo hA hB
  cases A with
  |nil => simp at hA
  |cons a as =>
   have := ih (A := as) (KB := KB) (B := B) (lo := k) (by simpa using hA) hB
   constructor
   ·intro h
    obtain ⟨l, r, h1, h2, h3⟩ := this.1 h.2
    exact ⟨l, r, ⟨h.1, h1⟩, h2, h3⟩
   ·rintro ⟨l, r, h1, h2, h3⟩
    exact ⟨h1.1, this.2 ⟨l, r, h1.2, h2, h3⟩⟩
theorem SegR_cons {r hi k c : Int} {ks cs : List Int} (hl : cs.length = ks.length) : SegR F r hi (k :: ks) (c :: cs) ↔ r = k - 1 ∧ ∃ r', F c k r' ∧ SegR F r' hi ks cs := by
 have := Seg_mid (F := F) (hi := hi) (c := c) (KA := []) (A := []) (KB := ks) (B := cs) (lo := k) rfl hl
 constructor
 ·rintro ⟨h1, h2⟩
  obtain ⟨l, r', g1, g2, g3⟩ := this.1 h2
  cases g1
  exact ⟨h1, r', g2, g3⟩
 ·rintro ⟨h1, r', h2, h3⟩
  exact ⟨h1, this.2 ⟨k, r', rfl, h2, h3⟩⟩
theorem Seg_mid2 {hi c d k : Int} {KA A KB B : List Int} {lo : Int} (hA : A.length = KA.length) (hB : B.length = KB.length) :
  Seg F lo hi (KA ++ k :: KB) (A ++ c :: d :: B) ↔ ∃ l r, SegL F lo KA A l ∧ F c l (k - 1) ∧ F d k r ∧ SegR F r hi KB B := by
 rw [Seg_mid hA (by simp [hB])]
 constructor
 ·rintro ⟨l, r, h1, h2, h3⟩
  obtain ⟨rfl, r', h4, h5⟩ := (SegR_cons hB).1 h3
  exact ⟨l, r', h1, h2, h4, h5⟩
 ·rintro ⟨l, r, h1, h2, h3, h4⟩
  exact ⟨l, k - 1, h1, h2, (SegR_cons hB).2 ⟨rfl, r, h3, h4⟩⟩
theorem Seg_append {hi k : Int} {ks2 cs2 : List Int} : ∀ {ks1 cs1 : List Int} {lo : Int}, cs1.length = ks1.length + 1 →
  (Seg F lo hi (ks1 ++ k :: ks2) (cs1 ++ cs2) ↔ Seg F lo (k - 1) ks1 cs1 ∧ Seg F k hi ks2 cs2) := by
 intro ks1
 induction ks1 with
 |nil =>
  intro cs1 lo h
  match cs1, h with
  |[c], _ => exact Iff.rfl
 |cons k1 ks1 ih =>
  intro cs1 lo h
  match cs1, h with
  |c :: cs, h =>
   have := ih (cs1 := cs) (lo := k1) (by simpa using h)
   constructor
   ·intro h
    obtain ⟨h1, h2⟩ := this.1 h.2
    exact ⟨⟨h.1, h1⟩, h2⟩
   ·rintro ⟨h1, h2⟩
    exact ⟨h1.1, this.2 ⟨h1.2, h2⟩⟩
theorem Seg.imp {hi : Int} : ∀ {ks cs : List Int} {lo : Int}, (∀ c ∈ cs, ∀ l r, F c l r → G c l r) → Seg F lo hi ks cs → Seg G lo hi ks cs
 |[], [], _, _, h => h.elim
 |[], [c], _, hf, h => hf c (by simp) _ _ h
 |[], _ :: _ :: _, _, _, h => h.elim
 |_ :: _, [], _, _, h => h.elim
 |_ :: ks, c :: cs, _, hf, h => ⟨hf c (by simp) _ _ h.1, Seg.imp (fun x hx => hf x (List.mem_cons_of_mem _ hx)) h.2⟩
theorem SegL.imp {l : Int} : ∀ {ks cs : List Int} {lo : Int}, (∀ c ∈ cs, ∀ l r, F c l r → G c l r) → SegL F lo ks cs l → SegL G lo ks cs l
 |[], [], _, _, h => h
 |[], _ :: _, _, _, h => h.elim
 |_ :: _, [], _, _, h => h.elim
 |_ :: ks, c :: cs, _, hf, h => ⟨hf c (by simp) _ _ h.1, SegL.imp (fun x hx => hf x (List.mem_cons_of_mem _ hx)) h.2⟩
theorem SegR.imp {r hi : Int} : ∀ {ks cs : List Int}, (∀ c ∈ cs, ∀ l r, F c l r → G c l r) → SegR F r hi ks cs → SegR G r hi ks cs
 |[], [], _, h => h
 |[], _ :: _, _, h => h.elim
 |_ :: _, [], _, h => h.elim
 |_ :: ks, c :: cs, hf, h => ⟨h.1, Seg.imp hf h.2⟩
theorem Seg.mem {hi : Int} : ∀ {ks cs : List Int} {lo : Int}, Seg F lo hi ks cs → ∀ c ∈ cs, ∃ l r, F c l r
 |[], [], _, h, _, _ => h.elim
 |[], [c], _, h, x, hx => by rw [List.mem_singleton] at hx; subst hx; exact ⟨_, _, h⟩
 |[], _ :: _ :: _, _, h, _, _ => h.elim
 |_ :: _, [], _, h, _, _ => h.elim
 |_ :: ks, c :: cs, _, h, x, hx => by
  rcases List.mem_cons.1 hx with rfl | hx
  ·exact ⟨_, _, h.1⟩
  ·exact Seg.mem h.2 x hx
theorem Seg_iff {hi : Int} : ∀ {ks cs : List Int} {lo : Int}, cs.length = ks.length + 1 →
  (Seg F lo hi ks cs ↔ ∀ i, i < cs.length → F (cs.getD i 0) (if 0 < i then ks.getD (i - 1) 0 else lo) (if i < ks.length then ks.getD i 0 - 1 else hi)) := by
 intro ks
 induction ks with
 |nil =>
  intro cs lo h
  match cs, h with
  |[c], _ =>
   constructor
   ·intro h i hi
    have : i = 0 := by simpa using hi
    subst this
    exact h
   ·intro h
    exact h 0 (by simp)
 |cons k ks ih =>
  intro cs lo h
  match cs, h with
  |c :: cs, h =>
   have h' : cs.length = ks.length + 1 := by simpa using h
   have := ih (cs := cs) (lo := k) h'
   constructor
   ·intro hs i hi
    cases i with
    |zero => simpa using hs.1
    |succ i =>
     have := this.1 hs.2 i (by simpa using hi)
     simp only [List.getD_cons_succ, Nat.zero_lt_succ, if_true, Nat.add_sub_cancel, List.length_cons, Nat.succ_lt_succ_iff, Nat.add_lt_add_iff_right]
     cases i with
     |zero => simpa using this
     |succ i => simpa using this
   ·intro hs
    refine ⟨by simpa using hs 0 (by simp), this.2 fun i hi => ?_⟩
    have := hs (i + 1) (by simpa using hi)
    cases i with
    |zero => simpa using this
    |succ i => simpa using this
theorem Seg.bounds {hi : Int} (hF : ∀ c l r, F c l r → l ≤ r) : ∀ {ks cs : List Int} {lo : Int}, Seg F lo hi ks cs → lo ≤ hi ∧ (∀ k ∈ ks, lo < k ∧ k ≤ hi) ∧ ks.Pairwise (· < ·)
 |[], [], _, h => h.elim
 |[], [c], _, h => ⟨hF _ _ _ h, by simp, by simp⟩
 |[], _ :: _ :: _, _, h => h.elim
 |_ :: _, [], _, h => h.elim
 |k :: ks, c :: cs, lo, h => by
  have h1 := hF _ _ _ h.1
  obtain ⟨h2, h3, h4⟩ := Seg.bounds hF h.2
  refine ⟨by omega, fun x hx => ?_, ?_⟩
  ·rcases List.mem_cons.1 hx with rfl | hx
   ·omega
   ·have := h3 x hx; omega
  ·rw [List.pairwise_cons]
   exact ⟨fun x hx => (h3 x hx).1, h4⟩
end
end Go.VL
namespace Go.VL
set_option linter.unusedVariables false
set_option linter.unusedSimpArgs false
theorem asc_cons {a : Int} {t : List Int} : Asc (a :: t) ↔ (∀ x ∈ t, a < x) ∧ Asc t := List.pairwise_cons
theorem asc_app {a b : List Int} : Asc (a ++ b) ↔ Asc a ∧ Asc b ∧ ∀ x ∈ a, ∀ y ∈ b, x < y := List.pairwise_append
def rowF (p : Pg) : List Pr := List.zipWith Pr.mk p.keys p.vals
structure LeafOk (p : Pg) (lo hi : Int) : Prop where
 asc : Asc p.keys
 rng : ∀ k ∈ p.keys, lo ≤ k ∧ k ≤ hi
 kids : p.kids = []
 len : p.vals.length = p.keys.length
 vrng : ∀ v ∈ p.vals, -1000 ≤ v ∧ v ≤ 1000
def PFit (ps : List Pg) : Nat → Pg → Int → Int → Prop
 |0, _, _, _ => False
 |1, p, lo, hi => LeafOk p lo hi
 |d + 2, p, lo, hi => p.vals = [] ∧ Seg (fun c l r => 0 ≤ c ∧ c < ps.length ∧ 2 ≤ (pgAt ps c).keys.length ∧ (pgAt ps c).keys.length ≤ 4 ∧ PFit ps (d + 1) (pgAt ps c) l r) lo hi p.keys p.kids
def Fit (ps : List Pg) (d mn mx : Nat) (a lo hi : Int) : Prop :=
 0 ≤ a ∧ a < ps.length ∧ mn ≤ (pgAt ps a).keys.length ∧ (pgAt ps a).keys.length ≤ mx ∧ PFit ps d (pgAt ps a) lo hi
theorem PFit_inner {ps : List Pg} {d : Nat} {p : Pg} {lo hi : Int} : PFit ps (d + 2) p lo hi ↔ p.vals = [] ∧ Seg (Fit ps (d + 1) 2 4) lo hi p.keys p.kids := Iff.rfl
def bw (ps : List Pg) : Nat → Pg → List Int
 |0, _ => []
 |d + 1, p => p.kids.flatMap (wkF ps d)
theorem wkF_bw (ps : List Pg) (d : Nat) (a : Int) : wkF ps (d + 1) a = a :: bw ps (d + 1) (pgAt ps a) := rfl
def prF (ps : List Pg) : Nat → Pg → List Pr
 |0, _ => []
 |1, p => rowF p
 |d + 2, p => p.kids.flatMap fun c => prF ps (d + 1) (pgAt ps c)
def lvF (ps : List Pg) : Nat → Int → List Int
 |0, _ => []
 |1, a => [a]
 |d + 2, a => (pgAt ps a).kids.flatMap (lvF ps (d + 1))
def upF (xs : List Int) (n : Int) : Nat := (xs.takeWhile fun x => decide (x ≤ n)).length
def ptF (ps : List Pg) (key : Int) : Nat → Int → List Int
 |0, _ => []
 |1, a => [a]
 |d + 2, a => a :: ptF ps key (d + 1) ((pgAt ps a).kids.getD (upF (pgAt ps a).keys key) 0)
theorem Fit.le {ps : List Pg} : ∀ {d mn mx : Nat} {a lo hi : Int}, Fit ps d mn mx a lo hi → 1 ≤ mn → lo ≤ hi
 |0, _, _, _, _, _, h, _ => h.2.2.2.2.elim
 |1, mn, _, a, lo, hi, h, hm => by
  obtain ⟨_, _, h3, _, h5⟩ := h
  match hk : (pgAt ps a).keys with
  |[] => rw [hk] at h3; simp at h3; omega
  |k :: t => have := LeafOk.rng h5 k (by rw [hk]; simp); omega
 |d + 2, mn, _, a, lo, hi, h, hm => (Seg.bounds (fun c l r hc => Fit.le (d := d + 1) hc (by decide)) h.2.2.2.2.2).1
theorem Fit.le' {ps : List Pg} {d : Nat} : ∀ c l r, Fit ps d 2 4 c l r → l ≤ r := fun c l r h => h.le (by decide)
theorem Fit.mono {ps : List Pg} {d mn mx mn' mx' : Nat} {a lo hi : Int} (h : Fit ps d mn mx a lo hi) (h1 : mn' ≤ mn) (h2 : mx ≤ mx') : Fit ps d mn' mx' a lo hi :=
 ⟨h.1, h.2.1, Nat.le_trans h1 h.2.2.1, Nat.le_trans h.2.2.2.1 h2, h.2.2.2.2⟩
theorem PFit.keys {ps : List Pg} : ∀ {d : Nat} {p : Pg} {lo hi : Int}, PFit ps d p lo hi → Asc p.keys ∧ ∀ k ∈ p.keys, lo ≤ k ∧ k ≤ hi
 |0, _, _, _, h => h.elim
 |1, p, _, _, h => ⟨LeafOk.asc h, LeafOk.rng h⟩
 |d + 2, p, lo, hi, h => by
  obtain ⟨_, h2, h3⟩ := Seg.bounds (fun c l r hc => Fit.le (d := d + 1) hc (by decide)) h.2
  exact ⟨h3, fun k hk => ⟨Int.le_of_lt (h2 k hk).1, (h2 k hk).2⟩⟩
theorem PFit.kidsLen {ps : List Pg} {d : Nat} {p : Pg} {lo hi : Int} (h : PFit ps (d + 2) p lo hi) : p.kids.length = p.keys.length + 1 := Seg.len h.2
theorem PFit.bwLt {ps : List Pg} : ∀ {d : Nat} {p : Pg} {lo hi : Int}, PFit ps d p lo hi → ∀ a ∈ bw ps d p, 0 ≤ a ∧ a < ps.length
 |0, _, _, _, h => h.elim
 |1, p, _, _, h => fun a ha => by simp only [bw, LeafOk.kids h, List.flatMap_nil] at ha; cases ha
 |d + 2, p, lo, hi, h => fun a ha => by
  obtain ⟨c, hc, hac⟩ := List.mem_flatMap.1 ha
  obtain ⟨l, r, hf⟩ := Seg.mem h.2 c hc
  rcases List.mem_cons.1 hac with rfl | hac
  ·exact ⟨hf.1, hf.2.1⟩
  ·exact PFit.bwLt hf.2.2.2.2 a hac
theorem Fit.wkLt {ps : List Pg} {d mn mx : Nat} {a lo hi : Int} (h : Fit ps (d + 1) mn mx a lo hi) : ∀ x ∈ wkF ps (d + 1) a, 0 ≤ x ∧ x < ps.length := fun x hx => by
 rcases List.mem_cons.1 hx with rfl | hx
 ·exact ⟨h.1, h.2.1⟩
 ·exact PFit.bwLt h.2.2.2.2 x hx
theorem mem_bw {ps : List Pg} {d : Nat} {p : Pg} {c x : Int} (hc : c ∈ p.kids) (hx : x ∈ wkF ps d c) : x ∈ bw ps (d + 1) p := List.mem_flatMap.2 ⟨c, hc, hx⟩
theorem self_wk {ps : List Pg} {d : Nat} {a : Int} : a ∈ wkF ps (d + 1) a := List.mem_cons_self
theorem flatMap_congr' {α β : Type} {l : List α} {f g : α → List β} (h : ∀ x ∈ l, f x = g x) : l.flatMap f = l.flatMap g := by
 induction l with
 |nil => rfl
 |cons a t ih => rw [List.flatMap_cons, List.flatMap_cons, h a (by simp), ih fun x hx => h x (List.mem_cons_of_mem _ hx)]
theorem PFit.frame {ps ps' : List Pg} (hl : ps.length ≤ ps'.length) : ∀ {d : Nat} {p : Pg} {lo hi : Int}, PFit ps d p lo hi → (∀ a ∈ bw ps d p, pgAt ps' a = pgAt ps a) →
  PFit ps' d p lo hi ∧ bw ps' d p = bw ps d p ∧ prF ps' d p = prF ps d p
 |0, _, _, _, h, _ => h.elim
 |1, p, _, _, h, _ => ⟨h, by simp only [bw, LeafOk.kids h, List.flatMap_nil], rfl⟩
 |d + 2, p, lo, hi, h, hs => by
  have key : ∀ c ∈ p.kids, ∀ l r, Fit ps (d + 1) 2 4 c l r → pgAt ps' c = pgAt ps c ∧ PFit ps' (d + 1) (pgAt ps c) l r ∧ bw ps' (d + 1) (pgAt ps c) = bw ps (d + 1) (pgAt ps c) ∧ prF ps' (d + 1) (pgAt ps c) = prF ps (d + 1) (pgAt ps c) := fun c hc l r hf =>
   ⟨hs c (mem_bw hc self_wk), PFit.frame hl hf.2.2.2.2 fun a ha => hs a (mem_bw hc (List.mem_cons_of_mem _ ha))⟩
  refine ⟨⟨h.1, Seg.imp (fun c hc l r hf => ?_) h.2⟩, ?_, ?_⟩
  ·obtain ⟨k1, k2, _⟩ := key c hc l r hf
   refine ⟨hf.1, ?_, ?_, ?_, ?_⟩
   ·have := hf.2.1; omega
   ·rw [k1]; exact hf.2.2.1
   ·rw [k1]; exact hf.2.2.2.1
   ·rw [k1]; exact k2
  ·refine flatMap_congr' fun c hc => ?_
   obtain ⟨l, r, hf⟩ := Seg.mem h.2 c hc
   obtain ⟨k1, _, k3, _⟩ := key c hc l r hf
   rw [wkF_bw, wkF_bw, k1, k3]
  ·refine flatMap_congr' fun c hc => ?_
   obtain ⟨l, r, hf⟩ := Seg.mem h.2 c hc
   obtain ⟨k1, _, _, k4⟩ := key c hc l r hf
   rw [k1, k4]
theorem Fit.frame {ps ps' : List Pg} (hl : ps.length ≤ ps'.length) {d mn mx : Nat} {a lo hi : Int} (h : Fit ps (d + 1) mn mx a lo hi) (hs : ∀ x ∈ wkF ps (d + 1) a, pgAt ps' x = pgAt ps x) :
  Fit ps' (d + 1) mn mx a lo hi ∧ wkF ps' (d + 1) a = wkF ps (d + 1) a ∧ prF ps' (d + 1) (pgAt ps' a) = prF ps (d + 1) (pgAt ps a) := by
 have h1 := hs a self_wk
 obtain ⟨k1, k2, k3⟩ := PFit.frame hl h.2.2.2.2 fun x hx => hs x (List.mem_cons_of_mem _ hx)
 refine ⟨⟨h.1, ?_, ?_, ?_, ?_⟩, ?_, ?_⟩
 ·have := h.2.1; omega
 ·rw [h1]; exact h.2.2.1
 ·rw [h1]; exact h.2.2.2.1
 ·rw [h1]; exact k1
 ·rw [wkF_bw, wkF_bw, h1, k2]
 ·rw [h1, k3]
theorem rowF_keys {p : Pg} (h : p.vals.length = p.keys.length) : (rowF p).map Pr.key = p.keys := by
 unfold rowF
 rw [List.map_zipWith]
 generalize p.vals = vs at h
 generalize p.keys = ks at h ⊢
 induction ks generalizing vs with
 |nil => simp
 |cons k ks ih =>
  cases vs with
  |nil => simp at h
  |cons v vs => simp only [List.zipWith_cons_cons, ih vs (by simpa using h)]
theorem rowF_vals {p : Pg} (h : p.vals.length = p.keys.length) : (rowF p).map Pr.value = p.vals := by
 unfold rowF
 rw [List.map_zipWith]
 generalize p.vals = vs at h ⊢
 generalize p.keys = ks at h
 induction ks generalizing vs with
 |nil => cases vs with
  |nil => rfl
  |cons v vs => simp at h
 |cons k ks ih =>
  cases vs with
  |nil => simp at h
  |cons v vs => simp only [List.zipWith_cons_cons, ih vs (by simpa using h)]
theorem rowF_len (p : Pg) (h : p.vals.length = p.keys.length) : (rowF p).length = p.keys.length := by
 rw [← rowF_keys h, List.length_map]
def leafP (row : List Pr) : Pg := ⟨row.map Pr.key, [], row.map Pr.value⟩
theorem rowF_leafP (row : List Pr) : rowF (leafP row) = row := by
 unfold rowF leafP
 induction row with
 |nil => rfl
 |cons a t ih => simp only [List.map_cons, List.zipWith_cons_cons, List.cons.injEq, true_and]; exact ih
theorem leafP_rowF {p : Pg} (h : p.vals.length = p.keys.length) (hk : p.kids = []) : leafP (rowF p) = p := by
 unfold leafP
 rw [rowF_keys h, rowF_vals h, ← hk]
structure RowOk (row : List Pr) (lo hi : Int) : Prop where
 asc : Asc (row.map Pr.key)
 rng : ∀ x ∈ row, lo ≤ x.key ∧ x.key ≤ hi
 vrng : ∀ x ∈ row, -1000 ≤ x.value ∧ x.value ≤ 1000
theorem leafP_ok {row : List Pr} {lo hi : Int} : LeafOk (leafP row) lo hi ↔ RowOk row lo hi := by
 constructor
 ·intro h
  exact ⟨h.asc, fun x hx => h.rng _ (List.mem_map.2 ⟨x, hx, rfl⟩), fun x hx => h.vrng _ (List.mem_map.2 ⟨x, hx, rfl⟩)⟩
 ·intro h
  refine ⟨h.asc, fun k hk => ?_, rfl, by simp [leafP], fun v hv => ?_⟩
  ·obtain ⟨x, hx, rfl⟩ := List.mem_map.1 hk; exact h.rng x hx
  ·obtain ⟨x, hx, rfl⟩ := List.mem_map.1 hv; exact h.vrng x hx
theorem LeafOk.row {p : Pg} {lo hi : Int} (h : LeafOk p lo hi) : RowOk (rowF p) lo hi := by
 rw [← leafP_ok, leafP_rowF h.len h.kids]; exact h
theorem RowOk.append {A B : List Pr} {lo k hi : Int} (hA : RowOk A lo (k - 1)) (hB : RowOk B k hi) (h1 : lo ≤ k) (h2 : k - 1 ≤ hi) : RowOk (A ++ B) lo hi := by
 refine ⟨?_, fun x hx => ?_, fun x hx => ?_⟩
 ·rw [List.map_append]
  refine List.pairwise_append.2 ⟨hA.asc, hB.asc, fun x hx y hy => ?_⟩
  obtain ⟨a, ha, rfl⟩ := List.mem_map.1 hx
  obtain ⟨b, hb, rfl⟩ := List.mem_map.1 hy
  have := hA.rng a ha
  have := hB.rng b hb
  omega
 ·rcases List.mem_append.1 hx with hx | hx
  ·have := hA.rng x hx; omega
  ·have := hB.rng x hx; omega
 ·rcases List.mem_append.1 hx with hx | hx
  ·exact hA.vrng x hx
  ·exact hB.vrng x hx
theorem RowOk.wide {A : List Pr} {lo hi lo' hi' : Int} (h : RowOk A lo hi) (h1 : lo' ≤ lo) (h2 : hi ≤ hi') : RowOk A lo' hi' :=
 ⟨h.asc, fun x hx => by have := h.rng x hx; omega, h.vrng⟩
theorem Seg.row {F : Int → Int → Int → Prop} {g : Int → List Pr} {hi : Int} (hF : ∀ c l r, F c l r → l ≤ r) : ∀ {ks cs : List Int} {lo : Int}, (∀ c ∈ cs, ∀ l r, F c l r → RowOk (g c) l r) → Seg F lo hi ks cs → RowOk (cs.flatMap g) lo hi
 |[], [], _, _, h => h.elim
 |[], [c], _, hg, h => by simpa using hg c (by simp) _ _ h
 |[], _ :: _ :: _, _, _, h => h.elim
 |_ :: _, [], _, _, h => h.elim
 |k :: ks, c :: cs, lo, hg, h => by
  rw [List.flatMap_cons]
  have h1 := hF _ _ _ h.1
  have h2 := (Seg.bounds hF h.2).1
  exact RowOk.append (hg c (by simp) _ _ h.1) (Seg.row hF (fun x hx => hg x (List.mem_cons_of_mem _ hx)) h.2) (by omega) (by omega)
theorem PFit.row {ps : List Pg} : ∀ {d : Nat} {p : Pg} {lo hi : Int}, PFit ps d p lo hi → RowOk (prF ps d p) lo hi
 |0, _, _, _, h => h.elim
 |1, p, _, _, h => LeafOk.row h
 |d + 2, p, lo, hi, h => Seg.row (F := Fit ps (d + 1) 2 4) Fit.le' (fun c _ l r hc => PFit.row hc.2.2.2.2) h.2
structure VT (root : Int) (ps : List Pg) (h : Nat) : Prop where
 l1 : 1 ≤ ps.length
 l16 : ps.length ≤ 16
 h1 : 1 ≤ h
 h3 : h ≤ 3
 fit : Fit ps h (if h = 1 then 0 else 1) 4 root 0 99
 nd : (wkF ps h root).Nodup
 all : (wkF ps h root).length = ps.length
theorem vKeys_iff {xs : List Int} : vKeys xs = true ↔ Asc xs ∧ ∀ k ∈ xs, 0 ≤ k ∧ k ≤ 99 := by
 unfold vKeys
 rw [Bool.and_eq_true, decide_eq_true_eq, List.all_eq_true]
 exact ⟨fun h => ⟨h.1, fun k hk => of_decide_eq_true (h.2 k hk)⟩, fun h => ⟨h.1, fun k hk => decide_eq_true (h.2 k hk)⟩⟩
theorem allB_iff {xs : List Int} {lo hi : Int} : (xs.all fun x => decide (lo ≤ x ∧ x ≤ hi)) = true ↔ ∀ k ∈ xs, lo ≤ k ∧ k ≤ hi := by
 rw [List.all_eq_true]
 exact ⟨fun h k hk => of_decide_eq_true (h k hk), fun h k hk => decide_eq_true (h k hk)⟩
theorem pgF_iff {ps : List Pg} {root : Int} {d : Nat} {a lo hi : Int} : pgF ps root (d + 1) a lo hi = true ↔
  vKeys (pgAt ps a).keys = true ∧ (pgAt ps a).keys.length ≤ 4 ∧ (∀ k ∈ (pgAt ps a).keys, lo ≤ k ∧ k ≤ hi) ∧ (a = root ∨ 2 ≤ (pgAt ps a).keys.length) ∧
  (if d = 0 then (pgAt ps a).kids = [] ∧ (pgAt ps a).vals.length = (pgAt ps a).keys.length ∧ ∀ v ∈ (pgAt ps a).vals, -1000 ≤ v ∧ v ≤ 1000
   else 1 ≤ (pgAt ps a).keys.length ∧ (pgAt ps a).vals = [] ∧ (pgAt ps a).kids.length = (pgAt ps a).keys.length + 1 ∧ (∀ k ∈ (pgAt ps a).kids, 0 ≤ k ∧ k < ps.length) ∧
    Seg (fun c l r => pgF ps root d c l r = true) lo hi (pgAt ps a).keys (pgAt ps a).kids) := by
 rw [pgF]
 by_cases g1 : vKeys (pgAt ps a).keys = false
 ·rw [if_pos g1, g1]; simp
 rw [if_neg g1]
 rw [Bool.not_eq_false] at g1
 by_cases g2 : 4 < (pgAt ps a).keys.length
 ·rw [if_pos g2]; simp only [Bool.false_eq_true, false_iff]; intro h; omega
 rw [if_neg g2]
 by_cases g3 : ((pgAt ps a).keys.all fun x => decide (lo ≤ x ∧ x ≤ hi)) = false
 ·rw [if_pos g3]; simp only [Bool.false_eq_true, false_iff]; intro h
  rw [allB_iff.2 h.2.2.1] at g3; cases g3
 rw [if_neg g3]
 rw [Bool.not_eq_false, allB_iff] at g3
 by_cases g4 : a ≠ root ∧ (pgAt ps a).keys.length < 2
 ·rw [if_pos g4]; simp only [Bool.false_eq_true, false_iff]; intro h
  rcases h.2.2.2.1 with h | h
  ·exact g4.1 h
  ·omega
 rw [if_neg g4]
 have g4' : a = root ∨ 2 ≤ (pgAt ps a).keys.length := by
  by_cases e : a = root
  ·exact .inl e
  ·exact .inr (by have := fun h => g4 ⟨e, h⟩; omega)
 by_cases g5 : d = 0
 ·rw [if_pos g5, if_pos g5]
  by_cases g6 : (pgAt ps a).kids.length ≠ 0
  ·rw [if_pos g6]; simp only [Bool.false_eq_true, false_iff]; intro h
   rw [h.2.2.2.2.1] at g6; exact g6 rfl
  rw [if_neg g6]
  have g6 := List.eq_nil_of_length_eq_zero (Decidable.of_not_not g6)
  by_cases g7 : (pgAt ps a).vals.length ≠ (pgAt ps a).keys.length
  ·rw [if_pos g7]; simp only [Bool.false_eq_true, false_iff]; intro h
   exact g7 h.2.2.2.2.2.1
  rw [if_neg g7, allB_iff]
  exact ⟨fun h => ⟨g1, by omega, g3, g4', g6, Decidable.of_not_not g7, h⟩, fun h => h.2.2.2.2.2.2⟩
 rw [if_neg g5, if_neg g5]
 by_cases g6 : (pgAt ps a).keys.length = 0
 ·rw [if_pos g6]; simp only [Bool.false_eq_true, false_iff]; intro h
  have := h.2.2.2.2.1; omega
 rw [if_neg g6]
 by_cases g7 : (pgAt ps a).vals.length ≠ 0
 ·rw [if_pos g7]; simp only [Bool.false_eq_true, false_iff]; intro h
  rw [h.2.2.2.2.2.1] at g7; exact g7 rfl
 rw [if_neg g7]
 have g7 := List.eq_nil_of_length_eq_zero (Decidable.of_not_not g7)
 by_cases g8 : (pgAt ps a).kids.length ≠ (pgAt ps a).keys.length + 1
 ·rw [if_pos g8]; simp only [Bool.false_eq_true, false_iff]; intro h
  exact g8 h.2.2.2.2.2.2.1
 rw [if_neg g8]
 have g8 := Decidable.of_not_not g8
 by_cases g9 : ((pgAt ps a).kids.all fun x => decide (0 ≤ x ∧ x ≤ (ps.length : Int) - 1)) = false
 ·rw [if_pos g9]; simp only [Bool.false_eq_true, false_iff]; intro h
  rw [allB_iff.2 (fun k hk => by have := h.2.2.2.2.2.2.2.1 k hk; omega)] at g9; cases g9
 rw [if_neg g9]
 rw [Bool.not_eq_false, allB_iff] at g9
 rw [Seg_iff g8, List.all_eq_true]
 exact ⟨fun h => ⟨g1, by omega, g3, g4', by omega, g7, g8, fun k hk => by have := g9 k hk; omega, fun i hi => h i (List.mem_range.2 hi)⟩, fun h i hi => h.2.2.2.2.2.2.2.2 i (List.mem_range.1 hi)⟩
theorem pgF_fit {ps : List Pg} {root : Int} : ∀ {d : Nat} {a lo hi : Int}, pgF ps root d a lo hi = true → 0 ≤ a → a < ps.length → (∀ x ∈ bw ps d (pgAt ps a), x ≠ root) →
  Fit ps d (if a = root then (if d = 1 then 0 else 1) else 2) 4 a lo hi
 |0, _, _, _, h, _, _, _ => by cases h
 |1, a, lo, hi, h, h0, h1, hr => by
  obtain ⟨g1, g2, g3, g4, g5⟩ := pgF_iff.1 h
  rw [if_pos rfl] at g5
  refine ⟨h0, h1, ?_, g2, (vKeys_iff.1 g1).1, g3, g5.1, g5.2.1, g5.2.2⟩
  split
  ·simp
  ·rename_i e; exact g4.resolve_left e
 |d + 2, a, lo, hi, h, h0, h1, hr => by
  obtain ⟨g1, g2, g3, g4, g5⟩ := pgF_iff.1 h
  rw [if_neg (by omega)] at g5
  obtain ⟨k1, k2, k3, k4, k5⟩ := g5
  refine ⟨h0, h1, ?_, g2, k2, Seg.imp (fun c hc l r hp => ?_) k5⟩
  ·split
   ·rw [if_neg (by omega)]; exact k1
   ·rename_i e; exact g4.resolve_left e
  ·have := pgF_fit (d := d + 1) hp (k4 c hc).1 (k4 c hc).2 fun x hx => hr x (mem_bw hc (List.mem_cons_of_mem _ hx))
   rwa [if_neg (hr c (mem_bw hc self_wk))] at this
theorem fit_pgF {ps : List Pg} {root : Int} : ∀ {d mn : Nat} {a lo hi : Int}, Fit ps d mn 4 a lo hi → 0 ≤ lo → hi ≤ 99 → (a = root ∨ 2 ≤ mn) → (2 ≤ d → 1 ≤ mn) → pgF ps root d a lo hi = true
 |0, _, _, _, _, h, _, _, _, _ => h.2.2.2.2.elim
 |1, mn, a, lo, hi, h, h0, h1, h2, h3 => by
  obtain ⟨f1, f2, f3, f4, f5⟩ := h
  refine pgF_iff.2 ⟨vKeys_iff.2 ⟨LeafOk.asc f5, fun k hk => by have := LeafOk.rng f5 k hk; omega⟩, f4, LeafOk.rng f5, h2.imp id fun h => by omega, ?_⟩
  rw [if_pos rfl]; exact ⟨LeafOk.kids f5, LeafOk.len f5, LeafOk.vrng f5⟩
 |d + 2, mn, a, lo, hi, h, h0, h1, h2, h3 => by
  obtain ⟨f1, f2, f3, f4, f5⟩ := h
  obtain ⟨b1, b2⟩ := PFit.keys f5
  obtain ⟨b3, b4, _⟩ := Seg.bounds (F := Fit ps (d + 1) 2 4) Fit.le' f5.2
  have := h3 (by omega)
  refine pgF_iff.2 ⟨vKeys_iff.2 ⟨b1, fun k hk => by have := b2 k hk; omega⟩, f4, b2, h2.imp id fun h => by omega, ?_⟩
  rw [if_neg (by omega)]
  refine ⟨by omega, f5.1, PFit.kidsLen f5, fun k hk => ?_, ?_⟩
  ·obtain ⟨l, r, hf⟩ := Seg.mem f5.2 k hk; exact ⟨hf.1, hf.2.1⟩
  ·
   have key : ∀ {ks cs : List Int} {l : Int}, lo ≤ l → Seg (Fit ps (d + 1) 2 4) l hi ks cs → Seg (fun c l r => pgF ps root (d + 1) c l r = true) l hi ks cs := by
    intro ks
    induction ks with
    |nil =>
     intro cs l hl hs
     match cs, hs with
     |[c], hs => exact fit_pgF (d := d + 1) hs (by omega) h1 (.inr (Nat.le_refl _)) fun _ => by omega
    |cons k ks ih =>
     intro cs l hl hs
     match cs, hs with
     |c :: cs, hs =>
      have q1 := Fit.le' _ _ _ hs.1
      have q2 := (Seg.bounds Fit.le' hs.2).1
      exact ⟨fit_pgF (d := d + 1) hs.1 (by omega) (by omega) (.inr (Nat.le_refl _)) fun _ => by omega, ih (by omega) hs.2⟩
   exact key (Int.le_refl _) f5.2
theorem Fit.height {ps : List Pg} : ∀ {d mn mx f : Nat} {a lo hi n : Int}, Fit ps d mn mx a lo hi → d ≤ f + 1 → hgF ps f a n = n + d - 1
 |0, _, _, _, _, _, _, _, h, _ => h.2.2.2.2.elim
 |1, mn, mx, f, a, lo, hi, n, h, hd => by
  cases f with
  |zero => simp only [hgF]; omega
  |succ f =>
   rw [hg_stop (.inr (by rw [LeafOk.kids h.2.2.2.2]; simp))]
   omega
 |d + 2, mn, mx, f, a, lo, hi, n, h, hd => by
  cases f with
  |zero => omega
  |succ f =>
   have hl := PFit.kidsLen h.2.2.2.2
   have h0 := h.1
   have h1 := h.2.1
   rw [hg_step (by omega) (by show 0 < (pgAt ps a).kids.length; omega)]
   obtain ⟨l, r, hc⟩ := Seg.mem h.2.2.2.2.2 ((pgAt ps a).kids.getD 0 0) (by
    have hh : 0 < (pgAt ps a).kids.length := by omega
    have e : (pgAt ps a).kids.getD 0 0 = (pgAt ps a).kids[0] := by rw [List.getD_eq_getElem?_getD, List.getElem?_eq_getElem hh]; rfl
    rw [e]; exact List.getElem_mem hh)
   have := Fit.height (d := d + 1) (f := f) (n := n + 1) hc (by omega)
   show hgF ps f ((pgAt ps a).kids.getD 0 0) (n + 1) = _
   rw [this]; omega
theorem VT.hg {root : Int} {ps : List Pg} {h : Nat} (v : VT root ps h) : hgF ps 3 root 1 = h := by
 have := v.h3
 rw [v.fit.height (by omega)]; omega
theorem VT.uniq {root : Int} {ps : List Pg} {h h' : Nat} (v : VT root ps h) (v' : VT root ps h') : h = h' := by
 have := v.hg; have := v'.hg; omega
theorem vTree_iff {root : Int} {ps : List Pg} : vTree root ps = true ↔ ∃ h, VT root ps h := by
 constructor
 ·intro h
  unfold vTree at h
  repeat' split at h
  all_goals first | (cases h; done) | skip
  rename_i g1 g2 g3 g4 g5
  rw [Bool.not_eq_false] at g4
  have g1 := Decidable.of_not_not g1
  have g2 := Decidable.of_not_not g2
  have g5 := Decidable.of_not_not g5
  have hb := hg_b (ps := ps) 3 (at_ := root) (n := 1)
  generalize hH : (hgF ps 3 root 1).toNat = H at *
  have hH1 : 1 ≤ H ∧ H ≤ 3 := by omega
  obtain ⟨d, rfl⟩ : ∃ d, H = d + 1 := ⟨H - 1, by omega⟩
  have hf := pgF_fit g4 g2.1 (by omega) (fun x hx e => by
   rw [wkF_bw, List.nodup_cons] at g5
   exact g5.1 (e ▸ hx))
  rw [if_pos rfl] at hf
  exact ⟨d + 1, by omega, by omega, by omega, by omega, hf, g5, of_decide_eq_true h⟩
 ·rintro ⟨h, v⟩
  have hg := v.hg
  have l1 := v.l1
  have l16 := v.l16
  have h1 := v.h1
  have h3 := v.h3
  have f1 := v.fit.1
  have f2 := v.fit.2.1
  obtain ⟨d, rfl⟩ : ∃ d, h = d + 1 := ⟨h - 1, by omega⟩
  have := vT_6 (V := vTree root ps) rfl (d := d) (by rw [hg]; rfl) (by omega) (by omega) (by omega)
   (fit_pgF v.fit (by omega) (by omega) (.inl rfl) fun hd => by rw [if_neg (by omega)]; omega) v.nd
  rw [this, v.all]; simp
end Go.VL
