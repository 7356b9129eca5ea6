/- V-logic, part 23: operations in another order. -/
import Derived.Test.YtkdgodkamaicjaaVSound20
namespace Go.VL
set_option linter.unusedVariables false
set_option linter.unusedSimpArgs false
section
variable {P : Program} {T : TT} {ops : List Oper}

/-- what the operations of M do, in the text's order -/
def fo (nx0 : Nat) (M : Nat → Bool) : List (Oper × Ef) → Nat → S → S
  | [], _, s => s
  | (o, e) :: t, i, s => fo nx0 M t (i + 1) (match M i with | true => e.apply (nx0 + i) o.dst s | false => s)

def Runs (T : TT) (P : Program) (o : Oper) (s : S) (e : Ef) : Prop :=
  ∀ (ev' : Operand → V) (lk' : Nat → Option O) (K' : Ef → Prop), Same o (evl s.env) ev' (lookH s.hp) lk' → (∀ i ∈ e.rds, lk' i = lookH s.hp i) → K' e → vd T P o ev' lk' K'

/-- in s the operation does e -/
def Step (T : TT) (P : Program) (ops : List Oper) (o : Oper) (s : S) (e : Ef) : Prop :=
  match o.guard with
  | none => Runs T P o s e
  | some (j, want) => ∃ d, slotOf ops j = some d ∧
    ((look s.env d = .tt ∧ (match want with | true => Runs T P o s e | false => e = .val (.tup []))) ∨
     (look s.env d = .ff ∧ (match want with | true => e = .val (.tup []) | false => Runs T P o s e)) ∨
     ((∃ vs, look s.env d = .tup vs) ∧ e = .val (.tup [])))

def Steps (T : TT) (P : Program) (ops : List Oper) (nx0 : Nat) : List (Oper × Ef) → Nat → S → Prop
  | [], _, _ => True
  | (o, e) :: t, i, s => Step T P ops o s e ∧ Steps T P ops nx0 t (i + 1) (e.apply (nx0 + i) o.dst s)

def recs (ops : List Oper) (nx0 : Nat) : List (Oper × Ef) → Nat → S → List Rec
  | [], _, _ => []
  | (o, e) :: t, i, s => recOf ops (nx0 + i) o (evl s.env) e :: recs ops nx0 t (i + 1) (e.apply (nx0 + i) o.dst s)

theorem applyM_eq (k : Nat) (dst : Option Nat) (e : Ef) (s : S) : e.applyM k dst s = e.apply k dst s := by cases s; cases e <;> rfl

theorem vds_run {nx0 : Nat} {K : S → List Rec → Prop} (rest : List Oper) : ∀ {i : Nat} {s : S} {rs : List Rec}, vds T P ops nx0 rest i s rs K →
    ∃ E : List (Oper × Ef), E.map (·.1) = rest ∧ Steps T P ops nx0 E i s ∧ K (fo nx0 (fun _ => true) E i s) (rs ++ recs ops nx0 E i s) := by
  induction rest with
  | nil => intro i s rs h; exact ⟨[], rfl, trivial, by simpa [recs, fo, vds] using h⟩
  | cons o t ih =>
    intro i s rs h
    have next : ∀ e : Ef, Step T P ops o s e → vds T P ops nx0 t (i + 1) (e.apply (nx0 + i) o.dst s) (rs ++ [recOf ops (nx0 + i) o (evl s.env) e]) K →
        ∃ E : List (Oper × Ef), E.map (·.1) = o :: t ∧ Steps T P ops nx0 E i s ∧ K (fo nx0 (fun _ => true) E i s) (rs ++ recs ops nx0 E i s) := by
      intro e hs hk
      obtain ⟨E, h1, h2, h3⟩ := ih hk
      exact ⟨(o, e) :: E, by simp [h1], ⟨hs, h2⟩, by simpa [recs, fo] using h3⟩
    have run : vd T P o (evl s.env) (lookH s.hp) (fun e => (e.apply (nx0 + i) o.dst s).force fun s' => vds T P ops nx0 t (i + 1) s' (rs ++ [recOf ops (nx0 + i) o (evl s.env) e]) K) →
        ∃ e, Runs T P o s e ∧ vds T P ops nx0 t (i + 1) (e.apply (nx0 + i) o.dst s) (rs ++ [recOf ops (nx0 + i) o (evl s.env) e]) K := fun h => by
      obtain ⟨e, h1, h2⟩ := vd_det h
      rw [S.force_eq] at h1
      exact ⟨e, h2, h1⟩
    simp only [vds, applyM_eq] at h
    split at h
    · rename_i hg
      obtain ⟨e, h1, h2⟩ := run h
      exact next e (by unfold Step; rw [hg]; exact h1) h2
    · rename_i j want hg
      split at h
      · exact h.elim
      · rename_i d hd
        split at h
        · rename_i hl
          cases want with
          | true =>
            obtain ⟨e, h1, h2⟩ := run h
            exact next e (by unfold Step; rw [hg]; exact ⟨d, hd, .inl ⟨hl, h1⟩⟩) h2
          | false =>
            rw [S.force_eq] at h
            exact next _ (by unfold Step; rw [hg]; exact ⟨d, hd, .inl ⟨hl, rfl⟩⟩) h
        · rename_i hl
          cases want with
          | true =>
            rw [S.force_eq] at h
            exact next _ (by unfold Step; rw [hg]; exact ⟨d, hd, .inr (.inl ⟨hl, rfl⟩)⟩) h
          | false =>
            obtain ⟨e, h1, h2⟩ := run h
            exact next e (by unfold Step; rw [hg]; exact ⟨d, hd, .inr (.inl ⟨hl, h1⟩)⟩) h2
        · rename_i vs hl
          rw [S.force_eq] at h
          exact next _ (by unfold Step; rw [hg]; exact ⟨d, hd, .inr (.inr ⟨⟨vs, hl⟩, rfl⟩)⟩) h
        · exact h.elim

theorem fo_none {nx0 : Nat} {M : Nat → Bool} (E : List (Oper × Ef)) : ∀ {i : Nat} {s : S}, (∀ j, i ≤ j → M j = false) → fo nx0 M E i s = s := by
  induction E with
  | nil => intro i s _; rfl
  | cons x t ih =>
    obtain ⟨o, e⟩ := x
    intro i s h
    simp only [fo, h i (Nat.le_refl i)]
    exact ih fun j hj => h j (by omega)

theorem fo_congr {nx0 : Nat} {M M' : Nat → Bool} (E : List (Oper × Ef)) : ∀ {i : Nat} {s : S}, (∀ j, i ≤ j → j < i + E.length → M j = M' j) → fo nx0 M E i s = fo nx0 M' E i s := by
  induction E with
  | nil => intro i s _; rfl
  | cons x t ih =>
    obtain ⟨o, e⟩ := x
    intro i s h
    simp only [List.length_cons] at h
    simp only [fo, h i (Nat.le_refl i) (by omega)]
    exact ih fun j hj hj2 => h j (by omega) (by omega)

theorem steps_get {nx0 : Nat} (E : List (Oper × Ef)) : ∀ {i k : Nat} {s : S} {o : Oper} {e : Ef}, Steps T P ops nx0 E i s → E[k]? = some (o, e) →
    Step T P ops o (fo nx0 (fun j => decide (j < i + k)) E i s) e ∧ (recs ops nx0 E i s)[k]? = some (recOf ops (nx0 + (i + k)) o (evl (fo nx0 (fun j => decide (j < i + k)) E i s).env) e) := by
  induction E with
  | nil => intro i k s o e _ h; simp at h
  | cons x t ih =>
    obtain ⟨o', e'⟩ := x
    intro i k s o e hs hk
    cases k with
    | zero =>
      simp only [List.getElem?_cons_zero, Option.some.injEq, Prod.mk.injEq] at hk
      obtain ⟨rfl, rfl⟩ := hk
      have h0 : fo nx0 (fun j => decide (j < i + 0)) ((o', e') :: t) i s = s := fo_none _ fun j hj => by simp; omega
      rw [h0]
      exact ⟨hs.1, rfl⟩
    | succ k =>
      have := ih hs.2 (by simpa using hk)
      have h1 : fo nx0 (fun j => decide (j < i + (k + 1))) ((o', e') :: t) i s = fo nx0 (fun j => decide (j < i + 1 + k)) t (i + 1) (e'.apply (nx0 + i) o'.dst s) := by
        simp only [fo]
        rw [show decide (i < i + (k + 1)) = true by simp]
        exact fo_congr t fun j _ _ => by rw [show i + (k + 1) = i + 1 + k by omega]
      rw [h1]
      refine ⟨this.1, ?_⟩
      simp only [recs, List.getElem?_cons_succ]
      rw [this.2, show i + (k + 1) = i + 1 + k by omega]

theorem pairsOk_get {n : Nat} {ms : List Nat} (rs : List Rec) : ∀ {j0 : Nat} {seen : List (Nat × Rec)}, pairsOk n ms rs j0 seen = true → ∀ k r, rs[k]? = some r →
    r.own n = true ∧ (∀ p ∈ seen, pairOk ((ms.getD (j0 + k) 0).testBit p.1) p.2 r = true) ∧ ∀ k' r', k' < k → rs[k']? = some r' → pairOk ((ms.getD (j0 + k) 0).testBit (j0 + k')) r' r = true := by
  induction rs with
  | nil => intro j0 seen _ k r h; simp at h
  | cons x t ih =>
    intro j0 seen h k r hk
    simp only [pairsOk] at h
    split at h
    · rename_i hc
      simp only [Bool.and_eq_true, List.all_eq_true] at hc
      cases k with
      | zero =>
        simp only [List.getElem?_cons_zero, Option.some.injEq] at hk
        subst hk
        exact ⟨hc.1, hc.2, fun k' r' hlt => by omega⟩
      | succ k =>
        obtain ⟨h1, h2, h3⟩ := ih h k r (by simpa using hk)
        have e1 : j0 + (k + 1) = j0 + 1 + k := by omega
        refine ⟨h1, fun p hp => by rw [e1]; exact h2 p (List.mem_append_left _ hp), fun k' r' hlt hk' => ?_⟩
        cases k' with
        | zero =>
          simp only [List.getElem?_cons_zero, Option.some.injEq] at hk'
          subst hk'
          rw [e1]; exact h2 (j0, x) (List.mem_append_right _ List.mem_cons_self)
        | succ k' =>
          have := h3 k' r' (by omega) (by simpa using hk')
          rw [e1, show j0 + (k' + 1) = j0 + 1 + k' by omega]; exact this
    · cases h

theorem meets_false {l l' : List Nat} (h : meets l l' = false) : ∀ x ∈ l, x ∉ l' := by
  induction l with
  | nil => intro x hx; cases hx
  | cons a t ih =>
    simp only [meets] at h
    split at h
    · cases h
    · rename_i hm
      intro x hx
      rcases List.mem_cons.1 hx with hx | hx
      · subst hx; intro hc; rw [memN_iff.2 hc] at hm; cases hm
      · exact ih h x hx

theorem allLt_get {n : Nat} {l : List Nat} (h : allLt n l = true) : ∀ x ∈ l, x < n := by
  induction l with
  | nil => intro x hx; cases hx
  | cons a t ih =>
    simp only [allLt] at h
    split at h
    · rename_i h1
      intro x hx
      rcases List.mem_cons.1 hx with hx | hx
      · subst hx; simpa using h1
      · exact ih h x hx
    · cases h

/-! masks -/
theorem maskOf_bit {after : List Edge} {acc : List Nat} {j : Nat} (h : (maskOf after acc).testBit j = true) : ∃ e ∈ after, Region.binds .any e = true ∧ (j = e.on ∨ (acc.getD e.on 0).testBit j = true) := by
  induction after with
  | nil => simp [maskOf] at h
  | cons e t ih =>
    simp only [maskOf] at h
    split at h
    · rename_i hb
      rw [Nat.testBit_or, Nat.testBit_or, Bool.or_eq_true, Bool.or_eq_true] at h
      rcases h with (h | h) | h
      · rw [Nat.testBit_two_pow] at h
        exact ⟨e, List.mem_cons_self, hb, .inl (by simpa using h : e.on = j).symm⟩
      · exact ⟨e, List.mem_cons_self, hb, .inr h⟩
      · obtain ⟨e', h1, h2⟩ := ih h
        exact ⟨e', List.mem_cons_of_mem _ h1, h2⟩
    · obtain ⟨e', h1, h2⟩ := ih h
      exact ⟨e', List.mem_cons_of_mem _ h1, h2⟩

theorem masks_prefix (t : List Oper) : ∀ {acc : List Nat} {i : Nat}, i < acc.length → (masks t acc).getD i 0 = acc.getD i 0 := by
  induction t with
  | nil => intro acc i _; rfl
  | cons o t ih =>
    intro acc i hi
    simp only [masks]
    rw [ih (by simp; omega)]
    simp [List.getD_eq_getElem?_getD, List.getElem?_append_left hi]

theorem masks_up (t : List Oper) {acc : List Nat} {i j : Nat} (h : (acc.getD i 0).testBit j = true) : ((masks t acc).getD i 0).testBit j = true := by
  by_cases c : i < acc.length
  · rw [masks_prefix t c]; exact h
  · rw [List.getD_eq_getElem?_getD, List.getElem?_eq_none (by omega)] at h
    simp at h

theorem masks_bit (t : List Oper) : ∀ {acc : List Nat} {k j : Nat} {o : Oper}, t[k]? = some o → ((masks t acc).getD (acc.length + k) 0).testBit j = true →
    ∃ e ∈ o.after.toList, Region.binds .any e = true ∧ (j = e.on ∨ ((masks t acc).getD e.on 0).testBit j = true) := by
  induction t with
  | nil => intro acc k j o h; simp at h
  | cons x t ih =>
    intro acc k j o hk hb
    simp only [masks] at hb ⊢
    cases k with
    | zero =>
      simp only [List.getElem?_cons_zero, Option.some.injEq] at hk
      subst hk
      rw [masks_prefix t (by simp)] at hb
      simp only [Nat.add_zero, List.getD_eq_getElem?_getD, List.getElem?_concat_length, Option.getD_some] at hb
      obtain ⟨e, h1, h2, h3⟩ := maskOf_bit hb
      refine ⟨e, h1, h2, h3.imp id fun h3 => masks_up t ?_⟩
      by_cases c : e.on < acc.length
      · rw [List.getD_eq_getElem?_getD, List.getElem?_append_left c, ← List.getD_eq_getElem?_getD]; exact h3
      · rw [List.getD_eq_getElem?_getD, List.getElem?_eq_none (by omega)] at h3
        simp at h3
    | succ k =>
      have e1 : acc.length + (k + 1) = (acc ++ [maskOf x.after.toList acc]).length + k := by simp; omega
      rw [e1] at hb
      exact ih (by simpa using hk) hb

theorem edgesOk_get (l : List Oper) : ∀ {i : Nat}, edgesOk l i = true → ∀ k o, l[k]? = some o → ∀ e ∈ o.after.toList, Region.binds .any e = true → e.on < i + k := by
  induction l with
  | nil => intro i _ k o h; simp at h
  | cons x t ih =>
    intro i h k o hk e he hb
    simp only [edgesOk] at h
    split at h
    · rename_i hc
      cases k with
      | zero =>
        simp only [List.getElem?_cons_zero, Option.some.injEq] at hk
        subst hk
        have := List.all_eq_true.1 hc e he
        rw [hb] at this
        simpa using this
      | succ k => have := ih h k o (by simpa using hk) e he hb; omega
    · cases h

theorem dstsOk_get {nt : Nat} (l : List Oper) (h : dstsOk nt l = true) : ∀ o ∈ l, ∀ d, o.dst = some d → d < nt := by
  induction l with
  | nil => intro o ho; cases ho
  | cons x t ih =>
    simp only [dstsOk] at h
    intro o ho d hd
    rcases List.mem_cons.1 ho with ho | ho
    · subst ho
      rw [hd] at h
      simp only at h
      split at h
      · rename_i h1; simpa using h1
      · cases h
    · refine ih ?_ o ho d hd
      split at h
      · exact h
      · split at h
        · exact h
        · cases h

/-- closed: with an operation all that it waits for -/
def Closed (ops : List Oper) (M : Nat → Bool) : Prop := ∀ k o, M k = true → ops[k]? = some o → ∀ e ∈ o.after.toList, Region.binds .any e = true → M e.on = true

theorem closed_mask {M : Nat → Bool} (hE : edgesOk ops 0 = true) (hM : Closed ops M) : ∀ (k : Nat) (o : Oper) (j : Nat), ops[k]? = some o → (∀ e ∈ o.after.toList, Region.binds .any e = true → M e.on = true) →
    ((masks ops []).getD k 0).testBit j = true → M j = true := by
  intro k
  induction k using Nat.strongRecOn with
  | _ k ih =>
    intro o j ho ha hb
    obtain ⟨e, h1, h2, h3⟩ := masks_bit ops (acc := []) (k := k) ho (by simpa using hb)
    rcases h3 with h3 | h3
    · rw [h3]; exact ha e h1 h2
    · have hlt : e.on < k := by have := edgesOk_get ops hE k o ho e h1 h2; omega
      have hk : k < ops.length := (List.getElem?_eq_some_iff.1 ho).1
      exact ih e.on hlt _ j (List.getElem?_eq_getElem (by omega)) (hM _ _ (ha e h1 h2) (List.getElem?_eq_getElem (by omega))) h3
end
end Go.VL
