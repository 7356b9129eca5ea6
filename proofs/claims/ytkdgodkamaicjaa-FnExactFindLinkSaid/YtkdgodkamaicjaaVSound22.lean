/- V-logic, part 24: operations that do not touch each other. -/
import Derived.Test.YtkdgodkamaicjaaVSound21
namespace Go.VL
section
variable {P : Program} {T : TT} {ops : List Oper}

theorem lookH_setH' (hp : List (Nat × O)) (id : Nat) (ob : O) (i : Nat) : lookH (setH hp id ob) i = if id = i then (lookH hp i).map (fun _ => ob) else lookH hp i := by
  induction hp with
  | nil => simp [setH, lookH]
  | cons x t ih =>
    obtain ⟨k, v⟩ := x
    simp only [setH]
    cases hk : Nat.beq k id with
    | true =>
      have hk := Nat.eq_of_beq_eq_true hk
      subst hk
      simp only [lookH_cons]
      by_cases c : k = i
      · simp [c]
      · simp [c]
    | false =>
      have hk := Nat.ne_of_beq_eq_false hk
      simp only [lookH_cons, ih]
      by_cases c : k = i
      · rw [if_pos c, if_neg (fun e => hk (c.trans e.symm)), if_pos c]
      · rw [if_neg c, if_neg c]

/-- a slot behind the operation -/
def Ef.lk (k : Nat) (dst : Option Nat) (e : Ef) (j : Nat) (v : V) : V :=
  if dst = some j then e.val? k else match e with | .app id _ => v.forget id | _ => v
/-- an object behind it -/
def Ef.lh (k : Nat) (e : Ef) (i : Nat) (x : Option O) : Option O :=
  match e with
  | .val _ => x
  | .set _ id ob => if id = i then x.map (fun _ => ob) else x
  | .new _ _ ob => if k = i then some ob else x
  | .app id z => if id = i then x.map (fun _ => z) else x.map (O.map (forgetL id))

theorem look_apply (k : Nat) (dst : Option Nat) (e : Ef) (s : S) (j : Nat) : look (e.apply k dst s).env j = e.lk k dst j (look s.env j) := by
  cases e with
  | app id z =>
    simp only [Ef.apply, Ef.lk, look_setD, Ef.val?]
    rw [look_mapE _ rfl]
  | _ => simp only [Ef.apply, Ef.lk, look_setD, Ef.val?]

theorem lookH_apply (k : Nat) (dst : Option Nat) (e : Ef) (s : S) (i : Nat) : lookH (e.apply k dst s).hp i = e.lh k i (lookH s.hp i) := by
  cases e with
  | val v => rfl
  | set v id ob => simp only [Ef.apply, Ef.lh, lookH_setH']
  | new st hst ob => simp only [Ef.apply, Ef.lh, lookH_cons]
  | app id z =>
    simp only [Ef.apply, Ef.lh, lookH_setH', lookH_mapH]
    split <;> simp [Option.map_map]
    rfl

/-- the same, but for the order of the heap -/
structure Eq0 (s s' : S) : Prop where
  nt : s.nt = s'.nt
  nx : s.nx = s'.nx
  env : ∀ j, look s.env j = look s'.env j
  hp : ∀ i, lookH s.hp i = lookH s'.hp i

theorem apply_nt (k : Nat) (dst : Option Nat) (e : Ef) (s : S) : (e.apply k dst s).nt = s.nt ∧ (e.apply k dst s).nx = s.nx := by cases e <;> exact ⟨rfl, rfl⟩
theorem Eq0.refl (s : S) : Eq0 s s := ⟨rfl, rfl, fun _ => rfl, fun _ => rfl⟩
theorem Eq0.trans {s s' s'' : S} (h : Eq0 s s') (k : Eq0 s' s'') : Eq0 s s'' := ⟨h.nt.trans k.nt, h.nx.trans k.nx, fun j => (h.env j).trans (k.env j), fun j => (h.hp j).trans (k.hp j)⟩
theorem Eq0.apply {s s' : S} (h : Eq0 s s') (k : Nat) (dst : Option Nat) (e : Ef) : Eq0 (e.apply k dst s) (e.apply k dst s') :=
  ⟨by rw [(apply_nt k dst e s).1, (apply_nt k dst e s').1, h.nt], by rw [(apply_nt k dst e s).2, (apply_nt k dst e s').2, h.nx], fun j => by rw [look_apply, look_apply, h.env], fun j => by rw [lookH_apply, lookH_apply, h.hp]⟩

theorem fo_eq0 {nx0 : Nat} {M : Nat → Bool} (E : List (Oper × Ef)) : ∀ {i : Nat} {s s' : S}, Eq0 s s' → Eq0 (fo nx0 M E i s) (fo nx0 M E i s') := by
  induction E with
  | nil => intro i s s' h; exact h
  | cons x t ih =>
    obtain ⟨o, e⟩ := x
    intro i s s' h
    simp only [fo]
    cases M i with
    | true => exact ih (h.apply _ _ _)
    | false => exact ih h

/-- two operations of which neither minds the other -/
structure Comm (k : Nat) (dst : Option Nat) (e : Ef) (k' : Nat) (dst' : Option Nat) (e' : Ef) : Prop where
  dst : ∀ d, dst = some d → dst' ≠ some d
  t1 : e.tot = false
  t2 : e'.tot = false
  wr : ∀ x ∈ e.wr, x ∉ e'.wr
  n1 : ∀ x ∈ e.nw k, x ∉ e'.wr ∧ x ∉ e'.nw k'
  n2 : ∀ x ∈ e'.nw k', x ∉ e.wr

theorem Comm.swap {k k' : Nat} {dst dst' : Option Nat} {e e' : Ef} (h : Comm k dst e k' dst' e') (s : S) : Eq0 (e.apply k dst (e'.apply k' dst' s)) (e'.apply k' dst' (e.apply k dst s)) := by
  refine ⟨by rw [(apply_nt _ _ _ _).1, (apply_nt _ _ _ _).1, (apply_nt _ _ _ _).1, (apply_nt _ _ _ _).1], by rw [(apply_nt _ _ _ _).2, (apply_nt _ _ _ _).2, (apply_nt _ _ _ _).2, (apply_nt _ _ _ _).2], fun j => ?_, fun i => ?_⟩
  · rw [look_apply, look_apply, look_apply, look_apply]
    have h1 := h.t1
    have h2 := h.t2
    have hd := h.dst
    cases e <;> cases e' <;> simp only [Ef.lk] <;> by_cases c : dst = some j <;> by_cases c' : dst' = some j <;> first
      | (simp [Ef.tot] at h1; done)
      | (simp [Ef.tot] at h2; done)
      | exact absurd c' (hd j c)
      | simp [c, c']
  · rw [lookH_apply, lookH_apply, lookH_apply, lookH_apply]
    have h1 := h.t1
    have h2 := h.t2
    have hw := h.wr
    have hn1 := h.n1
    have hn2 := h.n2
    cases e <;> cases e' <;> simp only [Ef.lh] <;> simp only [Ef.wr, Ef.nw, List.mem_singleton, forall_eq] at hw hn1 hn2 <;> first
      | (simp [Ef.tot] at h1; done)
      | (simp [Ef.tot] at h2; done)
      | rfl
      | (rename_i id ob _ id' ob'
         by_cases c : id = i <;> by_cases c' : id' = i
         · exact absurd (c.trans c'.symm) hw
         all_goals simp [c, c'])
      | (rename_i id ob _ _ ob'
         by_cases c : id = i <;> by_cases c' : k' = i
         · exact absurd (c'.trans c.symm) hn2
         all_goals simp [c, c'])
      | (rename_i ob _ id' ob'
         by_cases c : k = i <;> by_cases c' : id' = i
         · exact absurd (c.trans c'.symm) hn1.1
         all_goals simp [c, c'])
      | (by_cases c : k = i <;> by_cases c' : k' = i
         · exact absurd (c.trans c'.symm) hn1.2
         all_goals simp [c, c'])

theorem fo_comm {nx0 k : Nat} {dst : Option Nat} {e : Ef} {M : Nat → Bool} (E : List (Oper × Ef)) : ∀ {i : Nat} {s : S}, (∀ j o' e', E[j]? = some (o', e') → M (i + j) = true → Comm k dst e (nx0 + (i + j)) o'.dst e') →
    Eq0 (e.apply k dst (fo nx0 M E i s)) (fo nx0 M E i (e.apply k dst s)) := by
  induction E with
  | nil => intro i s _; exact Eq0.refl _
  | cons x t ih =>
    obtain ⟨o', e'⟩ := x
    intro i s h
    have ht : ∀ j o2 e2, t[j]? = some (o2, e2) → M (i + 1 + j) = true → Comm k dst e (nx0 + (i + 1 + j)) o2.dst e2 := fun j o2 e2 hj hm => by
      have := h (j + 1) o2 e2 (by simpa using hj) (by rw [show i + (j + 1) = i + 1 + j by omega]; exact hm)
      rwa [show i + (j + 1) = i + 1 + j by omega] at this
    simp only [fo]
    cases hm : M i with
    | true =>
      have hc := h 0 o' e' rfl (by simpa using hm)
      exact (ih ht).trans (fo_eq0 t (hc.swap s))
    | false => exact ih ht

theorem fo_insert {nx0 k : Nat} {M M' : Nat → Bool} (E : List (Oper × Ef)) : ∀ {i : Nat} {s : S} {o : Oper} {e : Ef}, E[k]? = some (o, e) → M (i + k) = false → M' (i + k) = true → (∀ j, j ≠ i + k → M' j = M j) →
    (∀ j o' e', k < j → E[j]? = some (o', e') → M (i + j) = true → Comm (nx0 + (i + k)) o.dst e (nx0 + (i + j)) o'.dst e') →
    Eq0 (e.apply (nx0 + (i + k)) o.dst (fo nx0 M E i s)) (fo nx0 M' E i s) := by
  induction E generalizing k with
  | nil => intro i s o e h; simp at h
  | cons x t ih =>
    obtain ⟨o1, e1⟩ := x
    intro i s o e hk hm hm' heq hc
    cases k with
    | zero =>
      simp only [List.getElem?_cons_zero, Option.some.injEq, Prod.mk.injEq] at hk
      obtain ⟨rfl, rfl⟩ := hk
      simp only [Nat.add_zero] at hm hm' heq hc ⊢
      simp only [fo, hm, hm']
      rw [fo_congr (M := M') (M' := M) t fun j hj _ => heq j (by omega)]
      exact fo_comm t fun j o' e' hj hmj => by
        have := hc (j + 1) o' e' (by omega) (by simpa using hj) (by rw [show i + (j + 1) = i + 1 + j by omega]; exact hmj)
        rwa [show i + (j + 1) = i + 1 + j by omega] at this
    | succ k =>
      have e2 : i + (k + 1) = i + 1 + k := by omega
      rw [e2] at hm hm' heq hc ⊢
      simp only [fo]
      rw [heq i (by omega)]
      refine ih (by simpa using hk) hm hm' heq fun j o' e' hj hej hmj => ?_
      have := hc (j + 1) o' e' (by omega) (by simpa using hej) (by rw [show i + (j + 1) = i + 1 + j by omega]; exact hmj)
      rwa [show i + (j + 1) = i + 1 + j by omega] at this

/-- agreement about some slots and some objects -/
def Agree (D R : List Nat) (s s' : S) : Prop := (∀ d ∈ D, look s.env d = look s'.env d) ∧ ∀ i ∈ R, lookH s.hp i = lookH s'.hp i

theorem Agree.apply {D R : List Nat} {s s' : S} (h : Agree D R s s') (k : Nat) (dst : Option Nat) (e : Ef) : Agree D R (e.apply k dst s) (e.apply k dst s') :=
  ⟨fun d hd => by rw [look_apply, look_apply, h.1 d hd], fun i hi => by rw [lookH_apply, lookH_apply, h.2 i hi]⟩

/-- an operation that touches none of them -/
structure Off (D R : List Nat) (k : Nat) (dst : Option Nat) (e : Ef) : Prop where
  dst : ∀ d ∈ D, dst ≠ some d
  t : e.tot = false
  wr : ∀ x ∈ e.wr, x ∉ R
  nw : ∀ x ∈ e.nw k, x ∉ R

theorem Off.agree {D R : List Nat} {k : Nat} {dst : Option Nat} {e : Ef} (h : Off D R k dst e) (s : S) : Agree D R (e.apply k dst s) s := by
  have ht := h.t
  have hw := h.wr
  have hn := h.nw
  refine ⟨fun d hd => ?_, fun i hi => ?_⟩
  · rw [look_apply]
    unfold Ef.lk
    rw [if_neg (h.dst d hd)]
    cases e <;> first | rfl | cases ht
  · rw [lookH_apply]
    cases e with
    | val v => rfl
    | set v id ob => simp only [Ef.lh]; rw [if_neg (show ¬ id = i from fun c => hw id (by simp [Ef.wr]) (c ▸ hi))]
    | new st hst ob => simp only [Ef.lh]; rw [if_neg (show ¬ k = i from fun c => hn k (by simp [Ef.nw]) (c ▸ hi))]
    | app id z => cases ht

theorem Agree.trans {D R : List Nat} {s s' s'' : S} (h : Agree D R s s') (k : Agree D R s' s'') : Agree D R s s'' := ⟨fun d hd => (h.1 d hd).trans (k.1 d hd), fun i hi => (h.2 i hi).trans (k.2 i hi)⟩
theorem Agree.symm {D R : List Nat} {s s' : S} (h : Agree D R s s') : Agree D R s' s := ⟨fun d hd => (h.1 d hd).symm, fun i hi => (h.2 i hi).symm⟩

theorem fo_agree {nx0 : Nat} {D R : List Nat} {M M' : Nat → Bool} (E : List (Oper × Ef)) : ∀ {i : Nat} {s s' : S}, Agree D R s s' → (∀ j o e, E[j]? = some (o, e) → M (i + j) ≠ M' (i + j) → Off D R (nx0 + (i + j)) o.dst e) →
    Agree D R (fo nx0 M E i s) (fo nx0 M' E i s') := by
  induction E with
  | nil => intro i s s' h _; exact h
  | cons x t ih =>
    obtain ⟨o, e⟩ := x
    intro i s s' h ho
    have ht : ∀ j o2 e2, t[j]? = some (o2, e2) → M (i + 1 + j) ≠ M' (i + 1 + j) → Off D R (nx0 + (i + 1 + j)) o2.dst e2 := fun j o2 e2 hj hm => by
      have := ho (j + 1) o2 e2 (by simpa using hj) (by rw [show i + (j + 1) = i + 1 + j by omega]; exact hm)
      rwa [show i + (j + 1) = i + 1 + j by omega] at this
    have h0 := ho 0 o e rfl
    simp only [Nat.add_zero] at h0
    simp only [fo]
    cases hm : M i <;> cases hm' : M' i
    · exact ih h ht
    · exact ih (h.trans ((h0 (by rw [hm, hm']; simp)).agree s').symm) ht
    · exact ih (((h0 (by rw [hm, hm']; simp)).agree s).trans h) ht
    · exact ih (h.apply _ _ _) ht

/-- nobody names k -/
structure Fresh (k : Nat) (s : S) : Prop where
  env : ∀ j, k ∉ (look s.env j).ids
  key : lookH s.hp k = none
  hp : ∀ i o, lookH s.hp i = some o → k ∉ o.ids

mutual
theorem V.forget_ids {id k : Nat} : ∀ v : V, k ∉ v.ids → k ∉ (v.forget id).ids
  | .ptr i a b c, h => by simp only [V.forget]; split <;> first | exact h | simp [V.ids]
  | .slc i, h => by simp only [V.forget]; split <;> first | exact h | simp [V.ids]
  | .agg xs, h => by simp only [V.ids] at h; simp only [V.forget, V.ids]; exact forgetL_ids xs h
  | .tup xs, h => by simp only [V.ids] at h; simp only [V.forget, V.ids]; exact forgetL_ids xs h
  | .fn f xs, h => by simp only [V.ids] at h; simp only [V.forget, V.ids]; exact forgetL_ids xs h
  | .any, h => h
  | .tt, h => h
  | .ff, h => h
  | .nil, h => h
  | .c _, h => h
  | .iptr _, h => h
theorem forgetL_ids {id k : Nat} : ∀ xs : List V, k ∉ idsL xs → k ∉ idsL (forgetL id xs)
  | [], h => h
  | x :: t, h => by
    simp only [idsL, List.mem_append, not_or] at h
    simp only [forgetL, idsL, List.mem_append, not_or]
    exact ⟨V.forget_ids x h.1, forgetL_ids t h.2⟩
end

def Ef.ids (k : Nat) (e : Ef) : List Nat := (match e with | .new _ _ _ => [] | e => (e.val? k).ids) ++ e.obIds

mutual
theorem V.ids_ren_const {k i : Nat} : ∀ {v : V}, i ∈ (v.ren fun _ => k).ids → i = k
  | .ptr _ _ _ _, h => by simpa [V.ren, V.ids] using h
  | .slc _, h => by simpa [V.ren, V.ids] using h
  | .agg xs, h => by simp only [V.ren, V.ids] at h; exact idsL_ren_const h
  | .tup xs, h => by simp only [V.ren, V.ids] at h; exact idsL_ren_const h
  | .fn _ xs, h => by simp only [V.ren, V.ids] at h; exact idsL_ren_const h
  | .any, h => by simp [V.ren, V.ids] at h
  | .tt, h => by simp [V.ren, V.ids] at h
  | .ff, h => by simp [V.ren, V.ids] at h
  | .nil, h => by simp [V.ren, V.ids] at h
  | .c _, h => by simp [V.ren, V.ids] at h
  | .iptr _, h => by simp [V.ren, V.ids] at h
theorem idsL_ren_const {k i : Nat} : ∀ {xs : List V}, i ∈ idsL (renL (fun _ => k) xs) → i = k
  | [], h => by simp [renL, idsL] at h
  | x :: t, h => by
    simp only [renL, idsL, List.mem_append] at h
    rcases h with h | h
    · exact V.ids_ren_const h
    · exact idsL_ren_const h
end

theorem Fresh.apply {k k' : Nat} {dst : Option Nat} {e : Ef} {s : S} (h : Fresh k s) (hne : k ∉ e.nw k') (hids : k ∉ e.ids k') : Fresh k (e.apply k' dst s) := by
  refine ⟨fun j => ?_, ?_, fun i o hi => ?_⟩
  · rw [look_apply]
    unfold Ef.lk
    split
    · cases e with
      | val v => simp only [Ef.ids, List.mem_append, not_or] at hids; exact hids.1
      | set v id ob => simp only [Ef.ids, List.mem_append, not_or] at hids; exact hids.1
      | new st hst ob =>
        simp only [Ef.nw, List.mem_singleton] at hne
        simp only [Ef.val?]
        exact fun hc => hne (V.ids_ren_const hc)
      | app id z => simp only [Ef.ids, List.mem_append, not_or] at hids; exact hids.1
    · cases e with
      | app id z => exact V.forget_ids _ (h.env j)
      | _ => exact h.env j
  · rw [lookH_apply, h.key]
    cases e with
    | val v => rfl
    | set v id ob => simp only [Ef.lh]; split <;> rfl
    | new st hst ob => simp only [Ef.lh]; rw [if_neg fun c => hne (by simp [Ef.nw, c])]
    | app id z => simp only [Ef.lh]; split <;> rfl
  · rw [lookH_apply] at hi
    cases e with
    | val v => exact h.hp i o hi
    | set v id ob =>
      simp only [Ef.lh] at hi
      split at hi
      · cases hq : lookH s.hp i with
        | none => rw [hq] at hi; cases hi
        | some o' => rw [hq] at hi; cases hi; simp only [Ef.ids, Ef.obIds, List.mem_append, List.mem_cons, not_or] at hids; exact hids.2.2
      · exact h.hp i o hi
    | new st hst ob =>
      simp only [Ef.lh] at hi
      split at hi
      · cases hi; simp only [Ef.ids, Ef.obIds, List.mem_append, not_or] at hids; exact hids.2
      · exact h.hp i o hi
    | app id z =>
      simp only [Ef.lh] at hi
      split at hi
      · cases hq : lookH s.hp i with
        | none => rw [hq] at hi; cases hi
        | some o' => rw [hq] at hi; cases hi; simp only [Ef.ids, Ef.obIds, List.mem_append, List.mem_cons, not_or] at hids; exact hids.2.2
      · cases hq : lookH s.hp i with
        | none => rw [hq] at hi; cases hi
        | some o' =>
          rw [hq] at hi; cases hi
          have := h.hp i o' hq
          cases o' with
          | box pre bs post =>
            simp only [O.ids, List.mem_append, not_or] at this
            simp only [O.map, O.ids, List.mem_append, not_or]
            exact ⟨forgetL_ids _ this.1, forgetL_ids _ this.2⟩
          | arr x => simp [O.map, O.ids]
          | hol x hi' vs => simp only [O.ids] at this; simp only [O.map, O.ids]; exact forgetL_ids _ this

theorem fo_fresh {nx0 k : Nat} {M : Nat → Bool} (E : List (Oper × Ef)) : ∀ {i : Nat} {s : S}, Fresh k s → (∀ j o e, E[j]? = some (o, e) → M (i + j) = true → k ∉ e.nw (nx0 + (i + j)) ∧ k ∉ e.ids (nx0 + (i + j))) → Fresh k (fo nx0 M E i s) := by
  induction E with
  | nil => intro i s h _; exact h
  | cons x t ih =>
    obtain ⟨o, e⟩ := x
    intro i s h ho
    have ht : ∀ j o2 e2, t[j]? = some (o2, e2) → M (i + 1 + j) = true → k ∉ e2.nw (nx0 + (i + 1 + j)) ∧ k ∉ e2.ids (nx0 + (i + 1 + j)) := fun j o2 e2 hj hm => by
      have := ho (j + 1) o2 e2 (by simpa using hj) (by rw [show i + (j + 1) = i + 1 + j by omega]; exact hm)
      rwa [show i + (j + 1) = i + 1 + j by omega] at this
    simp only [fo]
    cases hm : M i with
    | true =>
      have h0 := ho 0 o e rfl (by simpa using hm)
      exact ih (h.apply h0.1 h0.2) ht
    | false => exact ih h ht

/-- the heap's keys are different -/
theorem fo_nodup {nx0 : Nat} {M : Nat → Bool} (E : List (Oper × Ef)) : ∀ {i : Nat} {s : S}, (s.hp.map (·.1)).Nodup → (∀ k ∈ s.hp.map (·.1), k < nx0 + i) → ((fo nx0 M E i s).hp.map (·.1)).Nodup := by
  induction E with
  | nil => intro i s h _; exact h
  | cons x t ih =>
    obtain ⟨o, e⟩ := x
    intro i s h hb
    simp only [fo]
    cases hm : M i with
    | false => exact ih h fun k hk => by have := hb k hk; omega
    | true =>
      have keys : (e.apply (nx0 + i) o.dst s).hp.map (·.1) = e.nw (nx0 + i) ++ s.hp.map (·.1) := by
        cases e with
        | val v => rfl
        | set v id ob => simp only [Ef.apply, Ef.nw, setH_keys, List.nil_append]
        | new st hst ob => rfl
        | app id z => simp only [Ef.apply, Ef.nw, setH_keys, mapH_keys, List.nil_append]
      refine ih ?_ ?_
      · rw [keys]
        cases e with
        | new st hst ob =>
          simp only [Ef.nw, List.singleton_append, List.nodup_cons]
          exact ⟨fun hm => by have := hb _ hm; omega, h⟩
        | _ => exact h
      · rw [keys]
        intro k hk
        rcases List.mem_append.1 hk with hk | hk
        · cases e with
          | new st hst ob => simp only [Ef.nw, List.mem_singleton] at hk; omega
          | _ => simp [Ef.nw] at hk
        · have := hb k hk; omega
end
end Go.VL
