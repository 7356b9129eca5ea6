/- V-logic, part 24: operations that do not touch each other. -/
import Derived.Test.YtkdgodkamaicjaaVSound21
namespace Go.VL
set_option linter.unusedVariables false
set_option linter.unusedSimpArgs false
section
variable {P : Program} {T : TT} {ops : List Oper}

theorem lookH_setH' (hp : List (Nat × O)) (id : Nat) (ob : O) (i : Nat) : lookH (setH hp id ob) i = if id = i then (lookH hp i).map (fun _ => ob) else lookH hp i := by
  induction hp with
  | nil => simp [setH, lookH]
  | cons x t ih =>
    obtain ⟨k, v⟩ := x
    simp only [setH]
    cases hk : Nat.beq k id with
    | true =>
      have hk := Nat.eq_of_beq_eq_true hk
      subst hk
      simp only [lookH_cons]
      by_cases c : k = i
      · simp [c]
      · simp [c]
    | false =>
      have hk := Nat.ne_of_beq_eq_false hk
      simp only [lookH_cons, ih]
      by_cases c : k = i
      · rw [if_pos c, if_neg (fun e => hk (c.trans e.symm)), if_pos c]
      · rw [if_neg c, if_neg c]

/-- a slot behind the operation -/
def Ef.lk (k : Nat) (dst : Option Nat) (e : Ef) (j : Nat) (v : V) : V :=
  if dst = some j then e.val? k else match e with | .app id _ => v.forget id | _ => v
/-- what it makes, and what it sets -/
def Ef.newL (k : Nat) : Ef → List (Nat × O)
  | .new _ _ ob => [(k, ob)]
  | .fx _ news _ _ _ => newsH k 0 news
  | _ => []
def Ef.setL : Ef → List (Nat × O)
  | .set _ id ob => [(id, ob)]
  | .app id z => [(id, z)]
  | .fx sets _ _ _ _ => sets
  | _ => []
/-- what is set last -/
def lastS : List (Nat × O) → Nat → Option O
  | [], _ => none
  | (j, o) :: t, i => match lastS t i with | some o' => some o' | none => if j = i then some o else none
theorem lastS_mem {l : List (Nat × O)} {i : Nat} {o : O} (h : lastS l i = some o) : (i, o) ∈ l := by
  induction l with
  | nil => cases h
  | cons x t ih =>
    obtain ⟨j, o1⟩ := x
    simp only [lastS] at h
    split at h
    · rename_i h1; cases h; exact List.mem_cons_of_mem _ (ih h1)
    · split at h
      · rename_i c; cases h; subst c; exact List.mem_cons_self
      · cases h
theorem lookH_setHs (sets : List (Nat × O)) : ∀ (hp : List (Nat × O)) (i : Nat), lookH (setHs sets hp) i = match lastS sets i with | some o => (lookH hp i).map (fun _ => o) | none => lookH hp i := by
  induction sets with
  | nil => intro hp i; rfl
  | cons x t ih =>
    obtain ⟨j, o⟩ := x
    intro hp i
    simp only [setHs, ih, lookH_setH', lastS]
    cases hl : lastS t i with
    | some o' => simp only []; split <;> simp [Option.map_map]; rfl
    | none => simp only []; split <;> rfl
theorem lookH_app (a b : List (Nat × O)) (i : Nat) : lookH (a ++ b) i = match lookH a i with | some o => some o | none => lookH b i := by
  induction a with
  | nil => rfl
  | cons x t ih =>
    obtain ⟨j, o⟩ := x
    simp only [List.cons_append, lookH_cons, ih]
    split <;> rfl
/-- an object behind it -/
def Ef.lh (k : Nat) (e : Ef) (i : Nat) (x : Option O) : Option O :=
  match lookH (e.newL k) i with
  | some o => some o
  | none => match lastS e.setL i with
    | some o => x.map fun _ => o
    | none => match e with
      | .app id _ => x.map (O.map (forgetL id))
      | _ => x
theorem Ef.newL_key {k : Nat} {e : Ef} {i : Nat} {o : O} (h : lookH (e.newL k) i = some o) : i ∈ e.nw k := by
  have h := lookH_mem h
  cases e with
  | new st hst ob => simp only [Ef.newL, List.mem_singleton, Prod.mk.injEq] at h; simp [Ef.nw, h.1]
  | fx sets news rds st hst => simp only [Ef.nw, keysH_eq]; exact List.mem_map.2 ⟨_, h, rfl⟩
  | _ => simp [Ef.newL] at h
theorem Ef.newL_none {k : Nat} {e : Ef} {i : Nat} (h : i ∉ e.nw k) : lookH (e.newL k) i = none := by
  cases hq : lookH (e.newL k) i with
  | none => rfl
  | some o => exact absurd (Ef.newL_key hq) h
theorem Ef.setL_key {e : Ef} {i : Nat} {o : O} (h : lastS e.setL i = some o) : i ∈ e.wr := by
  have h := lastS_mem h
  cases e with
  | set v id ob => simp only [Ef.setL, List.mem_singleton, Prod.mk.injEq] at h; simp [Ef.wr, h.1]
  | app id z => simp only [Ef.setL, List.mem_singleton, Prod.mk.injEq] at h; simp [Ef.wr, h.1]
  | fx sets news rds st hst => simp only [Ef.wr, keysH_eq]; exact List.mem_map.2 ⟨_, h, rfl⟩
  | _ => simp [Ef.setL] at h
theorem Ef.setL_none {e : Ef} {i : Nat} (h : i ∉ e.wr) : lastS e.setL i = none := by
  cases hq : lastS e.setL i with
  | none => rfl
  | some o => exact absurd (Ef.setL_key hq) h
theorem Ef.lh_nt {k : Nat} {e : Ef} (ht : e.tot = false) (i : Nat) (x : Option O) : e.lh k i x = match lookH (e.newL k) i with | some o => some o | none => match lastS e.setL i with | some o => x.map fun _ => o | none => x := by
  cases e <;> first | rfl | cases ht

theorem look_apply (k : Nat) (dst : Option Nat) (e : Ef) (s : S) (j : Nat) : look (e.apply k dst s).env j = e.lk k dst j (look s.env j) := by
  cases e with
  | app id z =>
    simp only [Ef.apply, Ef.lk, look_setD, Ef.val?]
    rw [look_mapE _ rfl]
  | _ => simp only [Ef.apply, Ef.lk, look_setD, Ef.val?]

theorem lookH_apply (k : Nat) (dst : Option Nat) (e : Ef) (s : S) (i : Nat) : lookH (e.apply k dst s).hp i = e.lh k i (lookH s.hp i) := by
  cases e with
  | val v => rfl
  | set v id ob =>
    simp only [Ef.apply, Ef.lh, lookH_setH', Ef.newL, Ef.setL, lastS, lookH]
    by_cases c : id = i <;> simp [c]
  | new st hst ob =>
    simp only [Ef.apply, Ef.lh, lookH_cons, Ef.newL, Ef.setL, lastS]
    by_cases c : k = i <;> simp [c, lookH]
  | app id z =>
    simp only [Ef.apply, Ef.lh, lookH_setH', lookH_mapH, Ef.newL, Ef.setL, lastS, lookH]
    by_cases c : id = i
    · simp [c, Option.map_map]; rfl
    · simp [c]
  | fx sets news rds st hst =>
    simp only [Ef.apply, Ef.lh, lookH_app, lookH_setHs, Ef.newL, Ef.setL]

/-- the same, but for the order of the heap -/
structure Eq0 (s s' : S) : Prop where
  nt : s.nt = s'.nt
  nx : s.nx = s'.nx
  env : ∀ j, look s.env j = look s'.env j
  hp : ∀ i, lookH s.hp i = lookH s'.hp i

theorem apply_nt (k : Nat) (dst : Option Nat) (e : Ef) (s : S) : (e.apply k dst s).nt = s.nt ∧ (e.apply k dst s).nx = s.nx := by cases e <;> exact ⟨rfl, rfl⟩
theorem Eq0.refl (s : S) : Eq0 s s := ⟨rfl, rfl, fun _ => rfl, fun _ => rfl⟩
theorem Eq0.trans {s s' s'' : S} (h : Eq0 s s') (k : Eq0 s' s'') : Eq0 s s'' := ⟨h.nt.trans k.nt, h.nx.trans k.nx, fun j => (h.env j).trans (k.env j), fun j => (h.hp j).trans (k.hp j)⟩
theorem Eq0.apply {s s' : S} (h : Eq0 s s') (k : Nat) (dst : Option Nat) (e : Ef) : Eq0 (e.apply k dst s) (e.apply k dst s') :=
  ⟨by rw [(apply_nt k dst e s).1, (apply_nt k dst e s').1, h.nt], by rw [(apply_nt k dst e s).2, (apply_nt k dst e s').2, h.nx], fun j => by rw [look_apply, look_apply, h.env], fun j => by rw [lookH_apply, lookH_apply, h.hp]⟩

theorem fo_eq0 {nx0 : Nat} {M : Nat → Bool} (E : List (Oper × Ef)) : ∀ {i : Nat} {s s' : S}, Eq0 s s' → Eq0 (fo nx0 M E i s) (fo nx0 M E i s') := by
  induction E with
  | nil => intro i s s' h; exact h
  | cons x t ih =>
    obtain ⟨o, e⟩ := x
    intro i s s' h
    simp only [fo]
    cases M i with
    | true => exact ih (h.apply _ _ _)
    | false => exact ih h

/-- two operations of which neither minds the other -/
structure Comm (k : Nat) (dst : Option Nat) (e : Ef) (k' : Nat) (dst' : Option Nat) (e' : Ef) : Prop where
  dst : ∀ d, dst = some d → dst' ≠ some d
  t1 : e.tot = false
  t2 : e'.tot = false
  wr : ∀ x ∈ e.wr, x ∉ e'.wr
  n1 : ∀ x ∈ e.nw k, x ∉ e'.wr ∧ x ∉ e'.nw k'
  n2 : ∀ x ∈ e'.nw k', x ∉ e.wr

theorem Comm.swap {k k' : Nat} {dst dst' : Option Nat} {e e' : Ef} (h : Comm k dst e k' dst' e') (s : S) : Eq0 (e.apply k dst (e'.apply k' dst' s)) (e'.apply k' dst' (e.apply k dst s)) := by
  refine ⟨by rw [(apply_nt _ _ _ _).1, (apply_nt _ _ _ _).1, (apply_nt _ _ _ _).1, (apply_nt _ _ _ _).1], by rw [(apply_nt _ _ _ _).2, (apply_nt _ _ _ _).2, (apply_nt _ _ _ _).2, (apply_nt _ _ _ _).2], fun j => ?_, fun i => ?_⟩
  · rw [look_apply, look_apply, look_apply, look_apply]
    have h1 := h.t1
    have h2 := h.t2
    have hd := h.dst
    cases e <;> cases e' <;> simp only [Ef.lk] <;> by_cases c : dst = some j <;> by_cases c' : dst' = some j <;> first
      | (simp [Ef.tot] at h1; done)
      | (simp [Ef.tot] at h2; done)
      | exact absurd c' (hd j c)
      | simp [c, c']
  · rw [lookH_apply, lookH_apply, lookH_apply, lookH_apply, Ef.lh_nt h.t1, Ef.lh_nt h.t2, Ef.lh_nt h.t2, Ef.lh_nt h.t1]
    cases a1 : lookH (e.newL k) i with
    | some o1 =>
      rw [Ef.newL_none (h.n1 _ (Ef.newL_key a1)).2, Ef.setL_none (h.n1 _ (Ef.newL_key a1)).1]
    | none =>
      cases a2 : lookH (e'.newL k') i with
      | some o2 => rw [Ef.setL_none (h.n2 _ (Ef.newL_key a2))]
      | none =>
        cases a3 : lastS e.setL i with
        | some o3 => rw [Ef.setL_none (h.wr _ (Ef.setL_key a3))]
        | none => cases lastS e'.setL i <;> rfl

theorem fo_comm {nx0 k : Nat} {dst : Option Nat} {e : Ef} {M : Nat → Bool} (E : List (Oper × Ef)) : ∀ {i : Nat} {s : S}, (∀ j o' e', E[j]? = some (o', e') → M (i + j) = true → Comm k dst e (nx0 + (i + j)) o'.dst e') →
    Eq0 (e.apply k dst (fo nx0 M E i s)) (fo nx0 M E i (e.apply k dst s)) := by
  induction E with
  | nil => intro i s _; exact Eq0.refl _
  | cons x t ih =>
    obtain ⟨o', e'⟩ := x
    intro i s h
    have ht : ∀ j o2 e2, t[j]? = some (o2, e2) → M (i + 1 + j) = true → Comm k dst e (nx0 + (i + 1 + j)) o2.dst e2 := fun j o2 e2 hj hm => by
      have := h (j + 1) o2 e2 (by simpa using hj) (by rw [show i + (j + 1) = i + 1 + j by omega]; exact hm)
      rwa [show i + (j + 1) = i + 1 + j by omega] at this
    simp only [fo]
    cases hm : M i with
    | true =>
      have hc := h 0 o' e' rfl (by simpa using hm)
      exact (ih ht).trans (fo_eq0 t (hc.swap s))
    | false => exact ih ht

theorem fo_insert {nx0 k : Nat} {M M' : Nat → Bool} (E : List (Oper × Ef)) : ∀ {i : Nat} {s : S} {o : Oper} {e : Ef}, E[k]? = some (o, e) → M (i + k) = false → M' (i + k) = true → (∀ j, j ≠ i + k → M' j = M j) →
    (∀ j o' e', k < j → E[j]? = some (o', e') → M (i + j) = true → Comm (nx0 + (i + k)) o.dst e (nx0 + (i + j)) o'.dst e') →
    Eq0 (e.apply (nx0 + (i + k)) o.dst (fo nx0 M E i s)) (fo nx0 M' E i s) := by
  induction E generalizing k with
  | nil => intro i s o e h; simp at h
  | cons x t ih =>
    obtain ⟨o1, e1⟩ := x
    intro i s o e hk hm hm' heq hc
    cases k with
    | zero =>
      simp only [List.getElem?_cons_zero, Option.some.injEq, Prod.mk.injEq] at hk
      obtain ⟨rfl, rfl⟩ := hk
      simp only [Nat.add_zero] at hm hm' heq hc ⊢
      simp only [fo, hm, hm']
      rw [fo_congr (M := M') (M' := M) t fun j hj _ => heq j (by omega)]
      exact fo_comm t fun j o' e' hj hmj => by
        have := hc (j + 1) o' e' (by omega) (by simpa using hj) (by rw [show i + (j + 1) = i + 1 + j by omega]; exact hmj)
        rwa [show i + (j + 1) = i + 1 + j by omega] at this
    | succ k =>
      have e2 : i + (k + 1) = i + 1 + k := by omega
      rw [e2] at hm hm' heq hc ⊢
      simp only [fo]
      rw [heq i (by omega)]
      refine ih (by simpa using hk) hm hm' heq fun j o' e' hj hej hmj => ?_
      have := hc (j + 1) o' e' (by omega) (by simpa using hej) (by rw [show i + (j + 1) = i + 1 + j by omega]; exact hmj)
      rwa [show i + (j + 1) = i + 1 + j by omega] at this

/-- agreement about some slots and some objects -/
def Agree (D R : List Nat) (s s' : S) : Prop := (∀ d ∈ D, look s.env d = look s'.env d) ∧ ∀ i ∈ R, lookH s.hp i = lookH s'.hp i

theorem Agree.apply {D R : List Nat} {s s' : S} (h : Agree D R s s') (k : Nat) (dst : Option Nat) (e : Ef) : Agree D R (e.apply k dst s) (e.apply k dst s') :=
  ⟨fun d hd => by rw [look_apply, look_apply, h.1 d hd], fun i hi => by rw [lookH_apply, lookH_apply, h.2 i hi]⟩

/-- an operation that touches none of them -/
structure Off (D R : List Nat) (k : Nat) (dst : Option Nat) (e : Ef) : Prop where
  dst : ∀ d ∈ D, dst ≠ some d
  t : e.tot = false
  wr : ∀ x ∈ e.wr, x ∉ R
  nw : ∀ x ∈ e.nw k, x ∉ R

theorem Off.agree {D R : List Nat} {k : Nat} {dst : Option Nat} {e : Ef} (h : Off D R k dst e) (s : S) : Agree D R (e.apply k dst s) s := by
  have ht := h.t
  have hw := h.wr
  have hn := h.nw
  refine ⟨fun d hd => ?_, fun i hi => ?_⟩
  · rw [look_apply]
    unfold Ef.lk
    rw [if_neg (h.dst d hd)]
    cases e <;> first | rfl | cases ht
  · rw [lookH_apply, Ef.lh_nt ht, Ef.newL_none fun c => hn i c hi, Ef.setL_none fun c => hw i c hi]

theorem Agree.trans {D R : List Nat} {s s' s'' : S} (h : Agree D R s s') (k : Agree D R s' s'') : Agree D R s s'' := ⟨fun d hd => (h.1 d hd).trans (k.1 d hd), fun i hi => (h.2 i hi).trans (k.2 i hi)⟩
theorem Agree.symm {D R : List Nat} {s s' : S} (h : Agree D R s s') : Agree D R s' s := ⟨fun d hd => (h.1 d hd).symm, fun i hi => (h.2 i hi).symm⟩

theorem fo_agree {nx0 : Nat} {D R : List Nat} {M M' : Nat → Bool} (E : List (Oper × Ef)) : ∀ {i : Nat} {s s' : S}, Agree D R s s' → (∀ j o e, E[j]? = some (o, e) → M (i + j) ≠ M' (i + j) → Off D R (nx0 + (i + j)) o.dst e) →
    Agree D R (fo nx0 M E i s) (fo nx0 M' E i s') := by
  induction E with
  | nil => intro i s s' h _; exact h
  | cons x t ih =>
    obtain ⟨o, e⟩ := x
    intro i s s' h ho
    have ht : ∀ j o2 e2, t[j]? = some (o2, e2) → M (i + 1 + j) ≠ M' (i + 1 + j) → Off D R (nx0 + (i + 1 + j)) o2.dst e2 := fun j o2 e2 hj hm => by
      have := ho (j + 1) o2 e2 (by simpa using hj) (by rw [show i + (j + 1) = i + 1 + j by omega]; exact hm)
      rwa [show i + (j + 1) = i + 1 + j by omega] at this
    have h0 := ho 0 o e rfl
    simp only [Nat.add_zero] at h0
    simp only [fo]
    cases hm : M i <;> cases hm' : M' i
    · exact ih h ht
    · exact ih (h.trans ((h0 (by rw [hm, hm']; simp)).agree s').symm) ht
    · exact ih (((h0 (by rw [hm, hm']; simp)).agree s).trans h) ht
    · exact ih (h.apply _ _ _) ht

/-- nobody names k -/
structure Fresh (k : Nat) (s : S) : Prop where
  env : ∀ j, k ∉ (look s.env j).ids
  key : lookH s.hp k = none
  hp : ∀ i o, lookH s.hp i = some o → k ∉ o.ids

mutual
theorem V.forget_ids {id k : Nat} : ∀ v : V, k ∉ v.ids → k ∉ (v.forget id).ids
  | .ptr i a b c, h => by simp only [V.forget]; split <;> first | exact h | simp [V.ids]
  | .slc i, h => by simp only [V.forget]; split <;> first | exact h | simp [V.ids]
  | .agg xs, h => by simp only [V.ids] at h; simp only [V.forget, V.ids]; exact forgetL_ids xs h
  | .tup xs, h => by simp only [V.ids] at h; simp only [V.forget, V.ids]; exact forgetL_ids xs h
  | .fn f xs, h => by simp only [V.ids] at h; simp only [V.forget, V.ids]; exact forgetL_ids xs h
  | .any, h => h
  | .tt, h => h
  | .ff, h => h
  | .nil, h => h
  | .c _, h => h
  | .iptr _, h => h
theorem forgetL_ids {id k : Nat} : ∀ xs : List V, k ∉ idsL xs → k ∉ idsL (forgetL id xs)
  | [], h => h
  | x :: t, h => by
    simp only [idsL, List.mem_append, not_or] at h
    simp only [forgetL, idsL, List.mem_append, not_or]
    exact ⟨V.forget_ids x h.1, forgetL_ids t h.2⟩
end

def Ef.ids (k : Nat) (e : Ef) : List Nat := (match e.isNew with | true => [] | false => (e.val? k).ids) ++ e.obIds

mutual
theorem V.ids_ren_const {k i : Nat} : ∀ {v : V}, i ∈ (v.ren fun _ => k).ids → i = k
  | .ptr _ _ _ _, h => by simpa [V.ren, V.ids] using h
  | .slc _, h => by simpa [V.ren, V.ids] using h
  | .agg xs, h => by simp only [V.ren, V.ids] at h; exact idsL_ren_const h
  | .tup xs, h => by simp only [V.ren, V.ids] at h; exact idsL_ren_const h
  | .fn _ xs, h => by simp only [V.ren, V.ids] at h; exact idsL_ren_const h
  | .any, h => by simp [V.ren, V.ids] at h
  | .tt, h => by simp [V.ren, V.ids] at h
  | .ff, h => by simp [V.ren, V.ids] at h
  | .nil, h => by simp [V.ren, V.ids] at h
  | .c _, h => by simp [V.ren, V.ids] at h
  | .iptr _, h => by simp [V.ren, V.ids] at h
theorem idsL_ren_const {k i : Nat} : ∀ {xs : List V}, i ∈ idsL (renL (fun _ => k) xs) → i = k
  | [], h => by simp [renL, idsL] at h
  | x :: t, h => by
    simp only [renL, idsL, List.mem_append] at h
    rcases h with h | h
    · exact V.ids_ren_const h
    · exact idsL_ren_const h
end

mutual
theorem V.ids_ren_mem {r : Nat → Nat} {n i : Nat} : ∀ {v : V}, v.idsLt n = true → i ∈ (v.ren r).ids → ∃ j, j < n ∧ i = r j
  | .ptr j _ _ _, hn, h => ⟨j, by simpa [V.idsLt] using hn, by simpa [V.ren, V.ids] using h⟩
  | .slc j, hn, h => ⟨j, by simpa [V.idsLt] using hn, by simpa [V.ren, V.ids] using h⟩
  | .agg xs, hn, h => by simp only [V.ren, V.ids, V.idsLt] at h hn; exact idsL_ren_mem hn h
  | .tup xs, hn, h => by simp only [V.ren, V.ids, V.idsLt] at h hn; exact idsL_ren_mem hn h
  | .fn _ xs, hn, h => by simp only [V.ren, V.ids, V.idsLt] at h hn; exact idsL_ren_mem hn h
  | .any, _, h => by simp [V.ren, V.ids] at h
  | .tt, _, h => by simp [V.ren, V.ids] at h
  | .ff, _, h => by simp [V.ren, V.ids] at h
  | .nil, _, h => by simp [V.ren, V.ids] at h
  | .c _, _, h => by simp [V.ren, V.ids] at h
  | .iptr _, _, h => by simp [V.ren, V.ids] at h
theorem idsL_ren_mem {r : Nat → Nat} {n i : Nat} : ∀ {xs : List V}, idsLtL n xs = true → i ∈ idsL (renL r xs) → ∃ j, j < n ∧ i = r j
  | [], _, h => by simp [renL, idsL] at h
  | x :: t, hn, h => by
    simp only [renL, idsL, List.mem_append] at h
    simp only [idsLtL] at hn
    split at hn
    · rename_i h1
      rcases h with h | h
      · exact V.ids_ren_mem h1 h
      · exact idsL_ren_mem hn h
    · cases hn
end

theorem mem_idsO {l : List (Nat × O)} {i j : Nat} {o : O} (h : (i, o) ∈ l) (hj : j ∈ o.ids) : j ∈ idsO l := by
  induction l with
  | nil => cases h
  | cons x t ih =>
    obtain ⟨q, o'⟩ := x
    rcases List.mem_cons.1 h with h | h
    · cases h; exact List.mem_append_left _ hj
    · exact List.mem_append_right _ (ih h)
theorem Ef.newL_ids {k : Nat} {e : Ef} {i j : Nat} {o : O} (h : lookH (e.newL k) i = some o) (hj : j ∈ o.ids) : j ∈ e.obIds := by
  have h := lookH_mem h
  cases e with
  | new st hst ob => simp only [Ef.newL, List.mem_singleton, Prod.mk.injEq] at h; obtain ⟨_, rfl⟩ := h; exact hj
  | fx sets news rds st hst =>
    simp only [Ef.newL] at h
    obtain ⟨q, _, hq⟩ := newsH_mem h
    have := mem_enumO (k := 0) hq
    simp only [Ef.obIds]
    exact List.mem_append_left _ (List.mem_append_right _ (mem_idsO this hj))
  | _ => simp [Ef.newL] at h
theorem Ef.setL_ids' {sets : List (Nat × O)} {news : List O} {rds : List Nat} {st : V} {hst} {i j : Nat} {o : O} (h : (i, o) ∈ sets) (hj : j ∈ o.ids) : j ∈ (Ef.fx sets news rds st hst).obIds := by
  simp only [Ef.obIds]; exact List.mem_append_left _ (List.mem_append_left _ (List.mem_append_right _ (mem_idsO h hj)))
theorem Ef.setL_ids {e : Ef} {i j : Nat} {o : O} (h : lastS e.setL i = some o) (hj : j ∈ o.ids) : j ∈ e.obIds := by
  have h := lastS_mem h
  cases e with
  | set v id ob => simp only [Ef.setL, List.mem_singleton, Prod.mk.injEq] at h; obtain ⟨_, rfl⟩ := h; exact List.mem_cons_of_mem _ hj
  | app id z => simp only [Ef.setL, List.mem_singleton, Prod.mk.injEq] at h; obtain ⟨_, rfl⟩ := h; exact List.mem_cons_of_mem _ hj
  | fx sets news rds st hst => simp only [Ef.obIds]; exact List.mem_append_left _ (List.mem_append_left _ (List.mem_append_right _ (mem_idsO h hj)))
  | _ => simp [Ef.setL] at h
theorem Ef.wr_ids {e : Ef} {i : Nat} (h : i ∈ e.wr) : i ∈ e.obIds := by
  cases e with
  | set v id ob => simp only [Ef.wr, List.mem_singleton] at h; simp [Ef.obIds, h]
  | app id z => simp only [Ef.wr, List.mem_singleton] at h; simp [Ef.obIds, h]
  | fx sets news rds st hst => simp only [Ef.wr] at h; simp [Ef.obIds, h]
  | _ => simp [Ef.wr] at h
theorem Ef.rds_ids {e : Ef} {i : Nat} (h : i ∈ e.rds) : i ∈ e.obIds := by
  cases e with
  | fx sets news rds st hst => simp only [Ef.rds] at h; simp [Ef.obIds, h]
  | _ => simp [Ef.rds] at h
theorem O.forget_ids {id k : Nat} {o : O} (h : k ∉ o.ids) : k ∉ (o.map (forgetL id)).ids := by
  cases o with
  | box pre bs post =>
    simp only [O.ids, List.mem_append, not_or] at h
    simp only [O.map, O.ids, List.mem_append, not_or]
    exact ⟨forgetL_ids _ h.1, forgetL_ids _ h.2⟩
  | arr x => simp [O.map, O.ids]
  | hol x hi' vs => simp only [O.ids] at h; simp only [O.map, O.ids]; exact forgetL_ids _ h
  | deep p f x hs =>
    simp only [O.ids] at h
    simp only [O.map, O.ids]
    intro hc
    obtain ⟨q, us, hm, hc⟩ := idsHs_mem hc
    obtain ⟨vs, hm2, rfl⟩ := mem_mapHs hm
    exact forgetL_ids vs (fun hc => h (mem_idsHs hm2 hc)) hc

theorem Fresh.apply {k k' : Nat} {dst : Option Nat} {e : Ef} {s : S} (h : Fresh k s) (hne : k ∉ e.nw k') (hids : k ∉ e.ids k') : Fresh k (e.apply k' dst s) := by
  have hob : k ∉ e.obIds := fun hc => hids (List.mem_append_right _ hc)
  refine ⟨fun j => ?_, ?_, fun i o hi => ?_⟩
  · rw [look_apply]
    unfold Ef.lk
    split
    · cases e with
      | new st hst ob =>
        simp only [Ef.nw, List.mem_singleton] at hne
        simp only [Ef.val?]
        exact fun hc => hne (V.ids_ren_const hc)
      | fx sets news rds st hst =>
        simp only [Ef.val?]
        intro hc
        obtain ⟨j, hj, e1⟩ := V.ids_ren_mem hst hc
        refine hne ?_
        simp only [Ef.nw, keysH_eq]
        exact newsH_keys_mem.2 ⟨j, hj, by omega⟩
      | _ => exact fun hc => hids (List.mem_append_left _ hc)
    · cases e with
      | app id z => exact V.forget_ids _ (h.env j)
      | _ => exact h.env j
  · rw [lookH_apply, h.key]
    unfold Ef.lh
    rw [Ef.newL_none hne]
    cases lastS e.setL k with
    | some o => rfl
    | none => cases e <;> rfl
  · rw [lookH_apply] at hi
    unfold Ef.lh at hi
    cases a1 : lookH (e.newL k') i with
    | some o1 => rw [a1] at hi; cases hi; exact fun hc => hob (Ef.newL_ids a1 hc)
    | none =>
      rw [a1] at hi
      cases a2 : lastS e.setL i with
      | some o2 =>
        rw [a2] at hi
        cases hq : lookH s.hp i with
        | none => rw [hq] at hi; cases hi
        | some o' => rw [hq] at hi; cases hi; exact fun hc => hob (Ef.setL_ids a2 hc)
      | none =>
        rw [a2] at hi
        cases e with
        | app id z =>
          simp only at hi
          cases hq : lookH s.hp i with
          | none => rw [hq] at hi; cases hi
          | some o' => rw [hq] at hi; cases hi; exact O.forget_ids (h.hp i o' hq)
        | _ => exact h.hp i o hi

theorem fo_fresh {nx0 k : Nat} {M : Nat → Bool} (E : List (Oper × Ef)) : ∀ {i : Nat} {s : S}, Fresh k s → (∀ j o e, E[j]? = some (o, e) → M (i + j) = true → k ∉ e.nw (nx0 + (i + j)) ∧ k ∉ e.ids (nx0 + (i + j))) → Fresh k (fo nx0 M E i s) := by
  induction E with
  | nil => intro i s h _; exact h
  | cons x t ih =>
    obtain ⟨o, e⟩ := x
    intro i s h ho
    have ht : ∀ j o2 e2, t[j]? = some (o2, e2) → M (i + 1 + j) = true → k ∉ e2.nw (nx0 + (i + 1 + j)) ∧ k ∉ e2.ids (nx0 + (i + 1 + j)) := fun j o2 e2 hj hm => by
      have := ho (j + 1) o2 e2 (by simpa using hj) (by rw [show i + (j + 1) = i + 1 + j by omega]; exact hm)
      rwa [show i + (j + 1) = i + 1 + j by omega] at this
    simp only [fo]
    cases hm : M i with
    | true =>
      have h0 := ho 0 o e rfl (by simpa using hm)
      exact ih (h.apply h0.1 h0.2) ht
    | false => exact ih h ht

theorem Ef.nw_nodup (k : Nat) (e : Ef) : (e.nw k).Nodup := by
  cases e with
  | new st hst ob => simp [Ef.nw]
  | fx sets news rds st hst => simp only [Ef.nw, keysH_eq]; exact newsH_nodup _ _ _
  | _ => simp [Ef.nw]
theorem apply_keys (k : Nat) (dst : Option Nat) (e : Ef) (s : S) : (e.apply k dst s).hp.map (·.1) = e.nw k ++ s.hp.map (·.1) := by
  cases e with
  | val v => rfl
  | set v id ob => simp only [Ef.apply, Ef.nw, setH_keys, List.nil_append]
  | new st hst ob => rfl
  | app id z => simp only [Ef.apply, Ef.nw, setH_keys, mapH_keys, List.nil_append]
  | fx sets news rds st hst => simp only [Ef.apply, Ef.nw, List.map_append, setHs_keys, keysH_eq]

/-- the heap's keys are different -/
theorem fo_nodup {nx0 : Nat} {M : Nat → Bool} (E : List (Oper × Ef)) : ∀ {i : Nat} {s : S}, (s.hp.map (·.1)).Nodup → (∀ (j : Nat) (o : Oper) (e : Ef), E[j]? = some (o, e) → ∀ x ∈ e.nw (nx0 + (i + j)), x ∉ s.hp.map (·.1)) →
    (∀ (j j' : Nat) (o : Oper) (e : Ef) (o' : Oper) (e' : Ef), j < j' → E[j]? = some (o, e) → E[j']? = some (o', e') → ∀ x ∈ e.nw (nx0 + (i + j)), x ∉ e'.nw (nx0 + (i + j'))) → ((fo nx0 M E i s).hp.map (·.1)).Nodup := by
  induction E with
  | nil => intro i s h _ _; exact h
  | cons x t ih =>
    obtain ⟨o, e⟩ := x
    intro i s h hb hp
    have eq1 : ∀ j, i + (j + 1) = i + 1 + j := fun j => by omega
    have hb' : ∀ (j : Nat) (o' : Oper) (e' : Ef), t[j]? = some (o', e') → ∀ x ∈ e'.nw (nx0 + (i + 1 + j)), x ∉ s.hp.map (·.1) := fun j o' e' hj x hx => hb (j + 1) o' e' (by simpa using hj) x (by rw [eq1]; exact hx)
    have hp' : ∀ (j j' : Nat) (o : Oper) (e : Ef) (o' : Oper) (e' : Ef), j < j' → t[j]? = some (o, e) → t[j']? = some (o', e') → ∀ x ∈ e.nw (nx0 + (i + 1 + j)), x ∉ e'.nw (nx0 + (i + 1 + j')) := fun j j' o e o' e' hlt hj hj' x hx => by
      rw [← eq1]; exact hp (j + 1) (j' + 1) o e o' e' (by omega) (by simpa using hj) (by simpa using hj') x (by rw [eq1]; exact hx)
    simp only [fo]
    cases hm : M i with
    | false => exact ih h hb' hp'
    | true =>
      refine ih ?_ (fun j o' e' hj x hx hc => ?_) hp'
      · rw [apply_keys, List.nodup_append]
        exact ⟨Ef.nw_nodup _ _, h, fun x hx y hy c => hb 0 o e rfl x hx (c ▸ hy)⟩
      · rw [apply_keys] at hc
        rcases List.mem_append.1 hc with hc | hc
        · exact hp 0 (j + 1) o e o' e' (by omega) rfl (by simpa using hj) x hc (by rw [eq1]; exact hx)
        · exact hb' j o' e' hj x hx hc
end
end Go.VL
