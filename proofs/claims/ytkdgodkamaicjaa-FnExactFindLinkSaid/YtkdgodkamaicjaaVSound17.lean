/- V-logic, part 19: names of objects. -/
import Derived.Test.YtkdgodkamaicjaaVSound16
namespace Go.VL
section
variable {P : Program} {T : TT} {X : Cx} {I : Nat → Prop} {g : Gam} {s : S} {a : Act} {w : World} {o : Oper} {K : S → Prop}
  {N : Act → World → Prop} {Q : Exit → Act → World → Prop}

theorem mem_idsL {xs : List V} {i : Nat} : i ∈ idsL xs ↔ ∃ x ∈ xs, i ∈ V.ids x := by
  induction xs with
  | nil => simp [idsL]
  | cons x t ih => simp [idsL, ih]

theorem idsL_get {xs : List V} {k : Nat} {x : V} (h : xs[k]? = some x) {i : Nat} (hi : i ∈ V.ids x) : i ∈ idsL xs :=
  mem_idsL.2 ⟨x, List.mem_of_getElem? h, hi⟩

theorem RV.ids_lt {n : Nat} {v : V} {val : Value} (h : RV I g n w v val) : ∀ i ∈ v.ids, i < n := by
  induction h with
  | ptr id i st j b cl hn hg => intro k hk; simp [V.ids] at hk; omega
  | slc id len b cap hn hg => intro k hk; simp [V.ids] at hk; omega
  | slc0 id hn hg => intro k hk; simp [V.ids] at hk; omega
  | agg xs vs hl h ih =>
    intro i hi
    simp only [V.ids] at hi
    obtain ⟨x, hx, hi⟩ := mem_idsL.1 hi
    obtain ⟨k, hk⟩ := List.getElem?_of_mem hx
    have hlt : k < vs.length := by rw [← hl]; exact (List.getElem?_eq_some_iff.1 hk).1
    exact ih k x _ hk (List.getElem?_eq_getElem hlt) i hi
  | tup xs vs hl h ih =>
    intro i hi
    simp only [V.ids] at hi
    obtain ⟨x, hx, hi⟩ := mem_idsL.1 hi
    obtain ⟨k, hk⟩ := List.getElem?_of_mem hx
    have hlt : k < vs.length := by rw [← hl]; exact (List.getElem?_eq_some_iff.1 hk).1
    exact ih k x _ hk (List.getElem?_eq_getElem hlt) i hi
  | fn f xs vs hl h ih =>
    intro i hi
    simp only [V.ids] at hi
    obtain ⟨x, hx, hi⟩ := mem_idsL.1 hi
    obtain ⟨k, hk⟩ := List.getElem?_of_mem hx
    have hlt : k < vs.length := by rw [← hl]; exact (List.getElem?_eq_some_iff.1 hk).1
    exact ih k x _ hk (List.getElem?_eq_getElem hlt) i hi
  | _ => intro k hk; simp [V.ids] at hk

theorem RV.move {n n' : Nat} {g' : Gam} {v : V} {val : Value} (h : RV I g n w v val) : (∀ i ∈ v.ids, i < n' ∧ g' i = g i) → RV I g' n' w v val := by
  induction h with
  | any v => intro _; exact .any v
  | tt => intro _; exact .tt
  | ff => intro _; exact .ff
  | nil => intro _; exact .nil
  | c x v h => intro _; exact .c x v h
  | iptr row b off val hI hc hr => intro _; exact .iptr row b off val hI hc hr
  | ptr id i st j b cl hn hg => intro hi; obtain ⟨h1, h2⟩ := hi id (by simp [V.ids]); exact .ptr id i st j b cl h1 (h2.trans hg)
  | slc id len b cap hn hg => intro hi; obtain ⟨h1, h2⟩ := hi id (by simp [V.ids]); exact .slc id len b cap h1 (h2.trans hg)
  | slc0 id hn hg => intro hi; obtain ⟨h1, h2⟩ := hi id (by simp [V.ids]); exact .slc0 id h1 (h2.trans hg)
  | agg xs vs hl h ih => intro hi; exact .agg xs vs hl fun k x v hx hv => ih k x v hx hv fun i h1 => hi i (by simp only [V.ids]; exact idsL_get hx h1)
  | tup xs vs hl h ih => intro hi; exact .tup xs vs hl fun k x v hx hv => ih k x v hx hv fun i h1 => hi i (by simp only [V.ids]; exact idsL_get hx h1)
  | fn f xs vs hl h ih => intro hi; exact .fn f xs vs hl fun k x v hx hv => ih k x v hx hv fun i h1 => hi i (by simp only [V.ids]; exact idsL_get hx h1)

theorem RO.move {n n' id id' : Nat} {g' : Gam} {ob : O} (h : RO I g n w id ob) (hid : g' id' = g id) (hi : ∀ i ∈ ob.ids, i < n' ∧ g' i = g i) : RO I g' n' w id' ob := by
  cases h with
  | box pre bs post b cl cells ty hg hb hl h1 h2 h3 =>
    exact .box pre bs post b cl cells ty (hid.trans hg) hb hl (fun k x v hx hv => (h1 k x v hx hv).move fun i h => hi i (by simp only [O.ids]; exact List.mem_append_left _ (idsL_get hx h))) h2
      (fun k x v hx hv => (h3 k x v hx hv).move fun i h => hi i (by simp only [O.ids]; exact List.mem_append_right _ (idsL_get hx h)))
  | none x hg hs h0 => exact .none x (hid.trans hg) hs h0
  | arr x b cap cells ty hg hs hb hl hcap h ht => exact .arr x b cap cells ty (hid.trans hg) hs hb hl hcap h ht
  | hol x hi' vs b cap cells ty hg hs hb hl hcap hhi hv h h2 ht =>
    exact .hol x hi' vs b cap cells ty (hid.trans hg) hs hb hl hcap hhi hv h (fun j hj =>
      let ⟨u, v, a1, a2, a3, a4⟩ := h2 j hj; ⟨u, v, a1, a2, a3, a4.move fun i hm => hi i (by simp only [O.ids]; exact idsL_get a1 hm)⟩) ht

theorem RO.ids_lt {n id : Nat} {ob : O} (h : RO I g n w id ob) : ∀ i ∈ ob.ids, i < n := by
  cases h with
  | box pre bs post b cl cells ty hg hb hl h1 h2 h3 =>
    intro i hi
    simp only [O.ids] at hi
    rcases List.mem_append.1 hi with hi | hi
    · obtain ⟨x, hx, hi⟩ := mem_idsL.1 hi
      obtain ⟨k, hk⟩ := List.getElem?_of_mem hx
      have := (List.getElem?_eq_some_iff.1 hk).1
      exact (h1 k x _ hk (List.getElem?_eq_getElem (by omega))).ids_lt i hi
    · obtain ⟨x, hx, hi⟩ := mem_idsL.1 hi
      obtain ⟨k, hk⟩ := List.getElem?_of_mem hx
      have := (List.getElem?_eq_some_iff.1 hk).1
      exact (h3 k x _ hk (List.getElem?_eq_getElem (by omega))).ids_lt i hi
  | hol x hi' vs b cap cells ty hg hs hb hl hcap hhi hv h h2 =>
    intro i hi
    simp only [O.ids] at hi
    obtain ⟨x, hx, hi⟩ := mem_idsL.1 hi
    obtain ⟨k, hk⟩ := List.getElem?_of_mem hx
    have := (List.getElem?_eq_some_iff.1 hk).1
    obtain ⟨u, v, a1, a2, a3, a4⟩ := h2 k (by omega)
    rw [hk] at a1; cases a1
    exact a4.ids_lt i hi
  | _ => intro i hi; simp [O.ids] at hi

theorem look_setD (dst : Option Nat) (v : V) (env : List (Nat × V)) (j : Nat) : look (setD dst v env) j = if dst = some j then v else look env j := by
  cases dst with
  | none => rfl
  | some d => simp only [setD, look_cons, Option.some.injEq]

mutual
theorem V.ids_of_lt {n : Nat} : ∀ {v : V}, v.idsLt n = true → ∀ i ∈ v.ids, i < n
  | .ptr i a b c, h, j, hj => by simp only [V.ids, List.mem_singleton] at hj; simp only [V.idsLt, Nat.blt_eq] at h; omega
  | .slc i, h, j, hj => by simp only [V.ids, List.mem_singleton] at hj; simp only [V.idsLt, Nat.blt_eq] at h; omega
  | .agg xs, h, j, hj => by simp only [V.ids] at hj; simp only [V.idsLt] at h; exact idsL_of_lt h j hj
  | .tup xs, h, j, hj => by simp only [V.ids] at hj; simp only [V.idsLt] at h; exact idsL_of_lt h j hj
  | .fn f xs, h, j, hj => by simp only [V.ids] at hj; simp only [V.idsLt] at h; exact idsL_of_lt h j hj
  | .any, _, j, hj => by simp [V.ids] at hj
  | .tt, _, j, hj => by simp [V.ids] at hj
  | .ff, _, j, hj => by simp [V.ids] at hj
  | .nil, _, j, hj => by simp [V.ids] at hj
  | .c _, _, j, hj => by simp [V.ids] at hj
  | .iptr _, _, j, hj => by simp [V.ids] at hj
theorem idsL_of_lt {n : Nat} : ∀ {xs : List V}, idsLtL n xs = true → ∀ i ∈ idsL xs, i < n
  | [], _, j, hj => by simp [idsL] at hj
  | x :: t, h, j, hj => by
    simp only [idsLtL] at h
    split at h
    · rename_i h1
      simp only [idsL, List.mem_append] at hj
      rcases hj with hj | hj
      · exact V.ids_of_lt h1 j hj
      · exact idsL_of_lt h j hj
    · cases h
end

/-- what an operation does where a new object takes the next name -/
def Ef.bump (dst : Option Nat) (e : Ef) (s : S) : S :=
  match e with
  | .new st h ob => ⟨s.nt, s.nx + 1, setD dst (Ef.val? s.nx (.new st h ob)) s.env, (s.nx, ob) :: s.hp⟩
  | e => e.apply 0 dst s

/-- a new object may take another name that nobody has -/
theorem Sat.rename {st : V} {hst : st.idsLt 1 = true} {ob : O} {dst : Option Nat} {a' : Act} {w' : World} (h : St X I g s a w) {k : Nat} (hk : k < s.nx) (hkey : lookH s.hp k = none)
    (henv : ∀ j, k ∉ (look s.env j).ids) (hhp : ∀ i o, (i, o) ∈ s.hp → k ∉ o.ids) (hob : ∀ i ∈ ob.ids, i < s.nx ∧ i ≠ k) (hK : ¬ X.K0 k)
    (h1 : Sat X (Ef.bump dst (.new st hst ob) s) a' w') : Sat X ((Ef.new st hst ob).apply k dst s) a' w' := by
  obtain ⟨I', g1, h1⟩ := h1
  have hkk : ∀ o, (k, o) ∉ s.hp := fun o hm => by rw [mem_lookH h.heap.nodup hm] at hkey; cases hkey
  refine ⟨I', fun i => if i = k then g1 s.nx else g1 i, ?_⟩
  have hne : ∀ i o, (i, o) ∈ s.hp → i ≠ k := fun i o hm e => hkk o (e ▸ hm)
  have hlt : ∀ i o, (i, o) ∈ s.hp → i < s.nx := fun i o hm => (h.heap.obj i o hm).1
  refine ⟨h1.df, h1.sz, fun j => ?_, ⟨?_, ?_, ?_, ?_⟩, h1.bound, h1.up, h1.down, ?_, ?_, h1.fr, h.low⟩
  · have hj := h1.slots j
    simp only [Ef.bump, Ef.apply, look_setD] at hj ⊢
    by_cases c : dst = some j
    · rw [if_pos c] at hj ⊢
      simp only [Ef.val?] at hj ⊢
      have h1 := RV.unren (r := fun _ => s.nx) hj st rfl hst
      exact h1.reren (r := fun _ => k) fun i hi => ⟨hk, by rw [if_pos rfl]⟩
    · rw [if_neg c] at hj ⊢
      refine hj.move fun i hi => ⟨(h.slots j).ids_lt i hi, ?_⟩
      rw [if_neg (show ¬ i = k from fun e => henv j (e ▸ hi))]
  · intro i o' hm
    simp only [Ef.apply] at hm
    rcases List.mem_cons.1 hm with hm | hm
    · cases hm
      exact ⟨hk, (h1.heap.obj s.nx ob List.mem_cons_self).2.move (by simp) fun i hi => ⟨(hob i hi).1, by rw [if_neg (hob i hi).2]⟩⟩
    · have hr := (h1.heap.obj i o' (List.mem_cons_of_mem _ hm)).2
      exact ⟨hlt i o' hm, hr.move (by rw [if_neg (hne i o' hm)]) fun j hj => ⟨(h.heap.obj i o' hm).2.ids_lt j hj, by rw [if_neg (show ¬ j = k from fun e => hhp i o' hm (e ▸ hj))]⟩⟩
  · intro i o' b cl hm hg
    simp only [Ef.apply] at hm
    rcases List.mem_cons.1 hm with hm | hm
    · cases hm
      simp only [if_true] at hg
      exact h1.heap.apart s.nx ob b cl List.mem_cons_self hg
    · simp only [if_neg (hne i o' hm)] at hg
      exact h1.heap.apart i o' b cl (List.mem_cons_of_mem _ hm) hg
  · simp only [Ef.apply, List.map_cons, List.nodup_cons]
    refine ⟨fun hm => ?_, h.heap.nodup⟩
    obtain ⟨⟨i, o'⟩, h2, h3⟩ := List.mem_map.1 hm
    simp only at h3
    exact hkk o' (h3 ▸ h2)
  · intro i o1 i' o2 b cl cl' hm hm' hg hg'
    simp only [Ef.apply] at hm hm'
    rcases List.mem_cons.1 hm with hm | hm <;> rcases List.mem_cons.1 hm' with hm' | hm'
    · cases hm; cases hm'; rfl
    · cases hm
      simp only [if_true] at hg
      simp only [if_neg (hne i' o2 hm')] at hg'
      have := h1.heap.inj s.nx ob i' o2 b cl cl' List.mem_cons_self (List.mem_cons_of_mem _ hm') hg hg'
      have := hlt i' o2 hm'
      omega
    · cases hm'
      simp only [if_true] at hg'
      simp only [if_neg (hne i o1 hm)] at hg
      have := h1.heap.inj i o1 s.nx ob b cl cl' (List.mem_cons_of_mem _ hm) List.mem_cons_self hg hg'
      have := hlt i o1 hm
      omega
    · simp only [if_neg (hne i o1 hm)] at hg
      simp only [if_neg (hne i' o2 hm')] at hg'
      exact h1.heap.inj i o1 i' o2 b cl cl' (List.mem_cons_of_mem _ hm) (List.mem_cons_of_mem _ hm') hg hg'
  · rintro b ⟨i, o', cl, hm, hg⟩
    simp only [Ef.apply] at hm
    rcases List.mem_cons.1 hm with hm | hm
    · cases hm
      simp only [if_true] at hg
      exact h1.own b ⟨s.nx, ob, cl, List.mem_cons_self, hg⟩
    · simp only [if_neg (hne i o' hm)] at hg
      exact h1.own b ⟨i, o', cl, List.mem_cons_of_mem _ hm, hg⟩
  · intro i o' hm hb hKi
    simp only [Ef.apply] at hm
    rcases List.mem_cons.1 hm with hm | hm
    · cases hm; exact absurd hKi hK
    · simp only [if_neg (hne i o' hm)]
      exact h1.keep i o' (List.mem_cons_of_mem _ hm) hb hKi
end
end Go.VL
