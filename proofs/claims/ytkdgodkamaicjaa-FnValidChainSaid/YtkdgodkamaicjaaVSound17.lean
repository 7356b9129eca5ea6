/- V-logic, part 19: names of objects. -/
import Derived.Test.YtkdgodkamaicjaaVSound16
namespace Go.VL
set_option linter.unusedVariables false
set_option linter.unusedSimpArgs false
section
variable {P : Program} {T : TT} {X : Cx} {I : Nat → Prop} {g : Gam} {s : S} {a : Act} {w : World} {o : Oper} {K : S → Prop}
  {N : Act → World → Prop} {Q : Exit → Act → World → Prop}

theorem mem_idsL {xs : List V} {i : Nat} : i ∈ idsL xs ↔ ∃ x ∈ xs, i ∈ V.ids x := by
  induction xs with
  | nil => simp [idsL]
  | cons x t ih => simp [idsL, ih]

theorem idsL_get {xs : List V} {k : Nat} {x : V} (h : xs[k]? = some x) {i : Nat} (hi : i ∈ V.ids x) : i ∈ idsL xs :=
  mem_idsL.2 ⟨x, List.mem_of_getElem? h, hi⟩

theorem RV.ids_lt {n : Nat} {v : V} {val : Value} (h : RV I g n w v val) : ∀ i ∈ v.ids, i < n := by
  induction h with
  | ptr id i st j b cl hn hg => intro k hk; simp [V.ids] at hk; omega
  | slc id len b cap hn hg => intro k hk; simp [V.ids] at hk; omega
  | slc0 id hn hg => intro k hk; simp [V.ids] at hk; omega
  | agg xs vs hl h ih =>
    intro i hi
    simp only [V.ids] at hi
    obtain ⟨x, hx, hi⟩ := mem_idsL.1 hi
    obtain ⟨k, hk⟩ := List.getElem?_of_mem hx
    have hlt : k < vs.length := by rw [← hl]; exact (List.getElem?_eq_some_iff.1 hk).1
    exact ih k x _ hk (List.getElem?_eq_getElem hlt) i hi
  | tup xs vs hl h ih =>
    intro i hi
    simp only [V.ids] at hi
    obtain ⟨x, hx, hi⟩ := mem_idsL.1 hi
    obtain ⟨k, hk⟩ := List.getElem?_of_mem hx
    have hlt : k < vs.length := by rw [← hl]; exact (List.getElem?_eq_some_iff.1 hk).1
    exact ih k x _ hk (List.getElem?_eq_getElem hlt) i hi
  | fn f xs vs hl h ih =>
    intro i hi
    simp only [V.ids] at hi
    obtain ⟨x, hx, hi⟩ := mem_idsL.1 hi
    obtain ⟨k, hk⟩ := List.getElem?_of_mem hx
    have hlt : k < vs.length := by rw [← hl]; exact (List.getElem?_eq_some_iff.1 hk).1
    exact ih k x _ hk (List.getElem?_eq_getElem hlt) i hi
  | _ => intro k hk; simp [V.ids] at hk

theorem RV.move {n n' : Nat} {g' : Gam} {v : V} {val : Value} (h : RV I g n w v val) : (∀ i ∈ v.ids, i < n' ∧ g' i = g i) → RV I g' n' w v val := by
  induction h with
  | any v => intro _; exact .any v
  | tt => intro _; exact .tt
  | ff => intro _; exact .ff
  | nil => intro _; exact .nil
  | c x v h => intro _; exact .c x v h
  | iptr row b off val hI hc hr => intro _; exact .iptr row b off val hI hc hr
  | ptr id i st j b cl hn hg => intro hi; obtain ⟨h1, h2⟩ := hi id (by simp [V.ids]); exact .ptr id i st j b cl h1 (h2.trans hg)
  | slc id len b cap hn hg => intro hi; obtain ⟨h1, h2⟩ := hi id (by simp [V.ids]); exact .slc id len b cap h1 (h2.trans hg)
  | slc0 id hn hg => intro hi; obtain ⟨h1, h2⟩ := hi id (by simp [V.ids]); exact .slc0 id h1 (h2.trans hg)
  | agg xs vs hl h ih => intro hi; exact .agg xs vs hl fun k x v hx hv => ih k x v hx hv fun i h1 => hi i (by simp only [V.ids]; exact idsL_get hx h1)
  | tup xs vs hl h ih => intro hi; exact .tup xs vs hl fun k x v hx hv => ih k x v hx hv fun i h1 => hi i (by simp only [V.ids]; exact idsL_get hx h1)
  | fn f xs vs hl h ih => intro hi; exact .fn f xs vs hl fun k x v hx hv => ih k x v hx hv fun i h1 => hi i (by simp only [V.ids]; exact idsL_get hx h1)

theorem mem_idsHs {hs : List (Nat × List V)} {k : Nat} {us : List V} (hm : (k, us) ∈ hs) {i : Nat} (hi : i ∈ idsL us) : i ∈ idsHs hs := by
  induction hs with
  | nil => cases hm
  | cons q t ih =>
    obtain ⟨a, b⟩ := q
    simp only [idsHs, List.mem_append]
    rcases List.mem_cons.1 hm with hm | hm
    · cases hm; exact .inl hi
    · exact .inr (ih hm)
theorem idsHs_mem {hs : List (Nat × List V)} {i : Nat} (hi : i ∈ idsHs hs) : ∃ k us, (k, us) ∈ hs ∧ i ∈ idsL us := by
  induction hs with
  | nil => simp [idsHs] at hi
  | cons q t ih =>
    obtain ⟨a, b⟩ := q
    simp only [idsHs, List.mem_append] at hi
    rcases hi with hi | hi
    · exact ⟨a, b, List.mem_cons_self, hi⟩
    · obtain ⟨k, us, h1, h2⟩ := ih hi; exact ⟨k, us, List.mem_cons_of_mem _ h1, h2⟩

theorem RO.move {n n' id id' : Nat} {g' : Gam} {ob : O} (h : RO I g n w id ob) (hid : g' id' = g id) (hi : ∀ i ∈ ob.ids, i < n' ∧ g' i = g i) : RO I g' n' w id' ob := by
  cases h with
  | box pre bs post b cl cells ty hg hb hl h1 h2 h3 =>
    exact .box pre bs post b cl cells ty (hid.trans hg) hb hl (fun k x v hx hv => (h1 k x v hx hv).move fun i h => hi i (by simp only [O.ids]; exact List.mem_append_left _ (idsL_get hx h))) h2
      (fun k x v hx hv => (h3 k x v hx hv).move fun i h => hi i (by simp only [O.ids]; exact List.mem_append_right _ (idsL_get hx h)))
  | none x hg hs h0 => exact .none x (hid.trans hg) hs h0
  | arr x b cap cells ty hg hs hb hl hcap h ht => exact .arr x b cap cells ty (hid.trans hg) hs hb hl hcap h ht
  | hol x hi' vs b cap cells ty hg hs hb hl hcap hhi hv h h2 ht =>
    exact .hol x hi' vs b cap cells ty (hid.trans hg) hs hb hl hcap hhi hv h (fun j hj =>
      let ⟨u, v, a1, a2, a3, a4⟩ := h2 j hj; ⟨u, v, a1, a2, a3, a4.move fun i hm => hi i (by simp only [O.ids]; exact idsL_get a1 hm)⟩) ht
  | deep0 p f x hg hs h0 => exact .deep0 p f x (hid.trans hg) hs h0
  | deep p f x hs b cap cells ty hg hsl hb hl hcap hh hkn ht h2 hd hty =>
    exact .deep p f x hs b cap cells ty (hid.trans hg) hsl hb hl hcap hh hkn ht (fun k us hm j hj =>
      let ⟨u, v, a1, a2, a3, a4⟩ := h2 k us hm j hj; ⟨u, v, a1, a2, a3, a4.move fun i hm' => hi i (by simp only [O.ids]; exact mem_idsHs hm (idsL_get a1 hm'))⟩) hd hty

theorem RO.ids_lt {n id : Nat} {ob : O} (h : RO I g n w id ob) : ∀ i ∈ ob.ids, i < n := by
  cases h with
  | box pre bs post b cl cells ty hg hb hl h1 h2 h3 =>
    intro i hi
    simp only [O.ids] at hi
    rcases List.mem_append.1 hi with hi | hi
    · obtain ⟨x, hx, hi⟩ := mem_idsL.1 hi
      obtain ⟨k, hk⟩ := List.getElem?_of_mem hx
      have := (List.getElem?_eq_some_iff.1 hk).1
      exact (h1 k x _ hk (List.getElem?_eq_getElem (by omega))).ids_lt i hi
    · obtain ⟨x, hx, hi⟩ := mem_idsL.1 hi
      obtain ⟨k, hk⟩ := List.getElem?_of_mem hx
      have := (List.getElem?_eq_some_iff.1 hk).1
      exact (h3 k x _ hk (List.getElem?_eq_getElem (by omega))).ids_lt i hi
  | hol x hi' vs b cap cells ty hg hs hb hl hcap hhi hv h h2 =>
    intro i hi
    simp only [O.ids] at hi
    obtain ⟨x, hx, hi⟩ := mem_idsL.1 hi
    obtain ⟨k, hk⟩ := List.getElem?_of_mem hx
    have := (List.getElem?_eq_some_iff.1 hk).1
    obtain ⟨u, v, a1, a2, a3, a4⟩ := h2 k (by omega)
    rw [hk] at a1; cases a1
    exact a4.ids_lt i hi
  | deep p f x hs b cap cells ty hg hsl hb hl hcap hh hkn ht h2 hd hty =>
    intro i hi
    simp only [O.ids] at hi
    obtain ⟨q, us, hm, hi⟩ := idsHs_mem hi
    obtain ⟨x, hx, hi⟩ := mem_idsL.1 hi
    obtain ⟨k, hk⟩ := List.getElem?_of_mem hx
    have := (List.getElem?_eq_some_iff.1 hk).1
    obtain ⟨u, v, a1, a2, a3, a4⟩ := h2 q us hm k (by rw [← (hh q us hm).2]; exact this)
    rw [hk] at a1; cases a1
    exact a4.ids_lt i hi
  | _ => intro i hi; simp [O.ids, idsHs] at hi

theorem look_setD (dst : Option Nat) (v : V) (env : List (Nat × V)) (j : Nat) : look (setD dst v env) j = if dst = some j then v else look env j := by
  cases dst with
  | none => rfl
  | some d => simp only [setD, look_cons, Option.some.injEq]

mutual
theorem V.ids_of_lt {n : Nat} : ∀ {v : V}, v.idsLt n = true → ∀ i ∈ v.ids, i < n
  | .ptr i a b c, h, j, hj => by simp only [V.ids, List.mem_singleton] at hj; simp only [V.idsLt, Nat.blt_eq] at h; omega
  | .slc i, h, j, hj => by simp only [V.ids, List.mem_singleton] at hj; simp only [V.idsLt, Nat.blt_eq] at h; omega
  | .agg xs, h, j, hj => by simp only [V.ids] at hj; simp only [V.idsLt] at h; exact idsL_of_lt h j hj
  | .tup xs, h, j, hj => by simp only [V.ids] at hj; simp only [V.idsLt] at h; exact idsL_of_lt h j hj
  | .fn f xs, h, j, hj => by simp only [V.ids] at hj; simp only [V.idsLt] at h; exact idsL_of_lt h j hj
  | .any, _, j, hj => by simp [V.ids] at hj
  | .tt, _, j, hj => by simp [V.ids] at hj
  | .ff, _, j, hj => by simp [V.ids] at hj
  | .nil, _, j, hj => by simp [V.ids] at hj
  | .c _, _, j, hj => by simp [V.ids] at hj
  | .iptr _, _, j, hj => by simp [V.ids] at hj
theorem idsL_of_lt {n : Nat} : ∀ {xs : List V}, idsLtL n xs = true → ∀ i ∈ idsL xs, i < n
  | [], _, j, hj => by simp [idsL] at hj
  | x :: t, h, j, hj => by
    simp only [idsLtL] at h
    split at h
    · rename_i h1
      simp only [idsL, List.mem_append] at hj
      rcases hj with hj | hj
      · exact V.ids_of_lt h1 j hj
      · exact idsL_of_lt h j hj
    · cases h
end

/-- what an operation does where a new object takes the next name -/
def Ef.bump (dst : Option Nat) (e : Ef) (s : S) : S :=
  match e with
  | .new st h ob => ⟨s.nt, s.nx + 1, setD dst (Ef.val? s.nx (.new st h ob)) s.env, (s.nx, ob) :: s.hp⟩
  | .fx sets news _ st _ => ⟨s.nt, s.nx + news.length, setD dst (st.ren fun j => s.nx + j) s.env, renH (fun j => s.nx + j) (enumO 0 news) ++ setHs sets s.hp⟩
  | e => e.apply 0 dst s

/-- a new object may take another name that nobody has -/
theorem Sat.rename {st : V} {hst : st.idsLt 1 = true} {ob : O} {dst : Option Nat} {a' : Act} {w' : World} (h : St X I g s a w) {k : Nat} (hk : k < s.nx) (hkey : lookH s.hp k = none)
    (henv : ∀ j, k ∉ (look s.env j).ids) (hhp : ∀ i o, (i, o) ∈ s.hp → k ∉ o.ids) (hob : ∀ i ∈ ob.ids, i < s.nx ∧ i ≠ k) (hK : ¬ X.K0 k)
    (h1 : Sat X (Ef.bump dst (.new st hst ob) s) a' w') : Sat X ((Ef.new st hst ob).apply k dst s) a' w' := by
  obtain ⟨I', g1, h1⟩ := h1
  have hkk : ∀ o, (k, o) ∉ s.hp := fun o hm => by rw [mem_lookH h.heap.nodup hm] at hkey; cases hkey
  refine ⟨I', fun i => if i = k then g1 s.nx else g1 i, ?_⟩
  have hne : ∀ i o, (i, o) ∈ s.hp → i ≠ k := fun i o hm e => hkk o (e ▸ hm)
  have hlt : ∀ i o, (i, o) ∈ s.hp → i < s.nx := fun i o hm => (h.heap.obj i o hm).1
  have hnw : ∀ {b}, Own (fun i => if i = k then g1 s.nx else g1 i) w' k ob b → Own g1 w' s.nx ob b := fun {b} ho => ho.congr (by simp) fun _ _ _ => rfl
  have hol : ∀ {i o b}, (i, o) ∈ s.hp → Own (fun i => if i = k then g1 s.nx else g1 i) w' i o b → Own g1 w' i o b := fun {i o b} hm ho => ho.congr (by simp [hne i o hm]) fun _ _ _ => rfl
  refine ⟨h1.df, h1.sz, fun j => ?_, ⟨?_, ?_, ?_, ?_⟩, h1.bound, h1.up, h1.down, ?_, ?_, h1.fr, h.low⟩
  · have hj := h1.slots j
    simp only [Ef.bump, Ef.apply, look_setD] at hj ⊢
    by_cases c : dst = some j
    · rw [if_pos c] at hj ⊢
      simp only [Ef.val?] at hj ⊢
      have h1 := RV.unren (r := fun _ => s.nx) hj st rfl hst
      exact h1.reren (r := fun _ => k) fun i hi => ⟨hk, by rw [if_pos rfl]⟩
    · rw [if_neg c] at hj ⊢
      refine hj.move fun i hi => ⟨(h.slots j).ids_lt i hi, ?_⟩
      rw [if_neg (show ¬ i = k from fun e => henv j (e ▸ hi))]
  · intro i o' hm
    simp only [Ef.apply] at hm
    rcases List.mem_cons.1 hm with hm | hm
    · cases hm
      exact ⟨hk, (h1.heap.obj s.nx ob List.mem_cons_self).2.move (by simp) fun i hi => ⟨(hob i hi).1, by rw [if_neg (hob i hi).2]⟩⟩
    · have hr := (h1.heap.obj i o' (List.mem_cons_of_mem _ hm)).2
      exact ⟨hlt i o' hm, hr.move (by rw [if_neg (hne i o' hm)]) fun j hj => ⟨(h.heap.obj i o' hm).2.ids_lt j hj, by rw [if_neg (show ¬ j = k from fun e => hhp i o' hm (e ▸ hj))]⟩⟩
  · intro i o' b hm hg
    simp only [Ef.apply] at hm
    rcases List.mem_cons.1 hm with hm | hm
    · cases hm
      exact h1.heap.apart s.nx ob b List.mem_cons_self (hnw hg)
    · exact h1.heap.apart i o' b (List.mem_cons_of_mem _ hm) (hol hm hg)
  · simp only [Ef.apply, List.map_cons, List.nodup_cons]
    refine ⟨fun hm => ?_, h.heap.nodup⟩
    obtain ⟨⟨i, o'⟩, h2, h3⟩ := List.mem_map.1 hm
    simp only at h3
    exact hkk o' (h3 ▸ h2)
  · intro i o1 i' o2 b hm hm' hg hg'
    simp only [Ef.apply] at hm hm'
    rcases List.mem_cons.1 hm with hm | hm <;> rcases List.mem_cons.1 hm' with hm' | hm'
    · cases hm; cases hm'; rfl
    · cases hm
      have := h1.heap.inj s.nx ob i' o2 b List.mem_cons_self (List.mem_cons_of_mem _ hm') (hnw hg) (hol hm' hg')
      have := hlt i' o2 hm'
      omega
    · cases hm'
      have := h1.heap.inj i o1 s.nx ob b (List.mem_cons_of_mem _ hm) List.mem_cons_self (hol hm hg) (hnw hg')
      have := hlt i o1 hm
      omega
    · exact h1.heap.inj i o1 i' o2 b (List.mem_cons_of_mem _ hm) (List.mem_cons_of_mem _ hm') (hol hm hg) (hol hm' hg')
  · rintro b ⟨i, o', hm, hg⟩
    simp only [Ef.apply] at hm
    rcases List.mem_cons.1 hm with hm | hm
    · cases hm
      exact h1.own b ⟨s.nx, ob, List.mem_cons_self, hnw hg⟩
    · exact h1.own b ⟨i, o', List.mem_cons_of_mem _ hm, hol hm hg⟩
  · intro i o' hm hb hKi
    simp only [Ef.apply] at hm
    rcases List.mem_cons.1 hm with hm | hm
    · cases hm; exact absurd hKi hK
    · simp only [if_neg (hne i o' hm)]
      exact h1.keep i o' (List.mem_cons_of_mem _ hm) hb hKi

theorem enumO_mem {k : Nat} {l : List O} {i : Nat} {ob : O} (h : (i, ob) ∈ enumO k l) : ∃ j, i = k + j ∧ l[j]? = some ob := by
  induction l generalizing k with
  | nil => cases h
  | cons o t ih =>
    simp only [enumO] at h
    rcases List.mem_cons.1 h with h | h
    · cases h; exact ⟨0, rfl, rfl⟩
    · obtain ⟨j, h1, h2⟩ := ih h; exact ⟨j + 1, by omega, h2⟩
theorem mem_enumO {k : Nat} {l : List O} {j : Nat} {ob : O} (h : l[j]? = some ob) : (k + j, ob) ∈ enumO k l := by
  induction l generalizing k j with
  | nil => cases h
  | cons o t ih =>
    cases j with
    | zero => cases h; simp [enumO]
    | succ j =>
      have := ih (k := k + 1) (j := j) (by simpa using h)
      simp only [enumO]
      rw [show k + (j + 1) = k + 1 + j by omega]
      exact List.mem_cons_of_mem _ this
theorem newsH_mem {k j0 : Nat} {l : List O} {i : Nat} {ob : O} (h : (i, ob) ∈ newsH k j0 l) : ∃ j, i = k + 20 * (j0 + j) ∧ l[j]? = some ob := by
  induction l generalizing j0 with
  | nil => cases h
  | cons o t ih =>
    simp only [newsH] at h
    rcases List.mem_cons.1 h with h | h
    · cases h; exact ⟨0, rfl, rfl⟩
    · obtain ⟨j, h1, h2⟩ := ih h; exact ⟨j + 1, by rw [h1]; congr 2; omega, h2⟩
theorem mem_newsH {k j0 : Nat} {l : List O} {j : Nat} {ob : O} (h : l[j]? = some ob) : (k + 20 * (j0 + j), ob) ∈ newsH k j0 l := by
  induction l generalizing j0 j with
  | nil => cases h
  | cons o t ih =>
    cases j with
    | zero => cases h; simp [newsH]
    | succ j =>
      have := ih (j0 := j0 + 1) (j := j) (by simpa using h)
      simp only [newsH]
      rw [show j0 + (j + 1) = j0 + 1 + j by omega]
      exact List.mem_cons_of_mem _ this
theorem newsH_keys_mem {k j0 : Nat} {l : List O} {i : Nat} : i ∈ (newsH k j0 l).map (·.1) ↔ ∃ j, j < l.length ∧ i = k + 20 * (j0 + j) := by
  constructor
  · intro h
    obtain ⟨⟨i', ob⟩, h1, rfl⟩ := List.mem_map.1 h
    obtain ⟨j, h2, h3⟩ := newsH_mem h1
    exact ⟨j, (List.getElem?_eq_some_iff.1 h3).1, h2⟩
  · rintro ⟨j, h1, rfl⟩
    exact List.mem_map.2 ⟨_, mem_newsH (List.getElem?_eq_getElem h1), rfl⟩
theorem newsH_nodup (k : Nat) (l : List O) : ∀ j0, ((newsH k j0 l).map (·.1)).Nodup := by
  induction l with
  | nil => intro _; simp [newsH]
  | cons o t ih =>
    intro j0
    simp only [newsH, List.map_cons, List.nodup_cons]
    refine ⟨fun h => ?_, ih _⟩
    obtain ⟨j, h1, h2⟩ := newsH_keys_mem.1 h
    omega
theorem pureO_get {l : List O} (h : pureO l = true) : ∀ (j : Nat) ob, l[j]? = some ob → ob.ids = [] ∧ ∀ fl, ob.map fl = ob := by
  induction l with
  | nil => intro j ob hj; cases hj
  | cons o t ih =>
    simp only [pureO] at h
    intro j ob hj
    cases j with
    | zero =>
      cases hj
      split at h
      · exact ⟨rfl, fun _ => rfl⟩
      · exact ⟨rfl, fun _ => rfl⟩
      · cases h
    | succ j =>
      split at h
      · exact ih h j ob (by simpa using hj)
      · exact ih h j ob (by simpa using hj)
      · cases h

/-- new objects may take other names that nobody has -/
theorem Sat.renames {st : V} {news : List O} {hp2 : List (Nat × O)} {dst : Option Nat} {a' : Act} {w' : World} (h : St X I g s a w) (hst : st.idsLt news.length = true) (hpure : ∀ (j : Nat) ob, news[j]? = some ob → ob.ids = [] ∧ ∀ fl, ob.map fl = ob) {k : Nat}
    (hk : ∀ j, j < news.length → k + 20 * j < s.nx ∧ lookH s.hp (k + 20 * j) = none ∧ (∀ q, k + 20 * j ∉ (look s.env q).ids) ∧ (∀ i o, (i, o) ∈ hp2 → k + 20 * j ∉ o.ids) ∧ ¬ X.K0 (k + 20 * j))
    (hkeys : ∀ i o, (i, o) ∈ hp2 → ∃ o', (i, o') ∈ s.hp) (hnd : (hp2.map (·.1)).Nodup) (hids : ∀ i o, (i, o) ∈ hp2 → ∀ q ∈ o.ids, q < s.nx)
    (h1 : Sat X ⟨s.nt, s.nx + news.length, setD dst (st.ren fun j => s.nx + j) s.env, renH (fun j => s.nx + j) (enumO 0 news) ++ hp2⟩ a' w') :
    Sat X ⟨s.nt, s.nx, setD dst (st.ren fun j => k + 20 * j) s.env, newsH k 0 news ++ hp2⟩ a' w' := by
  obtain ⟨I', g1, h1⟩ := h1
  obtain ⟨g2, hg2a, hg2b⟩ : ∃ g2 : Gam, (∀ j, j < news.length → g2 (k + 20 * j) = g1 (s.nx + j)) ∧ ∀ i, (∀ j, j < news.length → i ≠ k + 20 * j) → g2 i = g1 i := by
    refine ⟨fun i => if hj : ∃ j, j < news.length ∧ k + 20 * j = i then g1 (s.nx + hj.choose) else g1 i, fun j hj => ?_, fun i hi => ?_⟩
    · have hex : ∃ q, q < news.length ∧ k + 20 * q = k + 20 * j := ⟨j, hj, rfl⟩
      simp only [hex, dif_pos]
      have := hex.choose_spec.2
      rw [show hex.choose = j by omega]
    · show (if hj : ∃ j, j < news.length ∧ k + 20 * j = i then g1 (s.nx + hj.choose) else g1 i) = g1 i
      rw [dif_neg]; rintro ⟨j, hj, he⟩; exact hi j hj he.symm
  have hlt : ∀ i o, (i, o) ∈ hp2 → i < s.nx := fun i o hm => by obtain ⟨o', h3⟩ := hkeys i o hm; exact (h.heap.obj i o' h3).1
  have hne : ∀ i o, (i, o) ∈ hp2 → ∀ j, j < news.length → i ≠ k + 20 * j := fun i o hm j hj e => by
    obtain ⟨o', h3⟩ := hkeys i o hm
    have := (hk j hj).2.1
    rw [← e, mem_lookH h.heap.nodup h3] at this; cases this
  have hm1 : ∀ {j ob}, news[j]? = some ob → (s.nx + j, ob) ∈ renH (fun j => s.nx + j) (enumO 0 news) ++ hp2 := fun {j ob} hj => by
    refine List.mem_append_left _ ?_
    have h3 : ∀ (l : List (Nat × O)) i o, (i, o) ∈ l → (s.nx + i, o.map (renL fun j => s.nx + j)) ∈ renH (fun j => s.nx + j) l := by
      intro l
      induction l with
      | nil => intro i o hm; cases hm
      | cons q t ih =>
        obtain ⟨a, b⟩ := q
        intro i o hm
        rcases List.mem_cons.1 hm with hm | hm
        · cases hm; simp [renH]
        · simp only [renH]; exact List.mem_cons_of_mem _ (ih i o hm)
    have := h3 _ _ _ (mem_enumO (k := 0) hj)
    rwa [Nat.zero_add, (hpure j ob hj).2] at this
  have hm2 : ∀ {i o}, (i, o) ∈ hp2 → (i, o) ∈ renH (fun j => s.nx + j) (enumO 0 news) ++ hp2 := fun hm => List.mem_append_right _ hm
  have hmem : ∀ {i o}, (i, o) ∈ newsH k 0 news ++ hp2 → (∃ j, j < news.length ∧ i = k + 20 * j ∧ news[j]? = some o) ∨ (i, o) ∈ hp2 := fun {i o} hm => by
    rcases List.mem_append.1 hm with hm | hm
    · obtain ⟨j, h3, h4⟩ := newsH_mem hm
      rw [Nat.zero_add] at h3
      exact .inl ⟨j, (List.getElem?_eq_some_iff.1 h4).1, h3, h4⟩
    · exact .inr hm
  have own1 : ∀ {j ob b}, j < news.length → Own g2 w' (k + 20 * j) ob b → Own g1 w' (s.nx + j) ob b := fun {j ob b} hj ho => ho.congr (hg2a j hj) fun _ _ _ => rfl
  have own2 : ∀ {i o b}, (i, o) ∈ hp2 → Own g2 w' i o b → Own g1 w' i o b := fun {i o b} hm ho => ho.congr (hg2b i fun j hj => hne i o hm j hj) fun _ _ _ => rfl
  refine ⟨I', g2, h1.df, h1.sz, fun q => ?_, ⟨?_, ?_, ?_, ?_⟩, h1.bound, h1.up, h1.down, ?_, ?_, h1.fr, h.low⟩
  · have hj := h1.slots q
    simp only [look_setD] at hj ⊢
    by_cases c : dst = some q
    · rw [if_pos c] at hj ⊢
      have h3 := RV.unren (r := fun j => s.nx + j) hj st rfl hst
      exact h3.reren (r := fun j => k + 20 * j) fun i hi => ⟨(hk i hi).1, hg2a i hi⟩
    · rw [if_neg c] at hj ⊢
      refine hj.move fun i hi => ⟨(h.slots q).ids_lt i hi, hg2b i fun j hj e => (hk j hj).2.2.1 q (e ▸ hi)⟩
  · intro i o hm
    rcases hmem hm with ⟨j, hj, rfl, ho⟩ | hm
    · refine ⟨(hk j hj).1, (h1.heap.obj _ _ (hm1 ho)).2.move (hg2a j hj) fun i hi => ?_⟩
      rw [(hpure j o ho).1] at hi; cases hi
    · exact ⟨hlt i o hm, (h1.heap.obj _ _ (hm2 hm)).2.move (hg2b i fun j hj => hne i o hm j hj) fun q hq => ⟨hids i o hm q hq, hg2b q fun j hj e => (hk j hj).2.2.2.1 i o hm (e ▸ hq)⟩⟩
  · intro i o b hm ho
    rcases hmem hm with ⟨j, hj, rfl, hoj⟩ | hm
    · exact h1.heap.apart _ _ b (hm1 hoj) (own1 hj ho)
    · exact h1.heap.apart _ _ b (hm2 hm) (own2 hm ho)
  · show (List.map _ (newsH k 0 news ++ hp2)).Nodup
    rw [List.map_append, List.nodup_append]
    refine ⟨newsH_nodup _ _ _, hnd, fun x hx y hy e => ?_⟩
    obtain ⟨j, hj, rfl⟩ := newsH_keys_mem.1 hx
    obtain ⟨⟨i, o⟩, hm, rfl⟩ := List.mem_map.1 hy
    rw [Nat.zero_add] at e
    exact hne i o hm j hj e.symm
  · intro i o i' o' b hm hm' ho ho'
    rcases hmem hm with ⟨j, hj, rfl, hoj⟩ | hm <;> rcases hmem hm' with ⟨j', hj', rfl, hoj'⟩ | hm'
    · have := h1.heap.inj _ _ _ _ b (hm1 hoj) (hm1 hoj') (own1 hj ho) (own1 hj' ho')
      have : j = j' := by omega
      rw [this]
    · have := h1.heap.inj _ _ _ _ b (hm1 hoj) (hm2 hm') (own1 hj ho) (own2 hm' ho')
      have := hlt i' o' hm'
      omega
    · have := h1.heap.inj _ _ _ _ b (hm2 hm) (hm1 hoj') (own2 hm ho) (own1 hj' ho')
      have := hlt i o hm
      omega
    · exact h1.heap.inj _ _ _ _ b (hm2 hm) (hm2 hm') (own2 hm ho) (own2 hm' ho')
  · rintro b ⟨i, o, hm, ho⟩
    rcases hmem hm with ⟨j, hj, rfl, hoj⟩ | hm
    · exact h1.own b ⟨_, _, hm1 hoj, own1 hj ho⟩
    · exact h1.own b ⟨_, _, hm2 hm, own2 hm ho⟩
  · intro i o hm hb hK
    rcases hmem hm with ⟨j, hj, rfl, hoj⟩ | hm
    · exact absurd hK (hk j hj).2.2.2.2
    · rw [hg2b i fun j hj => hne i o hm j hj]
      exact h1.keep i o (hm2 hm) hb hK
end
end Go.VL
