/- V-logic, part 11: stores, literals, make. -/
import Derived.Test.YtkdgodkamaicjaaVSound8
namespace Go.VL
set_option linter.unusedVariables false
set_option linter.unusedSimpArgs false
section
variable {P : Program} {T : TT} {X : Cx} {I : Nat → Prop} {g : Gam} {s : S} {a : Act} {w : World} {o : Oper} {K : S → Prop}
  {N : Act → World → Prop} {Q : Exit → Act → World → Prop}

theorem vfz_sound (ids : List Nat) : ∀ (s : S) (I : Nat → Prop) (vs : List V) (vals : List Value) (Kf : S → List V → Prop), St X I g s a w → RVs I g s.nx w vs vals → vfz ids s vs Kf →
    ∃ s' I' vs', St X I' g s' a w ∧ RVs I' g s'.nx w vs' vals ∧ Kf s' vs' ∧ (∀ b, I b → I' b) ∧ s'.nx = s.nx ∧ s'.nt = s.nt := by
  induction ids with
  | nil => intro s I vs vals Kf h hv hk; exact ⟨s, I, vs, h, hv, hk, fun _ h => h, rfl, rfl⟩
  | cons id t ih =>
    intro s I vs vals Kf h hv hk
    simp only [vfz] at hk
    split at hk
    · rename_i x hl
      rw [S.force_eq, forceL_eq] at hk
      obtain ⟨I', hI, hx, hst⟩ := h.freeze hl
      have hv' : RVs I' g s.nx w (frzL id x vs) vals := by
        refine ⟨by rw [frzL_eq]; simpa using hv.1, fun i y v hy hu => ?_⟩
        rw [frzL_eq, List.getElem?_map] at hy
        cases hq : vs[i]? with
        | none => rw [hq] at hy; cases hy
        | some z => rw [hq] at hy; cases hy; exact (hv.2 i z v hq hu).frz hI hx
      obtain ⟨s', I2, vs', h1, h2, h3, h4, h5, h6⟩ := ih _ I' _ vals Kf hst hv' hk
      exact ⟨s', I2, vs', h1, h2, h3, fun b hb => h4 b (hI b hb), h5, h6⟩
    · rename_i y hi us hl
      split at hk
      · rename_i x hx
        rw [S.force_eq, forceL_eq] at hk
        obtain ⟨I', hI, hx, hst⟩ := h.freezeH hl hx
        have hv' : RVs I' g s.nx w (frzL id x vs) vals := by
          refine ⟨by rw [frzL_eq]; simpa using hv.1, fun i y v hy hu => ?_⟩
          rw [frzL_eq, List.getElem?_map] at hy
          cases hq : vs[i]? with
          | none => rw [hq] at hy; cases hy
          | some z => rw [hq] at hy; cases hy; exact (hv.2 i z v hq hu).frz hI hx
        obtain ⟨s', I2, vs', h1, h2, h3, h4, h5, h6⟩ := ih _ I' _ vals Kf hst hv' hk
        exact ⟨s', I2, vs', h1, h2, h3, fun b hb => h4 b (hI b hb), h5, h6⟩
      · exact hk.elim
    · rename_i q x hl
      rw [S.force_eq, forceL_eq] at hk
      obtain ⟨I', hI, hx, hst⟩ := h.freezeD hl
      have hv' : RVs I' g s.nx w (frzL id x vs) vals := by
        refine ⟨by rw [frzL_eq]; simpa using hv.1, fun i y v hy hu => ?_⟩
        rw [frzL_eq, List.getElem?_map] at hy
        cases hq : vs[i]? with
        | none => rw [hq] at hy; cases hy
        | some z => rw [hq] at hy; cases hy; exact (hv.2 i z v hq hu).frz hI hx
      obtain ⟨s', I2, vs', h1, h2, h3, h4, h5, h6⟩ := ih _ I' _ vals Kf hst hv' hk
      exact ⟨s', I2, vs', h1, h2, h3, fun b hb => h4 b (hI b hb), h5, h6⟩
    · exact hk.elim

theorem oneL_get {xs : List V} (h : oneL xs = true) : ∀ x ∈ xs, x.one = true := by
  induction xs with
  | nil => intro x hx; cases hx
  | cons y t ih =>
    simp only [oneL] at h
    split at h
    · rename_i h1
      intro x hx
      rcases List.mem_cons.1 hx with hx | hx
      · rw [hx]; exact h1
      · exact ih h x hx
    · cases h

theorem RV.one {n : Nat} {x : V} {v : Value} (h : RV I g n w x v) (h1 : x.one = true) : v.oneCell' = true := by
  cases h <;> first | rfl | cases h1 | skip
  rename_i h; exact h.one.1

theorem RVs.one {n : Nat} {xs : List V} {vs : List Value} (h : RVs I g n w xs vs) (h1 : oneL xs = true) : ∀ v ∈ vs, v.oneCell' = true := by
  intro v hv
  obtain ⟨i, hi⟩ := List.getElem?_of_mem hv
  have hlt : i < xs.length := by rw [h.1]; exact (List.getElem?_eq_some_iff.1 hi).1
  exact (h.2 i xs[i] v (List.getElem?_eq_getElem hlt) hi).one (oneL_get h1 _ (List.getElem_mem hlt))

theorem run_storeAt {t n : Nat} (hs : sizeIs P t n) {v : Value} (hn : v.cells.size = n) {b off : Nat} {cs : List Value} {ty : TypeId}
    (hb : w.heap[b]? = some (.cells cs.toArray ty (0, 0))) (hl : off + v.cells.size ≤ cs.length) (h1 : ∀ u ∈ v.cells.toList, u.oneCell' = true) :
    ∃ w', (Instr.storeAt t (.pointer (some ⟨b, off, none⟩)) v).run P w = .ok () w' ∧ w'.heap[b]? = some (.cells (putAt cs off v.cells.toList).toArray ty (0, 0)) ∧ Only b w w' := by
  obtain ⟨w', r1, r2, r3⟩ := run_storeCells (P := P) v.cells.toList w b off 0 cs ty hb (by simpa using hl) h1
  refine ⟨w', ?_, r2, r3⟩
  simp only [Instr.storeAt, Sem.run_bind, Instr.sureAddr, Sem.run_pure, Result.andThen_ok, storeVar, run_sizeOf' hs, hn, ne_eq, not_true_eq_false, if_false]
  simpa using r1

theorem putAt_get (cs : List Value) (k : Nat) (vs : List Value) (hl : k + vs.length ≤ cs.length) (i : Nat) :
    (putAt cs k vs)[i]? = if k ≤ i ∧ i < k + vs.length then vs[i - k]? else cs[i]? := by
  induction vs generalizing cs k with
  | nil => simp [putAt]; omega
  | cons v t ih =>
    rw [putAt, ih _ _ (by simp at hl ⊢; omega)]
    simp only [List.length_cons] at hl ⊢
    by_cases c1 : k + 1 ≤ i ∧ i < k + 1 + t.length
    · rw [if_pos c1, if_pos (by omega)]
      obtain ⟨m, hm⟩ : ∃ m, i - k = m + 1 := ⟨i - k - 1, by omega⟩
      rw [hm, List.getElem?_cons_succ]
      congr 1; omega
    · rw [if_neg c1, List.getElem?_set]
      by_cases c2 : k = i
      · subst c2; simp; omega
      · rw [if_neg c2, if_neg (by omega)]

theorem Elem.slVal {x : C} {i : Nat} {vy : Value} (h : Elem I w (x.row i) vy) (hp : x.isPg = true) : ∀ v ∈ vy.cells.toList, SlVal v := by
  intro v hv
  obtain ⟨j, hj⟩ := List.getElem?_of_mem hv
  have hj' : vy.cells[j]? = some v := by simpa using hj
  have hlt : j < (x.row i).length := by rw [← h.1]; exact (Array.getElem?_eq_some_iff.1 hj').1
  obtain ⟨u, a1, a2, _⟩ := h.2 j _ (List.getElem?_eq_getElem hlt)
  rw [hj'] at a1; cases a1
  exact a2.slVal (C.row_sl hp (List.getElem?_eq_getElem hlt))
theorem setRow_pg {x y : C} {i : Nat} {v : V} (h : x.setRow i v = some y) : y.isPg = x.isPg := by
  cases x <;> simp only [C.setRow, Option.map_eq_some_iff] at h <;> first | (obtain ⟨_, _, rfl⟩ := h; rfl) | cases h
theorem setCell_pg {x y : C} {i j : Nat} {v : V} (h : x.setCell i j v = some y) : y.isPg = x.isPg := by
  cases x <;> simp only [C.setCell] at h <;> first | (split at h <;> first | (simp only [Option.map_eq_some_iff] at h; obtain ⟨_, _, rfl⟩ := h; rfl) | cases h) | cases h

theorem row_apart {i k st q : Nat} (hne : k ≠ i) (hq : q < st) : k * st + q < i * st ∨ i * st + st ≤ k * st + q := by
  rcases Nat.lt_or_gt_of_ne hne with c | c
  · have : (k + 1) * st ≤ i * st := Nat.mul_le_mul_right _ c
    rw [Nat.add_mul, Nat.one_mul] at this; omega
  · have : (i + 1) * st ≤ k * st := Nat.mul_le_mul_right _ c
    rw [Nat.add_mul, Nat.one_mul] at this; omega

/-- a store into a row of an array of which the other element hi is told cell by cell -/
theorem store_hol {l : C} {t i j b cap hi : Nat} {v' : V} {vy : Value} {cells : List Value} {ty : TypeId} {KC : C → Prop} {J : Nat → Prop} {n : Nat} (hv : RV J g n w v' vy) (f1 : aggIs P t (T t).isAgg) (f2 : sizeIs P t (T t).size)
    (f4 : (T t).isAgg = false → (T t).size = 1) (hs : l.isSl = true) (hbk : w.heap[b]? = some (.cells cells.toArray ty (0, 0))) (hlen : cells.length = cap * l.stride) (hcap : l.len ≤ cap) (hil : i < l.len) (ht : l.isPg = true → ∀ v ∈ cells, SlVal v)
    (hne : i ≠ hi) (hJ : ∀ {w'}, Only b w w' → ∀ k, J k → w'.heap[k]? = w.heap[k]?)
    (hh : ∀ (k q : Nat) z, k < l.len → k ≠ hi → (l.row k)[q]? = some z → ∃ v, cells[k * l.stride + q]? = some v ∧ RC J w z v) (hk : vset l (T t) i j v' KC) :
    ∃ (x' : C) (w' : World) (cells' : List Value), KC x' ∧ (Instr.storeAt t (.pointer (some ⟨b, i * l.stride + j, none⟩)) vy).run P w = .ok () w' ∧ Only b w w' ∧ w'.heap[b]? = some (.cells cells'.toArray ty (0, 0)) ∧ cells'.length = cells.length ∧
      x'.isSl = true ∧ x'.stride = l.stride ∧ x'.len = l.len ∧ (x'.isPg = true → ∀ v ∈ cells', SlVal v) ∧ (∀ m, m < i * l.stride ∨ i * l.stride + l.stride ≤ m → cells'[m]? = cells[m]?) ∧
      ∀ (k q : Nat) z, k < x'.len → k ≠ hi → (x'.row k)[q]? = some z → ∃ v, cells'[k * x'.stride + q]? = some v ∧ RC J w' z v := by
  have hmul : i * l.stride + l.stride ≤ cap * l.stride := by
    have : (i + 1) * l.stride ≤ cap * l.stride := Nat.mul_le_mul_right _ (by omega)
    rwa [Nat.add_mul, Nat.one_mul] at this
  unfold vset at hk
  split at hk
  · rename_i hsz
    have hsz := Nat.eq_of_beq_eq_true hsz
    split at hk
    · rename_i hj
      have hj := Nat.eq_of_beq_eq_true hj
      subst hj
      split at hk
      · rename_i x' hx'
        obtain ⟨e1, e2, e3, e4, e5, e6⟩ := setRow_inv hx' hil hv
        have hrl := C.row_len x' i e1
        have hcs : vy.cells.size = (T t).size := by rw [e5, hrl, e2, hsz]
        obtain ⟨w', r1, r2, r3⟩ := run_storeAt f2 hcs hbk (off := i * l.stride + 0) (by rw [hcs, ← hsz, hlen]; omega) (fun u hu => by
          obtain ⟨k, hk⟩ := List.getElem?_of_mem hu
          have hk' : vy.cells[k]? = some u := by simpa using hk
          have hlt : k < (x'.row i).length := by rw [← e5]; exact (Array.getElem?_eq_some_iff.1 hk').1
          obtain ⟨u', h1, _, h3⟩ := e6 k _ (List.getElem?_eq_getElem hlt)
          rw [hk'] at h1; cases h1; exact h3)
        have hpl : i * l.stride + 0 + vy.cells.toList.length ≤ cells.length := by simp only [Array.length_toList]; rw [hcs, ← hsz, hlen]; omega
        refine ⟨x', w', _, hk, r1, r3, r2, by rw [length_putAt], e1, e2, e3, fun hp v hv => ?_, fun m hm => ?_, fun k q z hkl hki hz => ?_⟩
        · rcases mem_putAt hv with hv | hv
          · exact ht (by rw [← setRow_pg hx']; exact hp) v hv
          · exact Elem.slVal ⟨e5, e6⟩ hp v hv
        · rw [putAt_get _ _ _ hpl, if_neg]
          simp only [Array.length_toList]; rw [hcs, ← hsz]; omega
        · rw [e3] at hkl
          rw [e2, putAt_get _ _ _ hpl]
          have hqlt : q < l.stride := by
            have := (List.getElem?_eq_some_iff.1 hz).1
            rwa [C.row_len _ _ e1, e2] at this
          by_cases hki' : k = i
          · subst hki'
            rw [if_pos (by simp only [Array.length_toList]; omega)]
            obtain ⟨u, h1, h2, _⟩ := e6 q z hz
            refine ⟨u, ?_, h2.mono (fun _ h => h) (hJ r3)⟩
            rw [show k * l.stride + q - (k * l.stride + 0) = q from by omega]
            simpa using h1
          · rw [e4 k hki'] at hz
            obtain ⟨u, h1, h2⟩ := hh k q z hkl hki hz
            refine ⟨u, ?_, h2.mono (fun _ h => h) (hJ r3)⟩
            rw [if_neg]
            · exact h1
            · simp only [Array.length_toList]
              rw [hcs, ← hsz]
              have := row_apart (st := l.stride) hki' hqlt
              omega
      · exact hk.elim
    · exact hk.elim
  · split at hk
    · exact hk.elim
    · rename_i ha
      rw [ha] at f1
      have hsz1 := f4 ha
      split at hk
      · rename_i x' hx'
        obtain ⟨e1, e2, e3, e4, e5, c, e6, e7⟩ := setCell_inv hx' hil hv
        have hcs : vy.cells = #[vy] := e7.one.2
        have hpl : i * l.stride + j + vy.cells.toList.length ≤ cells.length := by rw [hcs, hlen]; show _ + 1 ≤ _; omega
        obtain ⟨w', r1, r2, r3⟩ := run_storeAt f2 (v := vy) (by rw [hcs, hsz1]; rfl) hbk (off := i * l.stride + j) (by simpa using hpl) (by rw [hcs]; intro u hu; simp at hu; subst hu; exact e7.one.1)
        refine ⟨x', w', _, hk, r1, r3, r2, by rw [length_putAt], e1, e2, e3, fun hp v hv => ?_, fun m hm => ?_, fun k q z hkl hki hz => ?_⟩
        · rcases mem_putAt hv with hv | hv
          · exact ht (by rw [← setCell_pg hx']; exact hp) v hv
          · rw [hcs] at hv
            simp only [List.mem_singleton] at hv
            subst hv
            refine e7.slVal (C.row_sl hp (i := i) (j := j) ?_)
            rw [e6, List.getElem?_set_self (by rw [C.row_len _ _ hs]; exact e4)]
        · rw [putAt_get _ _ _ hpl, if_neg]
          rw [hcs]; simp; omega
        · rw [e3] at hkl
          rw [e2, putAt_get _ _ _ hpl, hcs]
          have hqlt : q < l.stride := by
            have := (List.getElem?_eq_some_iff.1 hz).1
            rwa [C.row_len _ _ e1, e2] at this
          by_cases hki' : k = i
          · subst hki'
            rw [e6, List.getElem?_set] at hz
            by_cases hq : j = q
            · subst hq
              rw [if_pos rfl, if_pos (by rw [C.row_len _ _ hs]; exact e4)] at hz
              cases hz
              rw [if_pos (by simp)]
              exact ⟨vy, by simp, e7.mono (fun _ h => h) (hJ r3)⟩
            · rw [if_neg hq] at hz
              obtain ⟨u, h1, h2⟩ := hh k q z hkl hki hz
              refine ⟨u, ?_, h2.mono (fun _ h => h) (hJ r3)⟩
              rw [if_neg (by simp; omega)]
              exact h1
          · rw [e5 k hki'] at hz
            obtain ⟨u, h1, h2⟩ := hh k q z hkl hki hz
            refine ⟨u, ?_, h2.mono (fun _ h => h) (hJ r3)⟩
            rw [if_neg (by have := row_apart (st := l.stride) hki' hqlt; simp; omega)]
            exact h1
      · exact hk.elim

theorem told_row {f i j : Nat} {x : C} {ks : List Nat} (hs : x.isSl = true) {y : C} (hf : f ≤ i) (hi : i < x.len) (hk : i ∉ ks) (hy : (x.row i)[j]? = some y) : Told f x ks (i * x.stride + j) :=
  ⟨i, j, rfl, by have := (List.getElem?_eq_some_iff.1 hy).1; rwa [C.row_len _ _ hs] at this, hf, hi, hk⟩

theorem keysHs_append (a b : List (Nat × List V)) : keysHs (a ++ b) = keysHs a ++ keysHs b := by simp [keysHs]

theorem putAt_row {cells us : List Value} {n k : Nat} (hl : n + us.length ≤ cells.length) (h : k < n ∨ n + us.length ≤ k) : (putAt cells n us)[k]? = cells[k]? := by
  rw [putAt_get _ _ _ hl, if_neg (by omega)]

/-- a store into an array whose elements' slices are its own -/
theorem store_deep {id t i j b n f : Nat} {cl : Nat × Nat} {pn : Bool} {x : C} {hs : List (Nat × List V)} {v' : V} {vy : Value} {KO : O → Prop} (ho : RO I g n w id (.deep pn f x hs)) (hg : g id = some (b, cl)) (hnI : ¬ I b)
    (hv : RV I g n w v' vy) (f1 : aggIs P t (T t).isAgg) (f2 : sizeIs P t (T t).size) (f4 : (T t).isAgg = false → (T t).size = 1) (hil : i < x.len) (hk : deepSt pn f x hs (T t) i j v' KO) :
    ∃ (ob : O) (w' : World), KO ob ∧ (Instr.storeAt t (.pointer (some ⟨b, i * x.stride + j, none⟩)) vy).run P w = .ok () w' ∧ Only b w w' ∧ RO I g n w' id ob ∧ ob.isBox = pn ∧ ∀ b', Nst g w' id ob b' → Nst g w id (.deep pn f x hs) b' := by
  cases ho with
  | deep0 _ _ _ hg' => rw [hg] at hg'; cases hg'
  | deep _ _ _ _ b0 cap cells ty hg' hsl hbk hlen hcap hh hkn hr h2 hd ht =>
  rw [hg] at hg'
  cases hg'
  have hI' : ∀ {w'}, Only b w w' → ∀ k, I k → w'.heap[k]? = w.heap[k]? := fun r3 k hk => r3.block k fun e => hnI (e ▸ hk)
  have hmul : i * x.stride + x.stride ≤ cap * x.stride := by
    have : (i + 1) * x.stride ≤ cap * x.stride := Nat.mul_le_mul_right _ (by omega)
    rwa [Nat.add_mul, Nat.one_mul] at this
  have hcl : ∀ (k : Nat), w.cell? ⟨b, k, none⟩ = cells[k]? := fun k => by rw [cell_of_row w b _ cells.toArray ty (0, 0) hbk]; simp
  -- what is told stays
  have keep : ∀ {w' : World}, Only b w w' → ∀ {k q : Nat} {y : C} {v : Value}, f ≤ k → k < x.len → k ∉ keysHs hs → (x.row k)[q]? = some y → cells[k * x.stride + q]? = some v → NC w y v → NC w' y v := by
    intro w' r3 k q y v a1 a2 a3 a4 a5 a6
    refine a6.mono fun b1 l m e => r3.block b1 ?_
    have htd := told_row hsl a1 a2 a3 a4
    subst e
    exact (hd _ _ b1 0 l m 0 l m htd htd a5 a5).2
  have nst : ∀ {w' : World} {hs' : List (Nat × List V)} {x' : C} {cells' : List Value}, w'.heap[b]? = some (.cells cells'.toArray ty (0, 0)) → (∀ k, Told f x' (keysHs hs') k → Told f x (keysHs hs) k ∧ ∀ b' o l c, cells'[k]? = some (.slice (some ⟨b', o, none⟩) l c) → cells[k]? = some (.slice (some ⟨b', o, none⟩) l c)) →
      ∀ b', Nst g w' id (.deep pn f x' hs') b' → Nst g w id (.deep pn f x hs) b' := by
    rintro w' hs' x' cells' hb' hsub b' ⟨b1, cl, k, off, l, c, e1, e2, e3⟩
    rw [hg] at e1; cases e1
    obtain ⟨q1, q2⟩ := hsub k e2
    rw [cell_of_row w' b _ cells'.toArray ty (0, 0) hb'] at e3
    exact ⟨b, _, k, off, l, c, hg, q1, by rw [hcl]; exact q2 _ _ _ _ (by simpa using e3)⟩
  rcases vhole_true hk with ⟨p1, us, tl, rfl, hk3⟩ | ⟨hne, hk3⟩
  · rw [List.nil_append] at hk3
    obtain ⟨q1, q2⟩ := hh i us (by simp)
    split at hk3
    · rename_i hsz
      split at hsz
      · rename_i hone
        have hsz := Nat.eq_of_beq_eq_true hsz
        have hcs := cells_size hv (by
          cases v' with
          | any => cases hone
          | agg l => exact .inr ⟨l, rfl⟩
          | tup l => cases hone
          | _ => exact .inl rfl)
        have hvs : vy.cells.size = (T t).size := by rw [← hsz, hcs.1]; simp
        split at hk3
        · rename_i hle
          obtain ⟨hho, hle⟩ : holOk x v'.cells = true ∧ Nat.ble (j + (T t).size) us.length = true := by
            split at hle
            · rename_i h1; exact ⟨h1, hle⟩
            · cases hle
          have hle := Nat.le_of_ble_eq_true hle
          obtain ⟨w', r1, r2, r3⟩ := run_storeAt f2 hvs hbk (off := i * x.stride + j) (by rw [hvs, hlen]; omega) (hcs.one hone)
          have hvl2 : vy.cells.toList.length = (T t).size := by rw [Array.length_toList, hvs]
          have hpl : i * x.stride + j + vy.cells.toList.length ≤ cells.length := by rw [hvl2, hlen]; omega
          have hkeys : keysHs (p1 ++ (i, setVs us j v'.cells) :: tl) = keysHs (p1 ++ (i, us) :: tl) := by simp [keysHs]
          have hoff : ∀ {k q : Nat}, q < x.stride → k ≠ i → (putAt cells (i * x.stride + j) vy.cells.toList)[k * x.stride + q]? = cells[k * x.stride + q]? := fun {k q} hq hki => by
            refine putAt_row hpl ?_
            rw [hvl2]
            have := row_apart (st := x.stride) hki hq
            omega
          have hin : i ∈ keysHs (p1 ++ (i, us) :: tl) := mem_keysHs (us := us) (by simp)
          have htold : ∀ {k}, Told f x (keysHs (p1 ++ (i, us) :: tl)) k → (putAt cells (i * x.stride + j) vy.cells.toList)[k]? = cells[k]? := fun {k} ⟨i', j', e, h1, h3, h4, h5⟩ => by
            rw [e]; exact hoff h1 fun c => h5 (c ▸ hin)
          refine ⟨_, w', hk3, r1, r3, .deep pn f x _ b cap _ ty hg hsl r2 (by rw [length_putAt, hlen]) hcap (fun k us' hm => ?_) (by rw [hkeys]; exact hkn) (fun k q y a1 a2 a3 a4 => ?_) (fun k us' hm q hq => ?_) ?_ (fun hp v hv => ?_), rfl,
            nst r2 fun k hk => ?_⟩
          · rcases List.mem_append.1 hm with hm | hm
            · exact hh k us' (by simp [hm])
            · rcases List.mem_cons.1 hm with hm | hm
              · cases hm; exact ⟨q1, by rw [length_setVs]; exact q2⟩
              · exact hh k us' (by simp [hm])
          · rw [hkeys] at a3
            obtain ⟨v, h3, h4⟩ := hr k q y a1 a2 a3 a4
            have hq : q < x.stride := by have := (List.getElem?_eq_some_iff.1 a4).1; rwa [C.row_len _ _ hsl] at this
            exact ⟨v, by rw [hoff hq fun c => a3 (by rw [c]; exact hin)]; exact h3, keep r3 a1 a2 a3 a4 h3 h4⟩
          · -- a row that is told cell by cell
            have hrow : RVs I g n w us ((cells.drop (i * x.stride)).take x.stride) := by
              refine ⟨by simp only [List.length_take, List.length_drop]; omega, fun j u v hu hv => ?_⟩
              rw [List.getElem?_take] at hv
              split at hv
              · rename_i hj
                rw [List.getElem?_drop] at hv
                obtain ⟨u', v', a1, a2, _, a4⟩ := h2 i us (by simp) j hj
                rw [hu] at a1; rw [hv] at a2; cases a1; cases a2; exact a4
              · cases hv
            by_cases hki : k = i
            · subst hki
              have hdup : (∀ us0, (k, us0) ∉ p1) ∧ ∀ us0, (k, us0) ∉ tl := by
                have h0 : (keysHs p1 ++ k :: keysHs tl).Nodup := by simpa [keysHs] using hkn
                rw [List.nodup_append] at h0
                obtain ⟨_, h1, h2⟩ := h0
                exact ⟨fun us0 hm => h2 k (mem_keysHs hm) k List.mem_cons_self rfl, fun us0 hm => (List.nodup_cons.1 h1).1 (mem_keysHs hm)⟩
              have hql : k * x.stride + q < (putAt cells (k * x.stride + j) vy.cells.toList).length := by rw [length_putAt, hlen]; omega
              have hput := hrow.putAt hcs j
              have hql2 : q < (setVs us j v'.cells).length := by rw [length_setVs]; omega
              have hval : (putAt ((cells.drop (k * x.stride)).take x.stride) j vy.cells.toList)[q]? = some ((putAt cells (k * x.stride + j) vy.cells.toList)[k * x.stride + q]) ∧ ((putAt cells (k * x.stride + j) vy.cells.toList)[k * x.stride + q]).oneCell' = true := by
                have hv := List.getElem?_eq_getElem hql
                generalize (putAt cells (k * x.stride + j) vy.cells.toList)[k * x.stride + q] = v at hv
                rw [putAt_get _ _ _ hpl] at hv
                rw [putAt_get _ _ _ (by simp only [List.length_take, List.length_drop]; rw [hvl2]; omega)]
                by_cases c : j ≤ q ∧ q < j + vy.cells.toList.length
                · rw [if_pos (by omega)] at hv
                  rw [if_pos c, show q - j = k * x.stride + q - (k * x.stride + j) from by omega]
                  exact ⟨hv, hcs.one hone v (List.mem_of_getElem? hv)⟩
                · rw [if_neg (by omega)] at hv
                  rw [if_neg c, List.getElem?_take, if_pos hq, List.getElem?_drop]
                  obtain ⟨_, v', _, a2, a3, _⟩ := h2 k us (by simp) q hq
                  rw [hv] at a2; cases a2
                  exact ⟨hv, a3⟩
              have hset : ∃ u v, (setVs us j v'.cells)[q]? = some u ∧ (putAt cells (k * x.stride + j) vy.cells.toList)[k * x.stride + q]? = some v ∧ v.oneCell' = true ∧ RV I g n w' u v :=
                ⟨_, _, List.getElem?_eq_getElem hql2, List.getElem?_eq_getElem hql, hval.2, (hput.2 q _ _ (List.getElem?_eq_getElem hql2) hval.1).mono (fun _ h => h) (hI' r3) (Nat.le_refl _) fun _ _ => rfl⟩
              rcases List.mem_append.1 hm with hm | hm
              · exact (hdup.1 _ hm).elim
              · rcases List.mem_cons.1 hm with hm | hm
                · cases hm; exact hset
                · exact (hdup.2 _ hm).elim
            · have hm' : (k, us') ∈ p1 ++ (i, us) :: tl := by
                rcases List.mem_append.1 hm with hm | hm
                · simp [hm]
                · rcases List.mem_cons.1 hm with hm | hm
                  · cases hm; exact absurd rfl hki
                  · simp [hm]
              obtain ⟨u, v, a1, a2, a3, a4⟩ := h2 k us' hm' q hq
              exact ⟨u, v, a1, by rw [hoff hq hki]; exact a2, a3, a4.mono (fun _ h => h) (hI' r3) (Nat.le_refl _) fun _ _ => rfl⟩
          · intro k k' b' o l c o' l' c' t1 t2 e1 e2
            rw [hkeys] at t1 t2
            rw [htold t1] at e1; rw [htold t2] at e2
            exact hd k k' b' o l c o' l' c' t1 t2 e1 e2
          · rcases mem_putAt hv with hv | hv
            · exact ht hp v hv
            · exact hcs.slVal (holOk_sl hho hp) v hv
          · rw [hkeys] at hk
            exact ⟨hk, fun b' o l c e => by rw [htold hk] at e; exact e⟩
        · exact hk3.elim
      · cases hsz
    · exact hk3.elim
  · split at hk3
    · -- numbers
      rename_i hnum
      obtain ⟨kk, xs, rfl⟩ : ∃ k xs, x = .nums k xs := by cases x <;> first | exact ⟨_, _, rfl⟩ | cases hnum
      unfold vset at hk3
      split at hk3
      · rename_i hsz
        have hsz := Nat.eq_of_beq_eq_true hsz
        split at hk3
        · rename_i hj
          have hj := Nat.eq_of_beq_eq_true hj
          subst hj
          split at hk3
          · rename_i x' hx'
            obtain ⟨e1, e2, e3, e4, e5, e6⟩ := setRow_inv hx' hil hv
            have hrl := C.row_len x' i e1
            have hst1 : (C.nums kk xs).stride = 1 := rfl
            have hcs : vy.cells.size = 1 := by rw [e5, hrl, e2]; rfl
            obtain ⟨w', r1, r2, r3⟩ := run_storeAt f2 (by rw [hcs, ← hsz]; rfl) hbk (off := i * (C.nums kk xs).stride + 0) (by rw [hcs, hlen]; omega) (fun u hu => by
              obtain ⟨k, hk⟩ := List.getElem?_of_mem hu
              have hk' : vy.cells[k]? = some u := by simpa using hk
              have hlt : k < (x'.row i).length := by rw [← e5]; exact (Array.getElem?_eq_some_iff.1 hk').1
              obtain ⟨u', h1, _, h3⟩ := e6 k _ (List.getElem?_eq_getElem hlt)
              rw [hk'] at h1; cases h1; exact h3)
            have hpl : i * (C.nums kk xs).stride + 0 + vy.cells.toList.length ≤ cells.length := by rw [Array.length_toList, hcs, hlen]; omega
            obtain ⟨m, hm, rfl⟩ : ∃ m, v'.asInt kk = some m ∧ x' = .nums kk (xs.set i m) := by
              simp only [C.setRow, Option.map_eq_some_iff] at hx'
              obtain ⟨m, h, rfl⟩ := hx'; exact ⟨m, h, rfl⟩
            have hnsl : ∀ {x0 : C} {ks : List Nat} {k b' o l c} {cs : List Value} {w0 : World}, (∃ k0 zs, x0 = .nums k0 zs) → (∀ (i j : Nat) y, f ≤ i → i < x0.len → i ∉ ks → (x0.row i)[j]? = some y → ∃ v, cs[i * x0.stride + j]? = some v ∧ NC w0 y v) →
                Told f x0 ks k → cs[k]? = some (.slice (some ⟨b', o, none⟩) l c) → False := by
              rintro x0 ks k b' o l c cs w0 ⟨k0, zs, rfl⟩ hrr ⟨i', j', e, h1, h3, h4, h5⟩ hcell
              have hj0 : j' = 0 := by simp only [C.stride] at h1; omega
              subst hj0
              obtain ⟨v, g1, g2⟩ := hrr i' 0 (.int k0 (zs.getD i' 0)) h3 h4 h5 (by simp [C.row])
              rw [← e, hcell] at g1; cases g1; cases g2
            have hrow' : ∀ (k q : Nat) y, f ≤ k → k < (C.nums kk (xs.set i m)).len → k ∉ keysHs hs → ((C.nums kk (xs.set i m)).row k)[q]? = some y → ∃ v, (putAt cells (i * (C.nums kk xs).stride + 0) vy.cells.toList)[k * (C.nums kk (xs.set i m)).stride + q]? = some v ∧ NC w' y v := by
              intro k q y a1 a2 a3 a4
              rw [e3] at a2
              rw [e2]
              have hq : q < (C.nums kk xs).stride := by have := (List.getElem?_eq_some_iff.1 a4).1; rwa [C.row_len _ _ e1, e2] at this
              by_cases hki : k = i
              · subst hki
                obtain ⟨u, h1, h3, _⟩ := e6 q y a4
                have hq0 : q = 0 := by simp only [C.stride] at hq; omega
                subst hq0
                refine ⟨u, ?_, ?_⟩
                · rw [putAt_get _ _ _ hpl, if_pos (by rw [Array.length_toList, hcs]; omega)]
                  simpa using h1
                · simp only [C.row, List.getElem?_cons_zero, Option.some.injEq] at a4
                  subst a4
                  cases h3 with
                  | int => exact .int _ _
                  | empty _ _ _ hs => cases hs
                  | sl _ _ _ _ _ hs => cases hs
              · rw [e4 k hki] at a4
                obtain ⟨v, h3, h4⟩ := hr k q y a1 a2 a3 a4
                refine ⟨v, ?_, keep r3 a1 a2 a3 a4 h3 h4⟩
                rw [putAt_row hpl]
                · exact h3
                · rw [Array.length_toList, hcs]
                  have := row_apart (st := (C.nums kk xs).stride) hki hq
                  simp only [C.stride] at this ⊢
                  omega
            refine ⟨_, w', hk3, r1, r3, .deep pn f _ hs b cap _ ty (by rw [e3]; exact hg) e1 r2 (by rw [length_putAt, hlen, e2]) (by rw [e3]; exact hcap) (fun k us hm => by rw [e3, e2]; exact hh k us hm) hkn hrow' (fun k us hm q hq => ?_) ?_ (fun hp => by cases hp), rfl, ?_⟩
            · rw [e2] at hq ⊢
              obtain ⟨u, v, a1, a2, a3, a4⟩ := h2 k us hm q hq
              refine ⟨u, v, a1, ?_, a3, a4.mono (fun _ h => h) (hI' r3) (Nat.le_refl _) fun _ _ => rfl⟩
              rw [putAt_row hpl]
              · exact a2
              · rw [Array.length_toList, hcs]
                have := row_apart (st := (C.nums kk xs).stride) (fun c => hne (c ▸ mem_keysHs hm) : k ≠ i) hq
                simp only [C.stride] at this ⊢
                omega
            · intro k k' b' o l c o' l' c' t1 t2 e1' e2'
              exact (hnsl ⟨_, _, rfl⟩ hrow' t1 e1').elim
            · rintro b' ⟨b1, cl, k, off, l, c, q1, q2, q3⟩
              rw [hg] at q1; cases q1
              rw [cell_of_row w' b _ _ ty (0, 0) r2] at q3
              exact (hnsl ⟨_, _, rfl⟩ hrow' q2 (by simpa using q3)).elim
          · exact hk3.elim
        · exact hk3.elim
      · rename_i hsz
        split at hk3
        · exact hk3.elim
        · rename_i ha
          exact absurd (f4 ha) (fun h => Nat.ne_of_beq_eq_false hsz (by rw [h]; rfl))
    · split at hk3
      · rename_i hwh
        simp only [whOk, Bool.and_eq_true] at hwh
        obtain ⟨⟨⟨⟨hone, w2⟩, w3⟩, w4⟩, hho⟩ := hwh
        have hsz := Nat.eq_of_beq_eq_true w2
        have hszl := Nat.eq_of_beq_eq_true w3
        have w4 := Nat.eq_of_beq_eq_true w4
        subst w4
        have hcs := cells_size hv (by
          cases v' with
          | any => cases hone
          | agg l => exact .inr ⟨l, rfl⟩
          | tup l => cases hone
          | _ => exact .inl rfl)
        have hvs : vy.cells.size = (T t).size := by rw [← hsz, hcs.1]; simp
        have hvl2 : vy.cells.toList.length = x.stride := by rw [Array.length_toList, hvs, hszl]
        obtain ⟨w', r1, r2, r3⟩ := run_storeAt f2 hvs hbk (off := i * x.stride + 0) (by rw [hvs, hlen]; omega) (hcs.one hone)
        have hpl : i * x.stride + 0 + vy.cells.toList.length ≤ cells.length := by rw [hvl2, hlen]; omega
        have hoff : ∀ {k q : Nat}, q < x.stride → k ≠ i → (putAt cells (i * x.stride + 0) vy.cells.toList)[k * x.stride + q]? = cells[k * x.stride + q]? := fun {k q} hq hki => by
          refine putAt_row hpl ?_
          rw [hvl2]
          have := row_apart (st := x.stride) hki hq
          omega
        have hkeys : keysHs (hs ++ [(i, v'.cells)]) = keysHs hs ++ [i] := by simp [keysHs]
        have hsub : ∀ {k}, Told f x (keysHs (hs ++ [(i, v'.cells)])) k → Told f x (keysHs hs) k ∧ (putAt cells (i * x.stride + 0) vy.cells.toList)[k]? = cells[k]? := fun {k} ⟨i', j', e, h1, h3, h4, h5⟩ => by
          rw [hkeys, List.mem_append, not_or] at h5
          exact ⟨⟨i', j', e, h1, h3, h4, h5.1⟩, by rw [e]; exact hoff h1 fun c => h5.2 (by simp [c])⟩
        refine ⟨_, w', hk3, r1, r3, .deep pn f x _ b cap _ ty hg hsl r2 (by rw [length_putAt, hlen]) hcap (fun k us' hm => ?_) (by rw [hkeys, List.nodup_append]; exact ⟨hkn, by simp, fun a ha b hb => by simp only [List.mem_singleton] at hb; subst hb; exact fun c => hne (c ▸ ha)⟩) (fun k q y a1 a2 a3 a4 => ?_) (fun k us' hm q hq => ?_) ?_ (fun hp v hv => ?_), rfl, nst r2 fun k hk => ?_⟩
        · rcases List.mem_append.1 hm with hm | hm
          · exact hh k us' hm
          · simp only [List.mem_singleton] at hm; cases hm; exact ⟨hil, by rw [hsz, hszl]⟩
        · rw [hkeys, List.mem_append, not_or] at a3
          obtain ⟨v, h3, h4⟩ := hr k q y a1 a2 a3.1 a4
          have hq : q < x.stride := by have := (List.getElem?_eq_some_iff.1 a4).1; rwa [C.row_len _ _ hsl] at this
          exact ⟨v, by rw [hoff hq fun c => a3.2 (by simp [c])]; exact h3, keep r3 a1 a2 a3.1 a4 h3 h4⟩
        · rcases List.mem_append.1 hm with hm | hm
          · obtain ⟨u, v, a1, a2, a3, a4⟩ := h2 k us' hm q hq
            exact ⟨u, v, a1, by rw [hoff hq fun c => hne (c ▸ mem_keysHs hm)]; exact a2, a3, a4.mono (fun _ h => h) (hI' r3) (Nat.le_refl _) fun _ _ => rfl⟩
          · simp only [List.mem_singleton] at hm; cases hm
            have hql : q < v'.cells.length := by omega
            have hql2 : q < vy.cells.toList.length := by omega
            refine ⟨_, _, List.getElem?_eq_getElem hql, ?_, hcs.one hone _ (List.getElem_mem hql2), (hcs.2 q _ _ (List.getElem?_eq_getElem hql) (List.getElem?_eq_getElem hql2)).mono (fun _ h => h) (hI' r3) (Nat.le_refl _) fun _ _ => rfl⟩
            rw [putAt_get _ _ _ hpl, if_pos (by omega), show i * x.stride + q - (i * x.stride + 0) = q by omega]
            exact List.getElem?_eq_getElem hql2
        · intro k k' b' o l c o' l' c' t1 t2 e1 e2
          obtain ⟨t1, m1⟩ := hsub t1
          obtain ⟨t2, m2⟩ := hsub t2
          rw [m1] at e1; rw [m2] at e2
          exact hd k k' b' o l c o' l' c' t1 t2 e1 e2
        · rcases mem_putAt hv with hv | hv
          · exact ht hp v hv
          · exact hcs.slVal (holOk_sl hho hp) v hv
        · obtain ⟨t1, m1⟩ := hsub hk
          exact ⟨t1, fun b' o l c e => by rw [m1] at e; exact e⟩
      · exact hk3.elim

/-- a whole element with owned slices goes into an array -/
theorem sound_storeH (hT : TOk P T) {t : Nat} {x y : Operand} (ho : o.op = .store t x y) (h : St X I g s a w) (hok : (T t).ok = true) {id i st : Nat} {l : C}
    (hxe : evl s.env x = .ptr id i st 0) (hl : lookH s.hp id = some (.arr l)) (hil : i < l.len) (hst : st = l.stride) (hone : oneL (evl s.env y).cells = true) (hsz : (evl s.env y).cells.length = (T t).size) (hsl : (T t).size = l.stride)
    (hho : holOk l (evl s.env y).cells = true) (hk : S.put ⟨s.nt, s.nx, s.env, setH s.hp id (.hol l i (evl s.env y).cells)⟩ o.dst (.tup []) K)
    (hN : ∀ s' a' w', Sat X s' a' w' → K s' → N a' w') : o.wp P a w N Q := by
  have hb : T t ≠ .bad := fun e => by rw [e] at hok; cases hok
  obtain ⟨f1, f2, f3, f4⟩ := TI.facts (hT t) hb
  have hx := h.eval x
  have hy := h.eval y
  have hfin : ∀ {s' : S} {I'} {w'}, (Instr.storeAt t (a.eval x) (a.eval y)).run P w = .ok () w' → St X I' g s' a w' → s'.put o.dst (.tup []) K → o.wp P a w N Q := fun hr hst hk =>
    finish_skip (by simp [execOp, ho, hr]) hst hk hN
  generalize a.eval x = vx at hx hfin
  generalize a.eval y = vy at hy hfin
  rw [hxe] at hx
  cases hx with
  | ptr _ _ _ _ b cl hn hg =>
  have hm := lookH_mem hl
  have hro := (h.heap.obj id _ hm).2
  cases hro with
  | none _ hg' => rw [hg] at hg'; cases hg'
  | arr _ b' cap cells ty hg' hs hbk hlen hcap hh ht =>
  rw [hg] at hg'
  cases hg'
  have hI' : ∀ {w'}, Only b w w' → ∀ k, I k → w'.heap[k]? = w.heap[k]? := fun r3 k hk => r3.block k fun e => (h.heap.apart id _ b hm (.pri hg)).1 (e ▸ hk)
  have hcs := cells_size hy (by
    cases he : evl s.env y with
    | any => rw [he] at hone; cases hone
    | agg l => exact .inr ⟨l, rfl⟩
    | tup l => rw [he] at hone; cases hone
    | _ => exact .inl rfl)
  have hvs : vy.cells.size = (T t).size := by rw [← hsz, hcs.1]; simp
  have hmul : i * l.stride + l.stride ≤ cap * l.stride := by
    have : (i + 1) * l.stride ≤ cap * l.stride := Nat.mul_le_mul_right _ (by omega)
    rwa [Nat.add_mul, Nat.one_mul] at this
  obtain ⟨w', r1, r2, r3⟩ := run_storeAt f2 hvs hbk (off := i * st + 0) (by rw [hvs, hlen, hst]; omega) (hcs.one hone)
  have hpl : i * st + 0 + vy.cells.toList.length ≤ cells.length := by simp only [Array.length_toList]; rw [hvs, hlen, hst]; omega
  refine hfin r1 (h.modify (ob' := .hol l i (evl s.env y).cells) hm hg rfl r3 (.hol l i _ b cap _ ty hg hs r2 (by rw [length_putAt, hlen]) hcap hil (by rw [hsz, hsl]) (fun k q z hkl hki hz => ?_) (fun q hq => ?_) fun hp v hv => by
    rcases mem_putAt hv with hv | hv
    · exact ht hp v hv
    · exact hcs.slVal (holOk_sl hho hp) v hv)) hk
  · have hqlt : q < l.stride := by
      have := (List.getElem?_eq_some_iff.1 hz).1
      rwa [C.row_len _ _ hs] at this
    obtain ⟨u, h1, h3⟩ := hh k q z hkl hz
    refine ⟨u, ?_, h3.mono (fun _ h => h) (hI' r3)⟩
    rw [putAt_get _ _ _ hpl, if_neg]
    · exact h1
    · simp only [Array.length_toList]
      rw [hvs, hst, hsl]
      have := row_apart (st := l.stride) hki hqlt
      omega
  · have hql : q < (evl s.env y).cells.length := by omega
    have hql2 : q < vy.cells.toList.length := by simp only [Array.length_toList]; omega
    refine ⟨_, _, List.getElem?_eq_getElem hql, ?_, hcs.one hone _ (List.getElem_mem hql2), (hcs.2 q _ _ (List.getElem?_eq_getElem hql) (List.getElem?_eq_getElem hql2)).mono (fun _ h => h) (hI' r3) (Nat.le_refl _) fun _ _ => rfl⟩
    rw [putAt_get _ _ _ hpl, if_pos (by rw [hst]; omega), hst, show i * l.stride + q - (i * l.stride + 0) = q by omega]
    exact List.getElem?_eq_getElem hql2

theorem sound_store (hT : TOk P T) {t : Nat} {x y : Operand} (ho : o.op = .store t x y) (h : St X I g s a w) (hok : (T t).ok = true)
    (hk : vstore T t s (evl s.env x) (evl s.env y) fun s => s.put o.dst (.tup []) K)
    (hN : ∀ s' a' w', Sat X s' a' w' → K s' → N a' w') : o.wp P a w N Q := by
  have hb : T t ≠ .bad := fun e => by rw [e] at hok; cases hok
  obtain ⟨f1, f2, f3, f4⟩ := TI.facts (hT t) hb
  have hx := h.eval x
  have hy := h.eval y
  have hfin : ∀ {s' : S} {I'} {w'}, (Instr.storeAt t (a.eval x) (a.eval y)).run P w = .ok () w' → St X I' g s' a w' → s'.put o.dst (.tup []) K → o.wp P a w N Q := fun hr hst hk =>
    finish_skip (by simp [execOp, ho, hr]) hst hk hN
  generalize a.eval x = vx at hx hfin
  generalize a.eval y = vy at hy hfin
  unfold vstore at hk
  split at hk
  · rename_i id i st j hxe
    rw [hxe] at hx
    split at hk
    · rename_i l hl0
      obtain ⟨s', I', vs', hs', hv', hk3, hI, hnx, hnt⟩ := vfz_sound _ s I [evl s.env y] [vy] _ h ⟨rfl, fun i z v hz hv => by
        cases i with
        | zero => cases hz; cases hv; exact hy
        | succ i => simp at hz⟩ hk
      split at hk3
      · rename_i v'
        have hv := hv'.2 0 _ _ rfl rfl
        split at hk3
        · rename_i l' hl
          obtain ⟨⟨hi, hst⟩, hk2⟩ := vneed_true hk3
          cases hx with
          | ptr _ _ _ _ b cl hn hg =>
          have hm := lookH_mem hl
          have hro := (hs'.heap.obj id _ hm).2
          have hrow := RowV.of_arr hro hg hi
          cases hro with
          | none _ hg' => rw [hg] at hg'; cases hg'
          | arr _ b' cap cells ty hg' hs hbk hlen hcap hh ht =>
          rw [hg] at hg'
          cases hg'
          have hI' : ∀ {w'}, Only b w w' → ∀ k, I' k → w'.heap[k]? = w.heap[k]? := fun r3 k hk => r3.block k fun e => (hs'.heap.apart id _ b hm (.pri hg)).1 (e ▸ hk)
          have hmul : i * l'.stride + l'.stride ≤ cap * l'.stride := by
            have : (i + 1) * l'.stride ≤ cap * l'.stride := Nat.mul_le_mul_right _ (by omega)
            rwa [Nat.add_mul, Nat.one_mul] at this
          unfold vset at hk2
          split at hk2
          · rename_i hsz
            have hsz := Nat.eq_of_beq_eq_true hsz
            split at hk2
            · rename_i hj
              have hj := Nat.eq_of_beq_eq_true hj
              subst hj
              split at hk2
              · rename_i x' hx'
                rw [S.withHp_eq] at hk2
                obtain ⟨e1, e2, e3, e4, e5, e6⟩ := setRow_inv hx' hi hv
                have hrl := C.row_len x' i e1
                have hcs : vy.cells.size = (T t).size := by rw [e5, hrl, e2, hsz]
                obtain ⟨w', r1, r2, r3⟩ := run_storeAt f2 hcs hbk (off := i * st + 0) (by rw [hcs, ← hsz, hlen, hst]; omega) (fun u hu => by
                  obtain ⟨k, hk⟩ := List.getElem?_of_mem hu
                  have hk' : vy.cells[k]? = some u := by simpa using hk
                  have hlt : k < (x'.row i).length := by rw [← e5]; exact (Array.getElem?_eq_some_iff.1 hk').1
                  obtain ⟨u', h1, _, h3⟩ := e6 k _ (List.getElem?_eq_getElem hlt)
                  rw [hk'] at h1; cases h1; exact h3)
                refine hfin r1 (hs'.modify (ob' := .arr x') hm hg rfl r3 (RO.arr_of (by rw [e3]; exact hg) e1 r2 (by rw [length_putAt, hlen, e2]) (by rw [e3]; exact hcap) (fun k q z hkl hz => ?_) fun hp v hv => by
                  rcases mem_putAt hv with hv | hv
                  · exact ht (by rw [← setRow_pg hx']; exact hp) v hv
                  · exact Elem.slVal ⟨e5, e6⟩ hp v hv)) hk2
                rw [e3] at hkl
                rw [e2, putAt_get _ _ _ (by simp only [Array.length_toList]; rw [hcs, ← hsz, hlen, hst]; omega)]
                have hqlt : q < l'.stride := by
                  have := (List.getElem?_eq_some_iff.1 hz).1
                  rwa [C.row_len _ _ e1, e2] at this
                by_cases hki : k = i
                · subst hki
                  rw [if_pos (by rw [hst]; simp only [Array.length_toList]; omega)]
                  obtain ⟨u, h1, h2, _⟩ := e6 q z hz
                  refine ⟨u, ?_, h2.mono (fun _ h => h) (hI' r3)⟩
                  rw [hst, show k * l'.stride + q - (k * l'.stride + 0) = q from by omega]
                  simpa using h1
                · rw [e4 k hki] at hz
                  obtain ⟨u, h1, h2⟩ := hh k q z hkl hz
                  refine ⟨u, ?_, h2.mono (fun _ h => h) (hI' r3)⟩
                  rw [if_neg]
                  · exact h1
                  · simp only [Array.length_toList]
                    rw [hcs, ← hsz, hst]
                    rcases Nat.lt_or_gt_of_ne hki with c | c
                    · have : (k + 1) * l'.stride ≤ i * l'.stride := Nat.mul_le_mul_right _ c
                      rw [Nat.add_mul, Nat.one_mul] at this; omega
                    · have : (i + 1) * l'.stride ≤ k * l'.stride := Nat.mul_le_mul_right _ c
                      rw [Nat.add_mul, Nat.one_mul] at this; omega
              · exact hk2.elim
            · exact hk2.elim
          · split at hk2
            · exact hk2.elim
            · rename_i ha
              rw [ha] at f1
              have hsz1 := f4 ha
              split at hk2
              · rename_i x' hx'
                rw [S.withHp_eq] at hk2
                obtain ⟨e1, e2, e3, e4, e5, c, e6, e7⟩ := setCell_inv hx' hi hv
                have hcs : vy.cells = #[vy] := e7.one.2
                obtain ⟨w', r1, r2, r3⟩ := run_storeAt f2 (v := vy) (by rw [hcs, hsz1]; rfl) hbk (off := i * st + j) (by rw [hcs, hlen, hst]; show _ + 1 ≤ _; omega) (by rw [hcs]; intro u hu; simp at hu; subst hu; exact e7.one.1)
                refine hfin r1 (hs'.modify (ob' := .arr x') hm hg rfl r3 (RO.arr_of (by rw [e3]; exact hg) e1 r2 (by rw [length_putAt, hlen, e2]) (by rw [e3]; exact hcap) (fun k q z hkl hz => ?_) fun hp v hv => by
                  rcases mem_putAt hv with hv | hv
                  · exact ht (by rw [← setCell_pg hx']; exact hp) v hv
                  · rw [hcs] at hv
                    simp only [List.mem_singleton] at hv
                    subst hv
                    refine e7.slVal (C.row_sl hp (i := i) (j := j) ?_)
                    rw [e6, List.getElem?_set_self (by rw [C.row_len _ _ hs]; exact e4)])) hk2
                rw [e3] at hkl
                rw [e2, putAt_get _ _ _ (by rw [hcs, hlen, hst]; show _ + 1 ≤ _; omega), hcs]
                have hqlt : q < l'.stride := by
                  have := (List.getElem?_eq_some_iff.1 hz).1
                  rwa [C.row_len _ _ e1, e2] at this
                have hsep : k ≠ i → k * l'.stride + q ≠ i * l'.stride + j := fun hki e => by
                  rcases Nat.lt_or_gt_of_ne hki with c | c
                  · have : (k + 1) * l'.stride ≤ i * l'.stride := Nat.mul_le_mul_right _ c
                    rw [Nat.add_mul, Nat.one_mul] at this; omega
                  · have : (i + 1) * l'.stride ≤ k * l'.stride := Nat.mul_le_mul_right _ c
                    rw [Nat.add_mul, Nat.one_mul] at this; omega
                by_cases hki : k = i
                · subst hki
                  rw [e6, List.getElem?_set] at hz
                  by_cases hq : j = q
                  · subst hq
                    rw [if_pos rfl, if_pos (by rw [C.row_len _ _ hs]; exact e4)] at hz
                    cases hz
                    rw [if_pos (by rw [hst]; simp)]
                    exact ⟨vy, by rw [hst]; simp, e7.mono (fun _ h => h) (hI' r3)⟩
                  · rw [if_neg hq] at hz
                    obtain ⟨u, h1, h2⟩ := hh k q z hkl hz
                    refine ⟨u, ?_, h2.mono (fun _ h => h) (hI' r3)⟩
                    rw [if_neg (by rw [hst]; simp; omega)]
                    exact h1
                · rw [e5 k hki] at hz
                  obtain ⟨u, h1, h2⟩ := hh k q z hkl hz
                  refine ⟨u, ?_, h2.mono (fun _ h => h) (hI' r3)⟩
                  rw [if_neg (by have := hsep hki; rw [hst]; simp; omega)]
                  exact h1
              · exact hk2.elim
        · exact hk3.elim
      · exact hk3.elim
    · rename_i l hi us hl
      obtain ⟨⟨hil, hst⟩, hk2⟩ := vneed_true hk
      cases hx with
      | ptr _ _ _ _ b cl hn hg =>
      have hm := lookH_mem hl
      have hro := (h.heap.obj id _ hm).2
      cases hro with
      | hol _ _ _ b' cap cells ty hg' hs hbk hlen hcap hhi hvl hh h2 ht =>
      rw [hg] at hg'
      cases hg'
      have hI' : ∀ {w'}, Only b w w' → ∀ k, I k → w'.heap[k]? = w.heap[k]? := fun r3 k hk => r3.block k fun e => (h.heap.apart id _ b hm (.pri hg)).1 (e ▸ hk)
      rcases vor_true hk2 with ⟨rfl, hk3⟩ | ⟨hne, hk3⟩
      · split at hk3
        · rename_i hsz
          split at hsz
          · rename_i hone
            have hsz := Nat.eq_of_beq_eq_true hsz
            have hcs := cells_size hy (by
              cases he : evl s.env y with
              | any => rw [he] at hone; cases hone
              | agg l => exact .inr ⟨l, rfl⟩
              | tup l => rw [he] at hone; cases hone
              | _ => exact .inl rfl)
            have hvs : vy.cells.size = (T t).size := by rw [← hsz, hcs.1]; simp
            split at hk3
            · rename_i hle
              obtain ⟨hho, hle⟩ : holOk l (evl s.env y).cells = true ∧ Nat.ble (j + (T t).size) us.length = true := by
                split at hle
                · rename_i h1; exact ⟨h1, hle⟩
                · cases hle
              have hle := Nat.le_of_ble_eq_true hle
              rw [S.withHp_eq] at hk3
              have hmul : i * l.stride + l.stride ≤ cap * l.stride := by
                have : (i + 1) * l.stride ≤ cap * l.stride := Nat.mul_le_mul_right _ (by omega)
                rwa [Nat.add_mul, Nat.one_mul] at this
              obtain ⟨w', r1, r2, r3⟩ := run_storeAt f2 hvs hbk (off := i * st + j) (by rw [hvs, hlen, hst]; omega) (hcs.one hone)
              have hpl : i * st + j + vy.cells.toList.length ≤ cells.length := by simp only [Array.length_toList]; rw [hvs, hlen, hst]; omega
              refine hfin r1 (h.modify (ob' := .hol l i (setVs us j (evl s.env y).cells)) hm hg rfl r3 (.hol l i _ b cap _ ty hg hs r2 (by rw [length_putAt, hlen]) hcap hhi (by rw [length_setVs]; exact hvl) (fun k q z hkl hki hz => ?_) (fun q hq => ?_) fun hp v hv => by
                rcases mem_putAt hv with hv | hv
                · exact ht hp v hv
                · exact hcs.slVal (holOk_sl hho hp) v hv)) hk3
              · have hqlt : q < l.stride := by
                  have := (List.getElem?_eq_some_iff.1 hz).1
                  rwa [C.row_len _ _ hs] at this
                obtain ⟨u, h1, h3⟩ := hh k q z hkl hki hz
                refine ⟨u, ?_, h3.mono (fun _ h => h) (hI' r3)⟩
                rw [putAt_get _ _ _ hpl, if_neg]
                · exact h1
                · simp only [Array.length_toList]
                  rw [hvs, hst]
                  have := row_apart (st := l.stride) hki hqlt
                  omega
              · have hrow : RVs I g s.nx w us ((cells.drop (i * l.stride)).take l.stride) := by
                  refine ⟨by simp only [List.length_take, List.length_drop]; omega, fun j u v hu hv => ?_⟩
                  rw [List.getElem?_take] at hv
                  split at hv
                  · rename_i hj
                    rw [List.getElem?_drop] at hv
                    obtain ⟨u', v', a1, a2, _, a4⟩ := h2 j hj
                    rw [hu] at a1; rw [hv] at a2; cases a1; cases a2; exact a4
                  · cases hv
                have hput := hrow.putAt hcs j
                have hql : i * st + q < (putAt cells (i * st + j) vy.cells.toList).length := by rw [length_putAt, hlen, hst]; omega
                have hql2 : q < (setVs us j (evl s.env y).cells).length := by rw [length_setVs]; omega
                have hval : (putAt ((cells.drop (i * l.stride)).take l.stride) j vy.cells.toList)[q]? = some ((putAt cells (i * st + j) vy.cells.toList)[i * st + q]) ∧ ((putAt cells (i * st + j) vy.cells.toList)[i * st + q]).oneCell' = true := by
                  have hv := List.getElem?_eq_getElem hql
                  generalize (putAt cells (i * st + j) vy.cells.toList)[i * st + q] = v at hv
                  rw [putAt_get _ _ _ hpl] at hv
                  rw [putAt_get _ _ _ (by simp only [Array.length_toList, List.length_take, List.length_drop]; rw [hvs]; omega)]
                  have hvl2 : vy.cells.toList.length = (T t).size := by rw [Array.length_toList, hvs]
                  subst hst
                  by_cases c : j ≤ q ∧ q < j + vy.cells.toList.length
                  · rw [if_pos (by omega)] at hv
                    rw [if_pos c, show q - j = i * l.stride + q - (i * l.stride + j) from by omega]
                    exact ⟨hv, hcs.one hone v (List.mem_of_getElem? hv)⟩
                  · rw [if_neg (by omega)] at hv
                    rw [if_neg c, List.getElem?_take, if_pos hq, List.getElem?_drop]
                    obtain ⟨_, v', _, a2, a3, _⟩ := h2 q hq
                    rw [hv] at a2; cases a2
                    exact ⟨hv, a3⟩
                refine ⟨_, _, List.getElem?_eq_getElem hql2, by rw [← hst]; exact List.getElem?_eq_getElem hql, hval.2, ?_⟩
                exact (hput.2 q _ _ (List.getElem?_eq_getElem hql2) hval.1).mono (fun _ h => h) (hI' r3) (Nat.le_refl _) fun _ _ => rfl
            · exact hk3.elim
          · cases hsz
        · exact hk3.elim
      · obtain ⟨x', w', cells', hk4, r1, r3, r2, q1, q2, q3, q4, q7, q5, q6⟩ := store_hol (P := P) (T := T) hy f1 f2 f4 hs hbk hlen hcap hil ht hne hI' hh hk3
        rw [S.withHp_eq] at hk4
        refine hfin (by rw [hst]; exact r1) (h.modify (ob' := .hol x' hi us) hm hg rfl r3 (.hol x' hi us b cap cells' ty (by rw [q4]; exact hg) q2 r2 (by rw [q1, hlen, q3]) (by rw [q4]; exact hcap) (by rw [q4]; exact hhi) (by rw [q3]; exact hvl) (fun k q z a1 a2 a3 => q6 k q z a1 a2 a3) (fun q hq => ?_) q7)) hk4
        rw [q3] at hq ⊢
        obtain ⟨u, v, a1, a2, a3, a4⟩ := h2 q hq
        exact ⟨u, v, a1, by rw [q5 _ (row_apart (st := l.stride) (fun e => hne e.symm) hq)]; exact a2, a3, a4.mono (fun _ h => h) (hI' r3) (Nat.le_refl _) fun _ _ => rfl⟩
    · rename_i pn f l hs hl
      obtain ⟨⟨hil, hst⟩, hk2⟩ := vneed_true hk
      subst hst
      cases hx with
      | ptr _ _ _ _ b cl hn hg =>
      have hm := lookH_mem hl
      obtain ⟨ob, w', hk3, r1, r3, hro, hbx, hns⟩ := store_deep (P := P) (T := T) (h.heap.obj id _ hm).2 hg (h.heap.apart id _ b hm (.pri hg)).1 hy f1 f2 f4 hil hk2
      rw [S.withHp_eq] at hk3
      exact hfin r1 (h.modify hm hg (by rw [hbx]; rfl) r3 hro hns) hk3
    · rename_i pre bs post hl
      cases hx with
      | ptr _ _ _ _ b cl hn hg =>
      have hm := lookH_mem hl
      have hro := (h.heap.obj id _ hm).2
      have hro' := hro
      cases hro with
      | box _ _ _ b' cl' cells ty hg' hbk hlen h1 h2 h3 =>
      rw [hg] at hg'
      cases hg'
      have hall : RVs I g s.nx w (pre ++ (bs.map fun x => V.c (C.bool x)) ++ post) cells := by
        refine ⟨by rw [hlen]; simp only [List.length_append, List.length_map], fun i z v hz hv => ?_⟩
        obtain ⟨u, hu1, hu2⟩ := RowV.of_box hro' hg i z hz
        rw [cell_of_row w b _ cells.toArray ty (0, 0) hbk] at hu1
        simp only [Nat.zero_add, List.getElem?_toArray] at hu1
        rw [hu1] at hv; cases hv; exact hu2
      split at hk
      · rename_i hst
        have hst := Nat.eq_of_beq_eq_true hst
        subst hst
        have hz : i * 0 + j = j := by simp
        rw [hz] at hfin
        split at hk
        · rename_i hsz
          split at hsz
          · rename_i hone
            have hsz := Nat.eq_of_beq_eq_true hsz
            have hcs := cells_size hy (by
              cases he : evl s.env y with
              | any => rw [he] at hone; cases hone
              | agg l => exact .inr ⟨l, rfl⟩
              | tup l => rw [he] at hone; cases hone
              | _ => exact .inl rfl)
            have hvs : vy.cells.size = (T t).size := by rw [← hsz, hcs.1]; simp
            have hone' := hcs.one hone
            split at hk
            · rename_i hle
              have hle := Nat.le_of_ble_eq_true hle
              rw [S.withHp_eq] at hk
              obtain ⟨w', r1, r2, r3⟩ := run_storeAt f2 hvs hbk (off := j) (by rw [hvs, hlen]; omega) hone'
              refine hfin r1 (h.modify (ob' := .box (setVs pre j (evl s.env y).cells) bs post) hm hg rfl r3 (RO.box_of hg r2 ?_)) hk
              have e : setVs pre j (evl s.env y).cells ++ List.map (fun x => V.c (C.bool x)) bs ++ post = setVs (pre ++ List.map (fun x => V.c (C.bool x)) bs ++ post) j (evl s.env y).cells := by
                rw [List.append_assoc, List.append_assoc]
                generalize List.map (fun x => V.c (C.bool x)) bs ++ post = tl
                generalize (evl s.env y).cells = vs at hsz
                clear hone hcs hk
                have : ∀ (vs : List V) (pre : List V) (j : Nat), j + vs.length ≤ pre.length → setVs pre j vs ++ tl = setVs (pre ++ tl) j vs := by
                  intro vs
                  induction vs with
                  | nil => intros; rfl
                  | cons v t ih =>
                    intro pre j hj
                    simp only [setVs, setV_eq]
                    rw [ih _ _ (by simp at hj ⊢; omega), List.set_append_left _ _ (by simp at hj; omega)]
                exact this vs pre j (by omega)
              rw [e]
              have hI' : ∀ k, I k → w'.heap[k]? = w.heap[k]? := fun k hk => r3.block k fun e => (h.heap.apart id _ b hm (.pri hg)).1 (e ▸ hk)
              have := hall.putAt hcs j
              exact ⟨this.1, fun i z v hz hv => (this.2 i z v hz hv).mono (fun _ h => h) hI' (Nat.le_refl _) fun _ _ => rfl⟩
            · split at hk
              · rename_i hle0
                have hle0 := Nat.le_of_ble_eq_true hle0
                split at hk
                · rename_i hle
                  have hle := Nat.le_of_ble_eq_true hle
                  rw [S.withHp_eq] at hk
                  obtain ⟨w', r1, r2, r3⟩ := run_storeAt f2 hvs hbk (off := j) (by rw [hvs, hlen]; omega) hone'
                  refine hfin r1 (h.modify (ob' := .box pre bs (setVs post (j - pre.length - bs.length) (evl s.env y).cells)) hm hg rfl r3 (RO.box_of hg r2 ?_)) hk
                  have e : pre ++ List.map (fun x => V.c (C.bool x)) bs ++ setVs post (j - pre.length - bs.length) (evl s.env y).cells = setVs (pre ++ List.map (fun x => V.c (C.bool x)) bs ++ post) j (evl s.env y).cells := by
                    generalize (evl s.env y).cells = vs at hsz
                    clear hone hcs hk
                    have : ∀ (vs hd : List V) (post : List V) (j : Nat), hd.length ≤ j → hd ++ setVs post (j - hd.length) vs = setVs (hd ++ post) j vs := by
                      intro vs
                      induction vs with
                      | nil => intros; rfl
                      | cons v t ih =>
                        intro hd post j hj
                        simp only [setVs, setV_eq]
                        rw [List.set_append_right _ _ hj, ← ih hd _ (j + 1) (by omega)]
                        congr 2
                        omega
                    have := this vs (pre ++ List.map (fun x => V.c (C.bool x)) bs) post j (by simp; omega)
                    rw [← this]
                    congr 2
                    simp; omega
                  rw [e]
                  have hI' : ∀ k, I k → w'.heap[k]? = w.heap[k]? := fun k hk => r3.block k fun e => (h.heap.apart id _ b hm (.pri hg)).1 (e ▸ hk)
                  have := hall.putAt hcs j
                  exact ⟨this.1, fun i z v hz hv => (this.2 i z v hz hv).mono (fun _ h => h) hI' (Nat.le_refl _) fun _ _ => rfl⟩
                · exact hk.elim
              · exact hk.elim
          · cases hsz
        · exact hk.elim
      · split at hk
        · exact hk.elim
        · rename_i ha
          rw [ha] at f1
          have hsz1 := f4 ha
          split at hk
          · rename_i bv hbv
            obtain ⟨⟨hst1, hj1, hi⟩, hk2⟩ := vneed_true hk
            rw [S.withHp_eq] at hk2
            have hye := RV.bool?_inv hbv hy
            rw [hst1, hj1, Nat.mul_one] at hfin
            obtain ⟨w', r1, r2, r3⟩ := run_storeAt (v := vy) f2 (by rw [hye, hsz1]; rfl) hbk (off := i + pre.length) (by rw [hye, hlen]; show _ + 1 ≤ _; omega) (by rw [hye]; simp [Value.cells, Value.oneCell'])
            refine hfin r1 (h.modify (ob' := .box pre (bs.set i bv) post) hm hg rfl r3 (RO.box_of hg r2 ?_)) hk2
            have hcs : RVs I g s.nx w [V.c (C.bool bv)] vy.cells.toList := by
              rw [hye]
              exact ⟨rfl, fun i z v hz hv => by cases i with
                | zero => cases hz; cases hv; exact RV.mkbool _ _
                | succ i => simp at hz⟩
            have e : pre ++ List.map (fun x => V.c (C.bool x)) (bs.set i bv) ++ post = setVs (pre ++ List.map (fun x => V.c (C.bool x)) bs ++ post) (i + pre.length) [V.c (C.bool bv)] := by
              simp only [setVs, setV_eq]
              rw [List.append_assoc, List.append_assoc, List.set_append_right _ _ (by omega), List.map_set, List.set_append_left _ _ (by simp; omega)]
              simp
            rw [e]
            have hI' : ∀ k, I k → w'.heap[k]? = w.heap[k]? := fun k hk => r3.block k fun e => (h.heap.apart id _ b hm (.pri hg)).1 (e ▸ hk)
            have := hall.putAt hcs (i + pre.length)
            exact ⟨this.1, fun i z v hz hv => (this.2 i z v hz hv).mono (fun _ h => h) hI' (Nat.le_refl _) fun _ _ => rfl⟩
          · exact hk.elim
    · exact hk.elim
  · exact hk.elim
end
end Go.VL
