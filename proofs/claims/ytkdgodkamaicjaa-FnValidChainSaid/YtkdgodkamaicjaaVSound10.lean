/- V-logic, part 12: append, literals, make. -/
import Derived.Test.YtkdgodkamaicjaaVSound9
namespace Go.VL
set_option linter.unusedVariables false
set_option linter.unusedSimpArgs false
section
variable {P : Program} {T : TT} {X : Cx} {I : Nat → Prop} {g : Gam} {s : S} {a : Act} {w : World} {o : Oper} {K : S → Prop}
  {N : Act → World → Prop} {Q : Exit → Act → World → Prop}

/-- what one slice more makes of a slice -/
theorem app_inv {x y z : C} (h : C.app x y = some z) : x.isSl = true ∧ y.isSl = true ∧ z.isSl = true ∧ z.stride = x.stride ∧ y.stride = x.stride ∧ z.len = x.len + y.len ∧
    (∀ i, i < x.len → z.row i = x.row i) ∧ ∀ i, i < y.len → z.row (x.len + i) = y.row i := by
  have gl : ∀ {α : Type} (xs ys : List α) (d : α) (i : Nat), i < xs.length → (xs ++ ys).getD i d = xs.getD i d := fun xs ys d i h => by simp [List.getD, List.getElem?_append_left h]
  have gr : ∀ {α : Type} (xs ys : List α) (d : α) (i : Nat), (xs ++ ys).getD (xs.length + i) d = ys.getD i d := fun xs ys d i => by simp [List.getD, List.getElem?_append_right]
  cases x <;> cases y <;> first | (cases h; done) | skip
  · simp only [C.app] at h
    split at h
    · rename_i hk
      have := sameK_eq hk
      subst this
      cases h
      exact ⟨rfl, rfl, rfl, rfl, rfl, by simp [C.len], fun i hi => by simp only [C.row]; rw [gl _ _ _ _ hi], fun i hi => by simp only [C.row, C.len]; rw [gr]⟩
    · cases h
  all_goals
    cases h
    exact ⟨rfl, rfl, rfl, rfl, rfl, by simp [C.len], fun i hi => by simp only [C.row]; rw [gl _ _ _ _ hi], fun i hi => by simp only [C.row, C.len]; rw [gr]⟩

/-- the cells of a slice's elements, one after the other -/
def Cells (w : World) (I : Nat → Prop) (x : C) (vs : List Value) : Prop :=
  vs.length = x.len * x.stride ∧ (∀ i j y, i < x.len → (x.row i)[j]? = some y → ∃ v, vs[i * x.stride + j]? = some v ∧ RC I w y v) ∧ ∀ v ∈ vs, v.oneCell' = true

/-- what a slice's value reads as -/
theorem cells_of {b off : Nat} {x : C} (hs : x.isSl = true) (h : ∀ i, i < x.len → ∀ j y, (x.row i)[j]? = some y → ∃ v, w.cell? ⟨b, off + i * x.stride + j, none⟩ = some v ∧ RC I w y v) :
    ∃ vs, Cells w I x vs ∧ ∀ (j : Nat) v, vs[j]? = some v → w.cell? ⟨b, off + j, none⟩ = some v := by
  have key : ∀ n, n ≤ x.len → ∃ vs : List Value, vs.length = n * x.stride ∧ (∀ i j y, i < n → (x.row i)[j]? = some y → ∃ v, vs[i * x.stride + j]? = some v ∧ RC I w y v) ∧ (∀ v ∈ vs, v.oneCell' = true) ∧
      ∀ (j : Nat) v, vs[j]? = some v → w.cell? ⟨b, off + j, none⟩ = some v := by
    intro n
    induction n with
    | zero => intro _; exact ⟨[], by simp, fun i j y hi => by omega, by simp, by simp⟩
    | succ n ih =>
      intro hn
      obtain ⟨vs, h1, h2, h3, h4⟩ := ih (by omega)
      have hrow : RowV I (fun _ => none) 0 w b (off + n * x.stride) (vcells (x.row n)) := fun j y hy => by
        rw [vcells_get] at hy
        cases hj : (x.row n)[j]? with
        | none => rw [hj] at hy; cases hy
        | some z => rw [hj] at hy; cases hy; obtain ⟨v, e1, e2⟩ := h n (by omega) j z hj; exact ⟨v, e1, .c _ _ e2⟩
      obtain ⟨us, hul, hu1, hu2⟩ := hrow.values
      have hul' : us.length = x.stride := by rw [hul, vcells_eq, List.length_map, C.row_len _ _ hs]
      refine ⟨vs ++ us, by rw [List.length_append, h1, hul', Nat.add_mul, Nat.one_mul], fun i j y hi hy => ?_, fun v hv => ?_, fun j v hv => ?_⟩
      · have hjl : j < x.stride := by
          have := (List.getElem?_eq_some_iff.1 hy).1
          rwa [C.row_len _ _ hs] at this
        by_cases hin : i < n
        · obtain ⟨v, e1, e2⟩ := h2 i j y hin hy
          exact ⟨v, by rw [List.getElem?_append_left (List.getElem?_eq_some_iff.1 e1).1]; exact e1, e2⟩
        · have : i = n := by omega
          subst this
          have hjl' : j < us.length := by omega
          refine ⟨us[j], by rw [List.getElem?_append_right (by omega), h1, show i * x.stride + j - i * x.stride = j from by omega]; exact List.getElem?_eq_getElem hjl', ?_⟩
          have := hu2 j (.c y) us[j] (by rw [vcells_get, hy]; rfl) (List.getElem?_eq_getElem hjl')
          cases this with
          | c _ _ h => exact h
      · rcases List.mem_append.1 hv with hv | hv
        · exact h3 v hv
        · obtain ⟨j, hj⟩ := List.getElem?_of_mem hv
          have hjl : j < (x.row n).length := by rw [C.row_len _ _ hs, ← hul']; exact (List.getElem?_eq_some_iff.1 hj).1
          have := hu2 j (.c (x.row n)[j]) v (by rw [vcells_get, List.getElem?_eq_getElem hjl]; rfl) hj
          cases this with
          | c _ _ h => exact h.one.1
      · by_cases hjv : j < vs.length
        · rw [List.getElem?_append_left hjv] at hv; exact h4 j v hv
        · rw [List.getElem?_append_right (by omega)] at hv
          have := hu1 _ v hv
          rw [h1, show off + n * x.stride + (j - n * x.stride) = off + j from by omega] at this
          exact this
  obtain ⟨vs, h1, h2, h3, h4⟩ := key x.len (Nat.le_refl _)
  exact ⟨vs, ⟨h1, h2, h3⟩, h4⟩

/-- a slice's value, its length, and that its cells can be read -/
def Reads (P : Program) (w : World) (I : Nat → Prop) (x : C) (v : Value) : Prop :=
  x.isSl = true ∧ ∃ ad cap, v = .slice ad x.len cap ∧ ∃ vs, Cells w I x vs ∧ ∀ w', w'.heap = w.heap → (Builtin.firstCells x.stride x.len v).run P w' = .ok vs.toArray w'

theorem reads_of {b off cap : Nat} {x : C} (hs : x.isSl = true) (h : ∀ i, i < x.len → ∀ j y, (x.row i)[j]? = some y → ∃ v, w.cell? ⟨b, off + i * x.stride + j, none⟩ = some v ∧ RC I w y v) :
    Reads P w I x (.slice (some ⟨b, off, none⟩) x.len cap) := by
  obtain ⟨vs, h1, h2⟩ := cells_of hs h
  refine ⟨hs, _, cap, rfl, vs, h1, fun w' hw => ?_⟩
  exact run_firstCells_some w' x.stride x.len ⟨b, off, none⟩ x.len cap vs h1.1 fun j v hv => by
    rw [addr_add, cell_block (w := w) (by rw [hw])]; exact h2 j v hv

theorem reads_empty {ad : Option Addr} {cap : Nat} {x : C} (hs : x.isSl = true) (h0 : x.len = 0) : Reads P w I x (.slice ad 0 cap) := by
  refine ⟨hs, ad, cap, by rw [h0], [], ⟨by rw [h0]; simp, fun i j y hi => by omega, by simp⟩, fun w' _ => ?_⟩
  rw [h0]
  cases ad <;> simp [Builtin.firstCells, loadCells, loadCellsFrom]

theorem reads_rc {x : C} {v : Value} (hs : x.isSl = true) (h : RC I w x v) : Reads P w I x v := by
  cases h with
  | int => cases hs
  | bool => cases hs
  | empty _ a cap _ h0 => exact reads_empty hs h0
  | sl _ b off cap val _ hI hcap hc hr => exact reads_of hs fun i hi j y hy => ⟨_, hc i j y hi hy, hr i j y hi hy⟩

theorem reads_slc {n id : Nat} {x : C} {v : Value} (ho : RO I g n w id (.arr x)) (hv : RV I g n w (.slc id) v) : Reads P w I x v := by
  cases ho with
  | none _ hg hs h0 =>
    cases hv with
    | slc _ len b cap hn hg' => rw [hg] at hg'; cases hg'
    | slc0 _ hn hg' => exact reads_empty hs h0
  | arr _ b cap cells ty hg hs hb hl hcap hh =>
    cases hv with
    | slc0 _ hn hg' => rw [hg] at hg'; cases hg'
    | slc _ len b' cap' hn hg' =>
      rw [hg] at hg'; cases hg'
      exact reads_of hs fun i hi j y hy => by
        obtain ⟨v, h1, h2⟩ := hh i j y hi hy
        exact ⟨v, by rw [cell_of_row w b _ cells.toArray ty (0, 0) hb]; simpa using h1, h2⟩

/-- the elements of a slice, off a function that gives its cells; one element may be told cell by cell -/
def RowsP (I : Nat → Prop) (g : Gam) (n : Nat) (w : World) (x : C) (hx : Option (Nat × List V)) (F : Nat → Option Value) : Prop :=
  (∀ (i j : Nat) y, i < x.len → (∀ us, hx ≠ some (i, us)) → (x.row i)[j]? = some y → ∃ v, F (i * x.stride + j) = some v ∧ v.oneCell' = true ∧ RC I w y v) ∧
  (∀ hi us, hx = some (hi, us) → hi < x.len ∧ us.length = x.stride ∧ ∀ j, j < x.stride → ∃ u v, us[j]? = some u ∧ F (hi * x.stride + j) = some v ∧ v.oneCell' = true ∧ RV I g n w u v)

theorem RowsP.one {n : Nat} {x : C} (hs : x.isSl = true) {hx : Option (Nat × List V)} {F : Nat → Option Value} (h : RowsP I g n w x hx F) {m : Nat} (hm : m < x.len * x.stride) : ∃ v, F m = some v ∧ v.oneCell' = true := by
  have hst : 0 < x.stride := by rcases Nat.eq_zero_or_pos x.stride with e | e
                                · rw [e] at hm; omega
                                · exact e
  have hi : m / x.stride < x.len := (Nat.div_lt_iff_lt_mul hst).2 hm
  have hj : m % x.stride < x.stride := Nat.mod_lt _ hst
  have hmj : m = m / x.stride * x.stride + m % x.stride := by rw [Nat.mul_comm]; exact (Nat.div_add_mod m x.stride).symm
  by_cases c : ∃ us, hx = some (m / x.stride, us)
  · obtain ⟨us, c⟩ := c
    obtain ⟨_, _, h2⟩ := h.2 _ _ c
    obtain ⟨u, v, _, a2, a3, _⟩ := h2 _ hj
    exact ⟨v, by rw [hmj]; exact a2, a3⟩
  · obtain ⟨v, a1, a2, _⟩ := h.1 _ _ _ hi (fun us e => c ⟨us, e⟩) (List.getElem?_eq_getElem (show m % x.stride < (x.row (m / x.stride)).length by rw [C.row_len _ _ hs]; exact hj))
    exact ⟨v, by rw [hmj]; exact a1, a2⟩

/-- a slice's value, its length, and that its cells can be read -/
def ReadsH (P : Program) (I : Nat → Prop) (g : Gam) (n : Nat) (w : World) (x : C) (hx : Option (Nat × List V)) (v : Value) : Prop :=
  x.isSl = true ∧ ∃ ad cap, v = .slice ad x.len cap ∧ ∃ vs : List Value, vs.length = x.len * x.stride ∧ RowsP I g n w x hx (fun m => vs[m]?) ∧ (∀ v ∈ vs, v.oneCell' = true) ∧ (x.isPg = true → ∀ v ∈ vs, SlVal v) ∧
    ∀ w', w'.heap = w.heap → (Builtin.firstCells x.stride x.len v).run P w' = .ok vs.toArray w'

theorem Reads.hol {n : Nat} {x : C} {v : Value} (h : Reads P w I x v) : ReadsH P I g n w x none v := by
  obtain ⟨hs, ad, cap, e, vs, ⟨c1, c2, c3⟩, hr⟩ := h
  exact ⟨hs, ad, cap, e, vs, c1, ⟨fun i j y hi _ hy => let ⟨v, a1, a2⟩ := c2 i j y hi hy; ⟨v, a1, a2.one.1, a2⟩, fun _ _ e => by cases e⟩, c3, typed_full hs c1 c2, hr⟩

theorem RO.rows {n id : Nat} {x : C} {hx : Option (Nat × List V)} {b cap len : Nat} (h : RO I g n w id (holO x 0 hx)) (hg : g id = some (b, cap, len)) :
    x.isSl = true ∧ len = x.len ∧ ∃ (cells : List Value) (ty : TypeId), w.heap[b]? = some (.cells cells.toArray ty (0, 0)) ∧ cells.length = cap * x.stride ∧ x.len ≤ cap ∧ RowsP I g n w x hx (fun m => cells[m]?) ∧ (x.isPg = true → ∀ v ∈ cells, SlVal v) := by
  cases hx with
  | none =>
    simp only [holO] at h
    cases h with
    | none _ hg' => rw [hg] at hg'; cases hg'
    | arr _ b' cap' cells ty hg' hs hb hl hcap hh ht =>
      rw [hg] at hg'; cases hg'
      exact ⟨hs, rfl, cells, ty, hb, hl, hcap, ⟨fun i j y hi _ hy => let ⟨v, a1, a2⟩ := hh i j y hi hy; ⟨v, a1, a2.one.1, a2⟩, fun _ _ e => by cases e⟩, ht⟩
  | some p =>
    obtain ⟨hi, us⟩ := p
    simp only [holO, Nat.zero_add] at h
    cases h with
    | hol _ _ _ b' cap' cells ty hg' hs hb hl hcap hhi hv hh h2 ht =>
      rw [hg] at hg'; cases hg'
      refine ⟨hs, rfl, cells, ty, hb, hl, hcap, ⟨fun i j y hi' hne hy => ?_, fun hi' us' e => ?_⟩, ht⟩
      · obtain ⟨v, a1, a2⟩ := hh i j y hi' (fun e => hne us (by rw [e])) hy
        exact ⟨v, a1, a2.one.1, a2⟩
      · cases e; exact ⟨hhi, hv, h2⟩

theorem RO.of_rowsP {n id b cap : Nat} {z : C} {hz : Option (Nat × List V)} {cells : List Value} {ty : TypeId} (hg : g id = some (b, cap, z.len)) (hs : z.isSl = true) (hb : w.heap[b]? = some (.cells cells.toArray ty (0, 0)))
    (hl : cells.length = cap * z.stride) (hcap : z.len ≤ cap) (h : RowsP I g n w z hz (fun m => cells[m]?)) (ht : z.isPg = true → ∀ v ∈ cells, SlVal v) : RO I g n w id (holO z 0 hz) := by
  cases hz with
  | none => exact .arr z b cap cells ty hg hs hb hl hcap (fun i j y hi hy => let ⟨v, a1, _, a2⟩ := h.1 i j y hi (fun _ e => by cases e) hy; ⟨v, a1, a2⟩) ht
  | some p =>
    obtain ⟨hi, us⟩ := p
    obtain ⟨q1, q2, q3⟩ := h.2 hi us rfl
    simp only [holO, Nat.zero_add]
    exact .hol z hi us b cap cells ty hg hs hb hl hcap q1 q2 (fun i j y hi' hne hy => let ⟨v, a1, _, a2⟩ := h.1 i j y hi' (fun _ e => by cases e; exact hne rfl) hy; ⟨v, a1, a2⟩) q3 ht

theorem RowsP.mapV {I' : Nat → Prop} {g' : Gam} {n n' : Nat} {w' : World} {x : C} {hx : Option (Nat × List V)} {F : Nat → Option Value} (f : V → V) (hf : ∀ v val, RV I g n w v val → RV I' g' n' w' (f v) val)
    (hc : ∀ y v, RC I w y v → RC I' w' y v) (h : RowsP I g n w x hx F) : RowsP I' g' n' w' x (hx.map fun p => (p.1, p.2.map f)) F := by
  refine ⟨fun i j y hi hne hy => ?_, fun hi us e => ?_⟩
  · obtain ⟨v, a1, a2, a3⟩ := h.1 i j y hi (fun us e => hne (us.map f) (by rw [e]; rfl)) hy
    exact ⟨v, a1, a2, hc _ _ a3⟩
  · cases hx with
    | none => cases e
    | some p =>
      obtain ⟨hi', us'⟩ := p
      cases e
      obtain ⟨q1, q2, q3⟩ := h.2 hi' us' rfl
      refine ⟨q1, by simpa using q2, fun j hj => ?_⟩
      obtain ⟨u, v, a1, a2, a3, a4⟩ := q3 j hj
      exact ⟨f u, v, by rw [List.getElem?_map, a1]; rfl, a2, a3, hf _ _ a4⟩

theorem reads_rows {n : Nat} {x : C} {hx : Option (Nat × List V)} {b cap : Nat} (hs : x.isSl = true) {cells : List Value} {ty : TypeId} (hb : w.heap[b]? = some (.cells cells.toArray ty (0, 0)))
    (hl : cells.length = cap * x.stride) (hcap : x.len ≤ cap) (h : RowsP I g n w x hx (fun m => cells[m]?)) (ht : x.isPg = true → ∀ v ∈ cells, SlVal v) : ReadsH P I g n w x hx (.slice (some ⟨b, 0, none⟩) x.len cap) := by
  have hle : x.len * x.stride ≤ cells.length := by rw [hl]; exact Nat.mul_le_mul_right _ hcap
  have hlen : (cells.take (x.len * x.stride)).length = x.len * x.stride := by simp; omega
  have hone : ∀ v ∈ cells.take (x.len * x.stride), v.oneCell' = true := fun v hv => by
    obtain ⟨m, hm⟩ := List.getElem?_of_mem hv
    have hml : m < x.len * x.stride := by rw [← hlen]; exact (List.getElem?_eq_some_iff.1 hm).1
    obtain ⟨v', a1, a2⟩ := h.one hs hml
    rw [List.getElem?_take, if_pos hml] at hm
    rw [a1] at hm; cases hm; exact a2
  refine ⟨hs, _, cap, rfl, _, hlen, ⟨fun i j y hi hne hy => ?_, fun hi us e => ?_⟩, hone, fun hp v hv => ht hp v (List.mem_of_mem_take hv), fun w' hw => ?_⟩
  · obtain ⟨v, a1, a2, a3⟩ := h.1 i j y hi hne hy
    refine ⟨v, ?_, a2, a3⟩
    have hj : j < x.stride := by have := (List.getElem?_eq_some_iff.1 hy).1; rwa [C.row_len _ _ hs] at this
    show (cells.take (x.len * x.stride))[i * x.stride + j]? = some v
    rw [List.getElem?_take, if_pos (row_in (hi := i) hi (Nat.le_refl _) hj)]; exact a1
  · obtain ⟨q1, q2, q3⟩ := h.2 hi us e
    refine ⟨q1, q2, fun j hj => ?_⟩
    obtain ⟨u, v, a1, a2, a3, a4⟩ := q3 j hj
    refine ⟨u, v, a1, ?_, a3, a4⟩
    show (cells.take (x.len * x.stride))[hi * x.stride + j]? = some v
    rw [List.getElem?_take, if_pos (row_in (hi := hi) q1 (Nat.le_refl _) hj)]; exact a2
  · refine run_firstCells_some w' x.stride x.len ⟨b, 0, none⟩ x.len cap _ hlen fun j v hv => ?_
    rw [addr_add, Nat.zero_add, cell_block (w := w) (by rw [hw]), cell_of_row w b _ cells.toArray ty (0, 0) hb]
    rw [List.getElem?_take] at hv
    split at hv
    · simpa using hv
    · cases hv

theorem reads_slcH {n id : Nat} {x : C} {hx : Option (Nat × List V)} {v : Value} (ho : RO I g n w id (holO x 0 hx)) (hv : RV I g n w (.slc id) v) : ReadsH P I g n w x hx v := by
  cases hv with
  | slc _ len b cap hn hg =>
    obtain ⟨hs, rfl, cells, ty, hb, hl, hcap, hr, ht⟩ := ho.rows hg
    exact reads_rows hs hb hl hcap hr ht
  | slc0 _ hn hg =>
    cases hx with
    | none =>
      simp only [holO] at ho
      exact (reads_slc ho (.slc0 id hn hg)).hol
    | some p =>
      obtain ⟨hi, us⟩ := p
      simp only [holO] at ho
      cases ho with
      | hol _ _ _ b cap cells ty hg' => rw [hg] at hg'; cases hg'

theorem view_inv {kd : Kd} {v : V} {KC : C → Option (Nat × List V) → Prop} (hk : view kd (lookH s.hp) v KC) (hh : HOk I g s.nx w s.hp) {val : Value} (hv : RV I g s.nx w v val) :
    ∃ y hy, KC y hy ∧ (y.isSl = true → ReadsH P I g s.nx w y hy val) := by
  unfold view at hk
  split at hk
  · cases hv
    refine ⟨_, _, hk, fun hs => ?_⟩
    have : kd.empty.len = 0 := by cases kd <;> rfl
    exact (reads_empty hs this).hol
  · rw [C.force_eq] at hk
    cases hv with | c _ _ hv =>
    exact ⟨_, _, hk, fun hs => (reads_rc hs hv).hol⟩
  · split at hk
    · rename_i y hl
      rw [C.force_eq] at hk
      exact ⟨_, _, hk, fun _ => (reads_slc (hh.obj _ _ (lookH_mem hl)).2 hv).hol⟩
    · rename_i y hi us hl
      rw [C.force_eq] at hk
      exact ⟨_, _, hk, fun _ => reads_slcH (by have := (hh.obj _ _ (lookH_mem hl)).2; simp only [holO, Nat.zero_add]; exact this) hv⟩
    · exact hk.elim
  · exact hk.elim

theorem slice_facts (hT : TOk P T) {t e sz bytes : Nat} {kd : Kd} (hti : T t = .slice e sz bytes kd) :
    P.underlying t = some (.slice e) ∧ ∃ i : TypeInfo, P.info? e = some i ∧ i.size = sz ∧ i.bytes = bytes ∧ i.zero = some (kdZero kd) ∧ kd.empty.stride = sz ∧ 1 ≤ bytes ∧ bytes ≤ 4096 := by
  have h := hT t
  rw [hti] at h
  obtain ⟨hu, _, _, hinfo, hz, hst, hb1, hb2⟩ := h
  refine ⟨hu, ?_⟩
  cases hq : P.info? e with
  | none => rw [hq] at hinfo; cases hinfo
  | some i =>
    rw [hq] at hinfo
    simp only [Option.map_some, Option.some.injEq, Prod.mk.injEq] at hinfo
    simp only [zeroIs, hq, Option.bind_some] at hz
    exact ⟨i, rfl, hinfo.1, hinfo.2, hz, hst, hb1, hb2⟩

/-- append where it must grow -/
theorem run_append_new (t tx ty e e' : TypeId) (i : TypeInfo) (z : Value) (ht : P.underlying t = some (.slice e)) (htx : P.underlying tx = some (.slice e')) (hi : P.info? e = some i) (hz : i.zero = some z)
    (base : Option Addr) (sLen sCap n c : Nat) (xa : Option Addr) (olds news : List Value)
    (ho : ∀ w', w'.heap = w.heap → (Builtin.firstCells i.size sLen (.slice base sLen sCap)).run P w' = .ok olds.toArray w')
    (hn : ∀ w', w'.heap = w.heap → (Builtin.firstCells i.size n (.slice xa n c)).run P w' = .ok news.toArray w')
    (hg : sCap < sLen + n) (h63 : ((sLen + n : Nat) : Int) ≤ 9223372036854775807) (hfit : Builtin.nextslicecap (sLen + n) sCap * i.bytes ≤ 281474976710656) :
    ∃ cap, sLen + n ≤ cap ∧ (Builtin.append_ #[t, tx] ty #[.slice base sLen sCap, .slice xa n c]).run P w =
      .ok (.slice (some ⟨w.heap.size, 0, none⟩) (sLen + n) cap) (w.drew.alloc (.cells (olds ++ news ++ (Builtin.zeroCells z.cells (cap - (sLen + n))).toList).toArray e)) := by
  have hn' : ¬ (sLen + n ≤ sCap) := by omega
  have h63' : ¬ (9223372036854775807 < ((sLen : Int) + (n : Int))) := by omega
  have h48' : ¬ (281474976710656 < Builtin.nextslicecap (sLen + n) sCap * i.bytes) := by omega
  refine ⟨grownCap w (sLen + n) sCap e, by unfold grownCap; simp only [Question.cut]; omega, ?_⟩
  have ho' := ho w.drew rfl
  have hn2 := hn w.drew rfl
  simp [Builtin.append_, run_underlying ht, run_underlying htx, sizeOf, typeInfo, zeroValue, hi, hz, Builtin.lenOf, hn', h63', h48', Question.forced, ho', hn2, newRow, grownCap]
  congr 2
  apply Array.ext'
  simp [List.append_assoc]

/-- append where there is room -/
theorem run_append_in (t tx ty e e' : TypeId) (i : TypeInfo) (ht : P.underlying t = some (.slice e)) (htx : P.underlying tx = some (.slice e')) (hi : P.info? e = some i)
    (b sLen sCap n c : Nat) (xa : Option Addr) (cs news : List Value) (tyb : TypeId) (hb : w.heap[b]? = some (.cells cs.toArray tyb (0, 0)))
    (hn : (Builtin.firstCells i.size n (.slice xa n c)).run P w = .ok news.toArray w) (h1 : ∀ v ∈ news, v.oneCell' = true)
    (hroom : sLen + n ≤ sCap) (hfit : sLen * i.size + news.length ≤ cs.length) :
    ∃ w', (Builtin.append_ #[t, tx] ty #[.slice (some ⟨b, 0, none⟩) sLen sCap, .slice xa n c]).run P w = .ok (.slice (some ⟨b, 0, none⟩) (sLen + n) sCap) w' ∧
      w'.heap[b]? = some (.cells (putAt cs (sLen * i.size) news).toArray tyb (0, 0)) ∧ Only b w w' := by
  obtain ⟨w', r1, r2, r3⟩ := run_storeCells (P := P) news w b (sLen * i.size) 0 cs tyb hb (by simpa using hfit) h1
  refine ⟨w', ?_, r2, r3⟩
  simp [Builtin.append_, run_underlying ht, run_underlying htx, sizeOf, typeInfo, hi, Builtin.lenOf, hroom, hn, addr_add, r1]

/-- where the element is that is told cell by cell -/
def holApp (x : C) (hx hy : Option (Nat × List V)) : Option (Nat × List V) :=
  match hx with
  | some p => some p
  | none => hy.map fun p => (x.len + p.1, p.2)

theorem app_rows {n : Nat} {x y z : C} (h : C.app x y = some z) {hx hy : Option (Nat × List V)} (hxy : hx = none ∨ hy = none) {F0 U F : Nat → Option Value} (hv : RowsP I g n w x hx F0) (hu : RowsP I g n w y hy U)
    (h0 : ∀ m, m < x.len * x.stride → F m = F0 m) (h1 : ∀ m, m < y.len * x.stride → F (x.len * x.stride + m) = U m) : RowsP I g n w z (holApp x hx hy) F := by
  obtain ⟨s1, s2, s3, s4, s5, s6, s7, s8⟩ := app_inv h
  have hlo : ∀ i j, i < x.len → j < x.stride → i * x.stride + j < x.len * x.stride := fun i j hi hj => row_in (hi := i) hi (Nat.le_refl _) hj
  have hlo2 : ∀ i j, i < y.len → j < x.stride → i * x.stride + j < y.len * x.stride := fun i j hi hj => row_in (hi := i) hi (Nat.le_refl _) hj
  have hsum : ∀ k j, F ((x.len + k) * x.stride + j) = F (x.len * x.stride + (k * x.stride + j)) := fun k j => by rw [Nat.add_mul, Nat.add_assoc]
  refine ⟨fun i j c hi hne hc => ?_, fun hi us e => ?_⟩
  · have hjl : j < x.stride := by
      have := (List.getElem?_eq_some_iff.1 hc).1
      rwa [C.row_len _ _ s3, s4] at this
    rw [s4]
    by_cases hin : i < x.len
    · rw [s7 i hin] at hc
      rw [h0 _ (hlo i j hin hjl)]
      exact hv.1 i j c hin (fun us e => hne us (by rw [e]; rfl)) hc
    · obtain ⟨k, rfl⟩ : ∃ k, i = x.len + k := ⟨i - x.len, by omega⟩
      rw [s8 k (by omega)] at hc
      rw [hsum, h1 _ (hlo2 k j (by omega) hjl)]
      have := hu.1 k j c (by omega) (fun us e => by
        rcases hxy with hxy | hxy
        · exact hne us (by rw [hxy, e]; rfl)
        · rw [hxy] at e; cases e) hc
      rwa [s5] at this
  · rw [s4]
    cases hx with
    | some p =>
      cases e
      obtain ⟨q1, q2, q3⟩ := hv.2 hi us rfl
      refine ⟨by omega, q2, fun j hj => ?_⟩
      rw [h0 _ (hlo hi j q1 hj)]; exact q3 j hj
    | none =>
      cases hy with
      | none => cases e
      | some p =>
        cases e
        obtain ⟨q1, q2, q3⟩ := hu.2 p.1 p.2 rfl
        refine ⟨by omega, by rw [q2, s5], fun j hj => ?_⟩
        rw [hsum, h1 _ (hlo2 p.1 j q1 hj)]
        have := q3 j (by rw [s5]; exact hj)
        rwa [s5] at this

theorem app_at {α : Type} {vs us rest : List α} {a b : Nat} (ha : vs.length = a) (hb : us.length = b) : (∀ m, m < a → (vs ++ us ++ rest)[m]? = vs[m]?) ∧ ∀ m, m < b → (vs ++ us ++ rest)[a + m]? = us[m]? := by
  refine ⟨fun m hm => by rw [List.append_assoc, List.getElem?_append_left (by omega)], fun m hm => ?_⟩
  rw [List.append_assoc, List.getElem?_append_right (by omega), ha, show a + m - a = m from by omega, List.getElem?_append_left (by omega)]

theorem put_at {cells us : List Value} {a b : Nat} (hb : us.length = b) (hf : a + b ≤ cells.length) : (∀ m, m < a → (putAt cells a us)[m]? = cells[m]?) ∧ ∀ m, m < b → (putAt cells a us)[a + m]? = us[m]? := by
  refine ⟨fun m hm => ?_, fun m hm => ?_⟩
  · rw [putAt_get _ _ _ (by omega), if_neg (by omega)]
  · rw [putAt_get _ _ _ (by omega), if_pos (by omega), show a + m - a = m from by omega]

theorem Nst.holO {id b : Nat} {z : C} {n : Nat} {q : Option (Nat × List V)} (h : Nst g w id (holO z n q) b) : False := by
  cases q <;> exact h.elim

theorem finish_new' {w0 : World} {cells : Array Value} {ty : TypeId} {ob : O} {v : V} {val : Value} {cl : Nat × Nat}
    (h : St X I g s a w0) (hrun : (execOp a.eval o).run P w = .ok (.value val) (w0.alloc (.cells cells ty)))
    (hob : ∀ g' n', g' s.nx = some (w0.heap.size, cl) → s.nx < n' → (∀ id, id < s.nx → g' id = g id) → RO I g' n' (w0.alloc (.cells cells ty)) s.nx ob)
    (hv : ∀ g' n', g' s.nx = some (w0.heap.size, cl) → s.nx < n' → RV I g' n' (w0.alloc (.cells cells ty)) v val)
    (hK : ¬ X.K0 s.nx) (hk : s.alloc o.dst ob v K) (hN : ∀ s' a' w', Sat X s' a' w' → K s' → N a' w')
    (hnst : ∀ g' b, g' s.nx = some (w0.heap.size, cl) → ¬ Nst g' (w0.alloc (.cells cells ty)) s.nx ob b := by intro _ _ _ h; exact h.elim) : o.wp P a w N Q := by
  rw [S.alloc_eq] at hk
  obtain ⟨g', hg', hst⟩ := h.new cells ty ob cl hob hnst hK
  exact finish_value hrun hst (hv g' _ hg' (by simp)) hk hN

theorem RO.of_cells {n id b cap : Nat} {z : C} {cells : List Value} {ty : TypeId} (hg : g id = some (b, cap, z.len)) (hs : z.isSl = true) (hb : w.heap[b]? = some (.cells cells.toArray ty (0, 0)))
    (hl : cells.length = cap * z.stride) (hcap : z.len ≤ cap) {w0 : World} (hw : ∀ b, I b → w.heap[b]? = w0.heap[b]?)
    (h : ∀ i j c, i < z.len → (z.row i)[j]? = some c → ∃ v, cells[i * z.stride + j]? = some v ∧ RC I w0 c v) (hfull : cap = z.len) : RO I g n w id (.arr z) :=
  RO.arr_of hg hs hb hl hcap (fun i j y hi hy => let ⟨v, h1, h2⟩ := h i j y hi hy; ⟨v, h1, h2.mono (fun _ h => h) hw⟩) (typed_full hs (by rw [hl, hfull]) h)

theorem zeroCells_length (z : Value) (n : Nat) : (Builtin.zeroCells z.cells n).toList.length = n * z.cells.size := by simp [Builtin.zeroCells]

theorem zeroCells_sl {kd : Kd} (hp : kd.empty.isPg = true) (n : Nat) : ∀ v ∈ (Builtin.zeroCells (kdZero kd).cells n).toList, SlVal v := by
  cases kd with
  | pgs =>
    intro v hv
    simp only [Builtin.zeroCells, kdZero, Value.cells] at hv
    simp at hv
    rcases hv with ⟨i, _, rfl⟩
    have : i % 3 = 0 ∨ i % 3 = 1 ∨ i % 3 = 2 := by omega
    rcases this with e | e | e <;> rw [e] <;> exact ⟨_, _, _, rfl⟩
  | _ => cases hp
theorem fitK_get {kd : Kd} {z : C} {sz : Nat} (h : fitK kd z sz = true) : z.stride = sz ∧ kd.empty.isPg = z.isPg := by
  unfold fitK at h
  split at h
  · rename_i h1 h2 h3; exact ⟨Nat.eq_of_beq_eq_true h1, by rw [h2, h3]⟩
  · rename_i h1 h2 h3; exact ⟨Nat.eq_of_beq_eq_true h1, by rw [h2, h3]⟩
  · cases h
theorem app_pg {x y z : C} (h : C.app x y = some z) : x.isPg = z.isPg ∧ y.isPg = z.isPg := by
  cases x <;> cases y <;> first | (cases h; done) | (simp only [C.app] at h; split at h <;> cases h; exact ⟨rfl, rfl⟩) | (cases h; exact ⟨rfl, rfl⟩)

theorem kdZero_size (kd : Kd) : (kdZero kd).cells.size = kd.empty.stride := by cases kd <;> rfl

theorem RV.slc_inv {n id : Nat} {v : Value} (h : RV I g n w (.slc id) v) : id < n ∧ ((∃ b cap len, g id = some (b, cap, len) ∧ v = .slice (some ⟨b, 0, none⟩) len cap) ∨ (g id = none ∧ v = .slice none 0 0)) := by
  cases h with
  | slc _ len b cap hn hg => exact ⟨hn, .inl ⟨b, cap, len, hg, rfl⟩⟩
  | slc0 _ hn hg => exact ⟨hn, .inr ⟨hg, rfl⟩⟩

/-- the cells of an array whose elements' slices are its own -/
structure DRows (I : Nat → Prop) (g : Gam) (n : Nat) (w : World) (f : Nat) (x : C) (hs : List (Nat × List V)) (F : Nat → Option Value) : Prop where
  t : ∀ (i j : Nat) y, f ≤ i → i < x.len → i ∉ keysHs hs → (x.row i)[j]? = some y → ∃ v, F (i * x.stride + j) = some v ∧ NC w y v
  h : ∀ i us, (i, us) ∈ hs → i < x.len ∧ us.length = x.stride ∧ ∀ j, j < x.stride → ∃ u v, us[j]? = some u ∧ F (i * x.stride + j) = some v ∧ v.oneCell' = true ∧ RV I g n w u v
  d : ∀ k k' b' o l c o' l' c', Told f x (keysHs hs) k → Told f x (keysHs hs) k' → F k = some (.slice (some ⟨b', o, none⟩) l c) → F k' = some (.slice (some ⟨b', o', none⟩) l' c') → k = k'
  kn : (keysHs hs).Nodup

theorem DRows.ro {n id b cap f : Nat} {pn : Bool} {x : C} {hs : List (Nat × List V)} {cells : List Value} {ty : TypeId} (h : DRows I g n w f x hs (fun m => cells[m]?)) (hg : g id = some (b, cap, x.len)) (hsl : x.isSl = true) (hb : w.heap[b]? = some (.cells cells.toArray ty (0, 0)))
    (hl : cells.length = cap * x.stride) (hcap : x.len ≤ cap) (hne : ∀ k b' o l c, Told f x (keysHs hs) k → cells[k]? = some (.slice (some ⟨b', o, none⟩) l c) → b' ≠ b) (ht : x.isPg = true → ∀ v ∈ cells, SlVal v) : RO I g n w id (.deep pn f x hs) :=
  .deep pn f x hs b cap cells ty hg hsl hb hl hcap (fun i us hm => ⟨(h.h i us hm).1, (h.h i us hm).2.1⟩) h.kn h.t (fun i us hm => (h.h i us hm).2.2) (fun k k' b' o l c o' l' c' t1 t2 e1 e2 => ⟨h.d k k' b' o l c o' l' c' t1 t2 e1 e2, hne k b' o l c t1 e1⟩) ht

/-- one element more -/
theorem DRows.app {n f id : Nat} {x y z : C} {hs : List (Nat × List V)} {us : List V} {F0 U F : Nat → Option Value} {g' : Gam} {w' : World} (h : DRows I g n w f x hs F0) (happ : C.app x y = some z) (hy : y.len = 1) (hu : RowsP I g n w y (some (0, us)) U)
    (h0 : ∀ m, m < x.len * x.stride → F m = F0 m) (h1 : ∀ m, m < y.len * x.stride → F (x.len * x.stride + m) = U m) (hw : ∀ b, I b → w'.heap[b]? = w.heap[b]?) (hg : ∀ i, i ≠ id → g' i = g i)
    (hkeep : ∀ (k q : Nat) c v, f ≤ k → k < x.len → k ∉ keysHs hs → (x.row k)[q]? = some c → F0 (k * x.stride + q) = some v → NC w c v → NC w' c v) :
    DRows I g' n w' f z (mapHs (forgetL id) hs ++ [(x.len, forgetL id us)]) F := by
  obtain ⟨s1, s2, s3, s4, s5, s6, s7, s8⟩ := app_inv happ
  have hlo : ∀ i j, i < x.len → j < x.stride → i * x.stride + j < x.len * x.stride := fun i j hi hj => row_in (hi := i) hi (Nat.le_refl _) hj
  have hkeys : keysHs (mapHs (forgetL id) hs ++ [(x.len, forgetL id us)]) = keysHs hs ++ [x.len] := by rw [keysHs_append, keysHs_map]; rfl
  have hfor : ∀ v val, RV I g n w v val → RV I g' n w' (v.forget id) val := fun v val hv => (hv.mono (fun _ h => h) hw (Nat.le_refl _) fun _ _ => rfl).forget fun i _ hne => hg i hne
  have hold : ∀ {k}, Told f z (keysHs hs ++ [x.len]) k → Told f x (keysHs hs) k ∧ F k = F0 k := fun {k} ⟨i, j, e, q1, q2, q3, q4⟩ => by
    rw [List.mem_append, not_or] at q4
    rw [s4] at e q1
    have hi : i < x.len := by have : i ≠ x.len := fun c => q4.2 (by simp [c]); omega
    exact ⟨⟨i, j, e, q1, q2, hi, q4.1⟩, by rw [e]; exact h0 _ (hlo i j hi q1)⟩
  have hmap : ∀ (us0 : List V) (i : Nat) (FF : Nat → Option Value), (∀ j, j < x.stride → ∃ u v, us0[j]? = some u ∧ FF j = some v ∧ v.oneCell' = true ∧ RV I g n w u v) → (∀ j, j < x.stride → F (i * x.stride + j) = FF j) →
      ∀ j, j < z.stride → ∃ u v, (forgetL id us0)[j]? = some u ∧ F (i * z.stride + j) = some v ∧ v.oneCell' = true ∧ RV I g' n w' u v := fun us0 i FF hh he j hj => by
    rw [s4] at hj ⊢
    obtain ⟨u, v, a1, a2, a3, a4⟩ := hh j hj
    exact ⟨u.forget id, v, by rw [forgetL_get, a1]; rfl, by rw [he j hj]; exact a2, a3, hfor _ _ a4⟩
  refine ⟨fun i j c q1 q2 q3 q4 => ?_, fun i us' hm => ?_, fun k k' b' o l c o' l' c' t1 t2 e1 e2 => ?_, ?_⟩
  · rw [hkeys, List.mem_append, not_or] at q3
    have hi : i < x.len := by have : i ≠ x.len := fun c => q3.2 (by simp [c]); omega
    rw [s7 i hi] at q4
    obtain ⟨v, e1, e2⟩ := h.t i j c q1 hi q3.1 q4
    have hj : j < x.stride := by have := (List.getElem?_eq_some_iff.1 q4).1; rwa [C.row_len _ _ s1] at this
    exact ⟨v, by rw [s4, h0 _ (hlo i j hi hj)]; exact e1, hkeep i j c v q1 hi q3.1 q4 e1 e2⟩
  · rcases List.mem_append.1 hm with hm | hm
    · obtain ⟨vs, hm2, rfl⟩ := mem_mapHs hm
      obtain ⟨a1, a2, a3⟩ := h.h i vs hm2
      exact ⟨by omega, by rw [forgetL_eq, List.length_map, s4]; exact a2, hmap vs i (fun j => F0 (i * x.stride + j)) a3 fun j hj => h0 _ (hlo i j a1 hj)⟩
    · simp only [List.mem_singleton] at hm
      cases hm
      obtain ⟨a1, a2, a3⟩ := hu.2 0 us rfl
      rw [s5] at a2 a3
      exact ⟨by omega, by rw [forgetL_eq, List.length_map, s4]; exact a2, hmap us x.len (fun j => U (0 * x.stride + j)) a3 fun j hj => by rw [h1 j (by rw [hy]; omega)]; simp⟩
  · rw [hkeys] at t1 t2
    obtain ⟨t1, m1⟩ := hold t1
    obtain ⟨t2, m2⟩ := hold t2
    exact h.d k k' b' o l c o' l' c' t1 t2 (m1 ▸ e1) (m2 ▸ e2)
  · rw [hkeys, List.nodup_append]
    refine ⟨h.kn, by simp, fun a ha b hb => ?_⟩
    simp only [List.mem_singleton] at hb
    subst hb
    obtain ⟨⟨i, us'⟩, h1, h2⟩ := List.mem_map.1 ha
    simp only at h2
    subst h2
    exact fun c => by have := (h.h i us' h1).1; omega

theorem sound_append (hT : TOk P T) {t tx : Nat} {x y : Operand} (ht : ∃ e' sz' b' kd', T tx = .slice e' sz' b' kd')
    (hrun : ∀ v w', (Builtin.append_ #[t, tx] o.type #[a.eval x, a.eval y]).run P w = .ok v w' → (execOp a.eval o).run P w = .ok (.value v) w')
    (h : St X I g s a w) (hk : vappend T t s o.dst (evl s.env x) (evl s.env y) K)
    (hN : ∀ s' a' w', Sat X s' a' w' → K s' → N a' w') : o.wp P a w N Q := by
  have hK : ¬ X.K0 s.nx := fun hk => by have := h.low _ hk; omega
  have hx := h.eval x
  have hy := h.eval y
  generalize a.eval x = vx at hx hrun
  generalize a.eval y = vy at hy hrun
  obtain ⟨e', sz', by', kd', htx⟩ := ht
  have hux := (slice_facts hT htx).1
  cases hti : T t with
  | slice e sz bytes kd =>
    obtain ⟨hu, i, hi, hsz, hbt, hz, hst, hb1, hb2⟩ := slice_facts hT hti
    simp only [vappend, hti] at hk
    obtain ⟨c, hc, hk2, hrd⟩ := view_inv (P := P) hk h.heap hy
    have hbig : ∀ {need old : Nat}, old < need → need ≤ 4294967296 → Builtin.nextslicecap need old * i.bytes ≤ 281474976710656 := fun {need old} h1 h2 => by
      have := nextslicecap_le h1
      have h3 : Builtin.nextslicecap need old * i.bytes ≤ (2 * 4294967296) * 4096 := Nat.mul_le_mul (by omega) (by omega)
      omega
    split at hk2
    · -- nil
      rename_i hxe
      rw [hxe] at hx
      cases hx
      split at hk2
      · rename_i z happ
        obtain ⟨s1, s2, s3, s4, s5, s6, s7, s8⟩ := app_inv happ
        have hlen0 : kd.empty.len = 0 := by cases kd <;> rfl
        split at hk2
        · rename_i hzs
          obtain ⟨hzs, hkp⟩ := fitK_get hzs
          obtain ⟨hzl, hk3⟩ := vneed_true hk2
          rw [C.force_eq] at hk3
          obtain ⟨_, ad, cap, rfl, vs, hvl, hrows, hone, hsl, hfc⟩ := hrd s2
          obtain ⟨p1, p2⟩ := app_pg happ
          have hzl' : z.len = c.len := by rw [s6, hlen0]; omega
          by_cases h0 : c.len = 0
          · -- nothing is appended: nil stays
            have hr : (Builtin.append_ #[t, tx] o.type #[.slice none 0 0, .slice ad c.len cap]).run P w = .ok (.slice none 0 0) w := by
              rw [h0] at hfc ⊢
              have := hfc w rfl
              rw [s5, hst, ← hsz] at this
              simp [Builtin.append_, run_underlying hu, run_underlying hux, sizeOf, typeInfo, hi, Builtin.lenOf, this]
            have hc0 : hc = none := by
              cases hc with
              | none => rfl
              | some p => have := (hrows.2 p.1 p.2 rfl).1; omega
            rw [hc0] at hk3
            simp only [holO] at hk3
            rw [S.alloc_eq] at hk3
            obtain ⟨g', hg', hst'⟩ := h.newNil z s3 (by omega)
            exact finish_value (hrun _ _ hr) hst' (.slc0 _ (by simp) hg') hk3 hN
          · obtain ⟨cap', hcap', hr⟩ := run_append_new (w := w) t tx o.type e e' i _ hu hux hi hz none 0 0 c.len cap ad [] vs (fun w' _ => by simp [Builtin.firstCells]) (fun w' hw => by
              have := hfc w' hw; rwa [s5, hst, ← hsz] at this) (by omega) (by omega) (hbig (by omega) (by omega))
            have h' : St X I g s a w.drew := h.world rfl rfl rfl (Nat.le_refl _) (fun _ _ => rfl)
            have hrun' := hrun _ _ hr
            have hsz2 : (kdZero kd).cells.size = z.stride := by rw [kdZero_size, s4]
            refine finish_new' (cl := (cap', z.len)) h' hrun' (fun g' n' hg' hn' hgo => ?_) (fun g' n' hg' hn' => ?_) hK hk3 hN (fun _ _ _ hn => hn.holO)
            · have hF := app_at (vs := ([] : List Value)) (us := vs) (rest := (Builtin.zeroCells (kdZero kd).cells (cap' - (0 + c.len))).toList) rfl hvl
              have hr1 := app_rows (F := fun m => ([] ++ vs ++ (Builtin.zeroCells (kdZero kd).cells (cap' - (0 + c.len))).toList)[m]?) (F0 := fun _ => none) happ (hx := none) (.inl rfl) ⟨fun i j y hi => by omega, fun _ _ e => by cases e⟩ hrows (fun m hm => by rw [hlen0] at hm; omega) (fun m hm => by
                rw [hlen0]; simp only [Nat.zero_mul]; rw [← s5] at hm; exact hF.2 m hm)
              have hmono : ∀ b, I b → (w.drew.alloc (.cells ([] ++ vs ++ (Builtin.zeroCells (kdZero kd).cells (cap' - (0 + c.len))).toList).toArray e)).heap[b]? = w.heap[b]? := fun b hI => heap_push_lt w.drew _ (h.bound b hI)
              have hr2 := hr1.mapV (fun v => v) (I' := I) (g' := g') (n' := n') (w' := w.drew.alloc (.cells ([] ++ vs ++ (Builtin.zeroCells (kdZero kd).cells (cap' - (0 + c.len))).toList).toArray e))
                (fun v val hv => hv.mono (fun _ h => h) hmono (Nat.le_of_lt hn') hgo) (fun y v hv => hv.mono (fun _ h => h) hmono)
              have e1 : ((holApp kd.empty none hc).map fun p => (p.1, p.2.map fun v => v)) = hc := by
                cases hc with
                | none => rfl
                | some p => simp [holApp, hlen0]
              rw [e1] at hr2
              refine RO.of_rowsP hg' s3 (heap_alloc_new _ _) ?_ (by omega) hr2 fun hp v hv => by
                rcases List.mem_append.1 hv with hv | hv
                · rcases List.mem_append.1 hv with hv | hv
                  · cases hv
                  · exact hsl (p2.trans hp) v hv
                · exact zeroCells_sl (p1.trans hp) _ v hv
              rw [List.length_append, List.length_append, zeroCells_length, hsz2, hvl, s5, ← s4, Nat.sub_mul]
              have : c.len * z.stride ≤ cap' * z.stride := Nat.mul_le_mul_right _ (by omega)
              simp only [List.length_nil, Nat.zero_add]; omega
            · rw [Nat.zero_add, ← hzl']; exact .slc _ _ _ _ hn' hg'
        · exact hk2.elim
      · exact hk2.elim
    · rename_i id hxe
      rw [hxe] at hx
      -- the object id, be an element of it told cell by cell or not
      have main : ∀ (x0 : C) (hx0 : Option (Nat × List V)) (z : C), lookH s.hp id = some (holO x0 0 hx0) → (hx0 = none ∨ hc = none) → C.app x0 c = some z → fitK kd z sz = true → z.len ≤ 4294967296 →
          S.put { s.forget id with hp := setH (s.forget id).hp id (holO z 0 ((holApp x0 hx0 hc).map fun p => (p.1, p.2.map (V.forget id)))) } o.dst (.slc id) K → o.wp P a w N Q := by
        intro x0 hx0 z hl hxc happ hzs hzl hk3
        have hm := lookH_mem hl
        have hro := (h.heap.obj id _ hm).2
        have hbf : ∀ (z : C) (n : Nat) (q : Option (Nat × List V)), (holO z n q).isBox = false := fun z n q => by cases q <;> rfl
        obtain ⟨s1, s2, s3, s4, s5, s6, s7, s8⟩ := app_inv happ
        obtain ⟨hzs, hkp⟩ := fitK_get hzs
        obtain ⟨_, ad, cap, rfl, vs, hvl, hrows, hone, hsl, hfc⟩ := hrd s2
        obtain ⟨_, ad0, cap0, rfl, vs0, hvl0, hrows0, hone0, hsl0, hfc0⟩ := reads_slcH (P := P) hro hx
        obtain ⟨p1, p2⟩ := app_pg happ
        have hst2 : x0.stride = i.size := by rw [← s4, hzs, hsz]
        have hsz2 : (kdZero kd).cells.size = z.stride := by rw [kdZero_size, hst, hzs]
        rw [hst2] at hfc0
        rw [s5, hst2] at hfc
        have hout : ∀ {g' : Gam} {w' : World} {F : Nat → Option Value}, (∀ b, I b → w'.heap[b]? = w.heap[b]?) → (∀ i, i ≠ id → g' i = g i) → RowsP I g s.nx w z (holApp x0 hx0 hc) F →
            RowsP I g' s.nx w' z ((holApp x0 hx0 hc).map fun p => (p.1, p.2.map (V.forget id))) F := fun {g' w' F} hw hg hr =>
          hr.mapV (V.forget id) (fun v val hv => (hv.mono (fun _ h => h) hw (Nat.le_refl _) fun _ _ => rfl).forget fun i _ hne => hg i hne) (fun y v hv => hv.mono (fun _ h => h) hw)
        have hgrow : cap0 < x0.len + c.len → o.wp P a w N Q := fun hlt => by
          obtain ⟨cap', hcap', hr⟩ := run_append_new (w := w) t tx o.type e e' i _ hu hux hi hz ad0 x0.len cap0 c.len cap ad vs0 vs hfc0 hfc hlt (by omega) (hbig hlt (by omega))
          have hF := app_at (vs := vs0) (us := vs) (rest := (Builtin.zeroCells (kdZero kd).cells (cap' - (x0.len + c.len))).toList) hvl0 hvl
          have hr1 := app_rows (F := fun m => (vs0 ++ vs ++ (Builtin.zeroCells (kdZero kd).cells (cap' - (x0.len + c.len))).toList)[m]?) happ hxc hrows0 hrows hF.1 (fun m hm => hF.2 m (by rw [s5]; exact hm))
          obtain ⟨g', hg', hst'⟩ := h.replace (ob' := holO z 0 ((holApp x0 hx0 hc).map fun p => (p.1, p.2.map (V.forget id)))) hm (hbf _ _ _) (w' := w.drew.alloc (.cells (vs0 ++ vs ++ (Builtin.zeroCells (kdZero kd).cells (cap' - (x0.len + c.len))).toList).toArray e)) (some (w.heap.size, cap', z.len)) rfl rfl rfl (by simp)
            (fun k hk _ => heap_push_lt w.drew _ hk) (fun b cl hb => by cases hb; exact ⟨by simp, .inl (Nat.le_refl _)⟩) (fun g' hg' hgo => by
              refine RO.of_rowsP hg' s3 (heap_alloc_new w.drew _) ?_ (by omega) (hout (fun b hI => heap_push_lt w.drew _ (h.bound b hI)) hgo hr1) fun hp v hv => by
                rcases List.mem_append.1 hv with hv | hv
                · rcases List.mem_append.1 hv with hv | hv
                  · exact hsl0 (p1.trans hp) v hv
                  · exact hsl (p2.trans hp) v hv
                · exact zeroCells_sl (hkp.trans hp) _ v hv
              rw [List.length_append, List.length_append, zeroCells_length, hsz2, hvl, hvl0, s5, ← s4, ← Nat.add_mul, Nat.sub_mul]
              have : (x0.len + c.len) * z.stride ≤ cap' * z.stride := Nat.mul_le_mul_right _ (by omega)
              omega) (fun _ _ _ hn => hn.holO.elim)
          exact finish_value (hrun _ _ hr) hst' (by rw [← s6]; exact .slc _ _ _ _ (h.heap.obj id _ hm).1 hg') hk3 hN
        obtain ⟨hn, ⟨b, cap1, len1, hg, hve⟩ | ⟨hg, hve⟩⟩ := hx.slc_inv
        · injection hve with e1 e2 e3
          subst e1 e3
          obtain ⟨hs0, rfl, cells, ty, hb, hl2, hcap, hr0, ht0⟩ := hro.rows hg
          by_cases hroom : x0.len + c.len ≤ cap0
          · have hfit : x0.len * i.size + vs.length ≤ cells.length := by
              rw [hvl, hl2, s5, hst2, ← Nat.add_mul]
              exact Nat.mul_le_mul_right _ hroom
            obtain ⟨w', r1, r2, r3⟩ := run_append_in (w := w) t tx o.type e e' i hu hux hi b x0.len cap0 c.len cap ad cells vs ty hb (hfc w rfl) hone hroom hfit
            have hI' : ∀ k, I k → w'.heap[k]? = w.heap[k]? := fun k hk => r3.block k fun e => (h.heap.apart id _ b hm (.pri hg)).1 (e ▸ hk)
            have hF := put_at (cells := cells) (us := vs) (a := x0.len * x0.stride) hvl (by rw [hst2, ← hvl]; exact hfit)
            have hr1 := app_rows (F := fun m => (putAt cells (x0.len * x0.stride) vs)[m]?) happ hxc hr0 hrows hF.1 (fun m hm => hF.2 m (by rw [s5]; exact hm))
            obtain ⟨g', hg2, hst'⟩ := h.replace (ob' := holO z 0 ((holApp x0 hx0 hc).map fun p => (p.1, p.2.map (V.forget id)))) hm (hbf _ _ _) (w' := w') (some (b, cap0, z.len)) r3.os r3.tape r3.output (by rw [r3.size]; exact Nat.le_refl _)
              (fun k _ hk => r3.block k fun e => hk _ (e ▸ hg)) (fun b2 cl hb2 => by cases hb2; exact ⟨by rw [r3.size]; exact (h.heap.apart id _ b hm (.pri hg)).2, .inr ⟨_, hg⟩⟩) (fun g' hg' hgo => by
                rw [← hst2] at r2
                exact RO.of_rowsP hg' s3 r2 (by rw [length_putAt, hl2, s4]) (by omega) (hout hI' hgo hr1) fun hp v hv => by
                  rcases mem_putAt hv with hv | hv
                  · exact ht0 (p1.trans hp) v hv
                  · exact hsl (p2.trans hp) v hv) (fun _ _ _ hn => hn.holO.elim)
            exact finish_value (hrun _ _ r1) hst' (by rw [← s6]; exact .slc _ _ _ _ hn hg2) hk3 hN
          · exact hgrow (by omega)
        · injection hve with e1 e2 e3
          subst e1 e3
          by_cases hc0 : c.len = 0
          · have hr : (Builtin.append_ #[t, tx] o.type #[.slice none 0 0, .slice ad c.len cap]).run P w = .ok (.slice none 0 0) w := by
              rw [hc0] at hfc ⊢
              have := hfc w rfl
              simp [Builtin.append_, run_underlying hu, run_underlying hux, sizeOf, typeInfo, hi, Builtin.lenOf, this]
            have hx0n : hx0 = none := by
              cases hx0 with
              | none => rfl
              | some p => have := (hrows0.2 p.1 p.2 rfl).1; omega
            have hcn : hc = none := by
              cases hc with
              | none => rfl
              | some p => have := (hrows.2 p.1 p.2 rfl).1; omega
            subst hx0n hcn
            obtain ⟨g', hg', hst'⟩ := h.replace (ob' := .arr z) hm rfl (w' := w) none rfl rfl rfl (Nat.le_refl _) (fun _ _ _ => rfl) (fun b cl hb => by cases hb) (fun g' hg' _ => .none z hg' s3 (by omega))
            exact finish_value (hrun _ _ (by rw [e2]; exact hr)) hst' (.slc0 _ hn hg') hk3 hN
          · exact hgrow (by omega)
      split at hk2
      · rename_i x0 hl
        split at hk2
        · rename_i z happ
          split at hk2
          · rename_i hzs
            obtain ⟨hzl, hk3⟩ := vneed_true hk2
            rw [C.force_eq, S.force_eq] at hk3
            refine main x0 none z hl (.inl rfl) happ hzs hzl ?_
            have e : holO z x0.len (forgetHY id hc) = holO z 0 ((holApp x0 none hc).map fun p => (p.1, p.2.map (V.forget id))) := by
              cases hc with
              | none => rfl
              | some p => obtain ⟨q, us⟩ := p; simp [holO, forgetHY, holApp, forgetL_eq]
            rw [← e]; exact hk3
          · exact hk2.elim
        · exact hk2.elim
      · rename_i x0 hi0 us0 hl
        split at hk2
        · rename_i z happ
          split at hk2
          · rename_i hzs
            obtain ⟨hzl, hk3⟩ := vneed_true hk2
            rw [C.force_eq, S.force_eq] at hk3
            refine main x0 (some (hi0, us0)) z (by rw [hl]; simp [holO]) (.inr rfl) happ hzs hzl ?_
            have e : O.hol z hi0 (forgetL id us0) = holO z 0 ((holApp x0 (some (hi0, us0)) none).map fun p => (p.1, p.2.map (V.forget id))) := by simp [holO, holApp, forgetL_eq]
            rw [← e]; exact hk3
          · exact hk2.elim
        · exact hk2.elim
      · rename_i f x0 hs0 hl
        split at hk2
        · rename_i z us happ hyl
          have hyl := Nat.eq_of_beq_eq_true hyl
          split at hk2
          · rename_i hzs
            obtain ⟨hzl, hk3⟩ := vneed_true hk2
            rw [C.force_eq, S.force_eq] at hk3
            have hm := lookH_mem hl
            have hro := (h.heap.obj id _ hm).2
            obtain ⟨s1, s2, s3, s4, s5, s6, s7, s8⟩ := app_inv happ
            obtain ⟨hzs, hkp⟩ := fitK_get hzs
            obtain ⟨_, ad, cap, rfl, vs, hvl, hrows, hone, hsl, hfc⟩ := hrd s2
            obtain ⟨p1, p2⟩ := app_pg happ
            have hst2 : x0.stride = i.size := by rw [← s4, hzs, hsz]
            have hsz2 : (kdZero kd).cells.size = z.stride := by rw [kdZero_size, hst, hzs]
            rw [s5, hst2] at hfc
            have hlt : ∀ b', Own g w id (.deep false f x0 hs0) b' → b' < w.heap.size := fun b' ho => (h.heap.apart id _ b' hm ho).2
            -- in a new block
            have hgrow : ∀ (ad0 : Option Addr) (cap0 : Nat) (vs0 : List Value), vx = .slice ad0 x0.len cap0 → vs0.length = x0.len * x0.stride → (∀ w', w'.heap = w.heap → (Builtin.firstCells i.size x0.len (.slice ad0 x0.len cap0)).run P w' = .ok vs0.toArray w') →
                DRows I g s.nx w f x0 hs0 (fun m => vs0[m]?) → (x0.isPg = true → ∀ v ∈ vs0, SlVal v) → (∀ k b' o l c, Told f x0 (keysHs hs0) k → vs0[k]? = some (.slice (some ⟨b', o, none⟩) l c) → Nst g w id (.deep false f x0 hs0) b') → cap0 < x0.len + c.len → o.wp P a w N Q := by
              intro ad0 cap0 vs0 hvx hvl0 hfc0 hdr hsl0 hnst0 hlt0
              subst hvx
              obtain ⟨cap', hcap', hr⟩ := run_append_new (w := w) t tx o.type e e' i _ hu hux hi hz ad0 x0.len cap0 c.len cap ad vs0 vs hfc0 hfc hlt0 (by omega) (hbig hlt0 (by omega))
              have hF := app_at (vs := vs0) (us := vs) (rest := (Builtin.zeroCells (kdZero kd).cells (cap' - (x0.len + c.len))).toList) hvl0 hvl
              have hw5 : ∀ k, k < w.heap.size → (w.drew.alloc (.cells (vs0 ++ vs ++ (Builtin.zeroCells (kdZero kd).cells (cap' - (x0.len + c.len))).toList).toArray e)).heap[k]? = w.heap[k]? := fun k hk => heap_push_lt w.drew _ hk
              have hdr2 : ∀ g' : Gam, (∀ i, i ≠ id → g' i = g i) → DRows I g' s.nx (w.drew.alloc (.cells (vs0 ++ vs ++ (Builtin.zeroCells (kdZero kd).cells (cap' - (x0.len + c.len))).toList).toArray e)) f z (mapHs (forgetL id) hs0 ++ [(x0.len, forgetL id us)])
                  (fun m => (vs0 ++ vs ++ (Builtin.zeroCells (kdZero kd).cells (cap' - (x0.len + c.len))).toList)[m]?) := fun g' hgo =>
                hdr.app happ hyl hrows hF.1 (fun m hm => hF.2 m (by rw [s5]; exact hm)) (fun b hI => hw5 b (h.bound b hI)) hgo fun k q y v a1 a2 a3 a4 a5 a6 => a6.mono fun b1 l m e => hw5 b1 (hlt b1 (.inr (hnst0 _ _ _ _ _ (told_row s1 a1 a2 a3 a4) (by rw [← e]; exact a5))))
              have htold : ∀ {k b' o l c'}, Told f z (keysHs (mapHs (forgetL id) hs0 ++ [(x0.len, forgetL id us)])) k → (vs0 ++ vs ++ (Builtin.zeroCells (kdZero kd).cells (cap' - (x0.len + c.len))).toList)[k]? = some (.slice (some ⟨b', o, none⟩) l c') → Nst g w id (.deep false f x0 hs0) b' := fun {k b' o l c'} htd he => by
                obtain ⟨i', j', e1, q1, q2, q3, q4⟩ := htd
                rw [keysHs_append, keysHs_map, List.mem_append, not_or] at q4
                rw [s4] at e1 q1
                have hi' : i' < x0.len := by
                  have : i' ≠ x0.len := fun c => q4.2 (by simp [keysHs, c])
                  omega
                rw [e1, hF.1 _ (row_in (hi := i') hi' (Nat.le_refl _) q1)] at he
                exact hnst0 _ _ _ _ _ ⟨i', j', rfl, q1, q2, hi', q4.1⟩ he
              obtain ⟨g', hg', hst'⟩ := h.replace (ob' := .deep false f z (mapHs (forgetL id) hs0 ++ [(x0.len, forgetL id us)])) hm rfl (w' := w.drew.alloc (.cells (vs0 ++ vs ++ (Builtin.zeroCells (kdZero kd).cells (cap' - (x0.len + c.len))).toList).toArray e)) (some (w.heap.size, cap', z.len)) rfl rfl rfl (by simp)
                (fun k hk _ => hw5 k hk) (fun b cl hb => by cases hb; exact ⟨by simp, .inl (Nat.le_refl _)⟩) (fun g' hg' hgo => by
                  refine (hdr2 g' hgo).ro hg' s3 (heap_alloc_new w.drew _) ?_ (by omega) (fun k b' o l c htd he => ?_) fun hp v hv => by
                    rcases List.mem_append.1 hv with hv | hv
                    · rcases List.mem_append.1 hv with hv | hv
                      · exact hsl0 (p1.trans hp) v hv
                      · exact hsl (p2.trans hp) v hv
                    · exact zeroCells_sl (hkp.trans hp) _ v hv
                  · rw [List.length_append, List.length_append, zeroCells_length, hsz2, hvl, hvl0, s5, ← s4, ← Nat.add_mul, Nat.sub_mul]
                    have : (x0.len + c.len) * z.stride ≤ cap' * z.stride := Nat.mul_le_mul_right _ (by omega)
                    omega
                  · have := hlt b' (.inr (htold htd he))
                    show b' ≠ w.heap.size
                    omega) (fun g' hg' b' hn => by
                  obtain ⟨b1, cl, k, off, l, c', e1, e2, e3⟩ := hn
                  rw [hg'] at e1; cases e1
                  have hb2 := heap_alloc_new w.drew (.cells (vs0 ++ vs ++ (Builtin.zeroCells (kdZero kd).cells (cap' - (x0.len + c.len))).toList).toArray e)
                  have hwd : w.drew.heap.size = w.heap.size := rfl
                  rw [hwd] at hb2
                  rw [cell_of_row _ _ _ _ e (0, 0) hb2] at e3
                  exact htold e2 (by simpa using e3))
              exact finish_value (hrun _ _ hr) hst' (by rw [← s6]; exact .slc _ _ _ _ (h.heap.obj id _ hm).1 hg') hk3 hN
            obtain ⟨hn, ⟨b, cap1, len1, hg, hve⟩ | ⟨hg, hve⟩⟩ := hx.slc_inv
            · cases hro with
              | deep0 _ _ _ hg' => rw [hg] at hg'; cases hg'
              | deep _ _ _ _ b0 cap0 cells ty hg' hsl1 hb hl2 hcap0 hh hkn hr h2 hd ht0 =>
                rw [hg] at hg'; cases hg'
                have hcl : ∀ (k : Nat), w.cell? ⟨b, k, none⟩ = cells[k]? := fun k => by rw [cell_of_row w b _ cells.toArray ty (0, 0) hb]; simp
                by_cases hroom : x0.len + c.len ≤ cap1
                · have hfit : x0.len * i.size + vs.length ≤ cells.length := by
                    rw [hvl, hl2, s5, hst2, ← Nat.add_mul]
                    exact Nat.mul_le_mul_right _ hroom
                  subst hve
                  obtain ⟨w', r1, r2, r3⟩ := run_append_in (w := w) t tx o.type e e' i hu hux hi b x0.len cap1 c.len cap ad cells vs ty hb (hfc w rfl) hone hroom hfit
                  have hI' : ∀ k, I k → w'.heap[k]? = w.heap[k]? := fun k hk => r3.block k fun e => (h.heap.apart id _ b hm (.pri hg)).1 (e ▸ hk)
                  have hF := put_at (cells := cells) (us := vs) (a := x0.len * x0.stride) hvl (by rw [hst2, ← hvl]; exact hfit)
                  have hdr : DRows I g s.nx w f x0 hs0 (fun m => cells[m]?) := ⟨hr, fun i us hm => ⟨(hh i us hm).1, (hh i us hm).2, h2 i us hm⟩, fun k k' b' o l c o' l' c' t1 t2 e1 e2 => (hd k k' b' o l c o' l' c' t1 t2 e1 e2).1, hkn⟩
                  have hdr2 : ∀ g' : Gam, (∀ i, i ≠ id → g' i = g i) → DRows I g' s.nx w' f z (mapHs (forgetL id) hs0 ++ [(x0.len, forgetL id us)]) (fun m => (putAt cells (x0.len * x0.stride) vs)[m]?) := fun g' hgo =>
                    hdr.app happ hyl hrows hF.1 (fun m hm => hF.2 m (by rw [s5]; exact hm)) hI' hgo fun k q y v a1 a2 a3 a4 a5 a6 => a6.mono fun b1 l m e => r3.block b1 (by
                      subst e
                      exact (hd _ _ b1 0 l m 0 l m (told_row s1 a1 a2 a3 a4) (told_row s1 a1 a2 a3 a4) a5 a5).2)
                  have htold : ∀ {k b' o l c'}, Told f z (keysHs (mapHs (forgetL id) hs0 ++ [(x0.len, forgetL id us)])) k → (putAt cells (x0.len * x0.stride) vs)[k]? = some (.slice (some ⟨b', o, none⟩) l c') → Told f x0 (keysHs hs0) k ∧ cells[k]? = some (.slice (some ⟨b', o, none⟩) l c') := fun {k b' o l c'} htd he => by
                    obtain ⟨i', j', e1, q1, q2, q3, q4⟩ := htd
                    rw [keysHs_append, keysHs_map, List.mem_append, not_or] at q4
                    rw [s4] at e1 q1
                    have hi' : i' < x0.len := by
                      have : i' ≠ x0.len := fun c => q4.2 (by simp [keysHs, c])
                      omega
                    rw [e1] at he ⊢
                    rw [hF.1 _ (row_in (hi := i') hi' (Nat.le_refl _) q1)] at he
                    exact ⟨⟨i', j', rfl, q1, q2, hi', q4.1⟩, he⟩
                  obtain ⟨g', hg2, hst'⟩ := h.replace (ob' := .deep false f z (mapHs (forgetL id) hs0 ++ [(x0.len, forgetL id us)])) hm rfl (w' := w') (some (b, cap1, z.len)) r3.os r3.tape r3.output (by rw [r3.size]; exact Nat.le_refl _)
                    (fun k _ hk => r3.block k fun e => hk _ (e ▸ hg)) (fun b2 cl hb2 => by cases hb2; exact ⟨by rw [r3.size]; exact (h.heap.apart id _ b hm (.pri hg)).2, .inr ⟨_, hg⟩⟩) (fun g' hg' hgo => by
                      rw [← hst2] at r2
                      exact (hdr2 g' hgo).ro hg' s3 r2 (by rw [length_putAt, hl2, s4]) (by omega) (fun k b' o l c htd he => by
                        obtain ⟨t1, e1⟩ := htold htd he
                        exact (hd k k b' o l c o l c t1 t1 e1 e1).2) fun hp v hv => by
                        rcases mem_putAt hv with hv | hv
                        · exact ht0 (p1.trans hp) v hv
                        · exact hsl (p2.trans hp) v hv) (fun g' hg' b' hn => by
                      obtain ⟨b1, cl, k, off, l, c', e1, e2, e3⟩ := hn
                      rw [hg'] at e1; cases e1
                      rw [← hst2] at r2
                      rw [cell_of_row w' b _ _ ty (0, 0) r2] at e3
                      obtain ⟨t1, e4⟩ := htold e2 (by simpa using e3)
                      exact ⟨b, _, k, off, l, c', hg, t1, by rw [hcl]; exact e4⟩)
                  exact finish_value (hrun _ _ r1) hst' (by rw [← s6]; exact .slc _ _ _ _ hn hg2) hk3 hN
                · have hle : x0.len * x0.stride ≤ cells.length := by rw [hl2]; exact Nat.mul_le_mul_right _ hcap0
                  have htk : ∀ m, m < x0.len * x0.stride → (cells.take (x0.len * x0.stride))[m]? = cells[m]? := fun m hm => by rw [List.getElem?_take, if_pos hm]
                  have htd : ∀ {k}, Told f x0 (keysHs hs0) k → (cells.take (x0.len * x0.stride))[k]? = cells[k]? := fun {k} ⟨i', j', e1, q1, q2, q3, q4⟩ => by rw [e1]; exact htk _ (row_in (hi := i') q3 (Nat.le_refl _) q1)
                  refine hgrow _ cap1 (cells.take (x0.len * x0.stride)) hve (by simp; omega) (fun w' hw => ?_) ⟨fun i' j y a1 a2 a3 a4 => ?_, fun i' us' hm' => ⟨(hh i' us' hm').1, (hh i' us' hm').2, fun j hj => ?_⟩, fun k k' b' o l c o' l' c' t1 t2 e1 e2 => ?_, hkn⟩ (fun hp v hv => ht0 hp v (List.mem_of_mem_take hv)) (fun k b' o l c t1 e1 => ?_) (by omega)
                  · rw [← hst2]
                    exact run_firstCells_some w' x0.stride x0.len ⟨b, 0, none⟩ x0.len cap1 _ (by simp; omega) fun j v hv => by
                      rw [addr_add, Nat.zero_add, cell_block (w := w) (by rw [hw]), hcl]
                      rw [List.getElem?_take] at hv
                      split at hv
                      · exact hv
                      · cases hv
                  · obtain ⟨v, e1, e2⟩ := hr i' j y a1 a2 a3 a4
                    have hj : j < x0.stride := by have := (List.getElem?_eq_some_iff.1 a4).1; rwa [C.row_len _ _ hsl1] at this
                    exact ⟨v, by rw [htk _ (row_in (hi := i') a2 (Nat.le_refl _) hj)]; exact e1, e2⟩
                  · obtain ⟨u, v, a1, a2, a3, a4⟩ := h2 i' us' hm' j hj
                    exact ⟨u, v, a1, by rw [htk _ (row_in (hi := i') (hh i' us' hm').1 (Nat.le_refl _) hj)]; exact a2, a3, a4⟩
                  · simp only [htd t1] at e1; simp only [htd t2] at e2
                    exact (hd k k' b' o l c o' l' c' t1 t2 e1 e2).1
                  · rw [htd t1] at e1
                    exact ⟨b, _, k, o, l, c, hg, t1, by rw [hcl]; exact e1⟩
            · cases hro with
              | deep _ _ _ _ b0 cap0 cells ty hg' => rw [hg] at hg'; cases hg'
              | deep0 _ _ _ hg' hsl1 h0 =>
                have hnt : ∀ {k}, ¬ Told f x0 (keysHs []) k := fun {k} ⟨i', j', e1, q1, q2, q3, q4⟩ => by omega
                refine hgrow none 0 [] (by rw [hve, h0]) (by rw [h0]; simp) (fun w' _ => by rw [h0]; simp [Builtin.firstCells]) ⟨fun i' j y a1 a2 => (by omega), fun i' us' hm' => (nomatch hm'), fun k k' b' o l c o' l' c' t1 => (hnt t1).elim, by unfold keysHs; simp⟩ (fun _ v hv => by cases hv) (fun k b' o l c t1 => (hnt t1).elim) (by omega)
          · exact hk2.elim
        · exact hk2.elim
      · exact hk2.elim
    · exact hk2.elim
  | _ => simp [vappend, hti] at hk
end
end Go.VL
