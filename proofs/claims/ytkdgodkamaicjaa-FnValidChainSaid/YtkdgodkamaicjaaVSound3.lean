/- V-logic, part 5: what the table of types must tell; loads. -/
import Derived.Test.YtkdgodkamaicjaaVSound2
namespace Go.VL
set_option linter.unusedVariables false
set_option linter.unusedSimpArgs false

def aggB : TypeDesc → Bool
  | .struct _ => true
  | .array _ _ => true
  | _ => false

def kdZero : Kd → Value
  | .nums k => .int k 0
  | .bools => .bool false
  | .prs => .agg #[.int .i64 0, .int .i64 0]
  | .pgs => .agg #[.slice none 0 0, .slice none 0 0, .slice none 0 0]
  | .lks => .agg #[.slice none 0 0, .int .i64 0, .int .i64 0]
  | .ops => .agg #[.int .i64 0, .int .i64 0, .int .i64 0]
  | .numss => .slice none 0 0
  | .prss => .slice none 0 0

def sizeIs (P : Program) (t n : Nat) : Prop := (P.info? t).map (·.size) = some n
def zeroIs (P : Program) (t : Nat) (z : Value) : Prop := (P.info? t).bind (·.zero) = some z
def aggIs (P : Program) (t : Nat) (b : Bool) : Prop := (P.underlying t).map aggB = some b

def fieldsOk (P : Program) : List Field → List (Nat × Nat × Bool) → Prop
  | [], [] => True
  | f :: fs, (off, sz, ag) :: xs => f.offset = off ∧ sizeIs P f.type sz ∧ 0 < sz ∧ aggIs P f.type ag ∧ (ag = false → sz = 1) ∧ fieldsOk P fs xs
  | _, _ => False

def tiOk (P : Program) (t : Nat) : TI → Prop
  | .bad => True
  | .prim z => aggIs P t false ∧ sizeIs P t 1 ∧ (∃ z0 : Value, zeroIs P t z0 ∧ cval z0 = z ∧ z0.cells = #[z0]) ∧
      (∀ k m, z = .c (.int k m) → P.underlying t = some (.int k)) ∧ (z = .ff → P.underlying t = some TypeDesc.bool)
  | .slice e sz bytes kd => P.underlying t = some (.slice e) ∧ sizeIs P t 1 ∧ zeroIs P t (.slice none 0 0) ∧
      (P.info? e).map (fun i => (i.size, i.bytes)) = some (sz, bytes) ∧ zeroIs P e (kdZero kd) ∧ kd.empty.stride = sz ∧ 1 ≤ bytes ∧ bytes ≤ 4096
  | .struct fs zs => (∃ fields : Array Field, P.underlying t = some (.struct fields) ∧ fieldsOk P fields.toList fs) ∧ sizeIs P t zs.length ∧
      (∃ cells : List Value, zeroIs P t (.agg cells.toArray) ∧ cells.map cval = zs) ∧ zs.length ≠ 0
  | .arr n e kd => P.underlying t = some (.array n e) ∧ sizeIs P e 1 ∧ aggIs P e false ∧ kd.empty.stride = 1 ∧ sizeIs P t n ∧
      zeroIs P t (.agg (List.replicate n (kdZero kd)).toArray) ∧ (kdZero kd).cells = #[kdZero kd] ∧ n ≠ 0
  | .boxb fs pre n post => (∃ fields : Array Field, P.underlying t = some (.struct fields) ∧ fieldsOk P fields.toList fs) ∧ sizeIs P t (pre.length + n + post.length) ∧
      (∃ c1 c2 : List Value, zeroIs P t (.agg (c1 ++ List.replicate n (Value.bool false) ++ c2).toArray) ∧ c1.map cval = pre ∧ c2.map cval = post) ∧ pre.length + n + post.length ≠ 0

def TOk (P : Program) (T : TT) : Prop := ∀ t, tiOk P t (T t)

section
variable {P : Program} {T : TT} {X : Cx} {I : Nat → Prop} {g : Gam} {s : S} {a : Act} {w : World} {o : Oper} {K : S → Prop}
  {N : Act → World → Prop} {Q : Exit → Act → World → Prop}

theorem run_sizeOf' {t n : Nat} (h : sizeIs P t n) (w : World) : (sizeOf t).run P w = .ok n w := by
  unfold sizeIs at h
  cases hi : P.info? t with
  | none => rw [hi] at h; cases h
  | some i => rw [hi] at h; simp at h; simp [sizeOf, typeInfo, hi, h]

theorem run_zero' {t : Nat} {z : Value} (h : zeroIs P t z) (w : World) : (zeroValue t).run P w = .ok z w := by
  unfold zeroIs at h
  cases hi : P.info? t with
  | none => rw [hi] at h; cases h
  | some i => rw [hi] at h; simp at h; simp [zeroValue, typeInfo, hi, h]

theorem run_isAgg' {t : Nat} {b : Bool} (h : aggIs P t b) (w : World) : (isAgg t).run P w = .ok b w := by
  unfold aggIs at h
  cases hi : P.underlying t with
  | none => rw [hi] at h; cases h
  | some d =>
    rw [hi] at h
    simp at h
    unfold isAgg
    rw [Sem.run_bind, run_underlying hi w]
    subst h
    cases d <;> rfl

theorem TI.facts {t : Nat} (hT : tiOk P t (T t)) (hb : T t ≠ .bad) : aggIs P t (T t).isAgg ∧ sizeIs P t (T t).size ∧ (T t).size ≠ 0 ∧ ((T t).isAgg = false → (T t).size = 1) := by
  cases h : T t with
  | bad => exact (hb h).elim
  | prim z => rw [h] at hT; exact ⟨hT.1, hT.2.1, by simp [TI.size], fun _ => rfl⟩
  | slice e sz bytes kd => rw [h] at hT; exact ⟨by simp [aggIs, hT.1, aggB, TI.isAgg], hT.2.1, by simp [TI.size], fun _ => rfl⟩
  | struct fs zs => rw [h] at hT; obtain ⟨⟨f, hf, _⟩, h2, _, h4⟩ := hT; exact ⟨by simp [aggIs, hf, aggB, TI.isAgg], h2, by simpa [TI.size] using h4, fun h => by cases h⟩
  | arr n e kd => rw [h] at hT; exact ⟨by simp [aggIs, hT.1, aggB, TI.isAgg], hT.2.2.2.2.1, by simpa [TI.size] using hT.2.2.2.2.2.2.2, fun h => by cases h⟩
  | boxb fs pre n post => rw [h] at hT; obtain ⟨⟨f, hf, _⟩, h2, _, h4⟩ := hT; exact ⟨by simp [aggIs, hf, aggB, TI.isAgg], h2, by simpa [TI.size] using h4, fun h => by cases h⟩

/-- the cells from an address on read as a row of values -/
def RowV (I : Nat → Prop) (g : Gam) (n : Nat) (w : World) (b off : Nat) (row : List V) : Prop :=
  ∀ (j : Nat) x, row[j]? = some x → ∃ v, w.cell? ⟨b, off + j, none⟩ = some v ∧ RV I g n w x v

theorem RowV.drop {n b off : Nat} {row : List V} (h : RowV I g n w b off row) (k : Nat) : RowV I g n w b (off + k) (row.drop k) := fun j x hj => by
  rw [List.getElem?_drop] at hj
  obtain ⟨v, h1, h2⟩ := h (k + j) x hj
  exact ⟨v, by rw [Nat.add_assoc]; exact h1, h2⟩

theorem RowV.take {n b off : Nat} {row : List V} (h : RowV I g n w b off row) (k : Nat) : RowV I g n w b off (row.take k) := fun j x hj => by
  rw [List.getElem?_take] at hj
  split at hj
  · exact h j x hj
  · cases hj

theorem addr_add (b off j : Nat) : (⟨b, off, none⟩ : Addr).add j = ⟨b, off + j, none⟩ := by
  unfold Addr.add
  split
  · rename_i h; subst h; rfl
  · rfl

theorem RowV.values {n b off : Nat} {row : List V} (h : RowV I g n w b off row) : ∃ vs : List Value, vs.length = row.length ∧
    (∀ (j : Nat) v, vs[j]? = some v → w.cell? ⟨b, off + j, none⟩ = some v) ∧ ∀ (j : Nat) x v, row[j]? = some x → vs[j]? = some v → RV I g n w x v := by
  induction row generalizing off with
  | nil => exact ⟨[], rfl, by simp, by simp⟩
  | cons x t ih =>
    obtain ⟨v, h1, h2⟩ := h 0 x rfl
    obtain ⟨vs, hl, hv, hr⟩ := ih (off := off + 1) (by have := h.drop 1; simpa using this)
    refine ⟨v :: vs, by simp [hl], fun j u hj => ?_, fun j y u hj hu => ?_⟩
    · cases j with
      | zero => cases hj; exact h1
      | succ j => have := hv j u (by simpa using hj); rw [Nat.add_assoc, Nat.add_comm 1 j] at this; exact this
    · cases j with
      | zero => cases hj; cases hu; exact h2
      | succ j => exact hr j y u (by simpa using hj) (by simpa using hu)

theorem run_loadAgg {t : Nat} {ti : TI} (ha : aggIs P t true) (hs : sizeIs P t ti.size) {n b off : Nat} {row : List V} (h : RowV I g n w b off row) (hl : row.length = ti.size) :
    ∃ vs : List Value, (Instr.loadAt t (.pointer (some ⟨b, off, none⟩))).run P w = .ok (.agg vs.toArray) w ∧ RV I g n w (.agg row) (.agg vs.toArray) := by
  obtain ⟨vs, hvl, hv, hr⟩ := h.values
  refine ⟨vs, ?_, .agg row vs hvl.symm hr⟩
  have hl2 : (loadCells ⟨b, off, none⟩ vs.length).run P w = .ok vs.toArray w := run_loadCells_list (P := P) w _ vs fun j v hj => by rw [addr_add]; exact hv j v hj
  rw [hvl, hl] at hl2
  simp [Instr.loadAt, Instr.sureAddr, loadVar, run_isAgg' ha, run_sizeOf' hs, hl2]

theorem run_loadOne {t : Nat} (ha : aggIs P t false) {b off : Nat} {v : Value} (h : w.cell? ⟨b, off, none⟩ = some v) :
    (Instr.loadAt t (.pointer (some ⟨b, off, none⟩))).run P w = .ok v w := by
  simp [Instr.loadAt, Instr.sureAddr, loadVar, run_isAgg' ha, h]

theorem vcells_get (row : List C) (j : Nat) : (vcells row)[j]? = (row[j]?).map V.c := by
  induction row generalizing j with
  | nil => simp [vcells]
  | cons x t ih => cases j with
    | zero => simp [vcells]
    | succ j => simpa [vcells] using ih j
theorem vcells_eq (row : List C) : vcells row = row.map V.c := by
  apply List.ext_getElem?; intro j; simp [vcells_get]

theorem RowV.of_iptr {n : Nat} {row : List C} {v : Value} (h : RV I g n w (.iptr row) v) : ∃ b off, v = .pointer (some ⟨b, off, none⟩) ∧ I b ∧ RowV I g n w b off (vcells row) := by
  cases h with
  | iptr _ b off val hI hc hr =>
    refine ⟨b, off, rfl, hI, fun j x hx => ?_⟩
    rw [vcells_get] at hx
    cases hj : row[j]? with
    | none => rw [hj] at hx; cases hx
    | some y => rw [hj] at hx; cases hx; exact ⟨_, hc j y hj, .c _ _ (hr j y hj)⟩

theorem RowV.of_arr {n id i : Nat} {x : C} {b : Nat} {cl : Nat × Nat} (h : RO I g n w id (.arr x)) (hg : g id = some (b, cl)) (hi : i < x.len) :
    RowV I g n w b (i * x.stride) (vcells (x.row i)) := by
  cases h with
  | none _ hg' => rw [hg] at hg'; cases hg'
  | arr _ b' cap cells ty hg' hs hb hl hcap h =>
    rw [hg] at hg'
    cases hg'
    intro j y hy
    rw [vcells_get] at hy
    cases hj : (x.row i)[j]? with
    | none => rw [hj] at hy; cases hy
    | some z =>
      rw [hj] at hy; cases hy
      obtain ⟨v, h1, h2⟩ := h i j z hi hj
      refine ⟨v, ?_, .c _ _ h2⟩
      rw [cell_of_row w b _ cells.toArray ty (0, 0) hb]
      simpa using h1

theorem RowV.of_box {n id : Nat} {pre post : List V} {bs : List Bool} {b : Nat} {cl : Nat × Nat} (h : RO I g n w id (.box pre bs post)) (hg : g id = some (b, cl)) :
    RowV I g n w b 0 (pre ++ (bs.map fun x => V.c (C.bool x)) ++ post) := by
  cases h with
  | box _ _ _ b' cl' cells ty hg' hb hl h1 h2 h3 =>
    rw [hg] at hg'; cases hg'
    intro j x hx
    have hj : j < cells.length := by
      rw [hl]
      have := (List.getElem?_eq_some_iff.1 hx).1
      simp only [List.length_append, List.length_map] at this; exact this
    refine ⟨cells[j], by rw [cell_of_row w b _ cells.toArray ty (0, 0) hb]; simp [hj], ?_⟩
    have hcj : cells[j]? = some cells[j] := List.getElem?_eq_getElem hj
    by_cases c1 : j < pre.length
    · rw [List.append_assoc, List.getElem?_append_left c1] at hx
      exact h1 j x _ hx hcj
    · by_cases c2 : j < pre.length + bs.length
      · rw [List.append_assoc, List.getElem?_append_right (by omega), List.getElem?_append_left (by simp; omega)] at hx
        simp only [List.getElem?_map, Option.map_eq_some_iff] at hx
        obtain ⟨y, hy, rfl⟩ := hx
        have := h2 (j - pre.length) y hy
        rw [show pre.length + (j - pre.length) = j from by omega, hcj] at this
        rw [Option.some.inj this]
        exact RV.mkbool _ _
      · rw [List.getElem?_append_right (by simp; omega)] at hx
        simp only [List.length_append, List.length_map] at hx
        have := h3 (j - (pre.length + bs.length)) x cells[j] hx (by rw [show pre.length + bs.length + (j - (pre.length + bs.length)) = j from by omega]; exact hcj)
        exact this

theorem row_in {i hi st cap len j : Nat} (h : i < len) (hc : len ≤ cap) (hj : j < st) : i * st + j < cap * st := by
  have : (i + 1) * st ≤ cap * st := Nat.mul_le_mul_right _ (by omega)
  rw [Nat.add_mul, Nat.one_mul] at this; omega

theorem RowV.of_hol {n id hi : Nat} {x : C} {vs : List V} {b : Nat} {cl : Nat × Nat} (h : RO I g n w id (.hol x hi vs)) (hg : g id = some (b, cl)) :
    RowV I g n w b (hi * x.stride) vs ∧ ∀ i, i < x.len → i ≠ hi → RowV I g n w b (i * x.stride) (vcells (x.row i)) := by
  cases h with
  | hol _ _ _ b' cap cells ty hg' hs hb hl hcap hhi hv h h2 =>
    rw [hg] at hg'
    cases hg'
    refine ⟨fun j u hj => ?_, fun i hi hne j y hy => ?_⟩
    · obtain ⟨u', v, a1, a2, a3, a4⟩ := h2 j (by rw [← hv]; exact (List.getElem?_eq_some_iff.1 hj).1)
      rw [hj] at a1; cases a1
      exact ⟨v, by rw [cell_of_row w b _ cells.toArray ty (0, 0) hb]; simpa using a2, a4⟩
    · rw [vcells_get] at hy
      cases hj : (x.row i)[j]? with
      | none => rw [hj] at hy; cases hy
      | some z =>
        rw [hj] at hy; cases hy
        obtain ⟨v, h1, h2⟩ := h i j z hi hne hj
        refine ⟨v, ?_, .c _ _ h2⟩
        rw [cell_of_row w b _ cells.toArray ty (0, 0) hb]
        simpa using h1

theorem mem_keysHs {hs : List (Nat × List V)} {i : Nat} {us : List V} (h : (i, us) ∈ hs) : i ∈ keysHs hs := List.mem_map.2 ⟨_, h, rfl⟩

def mcell (c : C) : V := match c with | .int k n => .c (.int k n) | .bool b => .c (.bool b) | _ => .any
theorem mrow_eq (row : List C) : mrow row = row.map mcell := by
  induction row with
  | nil => rfl
  | cons c t ih => cases c <;> simp [mrow, mcell, ih]
theorem NC.mcell {n : Nat} {c : C} {v : Value} (h : NC w c v) : RV I g n w (mcell c) v := by
  cases h with
  | int k m => exact .c _ _ (.int k m)
  | bool b => exact .c _ _ (.bool b)
  | nil k => exact .any _
  | sl => exact .any _

theorem RowV.of_deep {n id f : Nat} {p : Bool} {x : C} {hs : List (Nat × List V)} {b : Nat} {cl : Nat × Nat} (h : RO I g n w id (.deep p f x hs)) (hg : g id = some (b, cl)) :
    (∀ i us, (i, us) ∈ hs → RowV I g n w b (i * x.stride) us) ∧ ∀ i, f ≤ i → i < x.len → i ∉ keysHs hs → RowV I g n w b (i * x.stride) (mrow (x.row i)) := by
  cases h with
  | deep0 _ _ _ hg' => rw [hg] at hg'; cases hg'
  | deep _ _ _ _ b' cap cells ty hg' hsl hb hl hcap hh hkn h h2 hd ht =>
    rw [hg] at hg'
    cases hg'
    refine ⟨fun i us hm j u hj => ?_, fun i hf hi hne j y hy => ?_⟩
    · obtain ⟨u', v, a1, a2, a3, a4⟩ := h2 i us hm j (by rw [← (hh i us hm).2]; exact (List.getElem?_eq_some_iff.1 hj).1)
      rw [hj] at a1; cases a1
      exact ⟨v, by rw [cell_of_row w b _ cells.toArray ty (0, 0) hb]; simpa using a2, a4⟩
    · rw [mrow_eq, List.getElem?_map] at hy
      cases hj : (x.row i)[j]? with
      | none => rw [hj] at hy; cases hy
      | some z =>
        rw [hj] at hy; cases hy
        obtain ⟨v, h1, h2⟩ := h i j z hf hi hne hj
        exact ⟨v, by rw [cell_of_row w b _ cells.toArray ty (0, 0) hb]; simpa using h1, h2.mcell⟩

theorem vor_true {c A B : Prop} (h : vor c A B) : (c ∧ A) ∨ (¬ c ∧ B) := by unfold vor at h; exact h

theorem vhole_true {i : Nat} {A : List (Nat × List V) → Nat → List V → List (Nat × List V) → Prop} {B : Prop} : ∀ {hs pre : List (Nat × List V)}, vhole i pre hs A B →
    (∃ p1 us t, hs = p1 ++ (i, us) :: t ∧ A (pre ++ p1) i us t) ∨ (i ∉ keysHs hs ∧ B) := by
  intro hs
  induction hs with
  | nil => intro pre h; exact .inr ⟨by simp [keysHs], h⟩
  | cons x t ih =>
    obtain ⟨hi, us⟩ := x
    intro pre h
    simp only [vhole] at h
    rcases vor_true h with ⟨rfl, h⟩ | ⟨hne, h⟩
    · exact .inl ⟨[], us, t, rfl, by simpa using h⟩
    · rcases ih h with ⟨p1, us', t', e, h⟩ | ⟨h1, h2⟩
      · exact .inl ⟨(hi, us) :: p1, us', t', by rw [e]; rfl, by simpa using h⟩
      · exact .inr ⟨by simp only [keysHs, List.map_cons, List.mem_cons, not_or]; exact ⟨hne, h1⟩, h2⟩

/-- what a condition of a load gives -/
theorem run_vload {KV : V → Prop} (hT : TOk P T) (h : HOk I g s.nx w s.hp) {t : Nat} {x : V} {v : Value} (hv : RV I g s.nx w x v) (hk : vload T (lookH s.hp) t x KV) :
    ∃ y val, (Instr.loadAt t v).run P w = .ok val w ∧ RV I g s.nx w y val ∧ KV y := by
  have hb : T t ≠ .bad := fun h => by simp [vload, h, TI.ok] at hk
  have hok : (T t).ok = true := by cases h : T t <;> first | rfl | exact (hb h).elim
  obtain ⟨f1, f2, f3, f4⟩ := TI.facts (hT t) hb
  have krow : ∀ (b off : Nat) (row : List C), RowV I g s.nx w b off (vcells row) → vloadRow (T t) row KV → ∃ y val, (Instr.loadAt t (.pointer (some ⟨b, off, none⟩))).run P w = .ok val w ∧ RV I g s.nx w y val ∧ KV y := by
    intro b off row hr hk
    unfold vloadRow at hk
    split at hk
    · rename_i ha
      split at hk
      · rename_i hle
        have hle := Nat.le_of_ble_eq_true hle
        rw [ha] at f1
        have hr2 := hr.take (T t).size
        have e : (vcells row).take (T t).size = vcells (row.take (T t).size) := by rw [vcells_eq, vcells_eq, List.map_take]
        rw [e] at hr2
        obtain ⟨vs, h1, h2⟩ := run_loadAgg (ti := T t) f1 f2 hr2 (by simp [vcells_eq]; omega)
        exact ⟨_, _, h1, h2, hk⟩
      · exact hk.elim
    · rename_i ha
      rw [ha] at f1
      split at hk
      · rename_i x _
        obtain ⟨v, h1, h2⟩ := hr 0 (.c x) (by simp [vcells])
        exact ⟨_, _, run_loadOne f1 (by simpa using h1), h2, hk⟩
      · exact hk.elim
  have kvs : ∀ (b off : Nat) (row : List V), RowV I g s.nx w b off row → vloadVs (T t) row KV → ∃ y val, (Instr.loadAt t (.pointer (some ⟨b, off, none⟩))).run P w = .ok val w ∧ RV I g s.nx w y val ∧ KV y := by
    intro b off row hr hk
    unfold vloadVs at hk
    split at hk
    · rename_i ha
      split at hk
      · rename_i hle
        have hle := Nat.le_of_ble_eq_true hle
        rw [ha] at f1
        obtain ⟨vs, h1, h2⟩ := run_loadAgg (ti := T t) f1 f2 (hr.take (T t).size) (by simp; omega)
        exact ⟨_, _, h1, h2, hk⟩
      · exact hk.elim
    · rename_i ha
      rw [ha] at f1
      split at hk
      · rename_i x _
        obtain ⟨v, h1, h2⟩ := hr 0 x (by simp)
        rw [V.force_eq] at hk
        exact ⟨_, _, run_loadOne f1 (by simpa using h1), h2, hk⟩
      · exact hk.elim
  unfold vload at hk
  rw [hok] at hk
  dsimp only at hk
  split at hk
  · obtain ⟨b, off, rfl, _, hr⟩ := RowV.of_iptr hv
    exact krow b off _ hr hk
  · rename_i id i st j
    cases hv with
    | ptr _ _ _ _ b cl hn hg =>
      split at hk
      · rename_i x hl
        obtain ⟨⟨hi, rfl⟩, hk2⟩ := vneed_true hk
        have hr := (RowV.of_arr (h.obj id _ (lookH_mem hl)).2 hg hi).drop j
        rw [vcells_eq, ← List.map_drop, ← vcells_eq] at hr
        exact krow b _ _ hr hk2
      · rename_i x hi vs hl
        obtain ⟨⟨hi', rfl⟩, hk2⟩ := vneed_true hk
        obtain ⟨q1, q2⟩ := RowV.of_hol (h.obj id _ (lookH_mem hl)).2 hg
        rcases vor_true hk2 with ⟨rfl, hk3⟩ | ⟨hne, hk3⟩
        · exact kvs b _ _ (q1.drop j) hk3
        · have hr := (q2 i hi' hne).drop j
          rw [vcells_eq, ← List.map_drop, ← vcells_eq] at hr
          exact krow b _ _ hr hk3
      · rename_i p f x hs hl
        obtain ⟨⟨hi', rfl⟩, hk2⟩ := vneed_true hk
        obtain ⟨q1, q2⟩ := RowV.of_deep (h.obj id _ (lookH_mem hl)).2 hg
        rcases vhole_true hk2 with ⟨p1, us, t1, rfl, hk3⟩ | ⟨hne, hk3⟩
        · exact kvs b _ _ ((q1 i us (by simp)).drop j) hk3
        · obtain ⟨hf, hk4⟩ := vneed_true hk3
          exact kvs b _ _ ((q2 i hf hi' hne).drop j) hk4
      · rename_i pre bs post hl
        have hr := RowV.of_box (h.obj id _ (lookH_mem hl)).2 hg
        split at hk
        · rename_i hst
          have hst := Nat.eq_of_beq_eq_true hst
          subst hst
          have hz : i * 0 + j = j := by simp
          rw [hz]
          have hr0 := hr.drop j
          rw [Nat.zero_add] at hr0
          split at hk
          · rename_i ha
            rw [ha] at f1
            split at hk
            · split at hk
              · rename_i hle
                have hle := Nat.le_of_ble_eq_true hle
                have hr2 := hr0.take (T t).size
                simp only [List.map_nil, List.append_nil] at hr2
                obtain ⟨vs, h1, h2⟩ := run_loadAgg (ti := T t) f1 f2 hr2 (by simp at hle ⊢; omega)
                exact ⟨_, _, h1, h2, hk⟩
              · exact hk.elim
            · split at hk
              · rename_i hle
                have hle := Nat.le_of_ble_eq_true hle
                have hr2 := hr0.take (T t).size
                have e : List.take (T t).size (List.drop j (pre ++ List.map (fun x => V.c (C.bool x)) bs ++ post)) = List.take (T t).size (List.drop j pre) := by
                  rw [List.append_assoc, List.drop_append_of_le_length (by omega), List.take_append_of_le_length (by simp; omega)]
                rw [e] at hr2
                obtain ⟨vs, h1, h2⟩ := run_loadAgg (ti := T t) f1 f2 hr2 (by simp; omega)
                exact ⟨_, _, h1, h2, hk⟩
              · exact hk.elim
          · rename_i ha
            rw [ha] at f1
            have hnth : ∀ (l : List V) (k : Nat) (v : V), nthV l k = some v → l[k]? = some v := by
              intro l
              induction l with
              | nil => intro k v h; cases h
              | cons y l ih => intro k v h; cases k with
                | zero => exact h
                | succ k => simpa using ih k v h
            split at hk
            · rename_i v hv
              rw [V.force_eq] at hk
              have hv := hnth _ _ _ hv
              obtain ⟨u, h1, h2⟩ := hr j v (by rw [List.append_assoc, List.getElem?_append_left (List.getElem?_eq_some_iff.1 hv).1]; exact hv)
              exact ⟨_, _, run_loadOne f1 (by simpa using h1), h2, hk⟩
            · split at hk
              · rename_i v hv
                split at hk
                · rename_i hle
                  have hle := Nat.le_of_ble_eq_true hle
                  rw [V.force_eq] at hk
                  have hv := hnth _ _ _ hv
                  obtain ⟨u, h1, h2⟩ := hr j v (by
                    rw [List.getElem?_append_right (by simp; omega)]
                    simp only [List.length_append, List.length_map]
                    rw [show j - (pre.length + bs.length) = j - pre.length - bs.length from by omega]; exact hv)
                  exact ⟨_, _, run_loadOne f1 (by simpa using h1), h2, hk⟩
                · exact hk.elim
              · exact hk.elim
        · split at hk
          · exact hk.elim
          · rename_i ha
            rw [ha] at f1
            obtain ⟨⟨rfl, rfl, hi⟩, hk2⟩ := vneed_true hk
            obtain ⟨u, h1, h2⟩ := hr (pre.length + i) (.c (.bool (bs.getD i false))) (by
              rw [List.append_assoc, List.getElem?_append_right (by omega), List.getElem?_append_left (by simp; omega)]
              simp [hi])
            exact ⟨_, _, run_loadOne f1 (by rw [Nat.mul_one, Nat.add_comm i]; simpa using h1), h2, hk2⟩
      · exact hk.elim
  · exact hk.elim
end
end Go.VL
