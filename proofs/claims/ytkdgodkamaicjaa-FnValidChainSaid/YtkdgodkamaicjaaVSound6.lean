/- V-logic, part 8: new objects, stores. -/
import Derived.Test.YtkdgodkamaicjaaVSound5
namespace Go.VL
set_option linter.unusedVariables false
set_option linter.unusedSimpArgs false
section
variable {P : Program} {T : TT} {X : Cx} {I : Nat → Prop} {g : Gam} {s : S} {a : Act} {w : World} {o : Oper} {K : S → Prop}
  {N : Act → World → Prop} {Q : Exit → Act → World → Prop}

theorem heap_push_lt (w : World) (ob : Obj) {k : Nat} (h : k < w.heap.size) : (w.alloc ob).heap[k]? = w.heap[k]? := by
  show (w.heap.push ob)[k]? = _
  rw [Array.getElem?_push, if_neg (by omega)]

/-- a new object in a new block -/
theorem St.new (h : St X I g s a w) (cells : Array Value) (ty : TypeId) (ob : O) (cl : Nat × Nat)
    (hob : ∀ g' n', g' s.nx = some (w.heap.size, cl) → s.nx < n' → (∀ id, id < s.nx → g' id = g id) → RO I g' n' (w.alloc (.cells cells ty)) s.nx ob)
    (hnst : ∀ g' b, g' s.nx = some (w.heap.size, cl) → ¬ Nst g' (w.alloc (.cells cells ty)) s.nx ob b) (hK : ¬ X.K0 s.nx) : ∃ g', g' s.nx = some (w.heap.size, cl) ∧ St X I g' ⟨s.nt, s.nx + 1, s.env, (s.nx, ob) :: s.hp⟩ a (w.alloc (.cells cells ty)) := by
  obtain ⟨g', hgn, hg⟩ : ∃ g' : Gam, g' s.nx = some (w.heap.size, cl) ∧ ∀ id, id < s.nx → g' id = g id :=
    ⟨fun i => if i = s.nx then some (w.heap.size, cl) else g i, by simp, fun id hid => by simp; intro h; omega⟩
  refine ⟨g', hgn, ?_⟩
  have hw : ∀ b, b < w.heap.size → (w.alloc (.cells cells ty)).heap[b]? = w.heap[b]? := fun b hb => heap_push_lt w _ hb
  have hnew := hob g' (s.nx + 1) hgn (by omega) hg
  have hid : ∀ id o, (id, o) ∈ s.hp → id < s.nx := fun id o hm => (h.heap.obj id o hm).1
  have hgo : ∀ id o, (id, o) ∈ s.hp → g' id = g id := fun id o hm => hg id (hid id o hm)
  have hwo : ∀ id o b, (id, o) ∈ s.hp → Own g w id o b → (w.alloc (.cells cells ty)).heap[b]? = w.heap[b]? := fun id o b hm ho => hw b (h.heap.apart id o b hm ho).2
  have hback : ∀ {id o b}, (id, o) ∈ s.hp → Own g' (w.alloc (.cells cells ty)) id o b → Own g w id o b := fun {id o b} hm ho => ho.congr (hgo id o hm) fun b cl hg => hwo id o b hm (.pri hg)
  have hfirst : ∀ {b}, Own g' (w.alloc (.cells cells ty)) s.nx ob b → b = w.heap.size := fun {b} ho => by
    rcases ho with ⟨cl', ho⟩ | ho
    · rw [hgn] at ho; cases ho; rfl
    · exact (hnst g' b hgn ho).elim
  refine ⟨h.df, h.sz, fun j => (h.slots j).mono (fun _ h => h) (fun b hI => hw b (h.bound b hI)) (by simp) hg, ⟨?_, ?_, ?_, ?_⟩, ?_, h.up, h.down, ?_, ?_, ?_, fun id hid => by have := h.low id hid; simp; omega⟩
  · intro id o' hm
    rcases List.mem_cons.1 hm with hm | hm
    · cases hm; exact ⟨by simp, hnew⟩
    · refine ⟨by have := hid id o' hm; simp; omega, ?_⟩
      exact (h.heap.obj id o' hm).2.mono (fun _ h => h) (fun b hI => hw b (h.bound b hI)) (by simp) hg (hid id o' hm) fun b hgb => hwo id o' b hm hgb
  · intro id o' b hm hgb
    rcases List.mem_cons.1 hm with hm | hm
    · cases hm
      have := hfirst hgb
      subst this
      exact ⟨fun hI => by have := h.bound _ hI; omega, by simp⟩
    · obtain ⟨h1, h2⟩ := h.heap.apart id o' b hm (hback hm hgb)
      exact ⟨h1, by simp; omega⟩
  · simp only [List.map_cons, List.nodup_cons]
    refine ⟨fun hm => ?_, h.heap.nodup⟩
    obtain ⟨⟨i, o'⟩, hm, he⟩ := List.mem_map.1 hm
    have := hid i o' hm
    simp at he
    omega
  · intro id o1 id' o2 b hm hm' hgb hgb'
    rcases List.mem_cons.1 hm with hm | hm <;> rcases List.mem_cons.1 hm' with hm' | hm'
    · cases hm; cases hm'; rfl
    · cases hm
      have := hfirst hgb
      have := (h.heap.apart _ _ _ hm' (hback hm' hgb')).2
      omega
    · cases hm'
      have := hfirst hgb'
      have := (h.heap.apart _ _ _ hm (hback hm hgb)).2
      omega
    · exact h.heap.inj id o1 id' o2 b hm hm' (hback hm hgb) (hback hm' hgb')
  · intro b hI; have := h.bound b hI; simp; omega
  · rintro b ⟨id, o', hm, hgb⟩
    rcases List.mem_cons.1 hm with hm | hm
    · cases hm; rw [hfirst hgb]; exact .inl h.fr.size
    · exact h.own b ⟨id, o', hm, hback hm hgb⟩
  · intro id o' hm hbx hK0
    rcases List.mem_cons.1 hm with hm | hm
    · cases hm; exact (hK hK0).elim
    · rw [hgo _ _ hm]; exact h.keep id o' hm hbx hK0
  · exact ⟨h.fr.os, h.fr.tape, h.fr.output, by have := h.fr.size; simp; omega, fun b hb hd => by
      rw [hw b (by have := h.fr.size; omega)]; exact h.fr.block b hb hd⟩

/-- a nil slice becomes an object -/
theorem St.newNil (h : St X I g s a w) (x : C) (hs : x.isSl = true) (h0 : x.len = 0) : ∃ g', g' s.nx = none ∧ St X I g' ⟨s.nt, s.nx + 1, s.env, (s.nx, .arr x) :: s.hp⟩ a w := by
  obtain ⟨g', hgn, hg⟩ : ∃ g' : Gam, g' s.nx = none ∧ ∀ id, id < s.nx → g' id = g id :=
    ⟨fun i => if i = s.nx then none else g i, by simp, fun id hid => by simp; intro h; omega⟩
  refine ⟨g', hgn, ?_⟩
  have hid : ∀ id o, (id, o) ∈ s.hp → id < s.nx := fun id o hm => (h.heap.obj id o hm).1
  have hgo : ∀ id o, (id, o) ∈ s.hp → g' id = g id := fun id o hm => hg id (hid id o hm)
  have hback : ∀ {id o b}, (id, o) ∈ s.hp → Own g' w id o b → Own g w id o b := fun {id o b} hm ho => ho.congr (hgo id o hm) fun _ _ _ => rfl
  have hfirst : ∀ {b}, ¬ Own g' w s.nx (.arr x) b := fun {b} ho => by
    obtain ⟨cl', ho⟩ := ho.nd (fun _ _ _ _ e => by cases e)
    rw [hgn] at ho; cases ho
  refine ⟨h.df, h.sz, fun j => (h.slots j).mono (fun _ h => h) (fun b hI => rfl) (by simp) hg, ⟨?_, ?_, ?_, ?_⟩, h.bound, h.up, h.down, ?_, ?_, h.fr, fun id hid => by have := h.low id hid; simp; omega⟩
  · intro id o' hm
    rcases List.mem_cons.1 hm with hm | hm
    · cases hm; exact ⟨by simp, .none x hgn hs h0⟩
    · refine ⟨by have := hid id o' hm; simp; omega, ?_⟩
      exact (h.heap.obj id o' hm).2.mono (fun _ h => h) (fun b hI => rfl) (by simp) hg (hid id o' hm) fun b hgb => rfl
  · intro id o' b hm hgb
    rcases List.mem_cons.1 hm with hm | hm
    · cases hm; exact (hfirst hgb).elim
    · exact h.heap.apart id o' b hm (hback hm hgb)
  · simp only [List.map_cons, List.nodup_cons]
    refine ⟨fun hm => ?_, h.heap.nodup⟩
    obtain ⟨⟨i, o'⟩, hm, he⟩ := List.mem_map.1 hm
    have := hid i o' hm
    simp at he
    omega
  · intro id o1 id' o2 b hm hm' hgb hgb'
    rcases List.mem_cons.1 hm with hm | hm <;> rcases List.mem_cons.1 hm' with hm' | hm'
    · cases hm; cases hm'; rfl
    · cases hm; exact (hfirst hgb).elim
    · cases hm'; exact (hfirst hgb').elim
    · exact h.heap.inj id o1 id' o2 b hm hm' (hback hm hgb) (hback hm' hgb')
  · rintro b ⟨id, o', hm, hgb⟩
    rcases List.mem_cons.1 hm with hm | hm
    · cases hm; exact (hfirst hgb).elim
    · exact h.own b ⟨id, o', hm, hback hm hgb⟩
  · intro id o' hm hbx hK0
    rcases List.mem_cons.1 hm with hm | hm
    · cases hm; cases hbx
    · rw [hgo _ _ hm]; exact h.keep id o' hm hbx hK0

theorem S.alloc_eq (s : S) (dst : Option Nat) (ob : O) (v : V) (K : S → Prop) : s.alloc dst ob v K = S.put ⟨s.nt, s.nx + 1, s.env, (s.nx, ob) :: s.hp⟩ dst v K := by
  cases s; simp only [S.alloc, forceH_eq]; rfl

theorem finish_new {cells : Array Value} {ty : TypeId} {ob : O} {v : V} {val : Value} {cl : Nat × Nat}
    (h : St X I g s a w) (hrun : (execOp a.eval o).run P w = .ok (.value val) (w.alloc (.cells cells ty)))
    (hob : ∀ g' n', g' s.nx = some (w.heap.size, cl) → s.nx < n' → (∀ id, id < s.nx → g' id = g id) → RO I g' n' (w.alloc (.cells cells ty)) s.nx ob)
    (hv : ∀ g' n', g' s.nx = some (w.heap.size, cl) → s.nx < n' → RV I g' n' (w.alloc (.cells cells ty)) v val)
    (hK : ¬ X.K0 s.nx) (hk : s.alloc o.dst ob v K) (hN : ∀ s' a' w', Sat X s' a' w' → K s' → N a' w')
    (hnst : ∀ g' b, g' s.nx = some (w.heap.size, cl) → ¬ Nst g' (w.alloc (.cells cells ty)) s.nx ob b := by intro _ _ _ h; exact h.elim) : o.wp P a w N Q := by
  rw [S.alloc_eq] at hk
  obtain ⟨g', hg', hst⟩ := h.new cells ty ob cl hob hnst hK
  exact finish_value hrun hst (hv g' _ hg' (by simp)) hk hN

/-- the ids that come in as boxes lie below the next new one -/
def Cx.low (X : Cx) (s : S) : Prop := ∀ id, X.K0 id → id < s.nx

theorem world_push (w : World) (ob : Obj) : { w with heap := w.heap.push ob } = w.alloc ob := rfl

theorem cval_any (z : Value) (n : Nat) : RV I g n w (cval z) z := RV_cval n z

theorem run_newVar (t : TypeId) (v : Value) (w : World) : (newVar t v).run P w = .ok ⟨w.heap.size, 0, none⟩ (w.alloc (.cells v.cells t)) := by
  simp [newVar, newRow]

theorem RO.box_of {n id : Nat} {b : Nat} {cl : Nat × Nat} {pre post : List V} {bs : List Bool} {vs : List Value} {ty : TypeId} (hg : g id = some (b, cl))
    (hb : w.heap[b]? = some (.cells vs.toArray ty (0, 0))) (h : RVs I g n w (pre ++ (bs.map fun x => V.c (C.bool x)) ++ post) vs) : RO I g n w id (.box pre bs post) := by
  have hl := h.1
  simp only [List.length_append, List.length_map] at hl
  refine .box pre bs post b cl vs ty hg hb hl.symm (fun i x v hx hv => ?_) (fun i x hx => ?_) (fun i x v hx hv => ?_)
  · exact h.2 i x v (by rw [List.append_assoc, List.getElem?_append_left (List.getElem?_eq_some_iff.1 hx).1]; exact hx) hv
  · have hi := (List.getElem?_eq_some_iff.1 hx).1
    have hlt : pre.length + i < vs.length := by omega
    have := h.2 (pre.length + i) (.c (.bool x)) vs[pre.length + i] (by
      rw [List.append_assoc, List.getElem?_append_right (by omega), List.getElem?_append_left (by simp; omega)]
      simp [hx]) (List.getElem?_eq_getElem hlt)
    rw [List.getElem?_eq_getElem hlt, this.bool_inv]
  · have hi := (List.getElem?_eq_some_iff.1 hx).1
    exact h.2 _ x v (by
      rw [List.getElem?_append_right (by simp)]
      simp only [List.length_append, List.length_map]
      rw [show pre.length + bs.length + i - (pre.length + bs.length) = i from by omega]; exact hx) hv

theorem RO.arr_of {n id : Nat} {b cap : Nat} {x : C} {vs : List Value} {ty : TypeId} (hg : g id = some (b, cap, x.len)) (hs : x.isSl = true)
    (hb : w.heap[b]? = some (.cells vs.toArray ty (0, 0))) (hl : vs.length = cap * x.stride) (hcap : x.len ≤ cap)
    (h : ∀ i j y, i < x.len → (x.row i)[j]? = some y → ∃ v, vs[i * x.stride + j]? = some v ∧ RC I w y v) (ht : x.isPg = true → ∀ v ∈ vs, SlVal v) : RO I g n w id (.arr x) :=
  .arr x b cap vs ty hg hs hb hl hcap h ht

theorem RC.slVal {y : C} {v : Value} (hs : y.isSl = true) (h : RC I w y v) : SlVal v := by
  cases h with
  | int => cases hs
  | bool => cases hs
  | empty _ a cap => exact ⟨_, _, _, rfl⟩
  | sl => exact ⟨_, _, _, rfl⟩
theorem C.row_sl {x : C} (hp : x.isPg = true) {i j : Nat} {y : C} (h : (x.row i)[j]? = some y) : y.isSl = true := by
  cases x with
  | pgs xs =>
    match j with
    | 0 => cases h; rfl
    | 1 => cases h; rfl
    | 2 => cases h; rfl
    | j + 3 => cases h
  | _ => cases hp
/-- the cells of an array without spare room -/
theorem typed_full {x : C} (hs : x.isSl = true) {vs : List Value} (hl : vs.length = x.len * x.stride) (h : ∀ i j y, i < x.len → (x.row i)[j]? = some y → ∃ v, vs[i * x.stride + j]? = some v ∧ RC I w y v) : x.isPg = true → ∀ v ∈ vs, SlVal v := by
  intro hp v hv
  obtain ⟨m, hm⟩ := List.getElem?_of_mem hv
  have hml : m < x.len * x.stride := by rw [← hl]; exact (List.getElem?_eq_some_iff.1 hm).1
  have hst : 0 < x.stride := by rcases Nat.eq_zero_or_pos x.stride with e | e
                                · rw [e] at hml; omega
                                · exact e
  have hi : m / x.stride < x.len := (Nat.div_lt_iff_lt_mul hst).2 hml
  have hj : m % x.stride < (x.row (m / x.stride)).length := by rw [C.row_len _ _ hs]; exact Nat.mod_lt _ hst
  obtain ⟨v', a1, a2⟩ := h _ _ _ hi (List.getElem?_eq_getElem hj)
  rw [show m / x.stride * x.stride + m % x.stride = m by rw [Nat.mul_comm]; exact Nat.div_add_mod m x.stride, hm] at a1
  cases a1
  exact a2.slVal (C.row_sl hp (List.getElem?_eq_getElem hj))
theorem mem_putAt {vs : List Value} : ∀ {cs : List Value} {k : Nat} {u : Value}, u ∈ putAt cs k vs → u ∈ cs ∨ u ∈ vs := by
  induction vs with
  | nil => intro cs k u h; exact .inl h
  | cons v t ih =>
    intro cs k u h
    rw [putAt] at h
    rcases ih h with h | h
    · rcases List.mem_or_eq_of_mem_set h with h | h
      · exact .inl h
      · exact .inr (h ▸ List.mem_cons_self)
    · exact .inr (List.mem_cons_of_mem _ h)
theorem V.slB_val {n : Nat} {u : V} {v : Value} (hu : u.slB = true) (h : RV I g n w u v) : SlVal v := by
  cases u with
  | slc id => cases h <;> exact ⟨_, _, _, rfl⟩
  | nil => cases h; exact ⟨_, _, _, rfl⟩
  | c x => cases h with | c _ _ h => exact h.slVal hu
  | _ => cases hu
theorem slL_get {us : List V} (h : slL us = true) : ∀ u ∈ us, u.slB = true := by
  induction us with
  | nil => intro u hu; cases hu
  | cons x t ih =>
    simp only [slL] at h
    split at h
    · rename_i h1
      intro u hu
      rcases List.mem_cons.1 hu with hu | hu
      · rw [hu]; exact h1
      · exact ih h u hu
    · cases h
theorem RVs.slVal {n : Nat} {us : List V} {vs : List Value} (h : RVs I g n w us vs) (hs : slL us = true) : ∀ v ∈ vs, SlVal v := by
  intro v hv
  obtain ⟨i, hi⟩ := List.getElem?_of_mem hv
  have hlt : i < us.length := by rw [h.1]; exact (List.getElem?_eq_some_iff.1 hi).1
  exact V.slB_val (slL_get hs _ (List.getElem_mem hlt)) (h.2 i us[i] v (List.getElem?_eq_getElem hlt) hi)
theorem holOk_sl {x : C} {us : List V} (h : holOk x us = true) (hp : x.isPg = true) : slL us = true := by
  unfold holOk at h; rw [hp] at h; exact h

/-- element i of several elements that are all alike -/
theorem zeros_cells (kd : Kd) (n : Nat) : (kd.zeros n).isSl = true ∧ (kd.zeros n).len = n ∧ (kd.zeros n).stride = (kdZero kd).cells.size ∧
    ∀ (i j : Nat) y, i < n → ((kd.zeros n).row i)[j]? = some y → ∃ v, (kdZero kd).cells[j]? = some v ∧ ∀ (I : Nat → Prop) (w : World), RC I w y v := by
  have e : ∀ (I : Nat → Prop) (w : World) (x : C), x.isSl = true → x.len = 0 → RC I w x (.slice none 0 0) := fun I w x h1 h2 => .empty x _ _ h1 h2
  refine ⟨by cases kd <;> rfl, by cases kd <;> simp [Kd.zeros, C.len], by cases kd <;> rfl, fun i j y hi hy => ?_⟩
  cases kd
  case nums k =>
    simp only [Kd.zeros, C.row, List.getD, List.getElem?_replicate, hi, if_true, Option.getD_some] at hy
    cases j with
    | zero => cases hy; exact ⟨_, rfl, fun I w => .int _ _⟩
    | succ j => simp at hy
  case bools =>
    simp only [Kd.zeros, C.row, List.getD, List.getElem?_replicate, hi, if_true, Option.getD_some] at hy
    cases j with
    | zero => cases hy; exact ⟨_, rfl, fun I w => .bool _⟩
    | succ j => simp at hy
  case prs =>
    simp only [Kd.zeros, C.row, Pr.row, List.getD, List.getElem?_replicate, hi, if_true, Option.getD_some] at hy
    match j with
    | 0 => cases hy; exact ⟨_, rfl, fun I w => .int _ _⟩
    | 1 => cases hy; exact ⟨_, rfl, fun I w => .int _ _⟩
    | j + 2 => simp at hy
  case pgs =>
    simp only [Kd.zeros, C.row, Pg.row, List.getD, List.getElem?_replicate, hi, if_true, Option.getD_some] at hy
    match j with
    | 0 => cases hy; exact ⟨_, rfl, fun I w => e _ _ _ rfl rfl⟩
    | 1 => cases hy; exact ⟨_, rfl, fun I w => e _ _ _ rfl rfl⟩
    | 2 => cases hy; exact ⟨_, rfl, fun I w => e _ _ _ rfl rfl⟩
    | j + 3 => simp at hy
  case lks =>
    simp only [Kd.zeros, C.row, Lk.row, List.getD, List.getElem?_replicate, hi, if_true, Option.getD_some] at hy
    match j with
    | 0 => cases hy; exact ⟨_, rfl, fun I w => e _ _ _ rfl rfl⟩
    | 1 => cases hy; exact ⟨_, rfl, fun I w => .int _ _⟩
    | 2 => cases hy; exact ⟨_, rfl, fun I w => .int _ _⟩
    | j + 3 => simp at hy
  case ops =>
    simp only [Kd.zeros, C.row, Opn.row, List.getD, List.getElem?_replicate, hi, if_true, Option.getD_some] at hy
    match j with
    | 0 => cases hy; exact ⟨_, rfl, fun I w => .int _ _⟩
    | 1 => cases hy; exact ⟨_, rfl, fun I w => .int _ _⟩
    | 2 => cases hy; exact ⟨_, rfl, fun I w => .int _ _⟩
    | j + 3 => simp at hy
  case numss =>
    simp only [Kd.zeros, C.row, List.getD, List.getElem?_replicate, hi, if_true, Option.getD_some] at hy
    cases j with
    | zero => cases hy; exact ⟨_, rfl, fun I w => e _ _ _ rfl rfl⟩
    | succ j => simp at hy
  case prss =>
    simp only [Kd.zeros, C.row, List.getD, List.getElem?_replicate, hi, if_true, Option.getD_some] at hy
    cases j with
    | zero => cases hy; exact ⟨_, rfl, fun I w => e _ _ _ rfl rfl⟩
    | succ j => simp at hy

theorem sound_alloc (hT : TOk P T) {t : Nat} (ho : o.op = .alloc t) (h : St X I g s a w) (hk : valloc T t s o.dst K)
    (hN : ∀ s' a' w', Sat X s' a' w' → K s' → N a' w') : o.wp P a w N Q := by
  have hK : ¬ X.K0 s.nx := fun hk => by have := h.low _ hk; omega
  have hrun : ∀ z, zeroIs P t z → (execOp a.eval o).run P w = .ok (.value (.pointer (some ⟨w.heap.size, 0, none⟩))) (w.alloc (.cells z.cells t)) := fun z hz => by
    simp [execOp, ho, Instr.alloc, run_zero' hz, run_newVar]
  have hti := hT t
  unfold valloc at hk
  have hbox : ∀ (z : Value) (zs : List Value) (pre post : List V) (m : Nat), zeroIs P t z → z.cells = zs.toArray → zs.map cval = pre ++ (List.replicate m false).map (fun x => V.c (C.bool x)) ++ post ∨
      (∃ c1 c2, zs = c1 ++ List.replicate m (.bool false) ++ c2 ∧ c1.map cval = pre ∧ c2.map cval = post) →
      s.alloc o.dst (.box pre (List.replicate m false) post) (.ptr s.nx 0 0 0) K → o.wp P a w N Q := by
    intro z zs pre post m hz hc hm hk
    refine finish_new (cl := (0, 0)) h (by rw [hrun z hz, hc]) (fun g' n' hg' hn' _ => ?_) (fun g' n' hg' hn' => ?_) hK hk hN
    · refine RO.box_of hg' (heap_alloc_new w _) ?_
      rcases hm with hm | ⟨c1, c2, rfl, rfl, rfl⟩
      · rw [← hm]
        exact ⟨by simp, fun i x v hx hv => by
          rw [List.getElem?_map, hv] at hx; cases hx; exact RV_cval _ v⟩
      · refine ⟨by simp, fun i x v hx hv => ?_⟩
        rw [List.append_assoc] at hx hv
        by_cases c : i < c1.length
        · rw [List.getElem?_append_left (by simpa using c)] at hx
          rw [List.getElem?_append_left c] at hv
          rw [List.getElem?_map, hv] at hx; cases hx; exact RV_cval _ v
        · rw [List.getElem?_append_right (by simp; omega)] at hx
          rw [List.getElem?_append_right (by omega)] at hv
          simp only [List.length_map] at hx
          by_cases c2' : i - c1.length < m
          · rw [List.getElem?_append_left (by simpa using c2')] at hx hv
            simp [c2'] at hx hv
            subst hx hv; exact RV.mkbool _ _
          · rw [List.getElem?_append_right (by simp; omega)] at hx hv
            simp only [List.length_map, List.length_replicate] at hx hv
            rw [List.getElem?_map, hv] at hx; cases hx; exact RV_cval _ v
    · have := RV.ptr (I := I) (w := w.alloc (.cells zs.toArray t)) s.nx 0 0 0 w.heap.size (0, 0) hn' hg'
      simpa using this
  split at hk
  · rename_i z hti'
    rw [hti'] at hti
    obtain ⟨_, _, ⟨z0, hz, hc, hcell⟩, _, _⟩ := hti
    exact hbox z0 [z0] [z] [] 0 hz hcell (.inl (by simp [hc])) hk
  · rename_i hti'
    rw [hti'] at hti
    exact hbox _ [.slice none 0 0] [.nil] [] 0 hti.2.2.1 rfl (.inl (by simp [cval])) hk
  · rename_i fs zs hti'
    rw [hti'] at hti
    obtain ⟨_, _, ⟨cells, hz, hc⟩, _⟩ := hti
    exact hbox _ cells zs [] 0 hz rfl (.inl (by simp [hc])) hk
  · rename_i n e kd hti'
    rw [hti'] at hti
    obtain ⟨_, _, _, hst, _, hz, hcell, _⟩ := hti
    obtain ⟨z1, z2, z3, z4⟩ := zeros_cells kd n
    have hst1 : (kd.zeros n).stride = 1 := by rw [z3, hcell]; rfl
    refine finish_new (cl := (n, n)) h (hrun _ hz) (fun g' n' hg' hn' _ => ?_) (fun g' n' hg' hn' => ?_) hK hk hN
    · have hrows : ∀ i j y, i < (kd.zeros n).len → ((kd.zeros n).row i)[j]? = some y → ∃ v, (List.replicate n (kdZero kd))[i * (kd.zeros n).stride + j]? = some v ∧ RC I (w.alloc (.cells (Value.agg (List.replicate n (kdZero kd)).toArray).cells t)) y v := ?_
      · exact RO.arr_of (by rw [z2]; exact hg') z1 (heap_alloc_new w _) (by simp [hst1]) (by rw [z2]; exact Nat.le_refl _) hrows (typed_full z1 (by simp [hst1, z2]) hrows)
      intro i j y hi hy
      rw [z2] at hi
      obtain ⟨v, hv, hr⟩ := z4 i j y hi hy
      refine ⟨v, ?_, hr _ _⟩
      have hj : j = 0 := by
        have := (List.getElem?_eq_some_iff.1 hy).1
        rw [C.row_len _ _ z1, hst1] at this
        omega
      subst hj
      rw [hst1]
      rw [hcell] at hv
      simp at hv
      subst hv
      simp [hi]
    · have := RV.ptr (I := I) (w := w.alloc (.cells (Value.agg (List.replicate n (kdZero kd)).toArray).cells t)) s.nx 0 kd.empty.stride 0 w.heap.size (n, n) hn' hg'
      simpa using this
  · rename_i fs pre n post hti'
    rw [hti'] at hti
    obtain ⟨_, _, ⟨c1, c2, hz, h1, h2⟩, _⟩ := hti
    exact hbox _ _ pre post n hz rfl (.inr ⟨c1, c2, rfl, h1, h2⟩) hk
  · exact hk.elim

theorem sound_box {t : Nat} {x : Operand} (ho : o.op = .box t x) (h : St X I g s a w) (h1 : (evl s.env x).one = true ∨ ∃ l, evl s.env x = .agg l)
    (hk : s.alloc o.dst (.box (evl s.env x).cells [] []) (.ptr s.nx 0 0 0) K) (hN : ∀ s' a' w', Sat X s' a' w' → K s' → N a' w') : o.wp P a w N Q := by
  have hK : ¬ X.K0 s.nx := fun hk => by have := h.low _ hk; omega
  have hrun : (execOp a.eval o).run P w = .ok (.value (.pointer (some ⟨w.heap.size, 0, none⟩))) (w.alloc (.cells (a.eval x).cells t)) := by
    simp [execOp, ho, Instr.box, run_newVar]
  have hx := cells_size (h.eval x) h1
  refine finish_new (cl := (0, 0)) h hrun (fun g' n' hg' hn' hgo => ?_) (fun g' n' hg' hn' => ?_) hK hk hN
  · refine RO.box_of (vs := (a.eval x).cells.toList) (ty := t) hg' (by simpa using heap_alloc_new w (.cells (a.eval x).cells t)) ?_
    simp only [List.map_nil, List.append_nil]
    exact ⟨hx.1, fun i y v hy hv => (hx.2 i y v hy hv).mono (fun _ h => h) (fun b hI => heap_push_lt w _ (h.bound b hI)) (by omega) hgo⟩
  · have := RV.ptr (I := I) (w := w.alloc (.cells (a.eval x).cells t)) s.nx 0 0 0 w.heap.size (0, 0) hn' hg'
    simpa using this
end
end Go.VL
