/- V-logic, part 10: elements of slices; freezing; stores. -/
import Derived.Test.YtkdgodkamaicjaaVSound7
namespace Go.VL
set_option linter.unusedVariables false
set_option linter.unusedSimpArgs false
section
variable {P : Program} {T : TT} {X : Cx} {I : Nat → Prop} {g : Gam} {s : S} {a : Act} {w : World} {o : Oper} {K : S → Prop}
  {N : Act → World → Prop} {Q : Exit → Act → World → Prop}

/-- the value val has just the cells of row -/
def Elem (I : Nat → Prop) (w : World) (row : List C) (val : Value) : Prop :=
  val.cells.size = row.length ∧ ∀ (j : Nat) c, row[j]? = some c → ∃ u, val.cells[j]? = some u ∧ RC I w c u ∧ u.oneCell' = true

theorem RC.one {c : C} {v : Value} (h : RC I w c v) : v.oneCell' = true ∧ v.cells = #[v] := by cases h <;> exact ⟨rfl, rfl⟩

theorem V.asInt_inv {k : IntKind} {v : V} {m : Int} (h : v.asInt k = some m) {n : Nat} {val : Value} (hv : RV I g n w v val) : RC I w (.int k m) val := by
  unfold V.asInt at h
  split at h
  · split at h
    · rename_i hk
      have := sameK_eq hk
      subst this
      cases h
      cases hv with | c _ _ hv => exact hv
    · cases h
  · cases h
theorem V.asNums_inv {v : V} {xs : List Int} (h : v.asNums = some xs) {n : Nat} {val : Value} (hv : RV I g n w v val) : RC I w (.nums .i64 xs) val := by
  unfold V.asNums at h
  split at h
  · cases h; cases hv with | c _ _ hv => exact hv
  · cases h; cases hv; exact .empty _ _ _ rfl rfl
  · cases h
theorem V.asPrs_inv {v : V} {xs : List Pr} (h : v.asPrs = some xs) {n : Nat} {val : Value} (hv : RV I g n w v val) : RC I w (.prs xs) val := by
  unfold V.asPrs at h
  split at h
  · cases h; cases hv with | c _ _ hv => exact hv
  · cases h; cases hv; exact .empty _ _ _ rfl rfl
  · cases h

theorem Elem.one {c : C} {v : Value} (h : RC I w c v) : Elem I w [c] v := by
  rw [Elem, h.one.2]
  exact ⟨rfl, fun j x hx => by cases j with
    | zero => cases hx; exact ⟨v, rfl, h, h.one.1⟩
    | succ j => simp at hx⟩

theorem Elem.agg2 {c d : C} {u v : Value} (h : RC I w c u) (h' : RC I w d v) : Elem I w [c, d] (.agg #[u, v]) :=
  ⟨rfl, fun j x hx => by
    match j with
    | 0 => cases hx; exact ⟨u, rfl, h, h.one.1⟩
    | 1 => cases hx; exact ⟨v, rfl, h', h'.one.1⟩
    | j + 2 => simp at hx⟩
theorem Elem.agg3 {c d e : C} {u v x : Value} (h : RC I w c u) (h' : RC I w d v) (h2 : RC I w e x) : Elem I w [c, d, e] (.agg #[u, v, x]) :=
  ⟨rfl, fun j y hy => by
    match j with
    | 0 => cases hy; exact ⟨u, rfl, h, h.one.1⟩
    | 1 => cases hy; exact ⟨v, rfl, h', h'.one.1⟩
    | 2 => cases hy; exact ⟨x, rfl, h2, h2.one.1⟩
    | j + 3 => simp at hy⟩

theorem mk2_inv {v : V} {p : Pr} (h : mk2 v = some p) {n : Nat} {val : Value} (hv : RV I g n w v val) : Elem I w p.row val := by
  unfold mk2 at h
  split at h
  · obtain ⟨vs, rfl, hl, hr⟩ := hv.agg_inv
    match vs, hl with
    | [u, v], _ =>
      split at h
      · rename_i h1 h2
        cases h
        exact .agg2 (V.asInt_inv h1 (hr 0 _ _ rfl rfl)) (V.asInt_inv h2 (hr 1 _ _ rfl rfl))
      · cases h
  · cases h
theorem mkPg_inv {v : V} {p : Pg} (h : mkPg v = some p) {n : Nat} {val : Value} (hv : RV I g n w v val) : Elem I w p.row val := by
  unfold mkPg at h
  split at h
  · obtain ⟨vs, rfl, hl, hr⟩ := hv.agg_inv
    match vs, hl with
    | [u, v, x], _ =>
      split at h
      · rename_i h1 h2 h3
        cases h
        exact .agg3 (V.asNums_inv h1 (hr 0 _ _ rfl rfl)) (V.asNums_inv h2 (hr 1 _ _ rfl rfl)) (V.asNums_inv h3 (hr 2 _ _ rfl rfl))
      · cases h
  · cases h
theorem mkLk_inv {v : V} {p : Lk} (h : mkLk v = some p) {n : Nat} {val : Value} (hv : RV I g n w v val) : Elem I w p.row val := by
  unfold mkLk at h
  split at h
  · obtain ⟨vs, rfl, hl, hr⟩ := hv.agg_inv
    match vs, hl with
    | [u, v, x], _ =>
      split at h
      · rename_i h1 h2 h3
        cases h
        exact .agg3 (V.asNums_inv h1 (hr 0 _ _ rfl rfl)) (V.asInt_inv h2 (hr 1 _ _ rfl rfl)) (V.asInt_inv h3 (hr 2 _ _ rfl rfl))
      · cases h
  · cases h
theorem mkOp_inv {v : V} {p : Opn} (h : mkOp v = some p) {n : Nat} {val : Value} (hv : RV I g n w v val) : Elem I w p.row val := by
  unfold mkOp at h
  split at h
  · obtain ⟨vs, rfl, hl, hr⟩ := hv.agg_inv
    match vs, hl with
    | [u, v, x], _ =>
      split at h
      · rename_i h1 h2 h3
        cases h
        exact .agg3 (V.asInt_inv h1 (hr 0 _ _ rfl rfl)) (V.asInt_inv h2 (hr 1 _ _ rfl rfl)) (V.asInt_inv h3 (hr 2 _ _ rfl rfl))
      · cases h
  · cases h

theorem getD_snoc {α : Type} (xs : List α) (x d : α) (i : Nat) : (xs ++ [x]).getD i d = if i = xs.length then x else xs.getD i d := by
  simp only [List.getD]
  by_cases h : i < xs.length
  · rw [List.getElem?_append_left h, if_neg (by omega)]
  · by_cases e : i = xs.length
    · subst e; simp
    · rw [List.getElem?_append_right (by omega), if_neg e, List.getElem?_eq_none (by simp; omega), List.getElem?_eq_none (by omega)]
theorem getD_set {α : Type} (xs : List α) (x d : α) (k i : Nat) (hk : k < xs.length) : (xs.set k x).getD i d = if i = k then x else xs.getD i d := by
  simp only [List.getD, List.getElem?_set]
  by_cases h : k = i
  · subst h; simp [hk]
  · have : ¬ i = k := fun e => h e.symm
    simp [h, this]

/-- what one element more makes of a slice -/
theorem snoc_inv {x y : C} {v : V} (h : x.snoc v = some y) {n : Nat} {val : Value} (hv : RV I g n w v val) :
    x.isSl = true ∧ y.isSl = true ∧ y.stride = x.stride ∧ y.len = x.len + 1 ∧ (∀ i, i < x.len → y.row i = x.row i) ∧ Elem I w (y.row x.len) val := by
  cases x with
  | int => cases h
  | bool => cases h
  | nums k xs =>
    simp only [C.snoc, Option.map_eq_some_iff] at h
    obtain ⟨m, h, rfl⟩ := h
    refine ⟨rfl, rfl, rfl, by simp [C.len], fun i hi => ?_, ?_⟩
    · simp only [C.len] at hi; simp only [C.row, getD_snoc, if_neg (show ¬ i = xs.length by omega)]
    · simp only [C.row, getD_snoc, C.len, if_true]; exact .one (V.asInt_inv h hv)
  | bools xs =>
    simp only [C.snoc, Option.map_eq_some_iff] at h
    obtain ⟨m, h, rfl⟩ := h
    refine ⟨rfl, rfl, rfl, by simp [C.len], fun i hi => ?_, ?_⟩
    · simp only [C.len] at hi; simp only [C.row, getD_snoc, if_neg (show ¬ i = xs.length by omega)]
    · simp only [C.row, getD_snoc, C.len, if_true]; rw [RV.bool?_inv h hv]; exact .one (.bool _)
  | prs xs =>
    simp only [C.snoc, Option.map_eq_some_iff] at h
    obtain ⟨m, h, rfl⟩ := h
    refine ⟨rfl, rfl, rfl, by simp [C.len], fun i hi => ?_, ?_⟩
    · simp only [C.len] at hi; simp only [C.row, getD_snoc, if_neg (show ¬ i = xs.length by omega)]
    · simp only [C.row, getD_snoc, C.len, if_true]; exact mk2_inv h hv
  | pgs xs =>
    simp only [C.snoc, Option.map_eq_some_iff] at h
    obtain ⟨m, h, rfl⟩ := h
    refine ⟨rfl, rfl, rfl, by simp [C.len], fun i hi => ?_, ?_⟩
    · simp only [C.len] at hi; simp only [C.row, getD_snoc, if_neg (show ¬ i = xs.length by omega)]
    · simp only [C.row, getD_snoc, C.len, if_true]; exact mkPg_inv h hv
  | lks xs =>
    simp only [C.snoc, Option.map_eq_some_iff] at h
    obtain ⟨m, h, rfl⟩ := h
    refine ⟨rfl, rfl, rfl, by simp [C.len], fun i hi => ?_, ?_⟩
    · simp only [C.len] at hi; simp only [C.row, getD_snoc, if_neg (show ¬ i = xs.length by omega)]
    · simp only [C.row, getD_snoc, C.len, if_true]; exact mkLk_inv h hv
  | ops xs =>
    simp only [C.snoc, Option.map_eq_some_iff] at h
    obtain ⟨m, h, rfl⟩ := h
    refine ⟨rfl, rfl, rfl, by simp [C.len], fun i hi => ?_, ?_⟩
    · simp only [C.len] at hi; simp only [C.row, getD_snoc, if_neg (show ¬ i = xs.length by omega)]
    · simp only [C.row, getD_snoc, C.len, if_true]; exact mkOp_inv h hv
  | numss xs =>
    simp only [C.snoc, Option.map_eq_some_iff] at h
    obtain ⟨m, h, rfl⟩ := h
    refine ⟨rfl, rfl, rfl, by simp [C.len], fun i hi => ?_, ?_⟩
    · simp only [C.len] at hi; simp only [C.row, getD_snoc, if_neg (show ¬ i = xs.length by omega)]
    · simp only [C.row, getD_snoc, C.len, if_true]; exact .one (V.asNums_inv h hv)
  | prss xs =>
    simp only [C.snoc, Option.map_eq_some_iff] at h
    obtain ⟨m, h, rfl⟩ := h
    refine ⟨rfl, rfl, rfl, by simp [C.len], fun i hi => ?_, ?_⟩
    · simp only [C.len] at hi; simp only [C.row, getD_snoc, if_neg (show ¬ i = xs.length by omega)]
    · simp only [C.row, getD_snoc, C.len, if_true]; exact .one (V.asPrs_inv h hv)

/-- what a new element i makes of a slice -/
theorem setRow_inv {x y : C} {i : Nat} {v : V} (h : x.setRow i v = some y) (hi : i < x.len) {n : Nat} {val : Value} (hv : RV I g n w v val) :
    y.isSl = true ∧ y.stride = x.stride ∧ y.len = x.len ∧ (∀ k, k ≠ i → y.row k = x.row k) ∧ Elem I w (y.row i) val := by
  cases x with
  | int => cases h
  | bool => cases h
  | nums k xs =>
    simp only [C.setRow, Option.map_eq_some_iff] at h
    obtain ⟨m, h, rfl⟩ := h
    simp only [C.len] at hi
    refine ⟨rfl, rfl, by simp [C.len], fun k hk => ?_, ?_⟩
    · simp only [C.row, getD_set _ _ _ _ _ hi, if_neg hk]
    · simp only [C.row, getD_set _ _ _ _ _ hi, if_true]; exact .one (V.asInt_inv h hv)
  | bools xs =>
    simp only [C.setRow, Option.map_eq_some_iff] at h
    obtain ⟨m, h, rfl⟩ := h
    simp only [C.len] at hi
    refine ⟨rfl, rfl, by simp [C.len], fun k hk => ?_, ?_⟩
    · simp only [C.row, getD_set _ _ _ _ _ hi, if_neg hk]
    · simp only [C.row, getD_set _ _ _ _ _ hi, if_true]; rw [RV.bool?_inv h hv]; exact .one (.bool _)
  | prs xs =>
    simp only [C.setRow, Option.map_eq_some_iff] at h
    obtain ⟨m, h, rfl⟩ := h
    simp only [C.len] at hi
    refine ⟨rfl, rfl, by simp [C.len], fun k hk => ?_, ?_⟩
    · simp only [C.row, getD_set _ _ _ _ _ hi, if_neg hk]
    · simp only [C.row, getD_set _ _ _ _ _ hi, if_true]; exact mk2_inv h hv
  | pgs xs =>
    simp only [C.setRow, Option.map_eq_some_iff] at h
    obtain ⟨m, h, rfl⟩ := h
    simp only [C.len] at hi
    refine ⟨rfl, rfl, by simp [C.len], fun k hk => ?_, ?_⟩
    · simp only [C.row, getD_set _ _ _ _ _ hi, if_neg hk]
    · simp only [C.row, getD_set _ _ _ _ _ hi, if_true]; exact mkPg_inv h hv
  | lks xs =>
    simp only [C.setRow, Option.map_eq_some_iff] at h
    obtain ⟨m, h, rfl⟩ := h
    simp only [C.len] at hi
    refine ⟨rfl, rfl, by simp [C.len], fun k hk => ?_, ?_⟩
    · simp only [C.row, getD_set _ _ _ _ _ hi, if_neg hk]
    · simp only [C.row, getD_set _ _ _ _ _ hi, if_true]; exact mkLk_inv h hv
  | ops xs =>
    simp only [C.setRow, Option.map_eq_some_iff] at h
    obtain ⟨m, h, rfl⟩ := h
    simp only [C.len] at hi
    refine ⟨rfl, rfl, by simp [C.len], fun k hk => ?_, ?_⟩
    · simp only [C.row, getD_set _ _ _ _ _ hi, if_neg hk]
    · simp only [C.row, getD_set _ _ _ _ _ hi, if_true]; exact mkOp_inv h hv
  | numss xs =>
    simp only [C.setRow, Option.map_eq_some_iff] at h
    obtain ⟨m, h, rfl⟩ := h
    simp only [C.len] at hi
    refine ⟨rfl, rfl, by simp [C.len], fun k hk => ?_, ?_⟩
    · simp only [C.row, getD_set _ _ _ _ _ hi, if_neg hk]
    · simp only [C.row, getD_set _ _ _ _ _ hi, if_true]; exact .one (V.asNums_inv h hv)
  | prss xs =>
    simp only [C.setRow, Option.map_eq_some_iff] at h
    obtain ⟨m, h, rfl⟩ := h
    simp only [C.len] at hi
    refine ⟨rfl, rfl, by simp [C.len], fun k hk => ?_, ?_⟩
    · simp only [C.row, getD_set _ _ _ _ _ hi, if_neg hk]
    · simp only [C.row, getD_set _ _ _ _ _ hi, if_true]; exact .one (V.asPrs_inv h hv)

/-- what a new cell j of element i makes of a slice -/
theorem setCell_inv {x y : C} {i j : Nat} {v : V} (h : x.setCell i j v = some y) (hi : i < x.len) {n : Nat} {val : Value} (hv : RV I g n w v val) :
    y.isSl = true ∧ y.stride = x.stride ∧ y.len = x.len ∧ j < x.stride ∧ (∀ k, k ≠ i → y.row k = x.row k) ∧ ∃ c, y.row i = (x.row i).set j c ∧ RC I w c val := by
  cases x with
  | prs xs =>
    simp only [C.len] at hi
    match j with
    | 0 =>
      simp only [C.setCell, Option.map_eq_some_iff] at h
      obtain ⟨m, h, rfl⟩ := h
      refine ⟨rfl, rfl, by simp [C.len], by simp [C.stride], fun k hk => ?_, _, ?_, V.asInt_inv h hv⟩
      · simp only [C.row, getD_set _ _ _ _ _ hi, if_neg hk]
      · simp only [C.row, getD_set _ _ _ _ _ hi, if_true]; rfl
    | 1 =>
      simp only [C.setCell, Option.map_eq_some_iff] at h
      obtain ⟨m, h, rfl⟩ := h
      refine ⟨rfl, rfl, by simp [C.len], by simp [C.stride], fun k hk => ?_, _, ?_, V.asInt_inv h hv⟩
      · simp only [C.row, getD_set _ _ _ _ _ hi, if_neg hk]
      · simp only [C.row, getD_set _ _ _ _ _ hi, if_true]; rfl
    | j + 2 => cases h
  | pgs xs =>
    simp only [C.len] at hi
    match j with
    | 0 =>
      simp only [C.setCell, Option.map_eq_some_iff] at h
      obtain ⟨m, h, rfl⟩ := h
      refine ⟨rfl, rfl, by simp [C.len], by simp [C.stride], fun k hk => ?_, _, ?_, V.asNums_inv h hv⟩
      · simp only [C.row, getD_set _ _ _ _ _ hi, if_neg hk]
      · simp only [C.row, getD_set _ _ _ _ _ hi, if_true]; rfl
    | 1 =>
      simp only [C.setCell, Option.map_eq_some_iff] at h
      obtain ⟨m, h, rfl⟩ := h
      refine ⟨rfl, rfl, by simp [C.len], by simp [C.stride], fun k hk => ?_, _, ?_, V.asNums_inv h hv⟩
      · simp only [C.row, getD_set _ _ _ _ _ hi, if_neg hk]
      · simp only [C.row, getD_set _ _ _ _ _ hi, if_true]; rfl
    | 2 =>
      simp only [C.setCell, Option.map_eq_some_iff] at h
      obtain ⟨m, h, rfl⟩ := h
      refine ⟨rfl, rfl, by simp [C.len], by simp [C.stride], fun k hk => ?_, _, ?_, V.asNums_inv h hv⟩
      · simp only [C.row, getD_set _ _ _ _ _ hi, if_neg hk]
      · simp only [C.row, getD_set _ _ _ _ _ hi, if_true]; rfl
    | j + 3 => cases h
  | lks xs =>
    simp only [C.len] at hi
    match j with
    | 0 =>
      simp only [C.setCell, Option.map_eq_some_iff] at h
      obtain ⟨m, h, rfl⟩ := h
      refine ⟨rfl, rfl, by simp [C.len], by simp [C.stride], fun k hk => ?_, _, ?_, V.asNums_inv h hv⟩
      · simp only [C.row, getD_set _ _ _ _ _ hi, if_neg hk]
      · simp only [C.row, getD_set _ _ _ _ _ hi, if_true]; rfl
    | 1 =>
      simp only [C.setCell, Option.map_eq_some_iff] at h
      obtain ⟨m, h, rfl⟩ := h
      refine ⟨rfl, rfl, by simp [C.len], by simp [C.stride], fun k hk => ?_, _, ?_, V.asInt_inv h hv⟩
      · simp only [C.row, getD_set _ _ _ _ _ hi, if_neg hk]
      · simp only [C.row, getD_set _ _ _ _ _ hi, if_true]; rfl
    | 2 =>
      simp only [C.setCell, Option.map_eq_some_iff] at h
      obtain ⟨m, h, rfl⟩ := h
      refine ⟨rfl, rfl, by simp [C.len], by simp [C.stride], fun k hk => ?_, _, ?_, V.asInt_inv h hv⟩
      · simp only [C.row, getD_set _ _ _ _ _ hi, if_neg hk]
      · simp only [C.row, getD_set _ _ _ _ _ hi, if_true]; rfl
    | j + 3 => cases h
  | _ => cases h

theorem mem_dropH {hp : List (Nat × O)} (hn : (hp.map (·.1)).Nodup) {id i : Nat} {o' : O} (h : (i, o') ∈ dropH hp id) : (i, o') ∈ hp ∧ i ≠ id := by
  induction hp with
  | nil => cases h
  | cons x t ih =>
    obtain ⟨k, v⟩ := x
    simp only [List.map_cons, List.nodup_cons] at hn
    simp only [dropH] at h
    cases hk : Nat.beq k id with
    | true =>
      have hk := Nat.eq_of_beq_eq_true hk
      rw [hk, Nat.beq_refl] at h
      exact ⟨List.mem_cons_of_mem _ h, fun e => hn.1 (by rw [hk, ← e]; exact List.mem_map.2 ⟨_, h, rfl⟩)⟩
    | false =>
      rw [hk] at h
      rcases List.mem_cons.1 h with h | h
      · cases h; exact ⟨List.mem_cons_self, Nat.ne_of_beq_eq_false hk⟩
      · obtain ⟨h1, h2⟩ := ih hn.2 h; exact ⟨List.mem_cons_of_mem _ h1, h2⟩
theorem dropH_sublist (hp : List (Nat × O)) (id : Nat) : (dropH hp id).Sublist hp := by
  induction hp with
  | nil => exact .slnil
  | cons x t ih =>
    obtain ⟨k, v⟩ := x
    simp only [dropH]
    cases Nat.beq k id with
    | true => exact List.sublist_cons_self _ _
    | false => exact ih.cons_cons _
theorem dropH_nodup {hp : List (Nat × O)} (hn : (hp.map (·.1)).Nodup) (id : Nat) : ((dropH hp id).map (·.1)).Nodup :=
  hn.sublist ((dropH_sublist hp id).map _)

theorem RV.frz {id n : Nat} {I' : Nat → Prop} (hI : ∀ b, I b → I' b) {x : C} (hx : ∀ val, RV I g n w (.slc id) val → RC I' w x val) {v : V} {val : Value} (h : RV I g n w v val) : RV I' g n w (v.frz id x) val := by
  have mapped : ∀ (xs : List V) (vs : List Value), (∀ (i : Nat) y v, xs[i]? = some y → vs[i]? = some v → RV I' g n w (y.frz id x) v) →
      ∀ (i : Nat) y v, (frzL id x xs)[i]? = some y → vs[i]? = some v → RV I' g n w y v := by
    intro xs vs ih i y v hy hv
    rw [frzL_eq, List.getElem?_map] at hy
    cases hq : xs[i]? with
    | none => rw [hq] at hy; cases hy
    | some z => rw [hq] at hy; cases hy; exact ih i z v hq hv
  have hmono : ∀ {v : V} {val : Value}, RV I g n w v val → RV I' g n w v val := fun h => h.mono hI (fun _ _ => rfl) (Nat.le_refl _) fun _ _ => rfl
  induction h with
  | any v => exact .any v
  | tt => exact .tt
  | ff => exact .ff
  | nil => exact .nil
  | c y v h => exact .c y v (h.mono hI fun _ _ => rfl)
  | agg xs vs hl _ ih => exact .agg _ vs (by rw [frzL_eq]; simpa using hl) (mapped xs vs ih)
  | tup xs vs hl _ ih => exact .tup _ vs (by rw [frzL_eq]; simpa using hl) (mapped xs vs ih)
  | fn f xs vs hl _ ih => exact .fn f _ vs (by rw [frzL_eq]; simpa using hl) (mapped xs vs ih)
  | iptr row b off val hb hc hr => exact hmono (.iptr row b off val hb hc hr)
  | ptr i p st j b cl h1 h2 =>
    simp only [V.frz]
    cases hk : Nat.beq i id with
    | true => exact .any _
    | false => exact .ptr i p st j b cl h1 h2
  | slc i len b cap h1 h2 =>
    simp only [V.frz]
    cases hk : Nat.beq i id with
    | true => have := Nat.eq_of_beq_eq_true hk; subst this; exact .c x _ (hx _ (.slc i len b cap h1 h2))
    | false => exact .slc i len b cap h1 h2
  | slc0 i h1 h2 =>
    simp only [V.frz]
    cases hk : Nat.beq i id with
    | true => have := Nat.eq_of_beq_eq_true hk; subst this; exact .c x _ (hx _ (.slc0 i h1 h2))
    | false => exact .slc0 i h1 h2

/-- an owned slice's value, when nobody writes to it any more -/
theorem RC.of_slc {id n : Nat} {x : C} (ho : RO I g n w id (.arr x)) {I' : Nat → Prop} (hI : ∀ b, I b → I' b) (hb : ∀ b cl, g id = some (b, cl) → I' b) {val : Value} (hv : RV I g n w (.slc id) val) : RC I' w x val := by
  cases hv with
  | slc _ len b cap hn hg =>
    have ho' := ho
    cases ho with
    | none _ hg' => rw [hg] at hg'; cases hg'
    | arr _ b' cap' cells ty hg' hs hbk hl hcap hh =>
      rw [hg] at hg'
      cases hg'
      refine RC.of_rows hs (hb _ _ hg) hcap (fun i hi => ?_)
      have := RowV.of_arr ho' hg hi
      intro j y hy
      obtain ⟨u, h1, h2⟩ := this j y hy
      rw [vcells_get] at hy
      cases hj : (x.row i)[j]? with
      | none => rw [hj] at hy; cases hy
      | some z =>
        rw [hj] at hy; cases hy
        cases h2 with
        | c _ _ h2 => exact ⟨u, by rw [Nat.zero_add]; exact h1, .c _ _ (h2.mono hI fun _ _ => rfl)⟩
  | slc0 _ hn hg =>
    cases ho with
    | none _ hg' hs h0 => exact .empty x _ _ hs h0
    | arr _ b' cap' cells ty hg' => rw [hg] at hg'; cases hg'

/-- the same, where one element is told cell by cell -/
theorem RC.of_hol {id n hi : Nat} {y x : C} {us : List V} (ho : RO I g n w id (.hol y hi us)) (hx : y.setRow hi (.agg us) = some x) {I' : Nat → Prop} (hI : ∀ b, I b → I' b) (hb : ∀ b cl, g id = some (b, cl) → I' b) {val : Value}
    (hv : RV I g n w (.slc id) val) : RC I' w x val := by
  cases ho with
  | hol _ _ _ b cap cells ty hg hs hbk hl hcap hhi hvl h h2 =>
  cases hv with
  | slc0 _ hn hg' => rw [hg] at hg'; cases hg'
  | slc _ len b' cap' hn hg' =>
    rw [hg] at hg'; cases hg'
    have hle : ∀ j, j < y.stride → hi * y.stride + j < cells.length := fun j hj => by rw [hl]; exact row_in (hi := hi) hhi hcap hj
    have hrow : RV I g n w (.agg us) (.agg ((cells.drop (hi * y.stride)).take y.stride).toArray) := by
      refine .agg us _ ?_ fun j u v hu hv => ?_
      · simp only [List.length_take, List.length_drop]
        cases hst : y.stride with
        | zero => omega
        | succ k => have := hle k (by omega); rw [hst] at this; omega
      · rw [List.getElem?_take] at hv
        split at hv
        · rename_i hj
          rw [List.getElem?_drop] at hv
          obtain ⟨u', v', a1, a2, _, a4⟩ := h2 j hj
          rw [hu] at a1; rw [hv] at a2; cases a1; cases a2; exact a4
        · cases hv
    obtain ⟨e1, e2, e3, e4, e5, e6⟩ := setRow_inv hx hhi hrow
    rw [← e3]
    refine RC.of_rows e1 (hb _ _ hg) (by rw [e3]; exact hcap) (fun i hi' j z hz => ?_)
    rw [e3] at hi'
    rw [e2, Nat.zero_add]
    rw [cell_of_row w b _ cells.toArray ty (0, 0) hbk]
    rw [vcells_get] at hz
    obtain ⟨z, hz', rfl⟩ := Option.map_eq_some_iff.1 hz
    clear hz; have hz := hz'
    by_cases c : i = hi
    · subst c
      obtain ⟨u, q1, q2, _⟩ := e6 j z hz
      refine ⟨u, ?_, .c _ _ (q2.mono hI fun _ _ => rfl)⟩
      have q1 : ((cells.drop (i * y.stride)).take y.stride)[j]? = some u := by simpa [Value.cells] using q1
      rw [List.getElem?_take] at q1
      split at q1
      · rw [List.getElem?_drop] at q1; simpa using q1
      · cases q1
    · rw [e4 i c] at hz
      obtain ⟨u, q1, q2⟩ := h i j z hi' c hz
      exact ⟨u, by simpa using q1, .c _ _ (q2.mono hI fun _ _ => rfl)⟩

/-- freezing -/
theorem St.freezeG (h : St X I g s a w) {id : Nat} {x : C} {ob : O} (hm : (id, ob) ∈ s.hp)
    (hof : ∀ (I' : Nat → Prop), (∀ b, I b → I' b) → (∀ b, Own g w id ob b → I' b) → ∀ val, RV I g s.nx w (.slc id) val → RC I' w x val) :
    ∃ I', (∀ b, I b → I' b) ∧ (∀ val, RV I g s.nx w (.slc id) val → RC I' w x val) ∧ St X I' g { s with env := mapE (V.frz id x) s.env, hp := mapH (frzL id x) (dropH s.hp id) } a w := by
  refine ⟨fun b => I b ∨ Own g w id ob b, fun b hb => .inl hb, fun val hv => hof _ (fun b hb => .inl hb) (fun b hg => .inr hg) val hv, ?_⟩
  have hfz : ∀ v val, RV I g s.nx w v val → RV (fun b => I b ∨ Own g w id ob b) g s.nx w (v.frz id x) val := fun v val hv =>
    hv.frz (fun b hb => .inl hb) (fun val hv => hof _ (fun b hb => .inl hb) (fun b hg => .inr hg) val hv)
  have hmem : ∀ i o', (i, o') ∈ mapH (frzL id x) (dropH s.hp id) → i ≠ id ∧ ∃ o'', (i, o'') ∈ s.hp ∧ o' = o''.map (frzL id x) := fun i o' hmi => by
    obtain ⟨o'', h1, h2⟩ := mem_mapH hmi
    obtain ⟨h3, h4⟩ := mem_dropH h.heap.nodup h1
    exact ⟨h4, o'', h3, h2⟩
  refine ⟨h.df, h.sz, fun j => ?_, ⟨?_, ?_, ?_, ?_⟩, ?_, fun b hb => .inl (h.up b hb), ?_, ?_, ?_, h.fr, h.low⟩
  · show RV _ g s.nx w (look (mapE (V.frz id x) s.env) j) _
    rw [look_mapE _ rfl]; exact hfz _ _ (h.slots j)
  · intro i o' hmi
    obtain ⟨hne, o'', h1, rfl⟩ := hmem i o' hmi
    exact ⟨(h.heap.obj _ _ h1).1, (h.heap.obj _ _ h1).2.mapV (V.frz id x) hfz (frzL_eq id x) (fun b hb => .inl hb) (fun _ _ => rfl) rfl fun _ _ => rfl⟩
  · intro i o' b hmi hg
    obtain ⟨hne, o'', h1, rfl⟩ := hmem i o' hmi
    obtain ⟨h2, h3⟩ := h.heap.apart i o'' b h1 hg.map
    refine ⟨fun hb => ?_, h3⟩
    rcases hb with hb | hb
    · exact h2 hb
    · exact hne (h.heap.inj i o'' id _ b h1 hm hg.map hb)
  · show (List.map _ (mapH _ (dropH s.hp id))).Nodup
    rw [mapH_keys]; exact dropH_nodup h.heap.nodup id
  · intro i o1 i' o2 b h1 h2 g1 g2
    obtain ⟨_, p1, q1, rfl⟩ := hmem _ _ h1
    obtain ⟨_, p2, q2, rfl⟩ := hmem _ _ h2
    exact h.heap.inj i p1 i' p2 b q1 q2 g1.map g2.map
  · rintro b (hb | hb)
    · exact h.bound b hb
    · exact (h.heap.apart id _ b hm hb).2
  · rintro b (hb | hb)
    · exact h.down b hb
    · exact .inr (h.own b ⟨id, _, hm, hb⟩)
  · rintro b ⟨i, o', hmi, hg⟩
    obtain ⟨_, o'', h1, rfl⟩ := hmem i o' hmi
    exact h.own b ⟨i, o'', h1, hg.map⟩
  · intro i o' hmi hb hK
    obtain ⟨_, o'', h1, rfl⟩ := hmem i o' hmi
    rw [O.isBox_map] at hb
    exact h.keep i o'' h1 hb hK

theorem St.freeze (h : St X I g s a w) {id : Nat} {x : C} (hl : lookH s.hp id = some (.arr x)) :
    ∃ I', (∀ b, I b → I' b) ∧ (∀ val, RV I g s.nx w (.slc id) val → RC I' w x val) ∧ St X I' g { s with env := mapE (V.frz id x) s.env, hp := mapH (frzL id x) (dropH s.hp id) } a w :=
  h.freezeG (lookH_mem hl) fun _ h1 h2 _ hv => RC.of_slc (h.heap.obj id _ (lookH_mem hl)).2 h1 (fun b cl hg => h2 b (.pri hg)) hv

theorem St.freezeH (h : St X I g s a w) {id hi : Nat} {y x : C} {us : List V} (hl : lookH s.hp id = some (.hol y hi us)) (hx : y.setRow hi (.agg us) = some x) :
    ∃ I', (∀ b, I b → I' b) ∧ (∀ val, RV I g s.nx w (.slc id) val → RC I' w x val) ∧ St X I' g { s with env := mapE (V.frz id x) s.env, hp := mapH (frzL id x) (dropH s.hp id) } a w :=
  h.freezeG (lookH_mem hl) fun _ h1 h2 _ hv => RC.of_hol (h.heap.obj id _ (lookH_mem hl)).2 hx h1 (fun b cl hg => h2 b (.pri hg)) hv

/-- a cell that is nobody else's, when nobody writes to it any more -/
theorem NC.rc {I' : Nat → Prop} {c : C} {v : Value} (h : NC w c v) (hI : ∀ b l n, v = .slice (some ⟨b, 0, none⟩) l n → I' b) : RC I' w c v := by
  cases h with
  | int k n => exact .int k n
  | bool b => exact .bool b
  | nil k => exact .empty _ _ _ rfl rfl
  | sl k xs b cap cells ty hb hl hc h =>
    refine RC.of_rows (x := .nums k xs) rfl (hI b _ _ rfl) hc fun i hi j y hy => ?_
    simp only [C.len] at hi
    rw [vcells_get] at hy
    cases j with
    | zero =>
      simp only [C.row, List.getElem?_cons_zero, Option.map_some, Option.some.injEq] at hy
      subst hy
      refine ⟨.int k (xs.getD i 0), ?_, .c _ _ (.int _ _)⟩
      rw [cell_of_row w b _ cells.toArray ty (0, 0) hb]
      have := h i xs[i] (List.getElem?_eq_getElem hi)
      simp only [C.stride, Nat.mul_one, Nat.zero_add, Nat.add_zero, List.getElem?_toArray]
      rw [this]; simp [List.getD, hi]
    | succ j => simp [C.row] at hy

theorem RO.deep_rows {n id : Nat} {p : Bool} {x : C} (ho : RO I g n w id (.deep p 0 x [])) {I' : Nat → Prop} (hI : ∀ b, Nst g w id (.deep p 0 x []) b → I' b) {b : Nat} {cl : Nat × Nat} (hg : g id = some (b, cl)) :
    ∃ (cap : Nat) (cells : List Value) (ty : TypeId), cl = (cap, x.len) ∧ x.isSl = true ∧ w.heap[b]? = some (.cells cells.toArray ty (0, 0)) ∧ cells.length = cap * x.stride ∧ x.len ≤ cap ∧ (x.isPg = true → ∀ v ∈ cells, SlVal v) ∧
      ∀ (i j : Nat) y, i < x.len → (x.row i)[j]? = some y → ∃ v, cells[i * x.stride + j]? = some v ∧ RC I' w y v := by
  cases ho with
  | deep0 _ _ _ hg' => rw [hg] at hg'; cases hg'
  | deep _ _ _ _ b' cap cells ty hg' hsl hb hl hcap hh hkn h h2 hd ht =>
    rw [hg] at hg'; cases hg'
    refine ⟨cap, cells, ty, rfl, hsl, hb, hl, hcap, ht, fun i j y hi hy => ?_⟩
    have hni : i ∉ keysHs [] := by simp [keysHs]
    obtain ⟨v, h3, h4⟩ := h i j y (Nat.zero_le _) hi hni hy
    refine ⟨v, h3, h4.rc fun b1 l n e => hI b1 ⟨b, _, i * x.stride + j, 0, l, n, hg, ⟨i, j, rfl, ?_, Nat.zero_le _, hi, hni⟩, ?_⟩⟩
    · have := (List.getElem?_eq_some_iff.1 hy).1; rwa [C.row_len _ _ hsl] at this
    · rw [cell_of_row w b _ cells.toArray ty (0, 0) hb, ← e]; simpa using h3

theorem RC.of_deep {id n : Nat} {p : Bool} {x : C} (ho : RO I g n w id (.deep p 0 x [])) {I' : Nat → Prop} (hb : ∀ b, Own g w id (.deep p 0 x []) b → I' b) {val : Value} (hv : RV I g n w (.slc id) val) : RC I' w x val := by
  cases hv with
  | slc _ len b cap hn hg =>
    obtain ⟨cap', cells, ty, e, hs, hbk, hl, hcap, _, hr⟩ := ho.deep_rows (I' := I') (fun b h => hb b (.inr h)) hg
    cases e
    refine RC.of_rows hs (hb _ (.pri hg)) hcap fun i hi j y hy => ?_
    rw [vcells_get] at hy
    cases hj : (x.row i)[j]? with
    | none => rw [hj] at hy; cases hy
    | some z =>
      rw [hj] at hy; cases hy
      obtain ⟨v, h1, h2⟩ := hr i j z hi hj
      refine ⟨v, ?_, .c _ _ h2⟩
      rw [cell_of_row w b _ cells.toArray ty (0, 0) hbk]; simpa using h1
  | slc0 _ hn hg =>
    cases ho with
    | deep0 _ _ _ hg' hs h0 => exact .empty x _ _ hs h0
    | deep _ _ _ _ b' cap' cells ty hg' => rw [hg] at hg'; cases hg'

theorem St.freezeD (h : St X I g s a w) {id : Nat} {p : Bool} {x : C} (hl : lookH s.hp id = some (.deep p 0 x [])) :
    ∃ I', (∀ b, I b → I' b) ∧ (∀ val, RV I g s.nx w (.slc id) val → RC I' w x val) ∧ St X I' g { s with env := mapE (V.frz id x) s.env, hp := mapH (frzL id x) (dropH s.hp id) } a w :=
  h.freezeG (lookH_mem hl) fun _ h1 h2 _ hv => RC.of_deep (h.heap.obj id _ (lookH_mem hl)).2 h2 hv
end
end Go.VL
