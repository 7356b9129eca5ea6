/- V-logic, part 15: a call by its contract. -/
import Derived.Test.YtkdgodkamaicjaaVSound12
namespace Go.VL
set_option linter.unusedVariables false
set_option linter.unusedSimpArgs false
section
variable {P : Program} {T : TT} {X : Cx} {I : Nat → Prop} {g : Gam} {s : S} {a : Act} {w : World} {o : Oper} {K : S → Prop}
  {N : Act → World → Prop} {Q : Exit → Act → World → Prop}

theorem V.idsLt_mono {n : Nat} {v : V} {val : Value} (m : Nat) (h : RV I g n w v val) (hv : v.idsLt m = true) : RV I g m w v val := by
  induction h with
  | any v => exact .any v
  | tt => exact .tt
  | ff => exact .ff
  | nil => exact .nil
  | c x v h => exact .c x v h
  | agg xs vs hl _ ih => exact .agg xs vs hl fun i x v hx hv' => ih i x v hx hv' (idsLtL_get hv x (List.mem_of_getElem? hx))
  | tup xs vs hl _ ih => exact .tup xs vs hl fun i x v hx hv' => ih i x v hx hv' (idsLtL_get hv x (List.mem_of_getElem? hx))
  | fn f xs vs hl _ ih => exact .fn f xs vs hl fun i x v hx hv' => ih i x v hx hv' (idsLtL_get hv x (List.mem_of_getElem? hx))
  | iptr row b off val hb hc hr => exact .iptr row b off val hb hc hr
  | ptr id i st j b cl h1 h2 => exact .ptr id i st j b cl (Nat.blt_eq.mp hv) h2
  | slc id len b cap h1 h2 => exact .slc id len b cap (Nat.blt_eq.mp hv) h2
  | slc0 id h1 h2 => exact .slc0 id (Nat.blt_eq.mp hv) h2

theorem flat_any {I' : Nat → Prop} {g' : Gam} {n n' : Nat} {w' : World} {v : V} {val : Value} (hf : v.flat = true) (h : RV I g n w v val) : RV I' g' n' w' v val := by
  cases v with
  | any => exact .any _
  | tt => cases h; exact .tt
  | ff => cases h; exact .ff
  | c x =>
    cases x with
    | int k m => rw [h.int_inv]; exact RV.mkint _ _ _
    | bool b => rw [h.bool_inv]; exact RV.mkbool _ _
    | _ => cases hf
  | _ => cases hf
theorem flatL_get {xs : List V} (h : flatL xs = true) : ∀ x ∈ xs, x.flat = true := by
  induction xs with
  | nil => intro x hx; cases hx
  | cons y t ih =>
    simp only [flatL] at h
    split at h
    · rename_i h1
      intro x hx
      rcases List.mem_cons.1 hx with hx | hx
      · rw [hx]; exact h1
      · exact ih h x hx
    · cases h
theorem scalar_any {I' : Nat → Prop} {g' : Gam} {n n' : Nat} {w' : World} {v : V} {val : Value} (hf : v.scalar = true) (h : RV I g n w v val) : RV I' g' n' w' v val := by
  have go : v.flat = true → RV I' g' n' w' v val := fun hf => flat_any hf h
  cases v with
  | tup xs =>
    obtain ⟨vs, rfl, hl, hr⟩ := h.tup_inv
    exact .tup xs vs hl fun i x v hx hv => flat_any (flatL_get hf x (List.mem_of_getElem? hx)) (hr i x v hx hv)
  | _ => exact go hf

theorem Fr.trans {D D' : Nat → Prop} {W w w' : World} (h : Fr D W w) (h' : Fr D' w w') (hD : ∀ b, b < W.heap.size → ¬ D b → ¬ D' b) : Fr D W w' :=
  ⟨h'.os.trans h.os, h'.tape.trans h.tape, h'.output.trans h.output, Nat.le_trans h.size h'.size, fun b hb hd => by
    rw [h'.block b (Nat.lt_of_lt_of_le hb h.size) (hD b hb hd)]; exact h.block b hb hd⟩

theorem renL_nil {xs : List V} (h : ∀ x ∈ xs, ∀ r : Nat → Nat, V.ren r x = x) (r : Nat → Nat) : renL r xs = xs := by
  rw [renL_eq]
  exact (List.map_congr_left fun x hx => h x hx r).trans (List.map_id xs)

mutual
theorem V.ren_congr {n : Nat} {r r' : Nat → Nat} (hr : ∀ i, i < n → r i = r' i) : ∀ v : V, v.idsLt n = true → v.ren r = v.ren r'
  | .ptr i a b c, h => by simp only [V.idsLt] at h; simp only [V.ren]; rw [hr i (by simpa using h)]
  | .slc i, h => by simp only [V.idsLt] at h; simp only [V.ren]; rw [hr i (by simpa using h)]
  | .agg xs, h => by simp only [V.idsLt] at h; simp only [V.ren]; rw [renL_congr hr xs h]
  | .tup xs, h => by simp only [V.idsLt] at h; simp only [V.ren]; rw [renL_congr hr xs h]
  | .fn f xs, h => by simp only [V.idsLt] at h; simp only [V.ren]; rw [renL_congr hr xs h]
  | .any, _ => rfl
  | .tt, _ => rfl
  | .ff, _ => rfl
  | .nil, _ => rfl
  | .c _, _ => rfl
  | .iptr _, _ => rfl
theorem renL_congr {n : Nat} {r r' : Nat → Nat} (hr : ∀ i, i < n → r i = r' i) : ∀ xs : List V, idsLtL n xs = true → renL r xs = renL r' xs
  | [], _ => rfl
  | x :: t, h => by
    simp only [idsLtL] at h
    split at h
    · rename_i h1
      simp only [renL]; rw [V.ren_congr hr x h1, renL_congr hr t h]
    · cases h
end

mutual
theorem V.ren_id : ∀ v : V, v.ren (fun i => i) = v
  | .ptr i a b c => rfl
  | .slc i => rfl
  | .agg xs => by simp only [V.ren]; rw [renL_id xs]
  | .tup xs => by simp only [V.ren]; rw [renL_id xs]
  | .fn f xs => by simp only [V.ren]; rw [renL_id xs]
  | .any => rfl
  | .tt => rfl
  | .ff => rfl
  | .nil => rfl
  | .c _ => rfl
  | .iptr _ => rfl
theorem renL_id : ∀ xs : List V, renL (fun i => i) xs = xs
  | [] => rfl
  | x :: t => by simp only [renL]; rw [V.ren_id x, renL_id t]
end

theorem V.ren_flat {r : Nat → Nat} {v : V} (h : v.idsLt 0 = true) : v.ren r = v := (V.ren_congr (n := 0) (fun _ h => by omega) v h).trans (V.ren_id v)
theorem renL_flat {r : Nat → Nat} {xs : List V} (h : idsLtL 0 xs = true) : renL r xs = xs := (renL_congr (n := 0) (fun _ h => by omega) xs h).trans (renL_id xs)

theorem RO.flat {n id id' : Nat} {z : C} (h : RO I g n w id (.arr z)) (hz : z.flatB = true) {I' : Nat → Prop} {g' : Gam} {n' : Nat} (hg : g' id' = g id) : RO I' g' n' w id' (.arr z) := by
  cases h with
  | none _ hg' hs h0 => exact .none z (hg.trans hg') hs h0
  | arr _ b cap cells ty hg' hs hb hl hcap hh =>
    refine .arr z b cap cells ty (hg.trans hg') hs hb hl hcap (fun i j y hi hy => ?_) (fun hp => by cases z <;> simp [C.flatB, C.isPg] at hz hp)
    obtain ⟨v, a1, a2⟩ := hh i j y hi hy
    refine ⟨v, a1, ?_⟩
    have hy' : (∃ k m, y = .int k m) ∨ ∃ b, y = .bool b := by
      cases z with
      | nums k xs => cases j with
        | zero => simp only [C.row, List.getElem?_cons_zero, Option.some.injEq] at hy; exact .inl ⟨_, _, hy.symm⟩
        | succ j => simp [C.row] at hy
      | bools xs => cases j with
        | zero => simp only [C.row, List.getElem?_cons_zero, Option.some.injEq] at hy; exact .inr ⟨_, hy.symm⟩
        | succ j => simp [C.row] at hy
      | prs xs => match j with
        | 0 => simp only [C.row, Pr.row, List.getElem?_cons_zero, Option.some.injEq] at hy; exact .inl ⟨_, _, hy.symm⟩
        | 1 => simp only [C.row, Pr.row, List.getElem?_cons_succ, List.getElem?_cons_zero, Option.some.injEq] at hy; exact .inl ⟨_, _, hy.symm⟩
        | j + 2 => simp [C.row, Pr.row] at hy
      | ops xs => match j with
        | 0 => simp only [C.row, Opn.row, List.getElem?_cons_zero, Option.some.injEq] at hy; exact .inl ⟨_, _, hy.symm⟩
        | 1 => simp only [C.row, Opn.row, List.getElem?_cons_succ, List.getElem?_cons_zero, Option.some.injEq] at hy; exact .inl ⟨_, _, hy.symm⟩
        | 2 => simp only [C.row, Opn.row, List.getElem?_cons_succ, List.getElem?_cons_zero, Option.some.injEq] at hy; exact .inl ⟨_, _, hy.symm⟩
        | j + 3 => simp [C.row, Opn.row] at hy
      | _ => cases hz
    rcases hy' with ⟨k, m, rfl⟩ | ⟨b, rfl⟩
    · cases a2 with
      | int => exact .int k m
      | empty _ _ _ hs => cases hs
      | sl _ _ _ _ _ hs => cases hs
    · cases a2 with
      | bool => exact .bool b
      | empty _ _ _ hs => cases hs
      | sl _ _ _ _ _ hs => cases hs

theorem lendL_map (lk : Nat → Option O) (xs : List V) : lendL lk xs = xs.map (V.lend lk) := by
  induction xs with
  | nil => rfl
  | cons x t ih => simp [lendL, ih]
theorem lentPgL_get {lk : Nat → Option O} {xs : List V} (h : lentPgL lk xs = true) : ∀ x ∈ xs, x.lentPg lk = true := by
  induction xs with
  | nil => intro x hx; cases hx
  | cons y t ih =>
    simp only [lentPgL] at h
    split at h
    · rename_i h1
      intro x hx
      rcases List.mem_cons.1 hx with hx | hx
      · rw [hx]; exact h1
      · exact ih h x hx
    · cases h

/-- what is lent, as it reads in a greater set of blocks -/
theorem RV.lend {J : Nat → Prop} {Q : O → Prop} {n : Nat} (hh : HOk I g n w s.hp) (hI : ∀ b, I b → J b) (hb : ∀ id o y b, lookH s.hp id = some o → (o = .arr y ∨ ∃ p, o = .deep p 0 y []) → Q o → Own g w id o b → J b) {z : V} {v : Value}
    (hz : (∀ y, Q y) ∨ ((∀ y : C, y.isPg = true → Q (.arr y)) ∧ z.lentPg (lookH s.hp) = true)) (h : RV I g n w z v) : RV J g n w (z.lend (lookH s.hp)) v := by
  have up : ∀ {z v}, RV I g n w z v → RV J g n w z v := fun h => h.mono hI (fun _ _ => rfl) (Nat.le_refl _) fun _ _ => rfl
  have slc : ∀ id v, (∀ o y, lookH s.hp id = some o → (o = .arr y ∨ ∃ p, o = .deep p 0 y []) → Q o) → RV I g n w (.slc id) v → RV J g n w (V.lend (lookH s.hp) (.slc id)) v := fun id v hq h => by
    simp only [V.lend]
    split
    · rename_i y hl
      exact .c _ _ (RC.of_slc (hh.obj id _ (lookH_mem hl)).2 hI (fun b cl hg => hb id _ y b hl (.inl rfl) (hq _ y hl (.inl rfl)) (.pri hg)) h)
    · rename_i p y hl
      exact .c _ _ (RC.of_deep (hh.obj id _ (lookH_mem hl)).2 (fun b ho => hb id _ y b hl (.inr ⟨p, rfl⟩) (hq _ y hl (.inr ⟨p, rfl⟩)) ho) h)
    · exact up h
  have hq : ∀ id, ((∀ y, Q y) ∨ ((∀ y : C, y.isPg = true → Q (.arr y)) ∧ V.lentPg (lookH s.hp) (.slc id) = true)) → ∀ o y, lookH s.hp id = some o → (o = .arr y ∨ ∃ p, o = .deep p 0 y []) → Q o := fun id hz o y hl ho => by
    rcases hz with hz | ⟨hz, h2⟩
    · exact hz o
    · rcases ho with rfl | ⟨p, rfl⟩
      · simp only [V.lentPg, hl] at h2; exact hz y h2
      · simp only [V.lentPg, hl] at h2; cases h2
  induction h with
  | slc id len b cap hn hg => exact slc id _ (hq id hz) (.slc id len b cap hn hg)
  | slc0 id hn hg => exact slc id _ (hq id hz) (.slc0 id hn hg)
  | agg xs vs hl hr ih =>
    simp only [V.lend]
    refine .agg _ vs (by rw [lendL_map]; simpa using hl) fun i x v hx hv => ?_
    rw [lendL_map, List.getElem?_map] at hx
    cases hq : xs[i]? with
    | none => rw [hq] at hx; cases hx
    | some y =>
      rw [hq] at hx; cases hx
      refine ih i y v hq hv (hz.imp id fun ⟨h1, h2⟩ => ⟨h1, ?_⟩)
      simp only [V.lentPg] at h2
      exact lentPgL_get h2 y (List.mem_of_getElem? hq)
  | any v => exact .any v
  | tt => exact .tt
  | ff => exact .ff
  | nil => exact .nil
  | c x v h => exact up (.c x v h)
  | tup xs vs hl hr ih => exact up (.tup xs vs hl hr)
  | fn f xs vs hl hr ih => exact up (.fn f xs vs hl hr)
  | iptr row b off val hb hc hr => exact up (.iptr row b off val hb hc hr)
  | ptr id i st j b cl h1 h2 => exact up (.ptr id i st j b cl h1 h2)

theorem RVs.lend {J : Nat → Prop} {Q : O → Prop} {n : Nat} (hh : HOk I g n w s.hp) (hI : ∀ b, I b → J b) (hb : ∀ id o y b, lookH s.hp id = some o → (o = .arr y ∨ ∃ p, o = .deep p 0 y []) → Q o → Own g w id o b → J b) {args : List V} {vals : List Value}
    (hz : (∀ y, Q y) ∨ ((∀ y : C, y.isPg = true → Q (.arr y)) ∧ lentPgL (lookH s.hp) args = true)) (hlt : idsLtL 0 (lendL (lookH s.hp) args) = true) (h : RVs I g n w args vals) :
    (lendL (lookH s.hp) args).length = vals.length ∧ ∀ (i : Nat) x v, (lendL (lookH s.hp) args)[i]? = some x → vals[i]? = some v → RV J g 0 w x v := by
  refine ⟨by rw [lendL_map]; simpa using h.1, fun i x v hx hv => ?_⟩
  have hid := idsLtL_get hlt x (List.mem_of_getElem? hx)
  rw [lendL_map, List.getElem?_map] at hx
  cases hq : args[i]? with
  | none => rw [hq] at hx; cases hx
  | some y =>
    rw [hq] at hx; cases hx
    exact V.idsLt_mono 0 ((h.2 i y v hq hv).lend hh hI hb (hz.imp id fun ⟨h1, h2⟩ => ⟨h1, lentPgL_get h2 y (List.mem_of_getElem? hq)⟩)) hid

theorem hok_nil (J : Nat → Prop) : HOk J g 0 w [] := ⟨fun _ _ h => (by cases h), fun _ _ _ h => (by cases h), by simp, fun _ _ _ _ _ h => (by cases h)⟩

/-- a call that returns numbers and bools -/
theorem St.lendScalar (h : St X I g s a w) {f : Nat} {args : List V} {vals : List Value} {res : V} (hsc : res.scalar = true) (hid : idsLtL 0 (lendL (lookH s.hp) args) = true) (hspec : Spec P f 0 (lendL (lookH s.hp) args) [] 0 res [])
    (hargs : RVs I g s.nx w args vals) : Calls P f vals.toArray w fun e w' => ∃ v, e = .returned v ∧ St X I g s a w' ∧ RV I g s.nx w' res v := by
  obtain ⟨l1, l2⟩ := hargs.lend (J := fun b => b < w.heap.size) (Q := fun _ => True) h.heap h.bound (fun id o y b hl _ _ hg => (h.heap.apart id _ b (lookH_mem hl) hg).2) (.inl fun _ => trivial) hid
  refine (hspec.2 w (fun b => b < w.heap.size) g _ (fun _ h => h) (hok_nil _) l1 l2).mono fun e w' he => ?_
  obtain ⟨v, I', g', rfl, _, _, _, _, hres, _, _, hfr⟩ := he
  exact ⟨v, rfl, h.world hfr.os hfr.tape hfr.output hfr.size fun b hb => hfr.block b hb fun ⟨_, _, hm, _⟩ => (by cases hm), scalar_any hsc hres⟩

theorem flat1L_get {xs : List V} (h : flat1L xs = true) : ∀ x ∈ xs, x.flat1 = true := by
  induction xs with
  | nil => intro x hx; cases hx
  | cons y t ih =>
    simp only [flat1L] at h
    split at h
    · rename_i h1
      intro x hx
      rcases List.mem_cons.1 hx with hx | hx
      · rw [hx]; exact h1
      · exact ih h x hx
    · cases h
theorem flat1_any {I2 : Nat → Prop} {g2 : Gam} {n2 n : Nat} {r : Nat → Nat} {w' : World} (hk : ∀ i, i < n → r i < n2 ∧ g2 (r i) = g i) {v : V} {val : Value} (h : RV I g n w v val) : v.flat1 = true → RV I2 g2 n2 w' (v.ren r) val := by
  have mapped : ∀ (xs : List V) (vs : List Value), (∀ (i : Nat) y v, xs[i]? = some y → vs[i]? = some v → y.flat1 = true → RV I2 g2 n2 w' (y.ren r) v) → flat1L xs = true →
      ∀ (i : Nat) y v, (renL r xs)[i]? = some y → vs[i]? = some v → RV I2 g2 n2 w' y v := by
    intro xs vs ih hf i y v hy hv
    rw [renL_eq, List.getElem?_map] at hy
    cases hq : xs[i]? with
    | none => rw [hq] at hy; cases hy
    | some z => rw [hq] at hy; cases hy; exact ih i z v hq hv (flat1L_get hf z (List.mem_of_getElem? hq))
  induction h with
  | any v => intro _; exact .any v
  | tt => intro _; exact .tt
  | ff => intro _; exact .ff
  | nil => intro _; exact .nil
  | c x v h =>
    intro hf
    cases h with
    | int k m => exact RV.mkint _ _ _
    | bool b => exact RV.mkbool _ _
    | empty _ a cap hs h0 => cases x <;> simp [C.isSl, V.flat1] at hs hf
    | sl _ b off cap val hs => cases x <;> simp [C.isSl, V.flat1] at hs hf
  | agg xs vs hl hr ih => intro hf; exact .agg _ vs (by rw [renL_eq]; simpa using hl) (mapped xs vs ih hf)
  | tup xs vs hl hr ih => intro hf; exact .tup _ vs (by rw [renL_eq]; simpa using hl) (mapped xs vs ih hf)
  | fn f xs vs hl hr ih => intro hf; cases hf
  | iptr row b off val hb hc hr => intro hf; cases hf
  | ptr id i st j b cl h1 h2 => intro _; exact .ptr _ i st j b cl (hk id h1).1 (by rw [(hk id h1).2]; exact h2)
  | slc id len b cap h1 h2 => intro _; exact .slc _ len b cap (hk id h1).1 (by rw [(hk id h1).2]; exact h2)
  | slc0 id h1 h2 => intro _; exact .slc0 _ (hk id h1).1 (by rw [(hk id h1).2]; exact h2)

theorem RO.deep_move {n n' id id' f : Nat} {pn : Bool} {x : C} {I' : Nat → Prop} {g' : Gam} (h : RO I g n w id (.deep pn f x [])) (hg : g' id' = g id) : RO I' g' n' w id' (.deep pn f x []) := by
  cases h with
  | deep0 _ _ _ hg' hs h0 => exact .deep0 _ _ _ (hg.trans hg') hs h0
  | deep _ _ _ _ b cap cells ty hg' hsl hb hl hcap hh hkn ht h2 hd hty => exact .deep _ _ _ _ b cap cells ty (hg.trans hg') hsl hb hl hcap (fun i us hm => by cases hm) hkn ht (fun i us hm => by cases hm) hd hty

/-- objects that a call has made -/
theorem St.adopt (h : St X I g s a w) {m : Nat} {hout : List (Nat × O)} {I2 : Nat → Prop} {g' : Gam} {n0 : Nat} (hI : ∀ b, I b → I2 b) (hI2 : ∀ b, I2 b → I b ∨ n0 ≤ b) (hI2b : ∀ b, I2 b → b < w.heap.size) (hob : ∀ i o' b, (i, o') ∈ s.hp → Own g w i o' b → b < n0) (hW : X.W.heap.size ≤ n0)
    (hlt : ∀ i ob, (i, ob) ∈ hout → i < m) (hnd : (hout.map (·.1)).Nodup) (hnew : ∀ i ob b, (i, ob) ∈ hout → Own g' w i ob b → n0 ≤ b ∧ b < w.heap.size ∧ ¬ I2 b) (hinj : ∀ i ob i' ob' b, (i, ob) ∈ hout → (i', ob') ∈ hout → Own g' w i ob b → Own g' w i' ob' b → i = i')
    (hpure : ∀ i ob, (i, ob) ∈ hout → ob.map (renL fun i => s.nx + i) = ob) (hro : ∀ i ob, (i, ob) ∈ hout → ∀ gg : Gam, gg (s.nx + i) = g' i → RO I2 gg (s.nx + m) w (s.nx + i) ob) :
    ∃ g2, (∀ i, g2 (s.nx + i) = g' i) ∧ St X I2 g2 { s with nx := s.nx + m, hp := renH (fun i => s.nx + i) hout ++ s.hp } a w := by
  obtain ⟨g2, hgn, hg⟩ : ∃ g2 : Gam, (∀ i, g2 (s.nx + i) = g' i) ∧ ∀ id, id < s.nx → g2 id = g id :=
    ⟨fun i => if i < s.nx then g i else g' (i - s.nx), fun i => by
      show (if s.nx + i < s.nx then g (s.nx + i) else g' (s.nx + i - s.nx)) = g' i
      rw [if_neg (by omega), Nat.add_sub_cancel_left], fun id hid => by simp [hid]⟩
  refine ⟨g2, hgn, ?_⟩
  have hid : ∀ id o, (id, o) ∈ s.hp → id < s.nx := fun id o hm => (h.heap.obj id o hm).1
  have hgo : ∀ id o, (id, o) ∈ s.hp → g2 id = g id := fun id o hm => hg id (hid id o hm)
  have hmem : ∀ {j o'}, (j, o') ∈ renH (fun i => s.nx + i) hout ++ s.hp → (∃ i, (i, o') ∈ hout ∧ j = s.nx + i) ∨ (j, o') ∈ s.hp := fun {j o'} hm => by
    rcases List.mem_append.1 hm with hm | hm
    · obtain ⟨i, o, h1, h2, h3⟩ := mem_renH hm
      rw [hpure i o h1] at h3
      exact .inl ⟨i, h3 ▸ h1, h2⟩
    · exact .inr hm
  have hold : ∀ {id o b}, (id, o) ∈ s.hp → Own g2 w id o b → Own g w id o b := fun {id o b} hm ho => ho.congr (hgo id o hm) fun _ _ _ => rfl
  have hfre : ∀ {i o b}, Own g2 w (s.nx + i) o b → Own g' w i o b := fun {i o b} ho => ho.congr (hgn i) fun _ _ _ => rfl
  refine ⟨h.df, h.sz, fun j => (h.slots j).mono hI (fun b hI => rfl) (by simp) hg, ⟨?_, ?_, ?_, ?_⟩, hI2b, fun b hb => hI b (h.up b hb), ?_, ?_, ?_, h.fr, fun id hid => by have := h.low id hid; simp; omega⟩
  · intro id o' hm
    rcases hmem hm with ⟨i, hm2, rfl⟩ | hm
    · exact ⟨by have := hlt i o' hm2; simp; omega, hro i o' hm2 g2 (hgn i)⟩
    · refine ⟨by have := hid id o' hm; simp; omega, ?_⟩
      exact (h.heap.obj id o' hm).2.mono hI (fun b hI => rfl) (by simp) hg (hid id o' hm) fun b hgb => rfl
  · intro id o' b hm hgb
    rcases hmem hm with ⟨i, hm2, rfl⟩ | hm
    · have := hnew i o' b hm2 (hfre hgb); exact ⟨this.2.2, this.2.1⟩
    · obtain ⟨h1, h2⟩ := h.heap.apart id o' b hm (hold hm hgb)
      refine ⟨fun hc => ?_, h2⟩
      rcases hI2 b hc with hc | hc
      · exact h1 hc
      · have := hob id o' b hm (hold hm hgb); omega
  · show (List.map _ (renH _ hout ++ s.hp)).Nodup
    rw [List.map_append, renH_keys, List.nodup_append]
    refine ⟨?_, h.heap.nodup, fun a ha b hb => ?_⟩
    · have : ∀ l : List Nat, l.Nodup → (l.map fun i => s.nx + i).Nodup := by
        intro l
        induction l with
        | nil => intro _; simp
        | cons a t ih =>
          intro hn
          rw [List.nodup_cons] at hn
          rw [List.map_cons, List.nodup_cons]
          refine ⟨fun hc => ?_, ih hn.2⟩
          obtain ⟨k, hk, he⟩ := List.mem_map.1 hc
          have : k = a := by omega
          exact hn.1 (this ▸ hk)
      exact this _ hnd
    · obtain ⟨i, _, rfl⟩ := List.mem_map.1 ha
      obtain ⟨⟨k, o⟩, hk, rfl⟩ := List.mem_map.1 hb
      have := hid k o hk
      simp only
      omega
  · intro id o1 id' o2 b hm hm' hgb hgb'
    rcases hmem hm with ⟨i, hm2, rfl⟩ | hm <;> rcases hmem hm' with ⟨i', hm2', rfl⟩ | hm'
    · rw [hinj i o1 i' o2 b hm2 hm2' (hfre hgb) (hfre hgb')]
    · have := hnew i o1 b hm2 (hfre hgb)
      have := hob _ _ b hm' (hold hm' hgb')
      omega
    · have := hnew i' o2 b hm2' (hfre hgb')
      have := hob _ _ b hm (hold hm hgb)
      omega
    · exact h.heap.inj id o1 id' o2 b hm hm' (hold hm hgb) (hold hm' hgb')
  · intro b hb
    rcases hI2 b hb with hb | hb
    · exact h.down b hb
    · exact .inr (.inl (by omega))
  · rintro b ⟨id, o', hm, hgb⟩
    rcases hmem hm with ⟨i, hm2, rfl⟩ | hm
    · have := hnew i o' b hm2 (hfre hgb); exact .inl (by omega)
    · exact h.own b ⟨id, o', hm, hold hm hgb⟩
  · intro id o' hm hbx hK0
    rcases hmem hm with ⟨i, hm2, rfl⟩ | hm
    · have := h.low _ hK0; omega
    · rw [hgo _ _ hm]; exact h.keep id o' hm hbx hK0

/-- a page's slices do not lie in an array of pages -/
theorem RO.pgs {n id id' : Nat} {z : C} (h : RO I g n w id (.arr z)) (hz : z.isPg = true) {I2 : Nat → Prop} (hI : ∀ b, I b → I2 b ∨ ∃ (cells : List Value) (ty : TypeId), w.heap[b]? = some (.cells cells.toArray ty (0, 0)) ∧ ∀ v ∈ cells, SlVal v) {g' : Gam} {n' : Nat}
    (hg : g' id' = g id) : RO I2 g' n' w id' (.arr z) := by
  cases h with
  | none _ hg' hs h0 => exact .none z (hg.trans hg') hs h0
  | arr _ b cap cells ty hg' hs hb hl hcap hh ht =>
    refine .arr z b cap cells ty (hg.trans hg') hs hb hl hcap (fun i j y hi hy => ?_) ht
    obtain ⟨v, a1, a2⟩ := hh i j y hi hy
    refine ⟨v, a1, ?_⟩
    obtain ⟨ys, rfl⟩ : ∃ ys, y = .nums .i64 ys := by
      cases z with
      | pgs xs =>
        match j with
        | 0 => simp only [C.row, Pg.row, List.getElem?_cons_zero, Option.some.injEq] at hy; exact ⟨_, hy.symm⟩
        | 1 => simp only [C.row, Pg.row, List.getElem?_cons_succ, List.getElem?_cons_zero, Option.some.injEq] at hy; exact ⟨_, hy.symm⟩
        | 2 => simp only [C.row, Pg.row, List.getElem?_cons_succ, List.getElem?_cons_zero, Option.some.injEq] at hy; exact ⟨_, hy.symm⟩
        | j + 3 => simp [C.row, Pg.row] at hy
      | _ => cases hz
    cases a2 with
    | empty _ a cap hs h0 => exact .empty _ a cap hs h0
    | sl _ b' off cap val hs hIb hcap hc hr =>
      cases ys with
      | nil => exact .empty _ _ _ rfl rfl
      | cons y0 ys =>
        have h00 := hc 0 0 (.int .i64 y0) (by simp [C.len]) (by simp [C.row])
        have hv0 : val 0 0 = .int .i64 y0 := by
          have := hr 0 0 (.int .i64 y0) (by simp [C.len]) (by simp [C.row])
          generalize val 0 0 = q at this
          cases this with
          | int => rfl
          | empty _ _ _ hs => cases hs
          | sl _ _ _ _ _ hs => cases hs
        rcases hI b' hIb with h2 | ⟨cells', ty', h2, h3⟩
        · refine .sl _ b' off cap val hs h2 hcap hc fun i j x hi hx => ?_
          have hx' : ∃ m, x = .int .i64 m := by
            cases j with
            | zero => simp only [C.row, List.getElem?_cons_zero, Option.some.injEq] at hx; exact ⟨_, hx.symm⟩
            | succ j => simp [C.row] at hx
          obtain ⟨m, rfl⟩ := hx'
          have := hr i j _ hi hx
          generalize val i j = q at this
          cases this with
          | int => exact .int _ _
          | empty _ _ _ hs => cases hs
          | sl _ _ _ _ _ hs => cases hs
        · rw [hv0, cell_of_row w b' _ cells'.toArray ty' (0, 0) h2] at h00
          simp only [List.getElem?_toArray] at h00
          obtain ⟨_, _, _, hc⟩ := h3 _ (List.mem_of_getElem? h00)
          cases hc

theorem okObs_get {lk : Nat → Option O} {args : List V} {hout : List (Nat × O)} (h : okObs lk args hout = true) : ∀ i ob, (i, ob) ∈ hout → (∃ z, ob = .arr z ∧ okRes z lk args = true) ∨ ∃ p f x, ob = .deep p f x [] := by
  induction hout with
  | nil => intro i ob hm; cases hm
  | cons y t ih =>
    obtain ⟨k, v⟩ := y
    intro i ob hm
    simp only [okObs] at h
    split at h
    · rename_i z
      split at h
      · rename_i h1
        rcases List.mem_cons.1 hm with hm | hm
        · cases hm; exact .inl ⟨z, rfl, h1⟩
        · exact ih h i ob hm
      · cases h
    · rename_i p f x
      rcases List.mem_cons.1 hm with hm | hm
      · cases hm; exact .inr ⟨p, f, x, rfl⟩
      · exact ih h i ob hm
    · cases h

/-- a call to which owned arrays are lent, and that returns new arrays -/
theorem St.lendNew (h : St X I g s a w) {f m : Nat} {args : List V} {vals : List Value} {hout : List (Nat × O)} {st : V} (hok : okObs (lookH s.hp) args hout = true) (hf : st.flat1 = true)
    (hid : idsLtL 0 (lendL (lookH s.hp) args) = true) (hspec : Spec P f 0 (lendL (lookH s.hp) args) [] m st hout) (hargs : RVs I g s.nx w args vals) :
    Calls P f vals.toArray w fun e w' => ∃ v I2 g2, e = .returned v ∧ St X I2 g2 { s with nx := s.nx + m, hp := renH (fun i => s.nx + i) hout ++ s.hp } a w' ∧ RV I2 g2 (s.nx + m) w' (st.ren fun i => s.nx + i) v := by
  have hobj : ∀ i o' b, (i, o') ∈ s.hp → Own g w i o' b → b < w.heap.size := fun i o' b hm hg => (h.heap.apart i o' b hm hg).2
  have hoks := okObs_get hok
  have hpure : ∀ i ob, (i, ob) ∈ hout → ob.map (renL fun i => s.nx + i) = ob := fun i ob hm => by
    rcases hoks i ob hm with ⟨z, rfl, _⟩ | ⟨p, q, x, rfl⟩ <;> rfl
  have hnoD : ∀ b, ¬ Dom g w ([] : List (Nat × O)) b := fun b ⟨_, _, hm, _⟩ => by cases hm
  by_cases hlp : lentPgL (lookH s.hp) args = true
  · let LB : Nat → Prop := fun b => ∃ id y cl, lookH s.hp id = some (.arr y) ∧ y.isPg = true ∧ g id = some (b, cl)
    have hLB : ∀ b, LB b → b < w.heap.size ∧ ¬ I b := fun b ⟨id, y, cl, hl, _, hg⟩ => ⟨hobj id _ b (lookH_mem hl) (.pri hg), (h.heap.apart id _ b (lookH_mem hl) (.pri hg)).1⟩
    obtain ⟨l1, l2⟩ := hargs.lend (J := fun b => I b ∨ LB b) (Q := fun o => ∃ y, o = .arr y ∧ y.isPg = true) h.heap (fun _ h => .inl h) (fun id o y b hl _ ⟨y', e, hy⟩ hg => by
      subst e
      obtain ⟨cl, hg⟩ := hg.nd (fun _ _ _ _ e => by cases e)
      exact .inr ⟨id, y', cl, hl, hy, hg⟩) (.inr ⟨fun y h => ⟨y, rfl, h⟩, hlp⟩) hid
    refine (hspec.2 w (fun b => I b ∨ LB b) g _ (fun b hb => hb.elim (h.bound b) fun hb => (hLB b hb).1) (hok_nil _) l1 l2).mono fun e w' he => ?_
    obtain ⟨v, I', g', rfl, hI1, hI2, hI3, hH, hres, _, hown, hfr⟩ := he
    have hst1 : St X I g s a w' := h.world hfr.os hfr.tape hfr.output hfr.size fun b hb => hfr.block b hb (hnoD b)
    obtain ⟨g2, hg2, hst2⟩ := hst1.adopt (m := m) (hout := hout) (I2 := fun b => I' b ∧ ¬ LB b) (g' := g') (n0 := w.heap.size) (fun b hb => ⟨hI1 b (.inl hb), fun hc => (hLB b hc).2 hb⟩) (fun b hb => by
        rcases hI2 b hb.1 with (h1 | h1) | h1 | h1
        · exact .inl h1
        · exact absurd h1 hb.2
        · exact .inr h1
        · exact absurd h1 (hnoD b)) (fun b hb => hI3 b hb.1) (fun i o' b hm hg => hobj i o' b hm (hg.congr rfl fun b cl hgb => hfr.block b (hobj i o' b hm (.pri hgb)) (hnoD b))) h.fr.size (fun i ob hm => (hH.obj i ob hm).1) hH.nodup (fun i ob b hm hg => by
      have h1 := hH.apart i ob b hm hg
      refine ⟨?_, h1.2, fun hc => h1.1 hc.1⟩
      rcases hown b ⟨i, ob, hm, hg⟩ with h2 | h2
      · exact h2
      · exact absurd h2 (hnoD b)) hH.inj hpure (fun i ob hm gg hgg => by
      have hro := (hH.obj i ob hm).2
      rcases hoks i ob hm with ⟨z, rfl, hz⟩ | ⟨p, q, x, rfl⟩
      · unfold okRes at hz
        split at hz
        · rename_i hzf; exact hro.flat hzf hgg
        · split at hz
          · rename_i hzp
            refine hro.pgs hzp (fun b hb => ?_) hgg
            by_cases hc : LB b
            · right
              have hlt := (hLB b hc).1
              obtain ⟨id, y, cl, hl, hy, hg⟩ := hc
              have hro := (h.heap.obj id _ (lookH_mem hl)).2
              cases hro with
              | none _ hg' => rw [hg] at hg'; cases hg'
              | arr _ b' cap cells ty hg' hs hb' hl' hcap hh ht =>
                rw [hg] at hg'; cases hg'
                exact ⟨cells, ty, by rw [hfr.block b hlt (hnoD b)]; exact hb', ht hy⟩
            · exact .inl ⟨hb, hc⟩
          · cases hz
      · exact hro.deep_move hgg)
    exact ⟨v, _, g2, rfl, hst2, flat1_any (fun i hi => ⟨by omega, hg2 i⟩) hres hf⟩
  · obtain ⟨l1, l2⟩ := hargs.lend (J := fun b => b < w.heap.size) (Q := fun _ => True) h.heap h.bound (fun id o y b hl _ _ hg => (h.heap.apart id _ b (lookH_mem hl) hg).2) (.inl fun _ => trivial) hid
    refine (hspec.2 w (fun b => b < w.heap.size) g _ (fun _ h => h) (hok_nil _) l1 l2).mono fun e w' he => ?_
    obtain ⟨v, I', g', rfl, hI1, hI2, hI3, hH, hres, _, hown, hfr⟩ := he
    have hst1 : St X I g s a w' := h.world hfr.os hfr.tape hfr.output hfr.size fun b hb => hfr.block b hb (hnoD b)
    obtain ⟨g2, hg2, hst2⟩ := hst1.adopt (m := m) (hout := hout) (I2 := I) (g' := g') (n0 := w.heap.size) (fun _ h => h) (fun _ h => .inl h) hst1.bound (fun i o' b hm hg => hobj i o' b hm (hg.congr rfl fun b cl hgb => hfr.block b (hobj i o' b hm (.pri hgb)) (hnoD b))) h.fr.size
      (fun i ob hm => (hH.obj i ob hm).1) hH.nodup (fun i ob b hm hg => by
      have := hH.apart i ob b hm hg
      have hge : w.heap.size ≤ b := by
        rcases Nat.lt_or_ge b w.heap.size with c | c
        · exact absurd (hI1 b c) this.1
        · exact c
      exact ⟨hge, this.2, fun hc => by have := h.bound b hc; omega⟩) hH.inj hpure (fun i ob hm gg hgg => by
      have hro := (hH.obj i ob hm).2
      rcases hoks i ob hm with ⟨z, rfl, hz⟩ | ⟨p, q, x, rfl⟩
      · unfold okRes at hz
        split at hz
        · rename_i hzf; exact hro.flat hzf hgg
        · split at hz
          · exact absurd hz hlp
          · cases hz
      · exact hro.deep_move hgg)
    exact ⟨v, I, g2, rfl, hst2, flat1_any (fun i hi => ⟨by omega, hg2 i⟩) hres hf⟩

/-- how a call of a function runs -/
theorem run_call {c : Call} {f : Nat} {caps : List Value} (ho : o.op = .call c) {x : Operand} (hc : c.callee = .value x) (hx : a.eval x = .func (.func f) #[] caps.toArray) (hcall : Callable P f) :
    (execOp a.eval o).run P w = .ok (.enter f ((c.args.toList.map a.eval) ++ caps).toArray) w := by
  obtain ⟨fn, hf, hn, hb⟩ := hcall
  have h1 : fn.name ≠ "runtime.NumGoroutine" := by simpa using hn
  have hb' : fn.body ≠ none := fun e => by rw [e] at hb; cases hb
  simp [execOp, ho, resolve, hc, hx, Deferred.ofValue, invoke, callFunc, hf, h1, hb']

theorem evs_eq (env : List (Nat × V)) (l : List Operand) : evs env l = l.map (evl env) := by
  induction l with
  | nil => rfl
  | cons x t ih => simp [evs, ih]

theorem St.evals' (h : St X I g s a w) (l : List Operand) : RVs I g s.nx w (evs s.env l) (l.map a.eval) := by
  rw [evs_eq]
  refine ⟨by simp, fun i x v hx hv => ?_⟩
  simp only [List.getElem?_map] at hx hv
  cases hq : l[i]? with
  | none => rw [hq] at hx; cases hx
  | some p => rw [hq] at hx hv; cases hx; cases hv; exact h.eval p

theorem RVs.append {n : Nat} {xs ys : List V} {vs us : List Value} (h : RVs I g n w xs vs) (k : RVs I g n w ys us) : RVs I g n w (xs ++ ys) (vs ++ us) := by
  refine ⟨by simp [h.1, k.1], fun i x v hx hv => ?_⟩
  by_cases c : i < xs.length
  · rw [List.getElem?_append_left c] at hx
    rw [List.getElem?_append_left (by rw [← h.1]; exact c)] at hv
    exact h.2 i x v hx hv
  · rw [List.getElem?_append_right (by omega)] at hx
    rw [List.getElem?_append_right (by have := h.1; omega), ← h.1] at hv
    exact k.2 _ x v hx hv

/-- from the caller's state to the callee's, and back -/
theorem St.called (h : St X I g s a w) {f n m : Nat} {fargs : List V} {hin hout : List (Nat × O)} {res : V} {rn : List Nat} {vals : List Value} (hspec : Spec P f n fargs hin m res hout)
    (hargs : RVs I g s.nx w (renL (rnf rn) fargs) vals) (hlt : idsLtL n fargs = true) (hltH : idsLtH n hin = true) (hhas : hasIn (rnf rn) s.hp hin) (hnd : nodupN rn = true)
    (hn : n ≤ rn.length) (hm : m ≤ rn.length) (hnew : newIds (rnf rn) s.nx (keysH hin) m = true) (hbs2 : boxesStay2 hin hout = true) (hkn : nodupN (keysH hin) = true) :
    Calls P f vals.toArray w fun e w' => ∃ v I' g', e = .returned v ∧ RV I' g' (Nat.max s.nx (maxN rn)) w' (res.ren (rnf rn)) v ∧
      St X I' g' { forgetIn (rnf rn) hout hin s with nx := Nat.max s.nx (maxN rn), hp := renH (rnf rn) hout ++ dropIn (rnf rn) hin (forgetIn (rnf rn) hout hin s).hp } a w' := by
  have hnd' := nodupN_iff.1 hnd
  have hkn' := nodupN_iff.1 hkn
  rw [keysH_eq] at hkn'
  have hlk := hasIn_get hhas
  have hidl := idsLtH_get hltH
  have hmemc : ∀ i o, (i, o) ∈ hin → (rnf rn i, o.map (renL (rnf rn))) ∈ s.hp := fun i o hm => lookH_mem (hlk i o hm)
  have hcal : ∀ i o b, Own (fun i => g (rnf rn i)) w i o b → Own g w (rnf rn i) (o.map (renL (rnf rn))) b := fun i o b ho => by
    rcases ho with ⟨cl, ho⟩ | ho
    · exact .inl ⟨cl, ho⟩
    · refine .inr ?_
      cases o with
      | deep p f x hs => simpa only [Nst, O.map, keysHs_map] using ho
      | _ => exact ho.elim
  have hcalH : HOk I (fun i => g (rnf rn i)) n w hin := by
    refine ⟨fun i o hmi => ⟨(hidl i o hmi).1, ?_⟩, fun i o b hmi hg => h.heap.apart _ _ b (hmemc i o hmi) (hcal i o b hg), hkn', fun i o i' o' b h1 h2 g1 g2 => ?_⟩
    · exact (h.heap.obj _ _ (hmemc i o hmi)).2.unren (hidl i o hmi).2
    · exact rnf_inj hnd' (Nat.lt_of_lt_of_le (hidl i o h1).1 hn) (Nat.lt_of_lt_of_le (hidl i' o' h2).1 hn) (h.heap.inj _ _ _ _ b (hmemc i o h1) (hmemc i' o' h2) (hcal i o b g1) (hcal i' o' b g2))
  refine (hspec.2 w I (fun i => g (rnf rn i)) vals h.bound hcalH (by have := hargs.1; rwa [renL_eq, List.length_map] at this) (fun i x v hx hv => ?_)).mono fun e w' he => ?_
  · exact (hargs.2 i (x.ren (rnf rn)) v (by rw [renL_eq, List.getElem?_map, hx]; rfl) hv).unren x rfl (idsLtL_get hlt x (List.mem_of_getElem? hx))
  · obtain ⟨v, I', g', rfl, hI1, hI2, hI3, hH, hres, hbox, hown, hfr⟩ := he
    obtain ⟨g2, hg2a, hg2b⟩ : ∃ g2 : Gam, (∀ i, i < m → g2 (rnf rn i) = g' i) ∧ ∀ j, (∀ i, i < m → rnf rn i ≠ j) → g2 j = g j := by
      refine ⟨fun j => if hj : ∃ i, i < m ∧ rnf rn i = j then g' hj.choose else g j, fun i hi => ?_, fun j hj => ?_⟩
      · have hex : ∃ k, k < m ∧ rnf rn k = rnf rn i := ⟨i, hi, rfl⟩
        simp only [hex, dif_pos]
        rw [rnf_inj hnd' (Nat.lt_of_lt_of_le hex.choose_spec.1 hm) (Nat.lt_of_lt_of_le hi hm) hex.choose_spec.2]
      · show (if hj : ∃ i, i < m ∧ rnf rn i = j then g' hj.choose else g j) = g j
        rw [dif_neg]; rintro ⟨i, hi, he⟩; exact hj i hi he
    have hDom : ∀ b, Dom (fun i => g (rnf rn i)) w hin b → Dom g w s.hp b := fun b ⟨i, o, hm, hg⟩ => ⟨_, _, hmemc i o hm, hcal i o b hg⟩
    have hnotI : ∀ b, Dom (fun i => g (rnf rn i)) w hin b → ¬ I b := fun b hb => let ⟨id, o, hm, hg⟩ := hDom b hb; (h.heap.apart id o b hm hg).1
    have hwI : ∀ b, I b → w'.heap[b]? = w.heap[b]? := fun b hb => hfr.block b (h.bound b hb) fun hd => hnotI b hd hb
    have hnx : s.nx ≤ Nat.max s.nx (maxN rn) := Nat.le_max_left _ _
    -- old names
    have hgold : ∀ j, j < s.nx → j ∉ arrIds (rnf rn) hout hin → g2 j = g j := fun j hj hna => by
      by_cases hex : ∃ i, i < m ∧ rnf rn i = j
      · obtain ⟨i, hi, rfl⟩ := hex
        rcases newIds_get hnew i hi with h1 | h1
        · rw [keysH_eq] at h1
          obtain ⟨⟨k, ob⟩, hk, rfl⟩ := List.mem_map.1 h1
          cases hst : stays hout k ob with
          | false => exact (hna (mem_arrIds hst hk)).elim
          | true =>
            obtain ⟨_, o', hl, hb'⟩ := stays_get hst
            rw [hg2a k hi]
            exact hbox k _ _ hk (lookH_mem hl) hb'
        · omega
      · exact hg2b j fun i hi he => hex ⟨i, hi, he⟩
    have hold : ∀ v val, RV I g s.nx w v val → RV I' g2 (Nat.max s.nx (maxN rn)) w' (fgs (arrIds (rnf rn) hout hin) v) val := fun v val hv =>
      ((hv.mono hI1 hwI (Nat.le_refl _) (fun _ _ => rfl)).fgs _ hgold).mono (fun _ h => h) (fun _ _ => rfl) hnx fun _ _ => rfl
    obtain ⟨hfe, hfh, hfn⟩ := forgetIn_eq (rnf rn) hout hin s
    have hre : ∀ i, i < m → rnf rn i < Nat.max s.nx (maxN rn) ∧ g2 (rnf rn i) = g' i := fun i hi => ⟨Nat.lt_of_lt_of_le (maxN_le (Nat.lt_of_lt_of_le hi hm)) (Nat.le_max_right _ _), hg2a i hi⟩
    refine ⟨v, I', g2, rfl, hres.reren hre, ?_⟩
    have hndf : ((forgetIn (rnf rn) hout hin s).hp.map (·.1)).Nodup := by rw [hfh, mapH_keys]; exact h.heap.nodup
    have hmem : ∀ j o', (j, o') ∈ renH (rnf rn) hout ++ dropIn (rnf rn) hin (forgetIn (rnf rn) hout hin s).hp →
        (∃ i o, (i, o) ∈ hout ∧ j = rnf rn i ∧ o' = o.map (renL (rnf rn))) ∨ (∃ o, (j, o) ∈ s.hp ∧ o' = o.map (List.map (fgs (arrIds (rnf rn) hout hin))) ∧ ∀ i o, (i, o) ∈ hin → j ≠ rnf rn i) := fun j o' hmj => by
      rcases List.mem_append.1 hmj with h1 | h1
      · exact .inl (mem_renH h1)
      · obtain ⟨h2, h3⟩ := mem_dropIn hin hndf h1
        rw [hfh] at h2
        obtain ⟨o, h4, h5⟩ := mem_mapH h2
        exact .inr ⟨o, h4, h5, h3⟩
    have hlt' : ∀ i o, (i, o) ∈ hout → i < m := fun i o hmi => (hH.obj i o hmi).1
    have hrest : ∀ j o, (j, o) ∈ s.hp → (∀ i o, (i, o) ∈ hin → j ≠ rnf rn i) → g2 j = g j := fun j o hmj hne => hgold j (h.heap.obj j o hmj).1 fun hc => by
      obtain ⟨i, x, h1, h2⟩ := arrIds_mem hc; exact hne i _ h1 h2
    have hrestD : ∀ j o b, (j, o) ∈ s.hp → (∀ i o, (i, o) ∈ hin → j ≠ rnf rn i) → Own g w j o b → ¬ Dom (fun i => g (rnf rn i)) w hin b := fun j o b hmj hne hg ⟨i, o', hmi, hgi⟩ =>
      hne i o' hmi (h.heap.inj _ _ _ _ b hmj (hmemc i o' hmi) hg (hcal i o' b hgi))
    have hrestW : ∀ j o b, (j, o) ∈ s.hp → (∀ i o, (i, o) ∈ hin → j ≠ rnf rn i) → Own g w j o b → w'.heap[b]? = w.heap[b]? := fun j o b hmj hne hg => hfr.block b (h.heap.apart j o b hmj hg).2 (hrestD j o b hmj hne hg)
    have hrestO : ∀ j o b fl, (j, o) ∈ s.hp → (∀ i o, (i, o) ∈ hin → j ≠ rnf rn i) → Own g2 w' j (o.map fl) b → Own g w j o b := fun j o b fl hmj hne hg => hg.map.congr (hrest j o hmj hne) fun b cl hgb => hrestW j o b hmj hne (.pri hgb)
    have hnewO : ∀ i ob b, (i, ob) ∈ hout → Own g2 w' (rnf rn i) (ob.map (renL (rnf rn))) b → Own g' w' i ob b := fun i ob b hmi hg => hg.map.congr (hg2a i (hlt' i ob hmi)) fun _ _ _ => rfl
    refine ⟨h.df, by show a.tmps.size = (forgetIn (rnf rn) hout hin s).nt; rw [hfn]; exact h.sz, fun j => ?_, ⟨?_, ?_, ?_, ?_⟩, hI3, fun b hb => hI1 b (h.up b hb), ?_, ?_, ?_, ?_, ?_⟩
    · show RV I' g2 _ w' (look (forgetIn (rnf rn) hout hin s).env j) _
      rw [hfe, look_mapE _ (fgs_any _)]; exact hold _ _ (h.slots j)
    · intro j o' hmj
      rcases hmem j o' hmj with ⟨i, ob, hmi, rfl, rfl⟩ | ⟨ob, hmi, rfl, hne⟩
      · exact ⟨(hre i (hlt' i ob hmi)).1, (hH.obj i ob hmi).2.reren hre (hlt' i ob hmi)⟩
      · refine ⟨Nat.lt_of_lt_of_le (h.heap.obj j ob hmi).1 hnx, ?_⟩
        exact (h.heap.obj j ob hmi).2.mapV (fgs (arrIds (rnf rn) hout hin)) hold (fun _ => rfl) hI1 hwI (hrest j ob hmi hne) fun b hg => hrestW j ob b hmi hne hg
    · intro j o' b hmj hg
      rcases hmem j o' hmj with ⟨i, ob, hmi, rfl, rfl⟩ | ⟨ob, hmi, rfl, hne⟩
      · exact hH.apart i ob b hmi (hnewO i ob b hmi hg)
      · have hg := hrestO j ob b _ hmi hne hg
        obtain ⟨h1, h2⟩ := h.heap.apart j ob b hmi hg
        refine ⟨fun hb => ?_, Nat.lt_of_lt_of_le h2 hfr.size⟩
        rcases hI2 b hb with h3 | h3 | h3
        · exact h1 h3
        · omega
        · exact hrestD j ob b hmi hne hg h3
    · show (List.map _ (renH (rnf rn) hout ++ dropIn (rnf rn) hin (forgetIn (rnf rn) hout hin s).hp)).Nodup
      rw [List.map_append, List.nodup_append]
      refine ⟨?_, hndf.sublist ((dropIn_sublist _ _ _).map _), ?_⟩
      · rw [renH_keys]
        have : ∀ (l : List Nat), l.Nodup → (∀ i ∈ l, i < m) → (l.map (rnf rn)).Nodup := by
          intro l
          induction l with
          | nil => intro _ _; simp
          | cons i t ih =>
            intro hn hl
            rw [List.nodup_cons] at hn
            rw [List.map_cons, List.nodup_cons]
            refine ⟨fun hc => ?_, ih hn.2 fun k hk => hl k (List.mem_cons_of_mem _ hk)⟩
            obtain ⟨k, hk, he⟩ := List.mem_map.1 hc
            have := rnf_inj hnd' (Nat.lt_of_lt_of_le (hl k (List.mem_cons_of_mem _ hk)) hm) (Nat.lt_of_lt_of_le (hl i List.mem_cons_self) hm) he
            exact hn.1 (this ▸ hk)
        exact this _ hH.nodup fun i hi => by
          obtain ⟨⟨k, ob⟩, hk, rfl⟩ := List.mem_map.1 hi; exact hlt' k ob hk
      · intro x hx y hy hxy
        subst hxy
        rw [renH_keys] at hx
        obtain ⟨i, hi, rfl⟩ := List.mem_map.1 hx
        obtain ⟨⟨k, ob⟩, hk, rfl⟩ := List.mem_map.1 hi
        obtain ⟨⟨k', ob'⟩, hk', he⟩ := List.mem_map.1 hy
        obtain ⟨h2, h3⟩ := mem_dropIn hin hndf hk'
        simp only at he
        rcases newIds_get hnew k (hlt' k ob hk) with h1 | h1
        · rw [keysH_eq] at h1
          obtain ⟨⟨k2, ob2⟩, hk2, e2⟩ := List.mem_map.1 h1
          simp only at e2
          subst e2
          exact h3 _ ob2 hk2 he
        · rw [hfh] at h2
          obtain ⟨ob3, h4, _⟩ := mem_mapH h2
          have := (h.heap.obj _ _ h4).1
          omega
    · intro j o1 j' o2 b h1 h2 g1 g2'
      have mixed : ∀ i ob j ob', (i, ob) ∈ hout → (j, ob') ∈ s.hp → (∀ i o, (i, o) ∈ hin → j ≠ rnf rn i) → Own g' w' i ob b → Own g w j ob' b → False := fun i ob j ob' hmi hmj hne hg1 hg2 => by
        rcases hown b ⟨i, ob, hmi, hg1⟩ with h3 | h3
        · have := (h.heap.apart j ob' b hmj hg2).2; omega
        · exact hrestD j ob' b hmj hne hg2 h3
      rcases hmem j o1 h1 with ⟨i, ob, hmi, rfl, rfl⟩ | ⟨ob, hmi, rfl, hne⟩ <;> rcases hmem j' o2 h2 with ⟨i', ob', hmi', rfl, rfl⟩ | ⟨ob', hmi', rfl, hne'⟩
      · rw [hH.inj i ob i' ob' b hmi hmi' (hnewO i ob b hmi g1) (hnewO i' ob' b hmi' g2')]
      · exact (mixed i ob j' ob' hmi hmi' hne' (hnewO i ob b hmi g1) (hrestO j' ob' b _ hmi' hne' g2')).elim
      · exact (mixed i' ob' j ob hmi' hmi hne (hnewO i' ob' b hmi' g2') (hrestO j ob b _ hmi hne g1)).elim
      · exact h.heap.inj j ob j' ob' b hmi hmi' (hrestO j ob b _ hmi hne g1) (hrestO j' ob' b _ hmi' hne' g2')
    · intro b hb
      rcases hI2 b hb with h3 | h3 | h3
      · exact h.down b h3
      · exact .inr (.inl (Nat.le_trans h.fr.size h3))
      · exact .inr (h.own b (hDom b h3))
    · rintro b ⟨j, o', hmj, hg⟩
      rcases hmem j o' hmj with ⟨i, ob, hmi, rfl, rfl⟩ | ⟨ob, hmi, rfl, hne⟩
      · rcases hown b ⟨i, ob, hmi, hnewO i ob b hmi hg⟩ with h3 | h3
        · exact .inl (Nat.le_trans h.fr.size h3)
        · exact h.own b (hDom b h3)
      · exact h.own b ⟨j, ob, hmi, hrestO j ob b _ hmi hne hg⟩
    · intro j o' hmj hb hK
      rcases hmem j o' hmj with ⟨i, ob, hmi, rfl, rfl⟩ | ⟨ob, hmi, rfl, hne⟩
      · rw [O.isBox_map] at hb
        rw [hg2a i (hlt' i _ hmi)]
        rcases newIds_get hnew i (hlt' i _ hmi) with h1 | h1
        · rw [keysH_eq] at h1
          obtain ⟨⟨k2, ob2⟩, hk2, e2⟩ := List.mem_map.1 h1
          simp only at e2
          subst e2
          have hb2 := boxesStay2_get hbs2 _ ob hmi hb ob2 (mem_lookH hkn' hk2)
          rw [hbox _ _ _ hk2 hmi hb]
          exact h.keep _ _ (hmemc _ _ hk2) (by rw [O.isBox_map]; exact hb2) hK
        · have := h.low _ hK; omega
      · rw [O.isBox_map] at hb
        rw [hrest j ob hmi hne]; exact h.keep j ob hmi hb hK
    · exact h.fr.trans hfr fun b hb hd hc => by
        rcases h.own b (hDom b hc) with h3 | h3
        · omega
        · exact hd h3
    · exact fun id hid => Nat.lt_of_lt_of_le (h.low id hid) hnx

theorem sound_call {c : Call} {f : Nat} {caps : List V} (ho : o.op = .call c) {x : Operand} (hc : c.callee = .value x) (h : St X I g s a w) (hx : evl s.env x = .fn f caps)
    (hk : vcall P f (evs s.env c.args.toList ++ caps) s o.dst K) (hN : ∀ s' a' w', Sat X s' a' w' → K s' → N a' w') : o.wp P a w N Q := by
  have hfx := h.eval x
  rw [hx] at hfx
  obtain ⟨cvs, hev, hcl, hcr⟩ : ∃ cvs : List Value, a.eval x = .func (.func f) #[] cvs.toArray ∧ caps.length = cvs.length ∧ ∀ (i : Nat) x v, caps[i]? = some x → cvs[i]? = some v → RV I g s.nx w x v := by
    generalize a.eval x = vx at hfx
    cases hfx with | fn _ _ vs hl hr => exact ⟨vs, rfl, hl, hr⟩
  have hargs : RVs I g s.nx w (evs s.env c.args.toList ++ caps) (c.args.toList.map a.eval ++ cvs) := (h.evals' c.args.toList).append ⟨hcl, hcr⟩
  unfold vcall at hk
  have hwp : ∀ {R : Ending → World → Prop}, Callable P f → Calls P f ((c.args.toList.map a.eval) ++ cvs).toArray w R → (∀ e w', R e w' → ∃ v, e = .returned v ∧ N (a.put o.dst v) w') → o.wp P a w N Q := fun hcb hcalls hR => by
    simp only [Oper.wp, run_call ho hc hev hcb, Oper.upon]
    exact hcalls.mono fun e w' he => by
      obtain ⟨v, rfl, hn⟩ := hR e w' he
      exact hn
  rcases hk with ⟨res, hsc, hid, hspec, hk⟩ | ⟨m, st, hout, hok, hf, hid, hspec, hk⟩ | ⟨fz, rn, n, fargs, hin, m, res, hout, hspec, hk⟩
  · refine hwp hspec.1 (h.lendScalar hsc hid hspec hargs) fun e w' he => ?_
    obtain ⟨v, rfl, hst, hres⟩ := he
    obtain ⟨s', h1, h2⟩ := hst.putO (v := res) (val := v) hres hk
    exact ⟨v, rfl, hN s' _ _ h1 h2⟩
  · refine hwp hspec.1 (h.lendNew hok hf hid hspec hargs) fun e w' he => ?_
    obtain ⟨v, I2, g2, rfl, hst2, hres⟩ := he
    rw [S.force_eq] at hk
    obtain ⟨s', h1, h2⟩ := hst2.putO (v := st.ren fun i => s.nx + i) (val := v) hres hk
    exact ⟨v, rfl, hN s' _ _ h1 h2⟩
  · obtain ⟨s', I', vs', hs', hv', hk2, hI, hnx, hnt⟩ := vfz_sound fz s I _ _ _ h hargs hk
    obtain ⟨e1, e2, e3, e4, ⟨e5, e6, e7, e8, e10, e11⟩, hk3⟩ := hk2
    rw [S.force_eq] at hk3
    subst e1
    refine hwp hspec.1 (hs'.called hspec hv' e2 e3 e4 e5 (Nat.le_of_ble_eq_true e6) (Nat.le_of_ble_eq_true e7) e8 e10 e11) (fun e w' he => ?_)
    obtain ⟨v, I2, g2, rfl, hres, hst⟩ := he
    obtain ⟨s2, h1, h2⟩ := hst.putO hres hk3
    exact ⟨v, rfl, hN s2 _ _ h1 h2⟩
end
end Go.VL
