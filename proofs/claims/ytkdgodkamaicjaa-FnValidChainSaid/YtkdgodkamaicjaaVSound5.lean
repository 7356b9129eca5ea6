/- V-logic, part 7: parts of slices, structs by value, tuples. -/
import Derived.Test.YtkdgodkamaicjaaVSound4
namespace Go.VL
set_option linter.unusedVariables false
set_option linter.unusedSimpArgs false
section
variable {P : Program} {T : TT} {X : Cx} {I : Nat → Prop} {g : Gam} {s : S} {a : Act} {w : World} {o : Oper} {K : S → Prop}
  {N : Act → World → Prop} {Q : Exit → Act → World → Prop}

theorem getD_drop {α : Type} (xs : List α) (k i : Nat) (d : α) : (xs.drop k).getD i d = xs.getD (k + i) d := by
  simp [List.getD, List.getElem?_drop]
theorem getD_take {α : Type} (xs : List α) (k i : Nat) (d : α) (h : i < k) : (xs.take k).getD i d = xs.getD i d := by
  simp [List.getD, h]

theorem C.isSl_drop (x : C) (k : Nat) : (x.drop k).isSl = x.isSl := by cases x <;> rfl
theorem C.isSl_take (x : C) (k : Nat) : (x.take k).isSl = x.isSl := by cases x <;> rfl
theorem C.stride_drop (x : C) (k : Nat) : (x.drop k).stride = x.stride := by cases x <;> rfl
theorem C.stride_take (x : C) (k : Nat) : (x.take k).stride = x.stride := by cases x <;> rfl
theorem C.len_drop (x : C) (k : Nat) : (x.drop k).len = x.len - k := by cases x <;> simp [C.drop, C.len]
theorem C.len_take (x : C) (k : Nat) : (x.take k).len = min k x.len := by cases x <;> simp [C.take, C.len]
theorem C.row_drop (x : C) (k i : Nat) : (x.drop k).row i = x.row (k + i) := by
  cases x <;> simp only [C.drop, C.row, getD_drop]
theorem C.row_take (x : C) (k i : Nat) (h : i < k) : (x.take k).row i = x.row i := by
  cases x <;> simp only [C.take, C.row, getD_take _ _ _ _ h]

theorem RC.sub {x : C} {ad : Option Addr} {cap : Nat} (hs : x.isSl = true) (hv : RC I w x (.slice ad x.len cap)) {lo hi : Nat} (h1 : lo ≤ hi) (h2 : hi ≤ x.len) :
    RC I w ((x.take hi).drop lo) (.slice (if cap = lo then ad else ad.map (·.add (lo * x.stride))) (hi - lo) (cap - lo)) := by
  have hs' : ((x.take hi).drop lo).isSl = true := by rw [C.isSl_drop, C.isSl_take, hs]
  have hl : ((x.take hi).drop lo).len = hi - lo := by rw [C.len_drop, C.len_take]; omega
  by_cases he : hi - lo = 0
  · rw [he]; exact .empty _ _ _ hs' (by rw [hl, he])
  · obtain ⟨a', cap', he', hcap, h3⟩ := hv.slice_inv hs
    cases he'
    rcases h3 with h3 | ⟨b, off, rfl, hI, hrow⟩
    · omega
    · rw [if_neg (by omega)]
      simp only [Option.map_some, addr_add]
      have := RC.of_rows (x := (x.take hi).drop lo) (cap := cap - lo) (w := w) (off := off + lo * x.stride) hs' hI (by omega) (fun i hi' => by
        rw [C.row_drop, C.row_take _ _ _ (by omega), C.stride_drop, C.stride_take]
        have := hrow (lo + i) (by omega) 0 (fun _ => none)
        rwa [Nat.add_mul, ← Nat.add_assoc] at this)
      rwa [hl] at this

def loI : Option (IntKind × Int) → Int
  | none => 0
  | some p => p.2
def hiI (len : Nat) : Option (IntKind × Int) → Int
  | none => len
  | some p => p.2

theorem run_slice {t e sz : Nat} (hu : P.underlying t = some (.slice e)) (hs : sizeIs P e sz) {ad : Option Addr} {len cap : Nat} (hcap : len ≤ cap) (lo hi : Option (IntKind × Int))
    (hlo : ∀ k i, lo = some (k, i) → 0 ≤ i ∧ i ≤ hiI len hi) (hhi : ∀ k i, hi = some (k, i) → 0 ≤ i ∧ i ≤ len) :
    (Instr.sliceAt t (.slice ad len cap) (lo.map fun p => Value.int p.1 p.2) (hi.map fun p => Value.int p.1 p.2) none).run P w =
      .ok (.slice (if cap = (loI lo).toNat then ad else ad.map (·.add ((loI lo).toNat * sz))) ((hiI len hi).toNat - (loI lo).toNat) (cap - (loI lo).toNat)) w := by
  cases lo with
  | none => cases hi with
    | none => simp [Instr.sliceAt, run_underlying hu, Instr.slice, Instr.sliceBounds, run_sizeOf' hs, loI, hiI]
    | some p =>
      obtain ⟨k, i⟩ := p
      obtain ⟨h1, h2⟩ := hhi k i rfl
      have h3 : i ≤ (cap : Int) := by omega
      simp [Instr.sliceAt, run_underlying hu, Instr.slice, Instr.sliceBounds, run_sizeOf' hs, Instr.sliceBound, asIntOf, h1, h3, loI, hiI]
  | some q =>
    obtain ⟨k', j⟩ := q
    obtain ⟨g1, g2⟩ := hlo k' j rfl
    cases hi with
    | none =>
      simp only [hiI] at g2
      simp [Instr.sliceAt, run_underlying hu, Instr.slice, Instr.sliceBounds, run_sizeOf' hs, Instr.sliceBound, asIntOf, g1, g2, loI, hiI]
      rfl
    | some p =>
      obtain ⟨k, i⟩ := p
      obtain ⟨h1, h2⟩ := hhi k i rfl
      simp only [hiI] at g2
      have g3 : j ≤ max i 0 := by omega
      have h3 : i ≤ (cap : Int) := by omega
      simp [Instr.sliceAt, run_underlying hu, Instr.slice, Instr.sliceBounds, run_sizeOf' hs, Instr.sliceBound, asIntOf, h1, h3, g1, g3, loI, hiI]
      rfl

theorem slice_size (hT : TOk P T) {t e sz bytes : Nat} {kd : Kd} (hti : T t = .slice e sz bytes kd) : P.underlying t = some (.slice e) ∧ sizeIs P e sz := by
  have h := hT t
  rw [hti] at h
  obtain ⟨hu, _, _, hinfo, _⟩ := h
  refine ⟨hu, ?_⟩
  unfold sizeIs
  cases hq : P.info? e with
  | none => rw [hq] at hinfo; cases hinfo
  | some i => rw [hq] at hinfo; simp at hinfo ⊢; exact hinfo.1

theorem RC.take_all {x : C} {v : Value} (h : RC I w (x.take x.len) v) : RC I w x v := by
  have : x.take x.len = x := by cases x <;> simp [C.take, C.len]
  rwa [this] at h
theorem C.drop_zero (x : C) : x.drop 0 = x := by cases x <;> simp [C.drop]
theorem C.take_len (x : C) : x.take x.len = x := by cases x <;> simp [C.take, C.len]

theorem run_vslice (hT : TOk P T) {t : Nat} {x : V} {lo hi mx : Option V} {n : Nat} {v : Value} {vlo vhi vmx : Option Value} {KV : V → Prop} (hv : RV I g n w x v)
    (hlo : ∀ y, lo = some y → ∃ u, vlo = some u ∧ RV I g n w y u) (hlo' : lo = none → vlo = none)
    (hhi : ∀ y, hi = some y → ∃ u, vhi = some u ∧ RV I g n w y u) (hhi' : hi = none → vhi = none) (hmx' : mx = none → vmx = none)
    (hk : vslice T t x lo hi mx KV) : ∃ y val, (Instr.sliceAt t v vlo vhi vmx).run P w = .ok val w ∧ RV I g n w y val ∧ KV y := by
  cases hti : T t with
  | slice e sz bytes kd =>
    cases mx with
    | some _ => simp [vslice, hti] at hk
    | none =>
      cases x with
      | c l =>
        have := hmx' rfl
        subst this
        obtain ⟨hu, hs⟩ := slice_size hT hti
        cases hv with | c _ _ hv =>
        simp only [vslice, hti] at hk
        split at hk
        · exact hk.elim
        · rename_i hst
          have hst := Nat.eq_of_beq_eq_true hst
          split at hk
          · have e1 := hlo' rfl
            have e2 := hhi' rfl
            subst e1 e2
            obtain ⟨hsl, hk2⟩ := vneed_true hk
            obtain ⟨ad, cap, rfl, hcap, h3⟩ := hv.slice_inv hsl
            refine ⟨_, _, run_slice hu hs hcap none none (by simp) (by simp), .c l _ ?_, hk2⟩
            have := hv.sub hsl (Nat.zero_le l.len) (Nat.le_refl _)
            rw [hst, C.take_len, C.drop_zero] at this
            simpa [loI, hiI] using this
          · rename_i k i
            obtain ⟨u, rfl, hu1⟩ := hlo _ rfl
            have e2 := hhi' rfl
            subst e2
            rw [hu1.int_inv]
            obtain ⟨⟨hsl, h0, h1⟩, hk2⟩ := vneed_true hk
            rw [C.force_eq] at hk2
            obtain ⟨ad, cap, rfl, hcap, h3⟩ := hv.slice_inv hsl
            refine ⟨_, _, run_slice hu hs hcap (some (k, i)) none (by simp [hiI]; omega) (by simp), .c (l.drop i.toNat) _ ?_, hk2⟩
            have := hv.sub hsl (lo := i.toNat) (hi := l.len) (by omega) (Nat.le_refl _)
            rw [hst, C.take_len] at this
            exact this
          · rename_i k i
            obtain ⟨u, rfl, hu1⟩ := hhi _ rfl
            have e2 := hlo' rfl
            subst e2
            rw [hu1.int_inv]
            obtain ⟨⟨hsl, h0, h1⟩, hk2⟩ := vneed_true hk
            rw [C.force_eq] at hk2
            obtain ⟨ad, cap, rfl, hcap, h3⟩ := hv.slice_inv hsl
            refine ⟨_, _, run_slice hu hs hcap none (some (k, i)) (by simp) (by simp; omega), .c (l.take i.toNat) _ ?_, hk2⟩
            have := hv.sub hsl (lo := 0) (hi := i.toNat) (by omega) (by omega)
            rw [hst, C.drop_zero] at this
            simpa [loI, hiI] using this
          · rename_i k i k' j
            obtain ⟨u, rfl, hu1⟩ := hlo _ rfl
            obtain ⟨u', rfl, hu2⟩ := hhi _ rfl
            rw [hu1.int_inv, hu2.int_inv]
            obtain ⟨⟨hsl, h0, h1, h2⟩, hk2⟩ := vneed_true hk
            rw [C.force_eq] at hk2
            obtain ⟨ad, cap, rfl, hcap, h3⟩ := hv.slice_inv hsl
            refine ⟨_, _, run_slice hu hs hcap (some (k, i)) (some (k', j)) (by simp [hiI]; omega) (by simp; omega), .c ((l.take j.toNat).drop i.toNat) _ ?_, hk2⟩
            have := hv.sub hsl (lo := i.toNat) (hi := j.toNat) (by omega) (by omega)
            rw [hst] at this
            exact this
          · exact hk.elim
      | _ => simp [vslice, hti] at hk
  | _ => simp [vslice, hti] at hk

theorem setV_get (xs : List V) (k : Nat) (v : V) (j : Nat) : (setV xs k v)[j]? = if k = j ∧ k < xs.length then some v else xs[j]? := by
  induction xs generalizing k j with
  | nil => simp [setV]
  | cons x t ih =>
    cases k with
    | zero => cases j <;> simp [setV]
    | succ k => cases j with
      | zero => simp [setV]
      | succ j => simp [setV, ih]
theorem setV_eq (xs : List V) (k : Nat) (v : V) : setV xs k v = xs.set k v := by
  apply List.ext_getElem?; intro j; rw [setV_get, List.getElem?_set]
  by_cases h : k = j
  · subst h; by_cases hk : k < xs.length <;> simp [hk]
  · simp [h]

/-- storing a row of values into a list of cells -/
def putAt (cs : List Value) (off : Nat) : List Value → List Value
  | [] => cs
  | v :: t => putAt (cs.set off v) (off + 1) t

theorem length_setVs (xs : List V) (k : Nat) (vs : List V) : (setVs xs k vs).length = xs.length := by
  induction vs generalizing xs k with
  | nil => rfl
  | cons v t ih => rw [setVs, ih, setV_eq, List.length_set]
theorem length_putAt (cs : List Value) (k : Nat) (vs : List Value) : (putAt cs k vs).length = cs.length := by
  induction vs generalizing cs k with
  | nil => rfl
  | cons v t ih => rw [putAt, ih, List.length_set]

def RVs (I : Nat → Prop) (g : Gam) (n : Nat) (w : World) (xs : List V) (vs : List Value) : Prop :=
  xs.length = vs.length ∧ ∀ (i : Nat) x v, xs[i]? = some x → vs[i]? = some v → RV I g n w x v

theorem RVs.set {n : Nat} {xs : List V} {vs : List Value} (h : RVs I g n w xs vs) {x : V} {v : Value} (hx : RV I g n w x v) (k : Nat) : RVs I g n w (xs.set k x) (vs.set k v) := by
  refine ⟨by simp [h.1], fun i y u hy hu => ?_⟩
  rw [List.getElem?_set] at hy hu
  by_cases e : k = i
  · subst e
    have : k < xs.length ∨ ¬ k < xs.length := Nat.lt_or_ge k xs.length |>.imp id (by omega)
    rcases this with hk | hk
    · have hk' : k < vs.length := by rw [← h.1]; exact hk
      simp [hk] at hy; simp [hk'] at hu; subst hy hu; exact hx
    · simp [hk] at hy
  · simp [e] at hy hu; exact h.2 i y u hy hu

theorem RVs.putAt {n : Nat} {xs : List V} {vs : List Value} (h : RVs I g n w xs vs) {ys : List V} {us : List Value} (hy : RVs I g n w ys us) (k : Nat) :
    RVs I g n w (setVs xs k ys) (putAt vs k us) := by
  induction ys generalizing xs vs us k with
  | nil => cases us with
    | nil => exact h
    | cons u t => have := hy.1; simp at this
  | cons y t ih => cases us with
    | nil => have := hy.1; simp at this
    | cons u us =>
      simp only [setVs, VL.putAt, setV_eq]
      refine ih (h.set (hy.2 0 _ _ rfl rfl) k) ⟨by have := hy.1; simpa using this, fun i x v hx hv => hy.2 (i + 1) x v (by simpa using hx) (by simpa using hv)⟩ (k + 1)

theorem foldl_putAt (vs : List Value) (k : Nat) (cs : Array Value) (j : Nat) :
    (vs.zipIdx j).foldl (fun (cs : Array Value) (x : Value × Nat) => cs.setIfInBounds (k + x.2) x.1) cs = (putAt cs.toList (k + j) vs).toArray := by
  induction vs generalizing cs j with
  | nil => simp [putAt]
  | cons v t ih =>
    simp only [List.zipIdx_cons, List.foldl_cons, putAt]
    rw [ih]
    simp [Nat.add_assoc]

theorem cells_size {n : Nat} {x : V} {v : Value} (h : RV I g n w x v) (h1 : x.one = true ∨ ∃ l, x = .agg l) : RVs I g n w x.cells v.cells.toList := by
  have one : ∀ {x : V} {v : Value}, x.cells = [x] → v.cells = #[v] → RV I g n w x v → RVs I g n w x.cells v.cells.toList := by
    intro x v e1 e2 h
    rw [e1, e2]
    exact ⟨rfl, fun i y u hy hu => by cases i with
      | zero => cases hy; cases hu; exact h
      | succ i => simp at hy⟩
  have onec : ∀ {c : C} {v : Value}, RC I w c v → v.cells = #[v] := fun h => by cases h <;> rfl
  cases h with
  | any => rcases h1 with h1 | ⟨l, h1⟩ <;> cases h1
  | tup => rcases h1 with h1 | ⟨l, h1⟩ <;> cases h1
  | agg xs vs hl h => exact ⟨by simpa [V.cells, Value.cells] using hl, fun i y u hy hu => h i y u (by simpa [V.cells] using hy) (by simpa [Value.cells] using hu)⟩
  | c x v h => exact one rfl (onec h) (.c x v h)
  | tt => exact one rfl rfl .tt
  | ff => exact one rfl rfl .ff
  | nil => exact one rfl rfl .nil
  | iptr row b off val hI hc hr => exact one rfl rfl (.iptr row b off val hI hc hr)
  | ptr id i st j b cl hn hg => exact one rfl rfl (.ptr id i st j b cl hn hg)
  | slc id len b cap hn hg => exact one rfl rfl (.slc id len b cap hn hg)
  | slc0 id hn hg => exact one rfl rfl (.slc0 id hn hg)
  | fn f xs vs hl h => exact one rfl rfl (.fn f xs vs hl h)
end
end Go.VL
