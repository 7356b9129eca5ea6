/- V-logic, part 13: literals and make. -/
import Derived.Test.YtkdgodkamaicjaaVSound10
namespace Go.VL
set_option linter.unusedVariables false
set_option linter.unusedSimpArgs false
section
variable {P : Program} {T : TT} {X : Cx} {I : Nat → Prop} {g : Gam} {s : S} {a : Act} {w : World} {o : Oper} {K : S → Prop}
  {N : Act → World → Prop} {Q : Exit → Act → World → Prop}

/-- an array whose elements hold no slices -/
theorem RO.arr_deep {n id : Nat} {x : C} (h : RO I g n w id (.arr x)) (hn : ∀ (cells : List Value) b cap ty, g id = some (b, cap, x.len) → w.heap[b]? = some (.cells cells.toArray ty (0, 0)) → ∀ (i j : Nat) y, i < x.len → (x.row i)[j]? = some y →
    ∃ v, cells[i * x.stride + j]? = some v ∧ NC w y v ∧ ∀ a l c, v ≠ .slice (some a) l c) : RO I g n w id (.deep false 0 x []) ∧ ∀ b, ¬ Nst g w id (.deep false 0 x []) b := by
  cases h with
  | none _ hg hs h0 => exact ⟨.deep0 _ _ x hg hs h0, fun b ⟨b0, cl, k, off, l, c, e, _⟩ => by rw [hg] at e; cases e⟩
  | arr _ b cap cells ty hg hs hb hl hcap hh ht =>
    have key := hn cells b cap ty hg hb
    have hno : ∀ {k a l c}, Told 0 x (keysHs []) k → cells[k]? = some (.slice (some a) l c) → False := fun {k a l c} ⟨i, j, e, q1, q2, q3, q4⟩ he => by
      have hjl : j < (x.row i).length := by rw [C.row_len _ _ hs]; exact q1
      obtain ⟨v, e1, _, e3⟩ := key i j _ q3 (List.getElem?_eq_getElem hjl)
      rw [← e, he] at e1; cases e1; exact e3 _ _ _ rfl
    refine ⟨.deep _ _ x [] b cap cells ty hg hs hb hl hcap (fun i us hm => by cases hm) (by simp [keysHs]) (fun i j y _ hi _ hy => ?_) (fun i us hm => by cases hm) (fun k k' b' o l c o' l' c' t1 _ e1 _ => (hno t1 e1).elim) ht, fun b' ⟨b0, cl, k, off, l, c, e1, e2, e3⟩ => ?_⟩
    · obtain ⟨v, e1, e2, _⟩ := key i j y hi hy; exact ⟨v, e1, e2⟩
    · rw [hg] at e1; cases e1
      rw [cell_of_row w b _ cells.toArray ty (0, 0) hb] at e3
      exact hno e2 (by simpa using e3)

theorem zeros_nc (kd : Kd) (hk : kd.nest = true) (n : Nat) (i j : Nat) (y : C) (hi : i < n) (hy : ((kd.zeros n).row i)[j]? = some y) : ∃ v, (kdZero kd).cells[j]? = some v ∧ NC w y v ∧ ∀ a l c, v ≠ .slice (some a) l c := by
  cases kd with
  | pgs =>
    simp only [Kd.zeros, C.row, Pg.row, List.getD, List.getElem?_replicate, hi, if_true, Option.getD_some] at hy
    match j with
    | 0 => cases hy; exact ⟨_, rfl, .nil _, fun _ _ _ h => by cases h⟩
    | 1 => cases hy; exact ⟨_, rfl, .nil _, fun _ _ _ h => by cases h⟩
    | 2 => cases hy; exact ⟨_, rfl, .nil _, fun _ _ _ h => by cases h⟩
    | j + 3 => simp at hy
  | lks =>
    simp only [Kd.zeros, C.row, Lk.row, List.getD, List.getElem?_replicate, hi, if_true, Option.getD_some] at hy
    match j with
    | 0 => cases hy; exact ⟨_, rfl, .nil _, fun _ _ _ h => by cases h⟩
    | 1 => cases hy; exact ⟨_, rfl, .int _ _, fun _ _ _ h => by cases h⟩
    | 2 => cases hy; exact ⟨_, rfl, .int _ _, fun _ _ _ h => by cases h⟩
    | j + 3 => simp at hy
  | numss =>
    simp only [Kd.zeros, C.row, List.getD, List.getElem?_replicate, hi, if_true, Option.getD_some] at hy
    cases j with
    | zero => cases hy; exact ⟨_, rfl, .nil _, fun _ _ _ h => by cases h⟩
    | succ j => simp at hy
  | _ => cases hk

theorem run_vmake (hT : TOk P T) {t : Nat} {l c : Operand} (ho : o.op = .makeSlice t l c) (h : St X I g s a w) 
    (hk : vmake T t (evl s.env l) (evl s.env c) s o.dst K) (hN : ∀ s' a' w', Sat X s' a' w' → K s' → N a' w') : o.wp P a w N Q := by
  have hK : ¬ X.K0 s.nx := fun hk => by have := h.low _ hk; omega
  have hl := h.eval l
  have hc := h.eval c
  unfold vmake at hk
  split at hk
  · rename_i e sz bytes kd hti
    obtain ⟨hu, i, hi, hsz, hbt, hz, hst, hb1, hb2⟩ := slice_facts hT hti
    split at hk
    · rename_i p q e1 e2
      rw [e1] at hl; rw [e2] at hc
      split at hk
      · rename_i hss
        obtain ⟨⟨h0, rfl, h1⟩, hk2⟩ := vneed_true hk
        have hr := run_make (P := P) w t e i (kdZero kd) hu hi hz .i64 .i64 p p h0 (Int.le_refl _) (by
          have h2 : (i.bytes : Int) ≤ 4096 := by omega
          have h3 : (i.bytes : Int) * p ≤ 4096 * 4294967296 := Int.mul_le_mul h2 h1 h0 (by omega)
          omega) (by omega)
        obtain ⟨z1, z2, z3, z4⟩ := zeros_cells kd p.toNat
        have hsz2 : (kd.zeros p.toNat).stride = sz := by rw [z3, kdZero_size, hst]
        have hrunM : (execOp a.eval o).run P w = .ok (.value (.slice (some ⟨w.heap.size, 0, none⟩) p.toNat p.toNat)) (w.alloc (.cells (madeCells (kdZero kd).cells (p.toNat * i.size)) e)) := by
          have e1 := hl.int_inv
          have e2 := hc.int_inv
          simp [execOp, ho, e1, e2, hr]
        have hcellM : ∀ {k j : Nat} {v : Value}, k < p.toNat → j < sz → (kdZero kd).cells[j]? = some v → (madeCells (kdZero kd).cells (p.toNat * i.size)).toList[k * (kd.zeros p.toNat).stride + j]? = some v := fun {k j v} hk hjl hv => by
          have hlt : k * sz + j < p.toNat * sz := by
            have : (k + 1) * sz ≤ p.toNat * sz := Nat.mul_le_mul_right _ hk
            rw [Nat.add_mul, Nat.one_mul] at this; omega
          rw [hsz2]
          have hmod : (k * sz + j) % sz = j := by rw [Nat.mul_comm, Nat.mul_add_mod, Nat.mod_eq_of_lt hjl]
          have hzs : (kdZero kd).cells.size = sz := by rw [kdZero_size, hst]
          obtain ⟨hj', hv'⟩ := Array.getElem?_eq_some_iff.1 hv
          simp [madeCells, hsz, hlt, hzs, hmod]
          rw [getElem!_pos (kdZero kd).cells j hj', hv']
        have hroM : ∀ (g' : Gam) (n' : Nat), g' s.nx = some (w.heap.size, p.toNat, p.toNat) → RO I g' n' (w.alloc (.cells (madeCells (kdZero kd).cells (p.toNat * i.size)) e)) s.nx (.arr (kd.zeros p.toNat)) := fun g' n' hg' => by
          refine RO.of_cells (w0 := w) (cells := (madeCells (kdZero kd).cells (p.toNat * i.size)).toList) (by rw [z2]; exact hg') z1 (by simpa using heap_alloc_new w _) ?_ (by rw [z2]; exact Nat.le_refl _) (fun b hI => heap_push_lt _ _ (h.bound b hI)) (fun k j y hk hy => ?_) z2.symm
          · simp [size_madeCells, hsz, hsz2]
          · rw [z2] at hk
            obtain ⟨v, hv, hr⟩ := z4 k j y hk hy
            have hjl : j < sz := by
              have := (List.getElem?_eq_some_iff.1 hy).1
              rwa [C.row_len _ _ z1, hsz2] at this
            exact ⟨v, hcellM hk hjl hv, hr _ _⟩
        have harr : s.alloc o.dst (.arr (kd.zeros p.toNat)) (.slc s.nx) K → o.wp P a w N Q := fun hk2 =>
          finish_new (cl := (p.toNat, p.toNat)) h hrunM (fun g' n' hg' hn' _ => hroM g' n' hg') (fun g' n' hg' hn' => .slc _ _ _ _ hn' hg') hK hk2 hN
        split at hk2
        · exact harr hk2
        · rename_i hnest
          unfold vch at hk2
          rcases hk2 with hk2 | hk2
          · exact harr hk2
          · have hdeep : ∀ (g' : Gam) (n' : Nat), g' s.nx = some (w.heap.size, p.toNat, p.toNat) → RO I g' n' (w.alloc (.cells (madeCells (kdZero kd).cells (p.toNat * i.size)) e)) s.nx (.deep false 0 (kd.zeros p.toNat) []) ∧
                ∀ b, ¬ Nst g' (w.alloc (.cells (madeCells (kdZero kd).cells (p.toNat * i.size)) e)) s.nx (.deep false 0 (kd.zeros p.toNat) []) b := fun g' n' hg' =>
              (hroM g' n' hg').arr_deep fun cells b cap ty hgb hb k j y hk hy => by
                rw [hg'] at hgb
                simp only [Option.some.injEq, Prod.mk.injEq] at hgb
                obtain ⟨hgb1, _, _⟩ := hgb
                subst hgb1
                have hb2 := heap_alloc_new w (.cells (madeCells (kdZero kd).cells (p.toNat * i.size)) e)
                rw [hb2] at hb
                simp only [Option.some.injEq, Obj.cells.injEq] at hb
                have hce : cells = (madeCells (kdZero kd).cells (p.toNat * i.size)).toList := by rw [hb.1]
                rw [z2] at hk
                obtain ⟨v, hv, hnc, hns⟩ := zeros_nc (w := w.alloc (.cells (madeCells (kdZero kd).cells (p.toNat * i.size)) e)) kd hnest p.toNat k j y hk hy
                have hjl : j < sz := by
                  have := (List.getElem?_eq_some_iff.1 hy).1
                  rwa [C.row_len _ _ z1, hsz2] at this
                exact ⟨v, by rw [hce]; exact hcellM hk hjl hv, hnc, hns⟩
            exact finish_new (cl := (p.toNat, p.toNat)) h hrunM (fun g' n' hg' hn' _ => (hdeep g' n' hg').1) (fun g' n' hg' hn' => .slc _ _ _ _ hn' hg') hK hk2 hN (fun g' b hg' => (hdeep g' 0 hg').2 b)
      · exact hk.elim
    · exact hk.elim
  · exact hk.elim

theorem run_fill (size : Nat) (vals : List Value) : ∀ (k : Nat) (cells : List Value), (∀ v ∈ vals, v.cells.size = size) → (k + vals.length) * size ≤ cells.length →
    ∃ cells' : List Value, Instr.fill (fun i => some (i * size, size)) cells.toArray ((vals.zipIdx k).map fun p => (p.2, p.1)) = some cells'.toArray ∧ cells'.length = cells.length ∧
      (∀ q, q < k * size → cells'[q]? = cells[q]?) ∧ (∀ (m : Nat) v j, vals[m]? = some v → j < size → cells'[(k + m) * size + j]? = v.cells[j]?) := by
  induction vals with
  | nil => intro k cells _ _; exact ⟨cells, rfl, rfl, fun _ _ => rfl, by simp⟩
  | cons v t ih =>
    intro k cells hs hl
    have hv := hs v List.mem_cons_self
    simp only [List.length_cons] at hl
    have hkl : k * size + size ≤ cells.length := by
      have : (k + 1) * size ≤ (k + (t.length + 1)) * size := Nat.mul_le_mul_right _ (by omega)
      rw [Nat.add_mul, Nat.one_mul] at this; omega
    have hput := foldl_putAt v.cells.toList (k * size) cells.toArray 0
    obtain ⟨cells', h1, h2, h3, h4⟩ := ih (k + 1) (putAt cells (k * size) v.cells.toList) (fun u hu => hs u (List.mem_cons_of_mem _ hu)) (by rw [length_putAt, show k + 1 + t.length = k + (t.length + 1) from by omega]; exact hl)
    have hfit : k * size + v.cells.toList.length ≤ cells.length := by simpa [hv] using hkl
    refine ⟨cells', ?_, by rw [h2, length_putAt], fun q hq => ?_, fun m u j hm hj => ?_⟩
    · simp only [List.zipIdx_cons, List.map_cons, Instr.fill, hv]
      rw [if_neg (by simp; omega)]
      have : Array.foldl (fun cs x => Array.setIfInBounds cs (k * size + x.2) x.1) cells.toArray v.cells.zipIdx = (putAt cells (k * size) v.cells.toList).toArray := by
        rw [← Array.foldl_toList, Array.toList_zipIdx]
        simpa using hput
      rw [this]
      exact h1
    · rw [h3 q (by rw [Nat.add_mul]; omega), putAt_get _ _ _ hfit, if_neg (by omega)]
    · cases m with
      | zero =>
        cases hm
        have : (k + 0) * size + j < (k + 1) * size := by rw [Nat.add_zero, Nat.add_mul, Nat.one_mul]; omega
        rw [h3 _ this, putAt_get _ _ _ hfit, if_pos (by simp [hv]; omega)]
        simp
      | succ m =>
        have := h4 m u j (by simpa using hm) hj
        rw [show k + 1 + m = k + (m + 1) from by omega] at this
        exact this

theorem buildParts_inv (ps : List (Nat × V)) : ∀ (vs : List V) (vals : List Value) (k : Nat) (x y : C) (n : Nat), buildParts (zipP ps vs) k x = some y → x.len = k → x.isSl = true → RVs I g n w vs vals → ps.length = vs.length →
    y.isSl = true ∧ y.stride = x.stride ∧ y.len = k + vs.length ∧ (∀ i, i < k → y.row i = x.row i) ∧ (∀ (m : Nat) v, vals[m]? = some v → Elem I w (y.row (k + m)) v) ∧ ∀ (m : Nat) p, ps[m]? = some p → p.1 = k + m := by
  induction ps with
  | nil =>
    intro vs vals k x y n h hl hs hv hlen
    cases vs with
    | cons v t => simp at hlen
    | nil =>
      cases vals with
      | cons v t => have := hv.1; simp at this
      | nil => cases h; exact ⟨hs, rfl, by simpa using hl, fun _ _ => rfl, by simp, by simp⟩
  | cons p t ih =>
    intro vs vals k x y n h hl hs hv hlen
    obtain ⟨pi, pv⟩ := p
    cases vs with
    | nil => simp at hlen
    | cons v vs =>
      cases vals with
      | nil => have := hv.1; simp at this
      | cons u us =>
        simp only [zipP, buildParts] at h
        split at h
        · rename_i hik
          have hik := Nat.eq_of_beq_eq_true hik
          split at h
          · rename_i x1 hx1
            obtain ⟨s1, s2, s3, s4, s5, s6⟩ := snoc_inv hx1 (hv.2 0 _ _ rfl rfl)
            obtain ⟨r1, r2, r3, r4, r5, r6⟩ := ih vs us (k + 1) x1 y n h (by omega) s2 ⟨by have := hv.1; simpa using this, fun i x v hx hv' => hv.2 (i + 1) x v (by simpa using hx) (by simpa using hv')⟩ (by simpa using hlen)
            refine ⟨r1, by rw [r2, s3], by rw [r3]; simp; omega, fun i hi => by rw [r4 i (by omega), s5 i (by omega)], fun m v hm => ?_, fun m p hm => ?_⟩
            · cases m with
              | zero => cases hm; rw [Nat.add_zero, r4 k (by omega), ← hl]; exact s6
              | succ m => have := r5 m v (by simpa using hm); rwa [show k + 1 + m = k + (m + 1) from by omega] at this
            · cases m with
              | zero => cases hm; exact hik
              | succ m => have := r6 m p (by simpa using hm); omega
          · cases h
        · cases h

theorem evp_eq (env : List (Nat × V)) (l : List (Nat × Operand)) : evp env l = l.map fun p => (p.1, evl env p.2) := by
  induction l with
  | nil => rfl
  | cons p t ih => obtain ⟨i, x⟩ := p; simp [evp, ih]
theorem sndP_eq (l : List (Nat × V)) : sndP l = l.map (·.2) := by
  induction l with
  | nil => rfl
  | cons p t ih => obtain ⟨i, x⟩ := p; simp [sndP, ih]

theorem St.evals (h : St X I g s a w) (l : List (Nat × Operand)) : RVs I g s.nx w (sndP (evp s.env l)) (l.map fun p => a.eval p.2) := by
  rw [sndP_eq, evp_eq]
  refine ⟨by simp, fun i x v hx hv => ?_⟩
  simp only [List.getElem?_map] at hx hv
  cases hq : l[i]? with
  | none => rw [hq] at hx; cases hx
  | some p => rw [hq] at hx hv; cases hx; cases hv; exact h.eval p.2

theorem sound_litHol0 (hT : TOk P T) {t len : Nat} {parts : Array (Nat × Operand)} (ho : o.op = .buildSlice t len parts) (h : St X I g s a w) {e sz by' : Nat} {kd : Kd} (hti : T t = .slice e sz by' kd) {cs : List V}
    (hps : evp s.env parts.toList = [(0, .agg cs)]) (hlen : Nat.beq (evp s.env parts.toList).length len = true) (hmax : Nat.ble (len * sz) 1000000 = true) (hok : litOk kd.empty sz cs = true)
    (hk : s.alloc o.dst (.hol (kd.zeros 1) 0 cs) (.slc s.nx) K) (hN : ∀ s' a' w', Sat X s' a' w' → K s' → N a' w') : o.wp P a w N Q := by
  have hK : ¬ X.K0 s.nx := fun hk => by have := h.low _ hk; omega
  obtain ⟨hu, i, hi, hsz, hbt, hz, hst, hb1, hb2⟩ := slice_facts hT hti
  obtain ⟨q1, q2, q4, q3⟩ : kd.empty.stride = sz ∧ cs.length = sz ∧ holOk kd.empty cs = true ∧ oneL cs = true := by
    unfold litOk at hok
    split at hok
    · rename_i h1 h2 h3; exact ⟨Nat.eq_of_beq_eq_true h1, Nat.eq_of_beq_eq_true h2, h3, hok⟩
    · cases hok
  obtain ⟨x, hpx, hcx⟩ : ∃ x, parts.toList = [(0, x)] ∧ evl s.env x = .agg cs := by
    cases hq : parts.toList with
    | nil => rw [hq] at hps; cases hps
    | cons p t =>
      obtain ⟨i, x⟩ := p
      rw [hq] at hps
      simp only [evp, List.cons.injEq, Prod.mk.injEq] at hps
      cases t with
      | nil => exact ⟨x, by rw [hps.1.1], hps.1.2⟩
      | cons p t => obtain ⟨j, y⟩ := p; simp [evp] at hps
  have hlen := Nat.eq_of_beq_eq_true hlen
  rw [hps] at hlen
  simp only [List.length_singleton] at hlen
  subst hlen
  have hmax := Nat.le_of_ble_eq_true hmax
  have hx := h.eval x
  rw [hcx] at hx
  obtain ⟨us, hus, hul, hur⟩ := hx.agg_inv
  have hvs : RVs I g s.nx w cs us := ⟨hul, hur⟩
  have hvals : ∀ v ∈ [a.eval x], v.cells.size = sz := fun v hv => by
    simp only [List.mem_singleton] at hv; subst hv; rw [hus]; simp [Value.cells]; omega
  have hparts : (parts.map fun p => (p.1, a.eval p.2)).toList = (([a.eval x] : List Value).zipIdx 0).map fun p => (p.2, p.1) := by
    simp [hpx]
  have hzl : ((Array.range (1 * sz)).map ((kdZero kd).cells[· % (kdZero kd).cells.size]!)).toList.length = 1 * sz := by simp
  obtain ⟨cells', f1, f2, f3, f4⟩ := run_fill sz [a.eval x] 0 ((Array.range (1 * sz)).map ((kdZero kd).cells[· % (kdZero kd).cells.size]!)).toList hvals (by rw [hzl, Nat.zero_add]; simp)
  have hpos : 0 < sz := by rw [← q1]; cases kd <;> exact Nat.zero_lt_succ _
  have hrun : (execOp a.eval o).run P w = .ok (.value (.slice (some ⟨w.heap.size, 0, none⟩) 1 1)) (w.alloc (.cells cells'.toArray e)) := by
    have hn1 : ¬ (16777216 < 1 * sz) := by omega
    have hz0 : ¬ (1 * sz = 0) := by omega
    have f1' : Instr.fill (fun i => some (i * sz, sz)) ((Array.range (1 * sz)).map ((kdZero kd).cells[· % (kdZero kd).cells.size]!)) (parts.map fun p => (p.1, a.eval p.2)).toList = some cells'.toArray := by
      rw [hparts, ← f1]
    simp only [Array.toList_map] at f1'
    simp only [Nat.one_mul] at hn1 hz0 f1'
    simp [execOp, ho, Instr.buildSlice, run_underlying hu, sizeOf, typeInfo, zeroValue, hi, hz, hsz, hz0, hn1, newRow, f1']
  obtain ⟨z1, z2, z3⟩ : (kd.zeros 1).isSl = true ∧ (kd.zeros 1).len = 1 ∧ (kd.zeros 1).stride = sz := by rw [← q1]; cases kd <;> exact ⟨rfl, rfl, rfl⟩
  have hcell : ∀ j, j < sz → cells'[0 * sz + j]? = us[j]? := fun j hj => by
    have := f4 0 (a.eval x) j rfl hj
    rw [Nat.zero_add] at this
    rw [this, hus]; simp [Value.cells]
  refine finish_new (cl := (1, 1)) h hrun (fun g' n' hg' hn' hgo => ?_) (fun g' n' hg' hn' => .slc _ _ _ _ hn' hg') hK hk hN
  refine .hol _ 0 cs w.heap.size 1 cells' e (by rw [z2]; exact hg') z1 (heap_alloc_new w _) (by rw [f2, hzl, z3]) (by rw [z2]; exact Nat.le_refl _) (by rw [z2]; exact Nat.zero_lt_one) (by rw [z3]; exact q2) (fun i j y hi hne hy => by rw [z2] at hi; omega) (fun j hj => ?_) (fun hp v hv => by
    obtain ⟨m, hm⟩ := List.getElem?_of_mem hv
    have hml : m < sz := by have := (List.getElem?_eq_some_iff.1 hm).1; rw [f2, hzl] at this; omega
    have := hcell m hml
    rw [Nat.zero_mul, Nat.zero_add, hm] at this
    exact hvs.slVal (holOk_sl q4 (by cases kd <;> first | rfl | cases hp)) v (List.mem_of_getElem? this.symm))
  rw [z3] at hj ⊢
  have h1 : j < cs.length := by omega
  have h2 : j < us.length := by omega
  refine ⟨cs[j], us[j], List.getElem?_eq_getElem h1, by rw [hcell j hj]; exact List.getElem?_eq_getElem h2, hvs.one q3 _ (List.getElem_mem h2), ?_⟩
  exact (hur j _ _ (List.getElem?_eq_getElem h1) (List.getElem?_eq_getElem h2)).mono (fun _ h => h) (fun b hI => heap_push_lt _ _ (h.bound b hI)) (Nat.le_of_lt hn') hgo

/-- an empty literal -/
theorem sound_litEmpty (hT : TOk P T) {t : Nat} {parts : Array (Nat × Operand)} (ho : o.op = .buildSlice t 0 parts) (h : St X I g s a w) {e sz by' : Nat} {kd : Kd} (hti : T t = .slice e sz by' kd) (hps : parts.toList = [])
    (hk : s.alloc o.dst (.deep false 0 kd.empty []) (.slc s.nx) K) (hN : ∀ s' a' w', Sat X s' a' w' → K s' → N a' w') : o.wp P a w N Q := by
  have hK : ¬ X.K0 s.nx := fun hk => by have := h.low _ hk; omega
  obtain ⟨hu, i, hi, hsz, hbt, hz, hst, hb1, hb2⟩ := slice_facts hT hti
  have hp : parts = #[] := by apply Array.ext'; rw [hps]
  subst hp
  have hlen0 : kd.empty.len = 0 := by cases kd <;> rfl
  have hsl0 : kd.empty.isSl = true := by cases kd <;> rfl
  have hrun : (execOp a.eval o).run P w = .ok (.value (.slice (some ⟨w.heap.size, 0, none⟩) 0 0)) (w.alloc (.cells ([] : List Value).toArray e)) := by
    simp [execOp, ho, Instr.buildSlice, run_underlying hu, sizeOf, typeInfo, hi, hsz, newRow, Array.range_zero', Instr.fill]
  have hdeep : ∀ (g' : Gam) (n' : Nat), g' s.nx = some (w.heap.size, 0, 0) → RO I g' n' (w.alloc (.cells ([] : List Value).toArray e)) s.nx (.deep false 0 kd.empty []) ∧ ∀ b, ¬ Nst g' (w.alloc (.cells ([] : List Value).toArray e)) s.nx (.deep false 0 kd.empty []) b := fun g' n' hg' =>
    (RO.arr_of (x := kd.empty) (cap := 0) (by rw [hlen0]; exact hg') hsl0 (heap_alloc_new w _) (by simp) (by omega) (fun i j y hi => by omega) (fun _ v hv => by cases hv)).arr_deep fun cells b cap ty _ _ i j y hi => by omega
  exact finish_new (cl := (0, 0)) h hrun (fun g' n' hg' hn' _ => (hdeep g' n' hg').1) (fun g' n' hg' hn' => .slc _ _ _ _ hn' hg') hK hk hN (fun g' b hg' => (hdeep g' 0 hg').2 b)

theorem sound_buildSlice (hT : TOk P T) {t len : Nat} {parts : Array (Nat × Operand)} (ho : o.op = .buildSlice t len parts) (h : St X I g s a w) 
    (hk : vbuildSlice T t len (evp s.env parts.toList) s o.dst K) (hN : ∀ s' a' w', Sat X s' a' w' → K s' → N a' w') : o.wp P a w N Q := by
  have hK : ¬ X.K0 s.nx := fun hk => by have := h.low _ hk; omega
  unfold vbuildSlice at hk
  split at hk
  · rename_i e sz bytes kd hti
    obtain ⟨hu, i, hi, hsz, hbt, hz, hst, hb1, hb2⟩ := slice_facts hT hti
    split at hk
    · rename_i hlen
      have hlen9 := hlen
      have hlen := Nat.eq_of_beq_eq_true hlen
      rw [evp_eq, List.length_map] at hlen
      split at hk
      · rename_i hmax
        have hmax9 := hmax
        have hmax := Nat.le_of_ble_eq_true hmax
        by_cases hA : vlitA kd sz (evp s.env parts.toList) s o.dst K
        case neg =>
          split at hk
          · exact (hA hk).elim
          · split at hk
            · rename_i hps
              unfold vch at hk
              rcases hk with hk | hk
              · exact (hA (by rw [hps]; exact hk)).elim
              · split at hk
                · have hp0 : parts.toList = [] := by
                    cases hq : parts.toList with
                    | nil => rfl
                    | cons p t => obtain ⟨i, x⟩ := p; rw [hq] at hps; simp [evp] at hps
                  have hl0 : len = 0 := by rw [← hlen, hp0]; rfl
                  subst hl0
                  exact sound_litEmpty hT ho h hti hp0 hk hN
                · exact hk.elim
            · rename_i cs hps
              split at hk
              · rename_i hok
                unfold vch at hk
                rcases hk with hk | hk
                · exact (hA (by rw [hps]; exact hk)).elim
                · rw [forceL_eq] at hk
                  exact sound_litHol0 hT ho h hti hps hlen9 hmax9 hok hk hN
              · exact (hA (by rw [hps]; exact hk)).elim
            · exact (hA hk).elim
        replace hk := hA
        unfold vlitA at hk
        obtain ⟨s', I', vs', hs', hv', hk2, hI, hnx, hnt⟩ := vfz_sound _ s I _ _ _ h (h.evals parts.toList) hk
        split at hk2
        · rename_i x hx
          split at hk2
          · rename_i hst2
            have hst2 := Nat.eq_of_beq_eq_true hst2
            rw [C.force_eq] at hk2
            have hlen2 : vs'.length = parts.toList.length := by rw [hv'.1]; simp
            have hlen0 : kd.empty.len = 0 := by cases kd <;> rfl
            have hsl0 : kd.empty.isSl = true := by cases kd <;> rfl
            obtain ⟨r1, r2, r3, r4, r5, r6⟩ := buildParts_inv (evp s.env parts.toList) vs' _ 0 kd.empty x s'.nx hx hlen0 hsl0 hv' (by rw [evp_eq]; simp [hlen2])
            have hvals : ∀ v ∈ (parts.toList.map fun p => a.eval p.2), v.cells.size = sz := fun v hv => by
              obtain ⟨m, hm⟩ := List.getElem?_of_mem hv
              have := r5 m v hm
              rw [this.1, C.row_len _ _ r1, hst2]
            have hparts : (parts.map fun p => (p.1, a.eval p.2)).toList = ((parts.toList.map fun p => a.eval p.2).zipIdx 0).map fun p => (p.2, p.1) := by
              apply List.ext_getElem?
              intro m
              simp only [Array.toList_map, List.getElem?_map, List.getElem?_zipIdx]
              cases hq : parts.toList[m]? with
              | none => rfl
              | some p =>
                have := r6 m (p.1, evl s.env p.2) (by rw [evp_eq, List.getElem?_map, hq]; rfl)
                simp only [Nat.zero_add] at this
                simp [this]
            have hzl : ((Array.range (len * sz)).map ((kdZero kd).cells[· % (kdZero kd).cells.size]!)).toList.length = len * sz := by simp
            obtain ⟨cells', f1, f2, f3, f4⟩ := run_fill sz (parts.toList.map fun p => a.eval p.2) 0 ((Array.range (len * sz)).map ((kdZero kd).cells[· % (kdZero kd).cells.size]!)).toList hvals (by rw [hzl, Nat.zero_add, List.length_map, hlen]; exact Nat.le_refl _)
            have hrun : (execOp a.eval o).run P w = .ok (.value (.slice (some ⟨w.heap.size, 0, none⟩) len len)) (w.alloc (.cells cells'.toArray e)) := by
              have hn1 : ¬ (16777216 < len * sz) := by omega
              by_cases hz0 : len * sz = 0
              · have e0 : (Array.range 0).map (fun x => (#[] : Array Value)[x % 0]!) = #[] := by simp [Array.range_zero']
                have f1' : Instr.fill (fun i => some (i * sz, sz)) #[] (parts.map fun p => (p.1, a.eval p.2)).toList = some cells'.toArray := by
                  rw [hparts, ← f1]
                  congr 1
                  rw [hz0]; simp [Array.range_zero']
                simp only [Array.toList_map] at f1'
                simp [execOp, ho, Instr.buildSlice, run_underlying hu, sizeOf, typeInfo, hi, hsz, hz0, newRow, Array.range_zero', f1']
              · have f1' : Instr.fill (fun i => some (i * sz, sz)) ((Array.range (len * sz)).map ((kdZero kd).cells[· % (kdZero kd).cells.size]!)) (parts.map fun p => (p.1, a.eval p.2)).toList = some cells'.toArray := by
                  rw [hparts, ← f1]
                simp only [Array.toList_map] at f1'
                simp [execOp, ho, Instr.buildSlice, run_underlying hu, sizeOf, typeInfo, zeroValue, hi, hz, hsz, hz0, hn1, newRow, f1']
            have hxl : x.len = len := by rw [r3, hlen2, hlen]; omega
            refine finish_new (cl := (len, len)) hs' hrun (fun g' n' hg' hn' _ => ?_) (fun g' n' hg' hn' => ?_) (by rw [hnx]; exact hK) hk2 hN
            · refine RO.of_cells (w0 := w) (by rw [hxl]; exact hg') r1 (heap_alloc_new w _) (by rw [f2, hzl, hst2]) (by rw [hxl]; exact Nat.le_refl _) (fun b hI => heap_push_lt _ _ (hs'.bound b hI)) (fun k j y hk hy => ?_) hxl.symm
              have hjl : j < sz := by
                have := (List.getElem?_eq_some_iff.1 hy).1
                rwa [C.row_len _ _ r1, hst2] at this
              have hkl : k < parts.toList.length := by rw [hlen, ← hxl]; exact hk
              have hkv : (parts.toList.map fun p => a.eval p.2)[k]? = some (a.eval parts.toList[k].2) := by rw [List.getElem?_map, List.getElem?_eq_getElem hkl]; rfl
              have := r5 k _ hkv
              rw [Nat.zero_add] at this
              obtain ⟨u, u1, u2, _⟩ := this.2 j y hy
              refine ⟨u, ?_, u2⟩
              have := f4 k _ j hkv hjl
              rw [Nat.zero_add] at this
              rw [hst2, this, u1]
            · exact .slc _ _ _ _ hn' hg'
          · exact hk2.elim
        · exact hk2.elim
      · exact hk.elim
    · exact hk.elim
  · exact hk.elim

theorem buildAgg_inv {fs : List (Nat × Nat × Bool)} (parts : List (Nat × Operand)) : ∀ (cells cells' : List V) (vs : List Value), St X I g s a w →
    buildAgg fs cells (evp s.env parts) = some cells' → RVs I g s.nx w cells vs → (∀ p ∈ parts, (evl s.env p.2).one = true ∨ ∃ l, evl s.env p.2 = .agg l) →
    ∃ vs' : List Value, Instr.fill (fun i => (fs[i]?).map fun x => (x.1, x.2.1)) vs.toArray (parts.map fun p => (p.1, a.eval p.2)) = some vs'.toArray ∧ RVs I g s.nx w cells' vs' := by
  induction parts with
  | nil => intro cells cells' vs h hb hv _; cases hb; exact ⟨vs, rfl, hv⟩
  | cons p t ih =>
    intro cells cells' vs h hb hv h1
    obtain ⟨i, x⟩ := p
    simp only [evp, buildAgg] at hb
    split at hb
    · rename_i off sz ag hf
      split at hb
      · rename_i hsz
        have hsz := Nat.eq_of_beq_eq_true hsz
        split at hb
        · rename_i hle
          have hle := Nat.le_of_ble_eq_true hle
          have hcs := cells_size (h.eval x) (h1 (i, x) List.mem_cons_self)
          have hvs : (a.eval x).cells.size = sz := by rw [← hsz, hcs.1]; simp
          obtain ⟨vs', r1, r2⟩ := ih _ _ (putAt vs off (a.eval x).cells.toList) h hb (hv.putAt hcs off) (fun p hp => h1 p (List.mem_cons_of_mem _ hp))
          refine ⟨vs', ?_, r2⟩
          simp only [List.map_cons, Instr.fill, hf, Option.map_some, hvs]
          rw [if_neg (by simp [hv.1] at hle ⊢; omega)]
          have : Array.foldl (fun cs y => Array.setIfInBounds cs (off + y.2) y.1) vs.toArray (a.eval x).cells.zipIdx = (putAt vs off (a.eval x).cells.toList).toArray := by
            rw [← Array.foldl_toList, Array.toList_zipIdx]
            simpa using foldl_putAt (a.eval x).cells.toList off vs.toArray 0
          rw [this]
          exact r1
        · cases hb
      · cases hb
    · cases hb

theorem run_mapM_fields {fields : List Field} {fs : List (Nat × Nat × Bool)} (hok : fieldsOk P fields fs) (w : World) :
    ((fields.mapM fun f => do pure (f.offset, ← sizeOf f.type) : Sem (List (Nat × Nat)))).run P w = .ok (fs.map fun x => (x.1, x.2.1)) w := by
  induction fields generalizing fs with
  | nil => cases fs with
    | nil => simp
    | cons y t => exact hok.elim
  | cons f t ih => cases fs with
    | nil => exact hok.elim
    | cons y u =>
      obtain ⟨o1, o2, o3⟩ := y
      obtain ⟨h1, h2, h3, h4, h5, h6⟩ := hok
      have := ih h6
      simp only [bind_pure_comp] at this
      simp [List.mapM_cons, run_sizeOf' h2, h1, this]

theorem sound_build (hT : TOk P T) {t : Nat} {parts : Array (Nat × Operand)} (ho : o.op = .build t parts) (h : St X I g s a w)
    (h1 : ∀ p ∈ parts.toList, (evl s.env p.2).one = true ∨ ∃ l, evl s.env p.2 = .agg l)
    (hk : vbuild T t (evp s.env parts.toList) fun v => s.put o.dst v K) (hN : ∀ s' a' w', Sat X s' a' w' → K s' → N a' w') : o.wp P a w N Q := by
  unfold vbuild at hk
  split at hk
  · rename_i fs zs hti
    have hh := hT t
    rw [hti] at hh
    obtain ⟨⟨fields, hu, hok⟩, hs, ⟨cells, hz, hc⟩, _⟩ := hh
    split at hk
    · rename_i cs hcs
      have hz0 : RVs I g s.nx w zs cells := ⟨by rw [← hc]; simp, fun i x v hx hv => by
        rw [← hc, List.getElem?_map, hv] at hx; cases hx; exact RV_cval _ v⟩
      obtain ⟨vs', r1, r2⟩ := buildAgg_inv parts.toList zs cs cells h hcs hz0 h1
      refine finish_value (v := .agg cs) (val := .agg vs'.toArray) (w' := w) ?_ h (.agg cs vs' r2.1 r2.2) hk hN
      have hm := run_mapM_fields hok w
      have hm2 : ((fields.mapM fun f => do pure (f.offset, ← sizeOf f.type) : Sem (Array (Nat × Nat)))).run P w = .ok (fs.map fun x => (x.1, x.2.1)).toArray w := by
        have : (fields.mapM fun f => do pure (f.offset, ← sizeOf f.type) : Sem (Array (Nat × Nat))) = (do let l ← fields.toList.mapM (fun f => do pure (f.offset, ← sizeOf f.type) : Field → Sem (Nat × Nat)); pure l.toArray) := by
          rw [Array.mapM_eq_mapM_toList]; rfl
        rw [this]
        simp only [Sem.run_bind, hm]
        rfl
      have hpl : (fun i : Nat => ((fs.map fun x : Nat × Nat × Bool => (x.1, x.2.1)).toArray)[i]?) = fun i : Nat => (fs[i]?).map fun x => (x.1, x.2.1) := by
        funext i; simp
      simp only [execOp, ho, Instr.build, Sem.run_bind, run_zero' hz, Result.andThen_ok, run_underlying hu, hm2, hpl, Value.cells, Array.toList_map]
      simp [r1]
    · exact hk.elim
  · exact hk.elim
end
end Go.VL
