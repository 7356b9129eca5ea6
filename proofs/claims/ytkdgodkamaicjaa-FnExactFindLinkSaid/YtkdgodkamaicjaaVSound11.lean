/- V-logic, part 13: literals and make. -/
import Derived.Test.YtkdgodkamaicjaaVSound10
namespace Go.VL
section
variable {P : Program} {T : TT} {X : Cx} {I : Nat → Prop} {g : Gam} {s : S} {a : Act} {w : World} {o : Oper} {K : S → Prop}
  {N : Act → World → Prop} {Q : Exit → Act → World → Prop}

theorem run_vmake (hT : TOk P T) {t : Nat} {l c : Operand} (ho : o.op = .makeSlice t l c) (h : St X I g s a w) 
    (hk : vmake T t (evl s.env l) (evl s.env c) s o.dst K) (hN : ∀ s' a' w', Sat X s' a' w' → K s' → N a' w') : o.wp P a w N Q := by
  have hK : ¬ X.K0 s.nx := fun hk => by have := h.low _ hk; omega
  have hl := h.eval l
  have hc := h.eval c
  unfold vmake at hk
  split at hk
  · rename_i e sz bytes kd hti
    obtain ⟨hu, i, hi, hsz, hbt, hz, hst, hb1, hb2⟩ := slice_facts hT hti
    split at hk
    · rename_i p q e1 e2
      rw [e1] at hl; rw [e2] at hc
      split at hk
      · rename_i hss
        obtain ⟨⟨h0, rfl, h1⟩, hk2⟩ := vneed_true hk
        have hr := run_make (P := P) w t e i (kdZero kd) hu hi hz .i64 .i64 p p h0 (Int.le_refl _) (by
          have h2 : (i.bytes : Int) ≤ 4096 := by omega
          have h3 : (i.bytes : Int) * p ≤ 4096 * 4294967296 := Int.mul_le_mul h2 h1 h0 (by omega)
          omega) (by omega)
        obtain ⟨z1, z2, z3, z4⟩ := zeros_cells kd p.toNat
        have hsz2 : (kd.zeros p.toNat).stride = sz := by rw [z3, kdZero_size, hst]
        refine finish_new (cl := (p.toNat, p.toNat)) h (val := .slice (some ⟨w.heap.size, 0, none⟩) p.toNat p.toNat) (cells := madeCells (kdZero kd).cells (p.toNat * i.size)) (ty := e) ?_ (fun g' n' hg' hn' _ => ?_) (fun g' n' hg' hn' => ?_) hK hk2 hN
        · have e1 := hl.int_inv
          have e2 := hc.int_inv
          simp [execOp, ho, e1, e2, hr]
        · refine RO.of_cells (w0 := w) (cells := (madeCells (kdZero kd).cells (p.toNat * i.size)).toList) (by rw [z2]; exact hg') z1 (by simpa using heap_alloc_new w _) ?_ (by rw [z2]; exact Nat.le_refl _) (fun b hI => heap_push_lt _ _ (h.bound b hI)) (fun k j y hk hy => ?_) z2.symm
          · simp [size_madeCells, hsz, hsz2]
          · rw [z2] at hk
            obtain ⟨v, hv, hr⟩ := z4 k j y hk hy
            refine ⟨v, ?_, hr _ _⟩
            have hjl : j < sz := by
              have := (List.getElem?_eq_some_iff.1 hy).1
              rwa [C.row_len _ _ z1, hsz2] at this
            have hlt : k * sz + j < p.toNat * sz := by
              have : (k + 1) * sz ≤ p.toNat * sz := Nat.mul_le_mul_right _ hk
              rw [Nat.add_mul, Nat.one_mul] at this; omega
            rw [hsz2]
            have hmod : (k * sz + j) % sz = j := by rw [Nat.mul_comm, Nat.mul_add_mod, Nat.mod_eq_of_lt hjl]
            have hzs : (kdZero kd).cells.size = sz := by rw [kdZero_size, hst]
            obtain ⟨hj', hv'⟩ := Array.getElem?_eq_some_iff.1 hv
            simp [madeCells, hsz, hlt, hzs, hmod]
            rw [getElem!_pos (kdZero kd).cells j hj', hv']
        · exact .slc _ _ _ _ hn' hg'
      · exact hk.elim
    · exact hk.elim
  · exact hk.elim

theorem run_fill (size : Nat) (vals : List Value) : ∀ (k : Nat) (cells : List Value), (∀ v ∈ vals, v.cells.size = size) → (k + vals.length) * size ≤ cells.length →
    ∃ cells' : List Value, Instr.fill (fun i => some (i * size, size)) cells.toArray ((vals.zipIdx k).map fun p => (p.2, p.1)) = some cells'.toArray ∧ cells'.length = cells.length ∧
      (∀ q, q < k * size → cells'[q]? = cells[q]?) ∧ (∀ (m : Nat) v j, vals[m]? = some v → j < size → cells'[(k + m) * size + j]? = v.cells[j]?) := by
  induction vals with
  | nil => intro k cells _ _; exact ⟨cells, rfl, rfl, fun _ _ => rfl, by simp⟩
  | cons v t ih =>
    intro k cells hs hl
    have hv := hs v List.mem_cons_self
    simp only [List.length_cons] at hl
    have hkl : k * size + size ≤ cells.length := by
      have : (k + 1) * size ≤ (k + (t.length + 1)) * size := Nat.mul_le_mul_right _ (by omega)
      rw [Nat.add_mul, Nat.one_mul] at this; omega
    have hput := foldl_putAt v.cells.toList (k * size) cells.toArray 0
    obtain ⟨cells', h1, h2, h3, h4⟩ := ih (k + 1) (putAt cells (k * size) v.cells.toList) (fun u hu => hs u (List.mem_cons_of_mem _ hu)) (by rw [length_putAt, show k + 1 + t.length = k + (t.length + 1) from by omega]; exact hl)
    have hfit : k * size + v.cells.toList.length ≤ cells.length := by simpa [hv] using hkl
    refine ⟨cells', ?_, by rw [h2, length_putAt], fun q hq => ?_, fun m u j hm hj => ?_⟩
    · simp only [List.zipIdx_cons, List.map_cons, Instr.fill, hv]
      rw [if_neg (by simp; omega)]
      have : Array.foldl (fun cs x => Array.setIfInBounds cs (k * size + x.2) x.1) cells.toArray v.cells.zipIdx = (putAt cells (k * size) v.cells.toList).toArray := by
        rw [← Array.foldl_toList, Array.toList_zipIdx]
        simpa using hput
      rw [this]
      exact h1
    · rw [h3 q (by rw [Nat.add_mul]; omega), putAt_get _ _ _ hfit, if_neg (by omega)]
    · cases m with
      | zero =>
        cases hm
        have : (k + 0) * size + j < (k + 1) * size := by rw [Nat.add_zero, Nat.add_mul, Nat.one_mul]; omega
        rw [h3 _ this, putAt_get _ _ _ hfit, if_pos (by simp [hv]; omega)]
        simp
      | succ m =>
        have := h4 m u j (by simpa using hm) hj
        rw [show k + 1 + m = k + (m + 1) from by omega] at this
        exact this

theorem buildParts_inv (ps : List (Nat × V)) : ∀ (vs : List V) (vals : List Value) (k : Nat) (x y : C) (n : Nat), buildParts (zipP ps vs) k x = some y → x.len = k → x.isSl = true → RVs I g n w vs vals → ps.length = vs.length →
    y.isSl = true ∧ y.stride = x.stride ∧ y.len = k + vs.length ∧ (∀ i, i < k → y.row i = x.row i) ∧ (∀ (m : Nat) v, vals[m]? = some v → Elem I w (y.row (k + m)) v) ∧ ∀ (m : Nat) p, ps[m]? = some p → p.1 = k + m := by
  induction ps with
  | nil =>
    intro vs vals k x y n h hl hs hv hlen
    cases vs with
    | cons v t => simp at hlen
    | nil =>
      cases vals with
      | cons v t => have := hv.1; simp at this
      | nil => cases h; exact ⟨hs, rfl, by simpa using hl, fun _ _ => rfl, by simp, by simp⟩
  | cons p t ih =>
    intro vs vals k x y n h hl hs hv hlen
    obtain ⟨pi, pv⟩ := p
    cases vs with
    | nil => simp at hlen
    | cons v vs =>
      cases vals with
      | nil => have := hv.1; simp at this
      | cons u us =>
        simp only [zipP, buildParts] at h
        split at h
        · rename_i hik
          have hik := Nat.eq_of_beq_eq_true hik
          split at h
          · rename_i x1 hx1
            obtain ⟨s1, s2, s3, s4, s5, s6⟩ := snoc_inv hx1 (hv.2 0 _ _ rfl rfl)
            obtain ⟨r1, r2, r3, r4, r5, r6⟩ := ih vs us (k + 1) x1 y n h (by omega) s2 ⟨by have := hv.1; simpa using this, fun i x v hx hv' => hv.2 (i + 1) x v (by simpa using hx) (by simpa using hv')⟩ (by simpa using hlen)
            refine ⟨r1, by rw [r2, s3], by rw [r3]; simp; omega, fun i hi => by rw [r4 i (by omega), s5 i (by omega)], fun m v hm => ?_, fun m p hm => ?_⟩
            · cases m with
              | zero => cases hm; rw [Nat.add_zero, r4 k (by omega), ← hl]; exact s6
              | succ m => have := r5 m v (by simpa using hm); rwa [show k + 1 + m = k + (m + 1) from by omega] at this
            · cases m with
              | zero => cases hm; exact hik
              | succ m => have := r6 m p (by simpa using hm); omega
          · cases h
        · cases h

theorem evp_eq (env : List (Nat × V)) (l : List (Nat × Operand)) : evp env l = l.map fun p => (p.1, evl env p.2) := by
  induction l with
  | nil => rfl
  | cons p t ih => obtain ⟨i, x⟩ := p; simp [evp, ih]
theorem sndP_eq (l : List (Nat × V)) : sndP l = l.map (·.2) := by
  induction l with
  | nil => rfl
  | cons p t ih => obtain ⟨i, x⟩ := p; simp [sndP, ih]

theorem St.evals (h : St X I g s a w) (l : List (Nat × Operand)) : RVs I g s.nx w (sndP (evp s.env l)) (l.map fun p => a.eval p.2) := by
  rw [sndP_eq, evp_eq]
  refine ⟨by simp, fun i x v hx hv => ?_⟩
  simp only [List.getElem?_map] at hx hv
  cases hq : l[i]? with
  | none => rw [hq] at hx; cases hx
  | some p => rw [hq] at hx hv; cases hx; cases hv; exact h.eval p.2

theorem sound_buildSlice (hT : TOk P T) {t len : Nat} {parts : Array (Nat × Operand)} (ho : o.op = .buildSlice t len parts) (h : St X I g s a w) 
    (hk : vbuildSlice T t len (evp s.env parts.toList) s o.dst K) (hN : ∀ s' a' w', Sat X s' a' w' → K s' → N a' w') : o.wp P a w N Q := by
  have hK : ¬ X.K0 s.nx := fun hk => by have := h.low _ hk; omega
  unfold vbuildSlice at hk
  split at hk
  · rename_i e sz bytes kd hti
    obtain ⟨hu, i, hi, hsz, hbt, hz, hst, hb1, hb2⟩ := slice_facts hT hti
    split at hk
    · rename_i hlen
      have hlen := Nat.eq_of_beq_eq_true hlen
      rw [evp_eq, List.length_map] at hlen
      split at hk
      · rename_i hmax
        have hmax := Nat.le_of_ble_eq_true hmax
        obtain ⟨s', I', vs', hs', hv', hk2, hI, hnx, hnt⟩ := vfz_sound _ s I _ _ _ h (h.evals parts.toList) hk
        split at hk2
        · rename_i x hx
          split at hk2
          · rename_i hst2
            have hst2 := Nat.eq_of_beq_eq_true hst2
            rw [C.force_eq] at hk2
            have hlen2 : vs'.length = parts.toList.length := by rw [hv'.1]; simp
            have hlen0 : kd.empty.len = 0 := by cases kd <;> rfl
            have hsl0 : kd.empty.isSl = true := by cases kd <;> rfl
            obtain ⟨r1, r2, r3, r4, r5, r6⟩ := buildParts_inv (evp s.env parts.toList) vs' _ 0 kd.empty x s'.nx hx hlen0 hsl0 hv' (by rw [evp_eq]; simp [hlen2])
            have hvals : ∀ v ∈ (parts.toList.map fun p => a.eval p.2), v.cells.size = sz := fun v hv => by
              obtain ⟨m, hm⟩ := List.getElem?_of_mem hv
              have := r5 m v hm
              rw [this.1, C.row_len _ _ r1, hst2]
            have hparts : (parts.map fun p => (p.1, a.eval p.2)).toList = ((parts.toList.map fun p => a.eval p.2).zipIdx 0).map fun p => (p.2, p.1) := by
              apply List.ext_getElem?
              intro m
              simp only [Array.toList_map, List.getElem?_map, List.getElem?_zipIdx]
              cases hq : parts.toList[m]? with
              | none => rfl
              | some p =>
                have := r6 m (p.1, evl s.env p.2) (by rw [evp_eq, List.getElem?_map, hq]; rfl)
                simp only [Nat.zero_add] at this
                simp [this]
            have hzl : ((Array.range (len * sz)).map ((kdZero kd).cells[· % (kdZero kd).cells.size]!)).toList.length = len * sz := by simp
            obtain ⟨cells', f1, f2, f3, f4⟩ := run_fill sz (parts.toList.map fun p => a.eval p.2) 0 ((Array.range (len * sz)).map ((kdZero kd).cells[· % (kdZero kd).cells.size]!)).toList hvals (by rw [hzl, Nat.zero_add, List.length_map, hlen]; exact Nat.le_refl _)
            have hrun : (execOp a.eval o).run P w = .ok (.value (.slice (some ⟨w.heap.size, 0, none⟩) len len)) (w.alloc (.cells cells'.toArray e)) := by
              have hn1 : ¬ (16777216 < len * sz) := by omega
              by_cases hz0 : len * sz = 0
              · have e0 : (Array.range 0).map (fun x => (#[] : Array Value)[x % 0]!) = #[] := by simp [Array.range_zero']
                have f1' : Instr.fill (fun i => some (i * sz, sz)) #[] (parts.map fun p => (p.1, a.eval p.2)).toList = some cells'.toArray := by
                  rw [hparts, ← f1]
                  congr 1
                  rw [hz0]; simp [Array.range_zero']
                simp only [Array.toList_map] at f1'
                simp [execOp, ho, Instr.buildSlice, run_underlying hu, sizeOf, typeInfo, hi, hsz, hz0, newRow, Array.range_zero', f1']
              · have f1' : Instr.fill (fun i => some (i * sz, sz)) ((Array.range (len * sz)).map ((kdZero kd).cells[· % (kdZero kd).cells.size]!)) (parts.map fun p => (p.1, a.eval p.2)).toList = some cells'.toArray := by
                  rw [hparts, ← f1]
                simp only [Array.toList_map] at f1'
                simp [execOp, ho, Instr.buildSlice, run_underlying hu, sizeOf, typeInfo, zeroValue, hi, hz, hsz, hz0, hn1, newRow, f1']
            have hxl : x.len = len := by rw [r3, hlen2, hlen]; omega
            refine finish_new (cl := (len, len)) hs' hrun (fun g' n' hg' hn' _ => ?_) (fun g' n' hg' hn' => ?_) (by rw [hnx]; exact hK) hk2 hN
            · refine RO.of_cells (w0 := w) (by rw [hxl]; exact hg') r1 (heap_alloc_new w _) (by rw [f2, hzl, hst2]) (by rw [hxl]; exact Nat.le_refl _) (fun b hI => heap_push_lt _ _ (hs'.bound b hI)) (fun k j y hk hy => ?_) hxl.symm
              have hjl : j < sz := by
                have := (List.getElem?_eq_some_iff.1 hy).1
                rwa [C.row_len _ _ r1, hst2] at this
              have hkl : k < parts.toList.length := by rw [hlen, ← hxl]; exact hk
              have hkv : (parts.toList.map fun p => a.eval p.2)[k]? = some (a.eval parts.toList[k].2) := by rw [List.getElem?_map, List.getElem?_eq_getElem hkl]; rfl
              have := r5 k _ hkv
              rw [Nat.zero_add] at this
              obtain ⟨u, u1, u2, _⟩ := this.2 j y hy
              refine ⟨u, ?_, u2⟩
              have := f4 k _ j hkv hjl
              rw [Nat.zero_add] at this
              rw [hst2, this, u1]
            · exact .slc _ _ _ _ hn' hg'
          · exact hk2.elim
        · exact hk2.elim
      · exact hk.elim
    · exact hk.elim
  · exact hk.elim

theorem buildAgg_inv {fs : List (Nat × Nat × Bool)} (parts : List (Nat × Operand)) : ∀ (cells cells' : List V) (vs : List Value), St X I g s a w →
    buildAgg fs cells (evp s.env parts) = some cells' → RVs I g s.nx w cells vs → (∀ p ∈ parts, (evl s.env p.2).one = true ∨ ∃ l, evl s.env p.2 = .agg l) →
    ∃ vs' : List Value, Instr.fill (fun i => (fs[i]?).map fun x => (x.1, x.2.1)) vs.toArray (parts.map fun p => (p.1, a.eval p.2)) = some vs'.toArray ∧ RVs I g s.nx w cells' vs' := by
  induction parts with
  | nil => intro cells cells' vs h hb hv _; cases hb; exact ⟨vs, rfl, hv⟩
  | cons p t ih =>
    intro cells cells' vs h hb hv h1
    obtain ⟨i, x⟩ := p
    simp only [evp, buildAgg] at hb
    split at hb
    · rename_i off sz ag hf
      split at hb
      · rename_i hsz
        have hsz := Nat.eq_of_beq_eq_true hsz
        split at hb
        · rename_i hle
          have hle := Nat.le_of_ble_eq_true hle
          have hcs := cells_size (h.eval x) (h1 (i, x) List.mem_cons_self)
          have hvs : (a.eval x).cells.size = sz := by rw [← hsz, hcs.1]; simp
          obtain ⟨vs', r1, r2⟩ := ih _ _ (putAt vs off (a.eval x).cells.toList) h hb (hv.putAt hcs off) (fun p hp => h1 p (List.mem_cons_of_mem _ hp))
          refine ⟨vs', ?_, r2⟩
          simp only [List.map_cons, Instr.fill, hf, Option.map_some, hvs]
          rw [if_neg (by simp [hv.1] at hle ⊢; omega)]
          have : Array.foldl (fun cs y => Array.setIfInBounds cs (off + y.2) y.1) vs.toArray (a.eval x).cells.zipIdx = (putAt vs off (a.eval x).cells.toList).toArray := by
            rw [← Array.foldl_toList, Array.toList_zipIdx]
            simpa using foldl_putAt (a.eval x).cells.toList off vs.toArray 0
          rw [this]
          exact r1
        · cases hb
      · cases hb
    · cases hb

theorem run_mapM_fields {fields : List Field} {fs : List (Nat × Nat × Bool)} (hok : fieldsOk P fields fs) (w : World) :
    ((fields.mapM fun f => do pure (f.offset, ← sizeOf f.type) : Sem (List (Nat × Nat)))).run P w = .ok (fs.map fun x => (x.1, x.2.1)) w := by
  induction fields generalizing fs with
  | nil => cases fs with
    | nil => simp
    | cons y t => exact hok.elim
  | cons f t ih => cases fs with
    | nil => exact hok.elim
    | cons y u =>
      obtain ⟨o1, o2, o3⟩ := y
      obtain ⟨h1, h2, h3, h4, h5, h6⟩ := hok
      have := ih h6
      simp only [bind_pure_comp] at this
      simp [List.mapM_cons, run_sizeOf' h2, h1, this]

theorem sound_build (hT : TOk P T) {t : Nat} {parts : Array (Nat × Operand)} (ho : o.op = .build t parts) (h : St X I g s a w)
    (h1 : ∀ p ∈ parts.toList, (evl s.env p.2).one = true ∨ ∃ l, evl s.env p.2 = .agg l)
    (hk : vbuild T t (evp s.env parts.toList) fun v => s.put o.dst v K) (hN : ∀ s' a' w', Sat X s' a' w' → K s' → N a' w') : o.wp P a w N Q := by
  unfold vbuild at hk
  split at hk
  · rename_i fs zs hti
    have hh := hT t
    rw [hti] at hh
    obtain ⟨⟨fields, hu, hok⟩, hs, ⟨cells, hz, hc⟩, _⟩ := hh
    split at hk
    · rename_i cs hcs
      have hz0 : RVs I g s.nx w zs cells := ⟨by rw [← hc]; simp, fun i x v hx hv => by
        rw [← hc, List.getElem?_map, hv] at hx; cases hx; exact RV_cval _ v⟩
      obtain ⟨vs', r1, r2⟩ := buildAgg_inv parts.toList zs cs cells h hcs hz0 h1
      refine finish_value (v := .agg cs) (val := .agg vs'.toArray) (w' := w) ?_ h (.agg cs vs' r2.1 r2.2) hk hN
      have hm := run_mapM_fields hok w
      have hm2 : ((fields.mapM fun f => do pure (f.offset, ← sizeOf f.type) : Sem (Array (Nat × Nat)))).run P w = .ok (fs.map fun x => (x.1, x.2.1)).toArray w := by
        have : (fields.mapM fun f => do pure (f.offset, ← sizeOf f.type) : Sem (Array (Nat × Nat))) = (do let l ← fields.toList.mapM (fun f => do pure (f.offset, ← sizeOf f.type) : Field → Sem (Nat × Nat)); pure l.toArray) := by
          rw [Array.mapM_eq_mapM_toList]; rfl
        rw [this]
        simp only [Sem.run_bind, hm]
        rfl
      have hpl : (fun i : Nat => ((fs.map fun x : Nat × Nat × Bool => (x.1, x.2.1)).toArray)[i]?) = fun i : Nat => (fs[i]?).map fun x => (x.1, x.2.1) := by
        funext i; simp
      simp only [execOp, ho, Instr.build, Sem.run_bind, run_zero' hz, Result.andThen_ok, run_underlying hu, hm2, hpl, Value.cells, Array.toList_map]
      simp [r1]
    · exact hk.elim
  · exact hk.elim
end
end Go.VL
