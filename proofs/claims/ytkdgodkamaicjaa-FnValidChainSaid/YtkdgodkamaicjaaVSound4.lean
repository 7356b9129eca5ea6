/- V-logic, part 6: the other operations that only compute. -/
import Derived.Test.YtkdgodkamaicjaaVSound3
namespace Go.VL
set_option linter.unusedVariables false
set_option linter.unusedSimpArgs false
section
variable {P : Program} {T : TT} {X : Cx} {I : Nat → Prop} {g : Gam} {s : S} {a : Act} {w : World} {o : Oper} {K : S → Prop}
  {N : Act → World → Prop} {Q : Exit → Act → World → Prop}

theorem run_vun {op : UnOp} {x : V} {n : Nat} {vx : Value} {KV : V → Prop} (hx : RV I g n w x vx) (hk : vun op x KV) :
    ∃ y val, (Op.unary op vx).run P w = .ok val w ∧ RV I g n w y val ∧ KV y := by
  unfold vun at hk
  split at hk
  · split at hk
    · rw [hx.tt_inv]; exact ⟨_, _, by simp [Op.unary], .ff, hk⟩
    · rw [hx.ff_inv]; exact ⟨_, _, by simp [Op.unary], .tt, hk⟩
    · rw [hx.bool_inv]; exact ⟨_, _, by simp [Op.unary], RV.mkbool _ _, hk⟩
    · exact hk.elim
  · split at hk
    · rename_i k m; rw [hx.int_inv]; exact ⟨.c (.int k (k.wrap (0 - m))), .int k (k.wrap (0 - m)), by simp [Op.unary, Op.intArith], RV.mkint _ _ _, vint_true hk⟩
    · exact hk.elim
  · exact hk.elim

theorem run_vconv (hT : TOk P T) {src d : Nat} {x : V} {n : Nat} {vx : Value} {KV : V → Prop} (hx : RV I g n w x vx) (hk : vconv T d x KV) (hsrc : ∃ i, P.underlying src = some (TypeDesc.int i)) :
    ∃ y val, (convert src d vx).run P w = .ok val w ∧ RV I g n w y val ∧ KV y := by
  unfold vconv at hk
  split at hk
  · rename_i k z j m hd
    have h := hT d
    rw [hd] at h
    have hu := h.2.2.2.1 k z rfl
    obtain ⟨i, hi⟩ := hsrc
    rw [hx.int_inv]
    exact ⟨_, _, by simp [convert, run_underlying hi, run_underlying hu, Conv.intToInt], RV.mkint _ _ _, vint_true hk⟩
  · exact hk.elim

theorem run_vmm {isMax : Bool} {xs : List V} {n : Nat} {vs : List Value} {ts : Array TypeId} {t : TypeId} {KV : V → Prop} (hl : xs.length = vs.length)
    (hx : ∀ (i : Nat) x v, xs[i]? = some x → vs[i]? = some v → RV I g n w x v) (hk : vmm isMax xs KV) :
    ∃ y val, (if isMax then Builtin.max_ ts t vs.toArray else Builtin.min_ ts t vs.toArray).run P w = .ok val w ∧ RV I g n w y val ∧ KV y := by
  unfold vmm at hk
  split at hk
  · rename_i k p k' q
    match vs, hl with
    | [v1, v2], _ =>
      have e1 := (hx 0 _ _ rfl rfl).int_inv
      have e2 := (hx 1 _ _ rfl rfl).int_inv
      subst e1 e2
      split at hk
      · rename_i hs
        have := sameK_eq hs
        subst this
        split at hk
        · exact ⟨_, _, by simp [Builtin.max_, Builtin.max2], RV.mkint _ _ _, hk⟩
        · exact ⟨_, _, by simp [Builtin.min_, Builtin.min2], RV.mkint _ _ _, hk⟩
      · exact hk.elim
  · exact hk.elim

/-- a slice of whatever kind: its value -/
theorem RC.slice_inv {x : C} {v : Value} (h : RC I w x v) (hs : x.isSl = true) : ∃ a cap, v = .slice a x.len cap ∧ x.len ≤ cap ∧ (x.len = 0 ∨ ∃ b off, a = some ⟨b, off, none⟩ ∧ I b ∧
    ∀ i, i < x.len → ∀ n g, RowV I g n w b (off + i * x.stride) (vcells (x.row i))) := by
  cases h with
  | int => cases hs
  | bool => cases hs
  | empty _ a cap _ h0 => exact ⟨a, cap, by rw [h0], by omega, .inl h0⟩
  | sl _ b off cap val _ hI hcap hc hr =>
    refine ⟨_, cap, rfl, hcap, .inr ⟨b, off, rfl, hI, fun i hi n g j y hy => ?_⟩⟩
    rw [vcells_get] at hy
    cases hj : (x.row i)[j]? with
    | none => rw [hj] at hy; cases hy
    | some z => rw [hj] at hy; cases hy; exact ⟨_, hc i j z hi hj, .c _ _ (hr i j z hi hj)⟩

theorem RC.of_rows {x : C} (hs : x.isSl = true) {b off cap : Nat} (hI : I b) (hcap : x.len ≤ cap)
    (h : ∀ i, i < x.len → RowV I (fun _ => none) 0 w b (off + i * x.stride) (vcells (x.row i))) : RC I w x (.slice (some ⟨b, off, none⟩) x.len cap) := by
  have hval : ∀ i j : Nat, ∃ v : Value, ∀ z, i < x.len → (x.row i)[j]? = some z → w.cell? ⟨b, off + i * x.stride + j, none⟩ = some v ∧ RC I w z v := by
    intro i j
    by_cases hi : i < x.len
    · cases hj : (x.row i)[j]? with
      | none => exact ⟨undef, fun z _ hz => by cases hz⟩
      | some z =>
        obtain ⟨v, h1, h2⟩ := h i hi j (.c z) (by rw [vcells_get, hj]; rfl)
        cases h2 with
        | c _ _ h2 => exact ⟨v, fun z' _ hz => by cases hz; exact ⟨h1, h2⟩⟩
    · exact ⟨undef, fun z hi' _ => (hi hi').elim⟩
  exact .sl x b off cap (fun i j => (hval i j).choose) hs hI hcap (fun i j z hi hz => ((hval i j).choose_spec z hi hz).1) (fun i j z hi hz => ((hval i j).choose_spec z hi hz).2)

theorem run_len {ts : Array TypeId} {t t0 : TypeId} {e : TypeId} (ht : ts[0]? = some t0) (hu : P.underlying t0 = some (.slice e)) (b : Option Addr) (n c : Nat) :
    (Builtin.len_ ts t #[.slice b n c]).run P w = .ok (.int .i64 n) w := by
  simp [Builtin.len_, ht, run_underlying hu, goInt]

theorem run_vlen {ts : Array TypeId} {t t0 : TypeId} {e : TypeId} {x : V} {v : Value} {KV : V → Prop} (ht : ts[0]? = some t0) (hu : P.underlying t0 = some (.slice e))
    (hh : HOk I g s.nx w s.hp) (hv : RV I g s.nx w x v) (hk : vlen (lookH s.hp) x KV) : ∃ y val, (Builtin.len_ ts t #[v]).run P w = .ok val w ∧ RV I g s.nx w y val ∧ KV y := by
  unfold vlen at hk
  split at hk
  · cases hv; exact ⟨_, _, run_len ht hu _ _ _, RV.mkint _ _ _, hk⟩
  · split at hk
    · rename_i l hs
      cases hv with | c _ _ hv =>
      obtain ⟨a, cap, rfl, _⟩ := hv.slice_inv hs
      exact ⟨_, _, run_len ht hu _ _ _, RV.mkint _ _ _, hk⟩
    · exact hk.elim
  · rename_i id
    split at hk
    · rename_i l hl
      have ho := (hh.obj id _ (lookH_mem hl)).2
      cases hv with
      | slc _ len b cap hn hg =>
        cases ho with
        | none _ hg' => rw [hg] at hg'; cases hg'
        | arr _ b' cap' cells ty hg' => rw [hg] at hg'; cases hg'; exact ⟨_, _, run_len ht hu _ _ _, RV.mkint _ _ _, hk⟩
      | slc0 _ hn hg =>
        cases ho with
        | none _ hg' hs h0 => rw [h0] at hk; exact ⟨_, _, run_len ht hu _ _ _, RV.mkint _ _ _, hk⟩
        | arr _ b' cap' cells ty hg' => rw [hg] at hg'; cases hg'
    · rename_i l hi us hl
      have ho := (hh.obj id _ (lookH_mem hl)).2
      cases ho with
      | hol _ _ _ b' cap' cells ty hg' =>
      cases hv with
      | slc _ len b cap hn hg => rw [hg] at hg'; cases hg'; exact ⟨_, _, run_len ht hu _ _ _, RV.mkint _ _ _, hk⟩
      | slc0 _ hn hg => rw [hg] at hg'; cases hg'
    · rename_i q f l hs hl
      have ho := (hh.obj id _ (lookH_mem hl)).2
      cases hv with
      | slc _ len b cap hn hg =>
        cases ho with
        | deep0 _ _ _ hg' => rw [hg] at hg'; cases hg'
        | deep _ _ _ _ b' cap' cells ty hg' => rw [hg] at hg'; cases hg'; exact ⟨_, _, run_len ht hu _ _ _, RV.mkint _ _ _, hk⟩
      | slc0 _ hn hg =>
        cases ho with
        | deep0 _ _ _ hg' hs h0 => rw [h0] at hk; exact ⟨_, _, run_len ht hu _ _ _, RV.mkint _ _ _, hk⟩
        | deep _ _ _ _ b' cap' cells ty hg' => rw [hg] at hg'; cases hg'
    · exact hk.elim
  · exact hk.elim

theorem fieldsOk_get {fields : List Field} {fs : List (Nat × Nat × Bool)} (h : fieldsOk P fields fs) {i : Nat} {x : Nat × Nat × Bool} (hx : fs[i]? = some x) :
    ∃ f : Field, fields[i]? = some f ∧ f.offset = x.1 ∧ sizeIs P f.type x.2.1 ∧ 0 < x.2.1 ∧ aggIs P f.type x.2.2 ∧ (x.2.2 = false → x.2.1 = 1) := by
  induction fields generalizing fs i with
  | nil => cases fs with
    | nil => cases hx
    | cons y t => exact h.elim
  | cons f fields ih => cases fs with
    | nil => exact h.elim
    | cons y t =>
      obtain ⟨o1, o2, o3⟩ := y
      obtain ⟨h1, h2, h3, h4, h5, h6⟩ := h
      cases i with
      | zero => cases hx; exact ⟨f, rfl, h1, h2, h3, h4, h5⟩
      | succ i => exact ih h6 (by simpa using hx)

theorem run_fieldAt {t : Nat} {fields : Array Field} (hu : P.underlying t = some (.struct fields)) {f : Nat} {fd : Field} (hf : fields[f]? = some fd) {sz : Nat} (hs : sizeIs P fd.type sz) (h0 : 0 < sz)
    (b off : Nat) : (Instr.fieldAt t (.pointer (some ⟨b, off, none⟩)) f).run P w = .ok (.pointer (some ⟨b, off + fd.offset, none⟩)) w := by
  have : sz ≠ 0 := by omega
  simp [Instr.fieldAt, run_underlying hu, hf, Instr.sureAddr, fieldPlace, run_sizeOf' hs, this, addr_add]

theorem run_vfieldAddr (hT : TOk P T) {t f : Nat} {x : V} {n : Nat} {v : Value} {KV : V → Prop} (hv : RV I g n w x v) (hk : vfieldAddr T t x f KV) :
    ∃ y val, (Instr.fieldAt t v f).run P w = .ok val w ∧ RV I g n w y val ∧ KV y := by
  unfold vfieldAddr at hk
  have hfd : ∀ z, (T t).field f = some z → ∃ (fields : Array Field) (fd : Field), P.underlying t = some (.struct fields) ∧ fields[f]? = some fd ∧ fd.offset = z.1 ∧ ∃ sz, sizeIs P fd.type sz ∧ 0 < sz := by
    intro z hz
    have h := hT t
    cases hti : T t with
    | struct fs zs =>
      rw [hti] at h hz
      obtain ⟨⟨fields, hu, hok⟩, _⟩ := h
      obtain ⟨fd, h1, h2, h3, h4, _⟩ := fieldsOk_get hok (show fs[f]? = some z from hz)
      exact ⟨fields, fd, hu, by simpa using h1, h2, _, h3, h4⟩
    | boxb fs pre m post =>
      rw [hti] at h hz
      obtain ⟨⟨fields, hu, hok⟩, _⟩ := h
      obtain ⟨fd, h1, h2, h3, h4, _⟩ := fieldsOk_get hok (show fs[f]? = some z from hz)
      exact ⟨fields, fd, hu, by simpa using h1, h2, _, h3, h4⟩
    | _ => rw [hti] at hz; cases hz
  split at hk
  · rename_i off p q hz
    obtain ⟨fields, fd, hu, hf, ho, sz, hs, h0⟩ := hfd _ hz
    simp only at ho
    split at hk
    · rename_i row
      cases hv with
      | iptr _ b off' val hI hc hr =>
        refine ⟨_, _, run_fieldAt hu hf hs h0 b off', ?_, hk⟩
        rw [ho]
        refine .iptr _ b (off' + off) (fun j => val (off + j)) hI (fun j y hy => ?_) (fun j y hy => ?_)
        · rw [List.getElem?_drop] at hy; rw [Nat.add_assoc]; exact hc _ y hy
        · rw [List.getElem?_drop] at hy; exact hr _ y hy
    · rename_i id i st j
      cases hv with
      | ptr _ _ _ _ b cl hn hg =>
        refine ⟨_, _, run_fieldAt hu hf hs h0 b _, ?_, hk⟩
        rw [ho, Nat.add_assoc]
        exact .ptr _ _ _ _ b cl hn hg
    · exact hk.elim
  · exact hk.elim

theorem nthV_get {l : List V} {k : Nat} {v : V} (h : nthV l k = some v) : l[k]? = some v := by
  induction l generalizing k with
  | nil => cases h
  | cons y l ih => cases k with
    | zero => exact h
    | succ k => simpa using ih h

theorem run_vfield (hT : TOk P T) {t f : Nat} {x : V} {n : Nat} {v : Value} {KV : V → Prop} (hv : RV I g n w x v) (hk : vfield T t x f KV) :
    ∃ y val, (Instr.field t v f).run P w = .ok val w ∧ RV I g n w y val ∧ KV y := by
  unfold vfield at hk
  split at hk
  · rename_i fs zs hti
    have h := hT t
    rw [hti] at h
    obtain ⟨⟨fields, hu, hok⟩, _⟩ := h
    split at hk
    · rename_i off sz ag hz
      obtain ⟨fd, h1, h2, h3, h4, h5, h6⟩ := fieldsOk_get hok hz
      simp only at h2 h3 h4 h5 h6
      have hf : fields[f]? = some fd := by simpa using h1
      split at hk
      · rename_i xs
        obtain ⟨vs, rfl, hl, hr⟩ := hv.agg_inv
        split at hk
        · split at hk
          · split at hk
            · rename_i hle
              have hle := Nat.le_of_ble_eq_true hle
              refine ⟨_, .agg ((vs.drop off).take sz).toArray, ?_, .agg _ _ (by simp [hl]) (fun i x v hx hv => ?_), hk⟩
              · simp only [Instr.field, Sem.run_bind, run_underlying hu, Result.andThen_ok, hf, asAgg, Sem.run_pure, part, run_isAgg' h5, if_true, run_sizeOf' h3, h2]
                congr 2
                apply Array.ext'
                simp
              · rw [List.getElem?_take, List.getElem?_drop] at hx hv
                split at hx
                · rename_i hlt; rw [if_pos hlt] at hv; exact hr _ _ _ hx hv
                · cases hx
            · exact hk.elim
          · split at hk
            · rename_i y hy
              rw [V.force_eq] at hk
              have hy := nthV_get hy
              have hlt : off < vs.length := by rw [← hl]; exact (List.getElem?_eq_some_iff.1 hy).1
              refine ⟨_, vs[off], ?_, hr _ _ _ hy (List.getElem?_eq_getElem hlt), hk⟩
              simp [Instr.field, run_underlying hu, hf, asAgg, part, run_isAgg' h5, h2, hlt]
            · exact hk.elim
        · exact hk.elim
      · exact hk.elim
    · exact hk.elim
  · exact hk.elim

theorem run_indexSlice {t e sz : Nat} (hu : P.underlying t = some (.slice e)) (hs : sizeIs P e sz) {k : IntKind} {i : Int} {b off len cap : Nat} (h0 : 0 ≤ i) (h1 : i < len) :
    (Instr.indexAt t (.slice (some ⟨b, off, none⟩) len cap) (.int k i)).run P w = .ok (.pointer (some ⟨b, off + i.toNat * sz, none⟩)) w := by
  simp [Instr.indexAt, asIntOf, run_underlying hu, h0, h1, run_sizeOf' hs, addr_add]

theorem run_vindexAddr (hT : TOk P T) (hh : HOk I g s.nx w s.hp) {t : Nat} {x ix : V} {v vi : Value} {KV : V → Prop} (hv : RV I g s.nx w x v) (hi : RV I g s.nx w ix vi)
    (hk : vindexAddr T (lookH s.hp) t x ix KV) : ∃ y val, (Instr.indexAt t v vi).run P w = .ok val w ∧ RV I g s.nx w y val ∧ KV y := by
  unfold vindexAddr at hk
  split at hk
  · rename_i k i
    rw [hi.int_inv]
    have h := hT t
    split at hk
    · rename_i e sz bytes kd hti
      rw [hti] at h
      obtain ⟨hu, _, _, hinfo, _⟩ := h
      have hs : sizeIs P e sz := by
        unfold sizeIs; cases hq : P.info? e with
        | none => rw [hq] at hinfo; cases hinfo
        | some i => rw [hq] at hinfo; simp at hinfo ⊢; exact hinfo.1
      split at hk
      · rename_i l
        split at hk
        · rename_i hst
          have hst := Nat.eq_of_beq_eq_true hst
          obtain ⟨⟨hsl, h0, h1⟩, hk2⟩ := vneed_true hk
          cases hv with | c _ _ hv =>
          obtain ⟨a, cap, rfl, _, h3⟩ := hv.slice_inv hsl
          rcases h3 with h3 | ⟨b, off, rfl, hI, hrow⟩
          · omega
          · refine ⟨_, _, run_indexSlice hu hs h0 h1, ?_, hk2⟩
            have hr := hrow i.toNat (by omega) 0 (fun _ => none)
            rw [hst] at hr
            have hval : ∀ j : Nat, ∃ v : Value, ∀ z, (l.row i.toNat)[j]? = some z → w.cell? ⟨b, off + i.toNat * sz + j, none⟩ = some v ∧ RC I w z v := by
              intro j
              cases hj : (l.row i.toNat)[j]? with
              | none => exact ⟨undef, fun z hz => by cases hz⟩
              | some z =>
                obtain ⟨v, h1, h2⟩ := hr j (.c z) (by rw [vcells_get, hj]; rfl)
                cases h2 with
                | c _ _ h2 => exact ⟨v, fun z' hz => by cases hz; exact ⟨h1, h2⟩⟩
            exact .iptr _ b _ (fun j => (hval j).choose) hI (fun j z hz => ((hval j).choose_spec z hz).1) (fun j z hz => ((hval j).choose_spec z hz).2)
        · exact hk.elim
      · rename_i id
        split at hk
        · rename_i l hl
          split at hk
          · rename_i hst
            have hst := Nat.eq_of_beq_eq_true hst
            obtain ⟨⟨h0, h1⟩, hk2⟩ := vneed_true hk
            have ho := (hh.obj id _ (lookH_mem hl)).2
            cases hv with
            | slc _ len b cap hn hg =>
              cases ho with
              | none _ hg' => rw [hg] at hg'; cases hg'
              | arr _ b' cap' cells ty hg' =>
                have e := hg
                rw [hg'] at e; cases e
                refine ⟨_, _, run_indexSlice hu hs h0 h1, ?_, hk2⟩
                have := RV.ptr (I := I) (w := w) id i.toNat sz 0 b _ hn hg
                simpa using this
            | slc0 _ hn hg =>
              cases ho with
              | none _ hg' hs' h0' => omega
              | arr _ b' cap' cells ty hg' => rw [hg] at hg'; cases hg'
          · exact hk.elim
        · rename_i l hi us hl
          split at hk
          · rename_i hst
            have hst := Nat.eq_of_beq_eq_true hst
            obtain ⟨⟨h0, h1⟩, hk2⟩ := vneed_true hk
            have ho := (hh.obj id _ (lookH_mem hl)).2
            cases ho with
            | hol _ _ _ b' cap' cells ty hg' =>
            cases hv with
            | slc _ len b cap hn hg =>
              have e := hg
              rw [hg'] at e; cases e
              refine ⟨_, _, run_indexSlice hu hs h0 h1, ?_, hk2⟩
              have := RV.ptr (I := I) (w := w) id i.toNat sz 0 _ _ hn hg
              simpa using this
            | slc0 _ hn hg => rw [hg] at hg'; cases hg'
          · exact hk.elim
        · rename_i q f l hs' hl
          split at hk
          · rename_i hst
            have hst := Nat.eq_of_beq_eq_true hst
            obtain ⟨⟨h0, h1⟩, hk2⟩ := vneed_true hk
            have ho := (hh.obj id _ (lookH_mem hl)).2
            cases hv with
            | slc _ len b cap hn hg =>
              cases ho with
              | deep0 _ _ _ hg' => rw [hg] at hg'; cases hg'
              | deep _ _ _ _ b' cap' cells ty hg' =>
                have e := hg
                rw [hg'] at e; cases e
                refine ⟨_, _, run_indexSlice hu hs h0 h1, ?_, hk2⟩
                have := RV.ptr (I := I) (w := w) id i.toNat sz 0 b _ hn hg
                simpa using this
            | slc0 _ hn hg =>
              cases ho with
              | deep0 _ _ _ hg' hs' h0' => omega
              | deep _ _ _ _ b' cap' cells ty hg' => rw [hg] at hg'; cases hg'
          · exact hk.elim
        · exact hk.elim
      · exact hk.elim
    · rename_i m e kd hti
      rw [hti] at h
      obtain ⟨hu, hs, _, _, _, _, _, hm⟩ := h
      split at hk
      · rename_i id st j
        obtain ⟨⟨h0, h1⟩, hk2⟩ := vneed_true hk
        cases hv with
        | ptr _ _ _ _ b cl hn hg =>
          refine ⟨.ptr id i.toNat 1 j, .pointer (some ⟨b, i.toNat * 1 + j, none⟩), ?_, .ptr _ _ _ _ b cl hn hg, hk2⟩
          simp [Instr.indexAt, asIntOf, run_underlying hu, Instr.sureAddr, h0, h1, run_sizeOf' hs, addr_add, Nat.add_comm]
      · exact hk.elim
    · exact hk.elim
  · exact hk.elim

end
end Go.VL
