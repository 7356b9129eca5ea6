/- V-logic, part 16: every operation. -/
import Derived.Test.YtkdgodkamaicjaaVSound13
namespace Go.VL
set_option linter.unusedVariables false
set_option linter.unusedSimpArgs false
def PairEq (P : Program) (t : Nat) : Prop :=
  P.eqGuardType P.depth t = false ∧ ∀ a b c d : Int, ∀ w : World, (Op.equal t (.agg #[.int .i64 a, .int .i64 b]) (.agg #[.int .i64 c, .int .i64 d])).run P w = .ok (a == c && b == d) w
def EOk (P : Program) (T : TT) : Prop := ∀ t, pairT (T t) = true → PairEq P t
section
variable {P : Program} {T : TT} {X : Cx} {I : Nat → Prop} {g : Gam} {s : S} {a : Act} {w : World} {o : Oper} {K : S → Prop}
  {N : Act → World → Prop} {Q : Exit → Act → World → Prop}

theorem S.put_mono {dst : Option Nat} {v : V} {K' : S → Prop} (h : ∀ s, K s → K' s) (hk : s.put dst v K) : s.put dst v K' := by
  cases dst with
  | none => rw [S.put_none] at hk ⊢; exact h _ hk
  | some d => rw [S.put_some] at hk ⊢; exact ⟨hk.1, h _ hk.2⟩

theorem oneAgg_inv {v : V} (h : v.oneAgg = true) : v.one = true ∨ ∃ l, v = .agg l := by
  cases v with
  | agg l => exact .inr ⟨l, rfl⟩
  | _ => exact .inl h

theorem evp_get {env : List (Nat × V)} {l : List (Nat × Operand)} (h : oneAggL (evp env l) = true) : ∀ p ∈ l, (evl env p.2).one = true ∨ ∃ k, evl env p.2 = .agg k := by
  induction l with
  | nil => intro p hp; cases hp
  | cons q t ih =>
    obtain ⟨i, x⟩ := q
    simp only [evp, oneAggL] at h
    split at h
    · rename_i h1
      intro p hp
      rcases List.mem_cons.1 hp with hp | hp
      · subst hp; exact oneAgg_inv h1
      · exact ih h p hp
    · cases h

/-- an operation that only computes a value -/
theorem sound_value {v : Sem Value} (hv : ∀ val, v.run P w = .ok val w → (execOp a.eval o).run P w = .ok (.value val) w) (h : St X I g s a w)
    (hk : ∃ y val, v.run P w = .ok val w ∧ RV I g s.nx w y val ∧ s.put o.dst y K) (hN : ∀ s' a' w', Sat X s' a' w' → K s' → N a' w') : o.wp P a w N Q := by
  obtain ⟨y, val, h1, h2, h3⟩ := hk
  exact finish_value (hv val h1) h h2 h3 hN

theorem sound_builtin (hT : TOk P T) {c : Call} {b : Builtin} (ho : o.op = .call c) (hc : c.callee = .builtin b) (h : St X I g s a w)
    (hk : vbuiltin T b c.argTypes.toList (evs s.env c.args.toList) s o.dst K) (hN : ∀ s' a' w', Sat X s' a' w' → K s' → N a' w') : o.wp P a w N Q := by
  have hargs := h.evals' c.args.toList
  have hvals : (c.args.map a.eval).toList = c.args.toList.map a.eval := by simp
  unfold vbuiltin at hk
  split at hk
  · rename_i x he
    rw [he] at hargs
    split at hk
    · rename_i t ts hts
      split at hk
      · rename_i e sz by' kd hti
        obtain ⟨v, hv⟩ : ∃ v, c.args.toList.map a.eval = [v] := by
          have := hargs.1
          match hq : c.args.toList.map a.eval, this with
          | [v], _ => exact ⟨v, rfl⟩
        have hx := hargs.2 0 x v rfl (by rw [hv]; rfl)
        have harr : c.args.map a.eval = #[v] := by apply Array.ext'; rw [hvals, hv]
        have hu := (slice_facts hT hti).1
        have h0 : c.argTypes[0]? = some t := by rw [← Array.getElem?_toList, hts]; rfl
        obtain ⟨y, val, r1, r2, r3⟩ := run_vlen (t := o.type) h0 hu h.heap hx hk
        exact finish_value (by simp [execOp, ho, resolve, hc, invoke, builtin, harr, r1]) h r2 r3 hN
      · exact hk.elim
    · exact hk.elim
  · rename_i x y he
    rw [he] at hargs
    split at hk
    · rename_i t t' hts
      split at hk
      · rename_i e sz by' kd hti
        have hlen : ∃ p q, c.args.toList = [p, q] := by
          have : (evs s.env c.args.toList).length = 2 := by rw [he]; rfl
          rw [evs_eq, List.length_map] at this
          match hq : c.args.toList, this with
          | [p, q], _ => exact ⟨p, q, rfl⟩
        obtain ⟨p, q, hpq⟩ := hlen
        rw [hpq] at he
        simp only [evs, List.cons.injEq, and_true] at he
        obtain ⟨rfl, rfl⟩ := he
        have harr : c.args.map a.eval = #[a.eval p, a.eval q] := by apply Array.ext'; rw [hvals, hpq]; rfl
        have hat : c.argTypes = #[t, t'] := by apply Array.ext'; rw [hts]
        refine sound_append hT ⟨_, _, _, _, hti⟩ (fun v w' hr => ?_) h hk hN
        simp [execOp, ho, resolve, hc, invoke, builtin, harr, hat, hr]
      · exact hk.elim
    · exact hk.elim
  · rename_i x y he
    rw [he] at hargs
    obtain ⟨z, val, r1, r2, r3⟩ := run_vmm (P := P) (ts := c.argTypes) (t := o.type) (isMax := false) hargs.1 hargs.2 hk
    have harr : c.args.map a.eval = (c.args.toList.map a.eval).toArray := by apply Array.ext'; simp
    simp only [Bool.false_eq_true, if_false] at r1
    exact finish_value (by simp only [execOp, ho, resolve, hc, invoke, builtin, Sem.run_bind, Sem.run_pure, Result.andThen_ok]; rw [harr, r1]; rfl) h r2 r3 hN
  · rename_i x y he
    rw [he] at hargs
    obtain ⟨z, val, r1, r2, r3⟩ := run_vmm (P := P) (ts := c.argTypes) (t := o.type) (isMax := true) hargs.1 hargs.2 hk
    have harr : c.args.map a.eval = (c.args.toList.map a.eval).toArray := by apply Array.ext'; simp
    simp only [if_true] at r1
    exact finish_value (by simp only [execOp, ho, resolve, hc, invoke, builtin, Sem.run_bind, Sem.run_pure, Result.andThen_ok]; rw [harr, r1]; rfl) h r2 r3 hN
  · exact hk.elim

theorem sound_op (hT : TOk P T) (hE : EOk P T) (h : St X I g s a w) (hk : vop T P o s K) (hN : ∀ s' a' w', Sat X s' a' w' → K s' → N a' w') : o.wp P a w N Q := by
  unfold vop at hk
  split at hk
  · rename_i x ho; exact sound_move (.inl ho) h hk hN
  · rename_i x ho; exact sound_move (.inr ho) h hk hN
  · rename_i c x y ho; exact sound_pick ho h hk hN
  · rename_i t ho; exact sound_alloc hT ho h hk hN
  · rename_i t x ho
    split at hk
    · rename_i h1; exact sound_box ho h (oneAgg_inv h1) hk hN
    · exact hk.elim
  · rename_i t parts ho
    split at hk
    · rename_i h1; exact sound_build hT ho h (evp_get h1) hk hN
    · exact hk.elim
  · rename_i t len parts ho; exact sound_buildSlice hT ho h hk hN
  · rename_i t x ho
    exact sound_value (fun val hr => by simp [execOp, ho, hr]) h (run_vload hT h.heap (h.eval x) hk) hN
  · rename_i t x y ho
    split at hk
    · rename_i hok; exact sound_store hT ho h hok hk hN
    · exact hk.elim
  · rename_i x ho
    have hx := h.eval x
    split at hk
    · rename_i row he
      rw [he] at hx
      have hx' := hx
      cases hq : a.eval x with
      | pointer p =>
        rw [hq] at hx
        cases hx with
        | iptr _ b off val hI hc hr =>
          refine finish_value (v := .iptr row) (val := .pointer (some ⟨b, off, none⟩)) (w' := w) (by simp [execOp, ho, hq]) h (by rw [hq] at hx'; exact hx') hk hN
      | _ => rw [hq] at hx; cases hx
    · rename_i i p st j he
      rw [he] at hx
      have hx' := hx
      cases hq : a.eval x with
      | pointer p =>
        rw [hq] at hx
        cases hx with
        | ptr _ _ _ _ b cl hn hg =>
          refine finish_value (v := _) (val := _) (w' := w) (by simp [execOp, ho, hq]; rfl) h (by rw [hq] at hx'; exact hx') hk hN
      | _ => rw [hq] at hx; cases hx
    · exact hk.elim
  · rename_i op t x y yt ho
    split at hk
    · rename_i hok
      obtain ⟨v, val, r1, r2, r3⟩ := run_vbin (P := P) (t := t) (ox := x) (oy := y) (h.eval x) (h.eval y) hk (fun ⟨b, b', hb, _⟩ => by
        have hbt : boolT (T t) = true := by
          unfold vbinOk at hok
          split at hok
          · rename_i l he; rw [he] at hb; cases hb
          · rename_i k m he; rw [he] at hb; cases hb
          · exact hok
        unfold boolT at hbt
        split at hbt
        · rename_i hti; have := hT t; rw [hti] at this; exact this.2.2.2.2 rfl
        · cases hbt) (fun ⟨l, hl⟩ => by
        unfold vbinOk at hok
        rw [hl] at hok
        exact hE t hok)
      exact finish_value (by simp only [execOp, ho, Sem.run_bind]; simp only [Sem.run_bind] at r1; rw [r1]; rfl) h r2 r3 hN
    · exact hk.elim
  · rename_i op t x ho
    exact sound_value (fun val hr => by simp [execOp, ho, hr]) h (run_vun (h.eval x) hk) hN
  · rename_i r d x ho
    split at hk
    · rename_i hok
      refine sound_value (fun val hr => by simp [execOp, ho, hr]) h (run_vconv hT (src := r) (h.eval x) hk ?_) hN
      unfold intT at hok
      split at hok
      · rename_i k m hti; have := hT r; rw [hti] at this; exact ⟨k, this.2.2.2.1 k m rfl⟩
      · cases hok
    · exact hk.elim
  · rename_i t l c ho; exact run_vmake hT ho h hk hN
  · rename_i t x lo hi mx ho
    obtain ⟨s', I', vs', h, _, hk, _, _, _⟩ := vfz_sound _ s I [] [] _ h ⟨rfl, by simp⟩ hk
    refine sound_value (v := Instr.sliceAt t (a.eval x) (lo.map a.eval) (hi.map a.eval) (mx.map a.eval)) (fun val hr => by simp [execOp, ho, hr]) h (run_vslice hT (h.eval x) (fun y hy => ?_) (fun e => ?_) (fun y hy => ?_) (fun e => ?_) (fun e => ?_) hk) hN
    · cases lo with
      | none => cases hy
      | some z => cases hy; exact ⟨_, rfl, h.eval z⟩
    · cases lo with
      | none => rfl
      | some z => cases e
    · cases hi with
      | none => cases hy
      | some z => cases hy; exact ⟨_, rfl, h.eval z⟩
    · cases hi with
      | none => rfl
      | some z => cases e
    · cases mx with
      | none => rfl
      | some z => cases e
  · rename_i t x f ho
    exact sound_value (fun val hr => by simp [execOp, ho, hr]) h (run_vfieldAddr hT (h.eval x) hk) hN
  · rename_i t x f ho
    exact sound_value (fun val hr => by simp [execOp, ho, hr]) h (run_vfield hT (h.eval x) hk) hN
  · rename_i t x ix ho
    exact sound_value (fun val hr => by simp [execOp, ho, hr]) h (run_vindexAddr hT h.heap (h.eval x) (h.eval ix) hk) hN
  · rename_i x i ho
    have hx := h.eval x
    split at hk
    · rename_i vs he
      rw [he] at hx
      split at hk
      · rename_i v hv
        have hv := nthV_get hv
        obtain ⟨us, hu, hl, hr⟩ := hx.tup_inv
        have hlt : i < us.length := by rw [← hl]; exact (List.getElem?_eq_some_iff.1 hv).1
        exact finish_value (v := v) (val := us[i]) (w' := w) (by simp [execOp, ho, hu, Instr.extract, hlt]) h (hr i v _ hv (List.getElem?_eq_getElem hlt)) hk hN
      · exact hk.elim
    · exact hk.elim
  · rename_i fn first captured ho
    split at hk
    · rename_i f hf
      have hfe : first = #[] := by apply Array.ext'; rw [hf]
      have hargs := h.evals' captured.toList
      refine finish_value (v := .fn f _) (val := .func (.func f) #[] (captured.toList.map a.eval).toArray) (w' := w) ?_ h (.fn f _ _ hargs.1 hargs.2) hk hN
      have hca : captured.map a.eval = (captured.toList.map a.eval).toArray := by apply Array.ext'; simp
      simp only [execOp, ho, Instr.makeFunc, hfe, hca, Sem.run_bind, Sem.run_pure, Result.andThen_ok]
      simp
    · exact hk.elim
  · rename_i c ho
    split at hk
    · rename_i b hc; exact sound_builtin hT ho hc h hk hN
    · rename_i f hc
      split at hk
      · rename_i g' caps he; exact sound_call ho hc h he hk hN
      · exact hk.elim
    · exact hk.elim
  · exact hk.elim
end
end Go.VL
