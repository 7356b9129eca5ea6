/- V-logic, part 18: the whole. -/
import Derived.Test.YtkdgodkamaicjaaVGhost2
namespace Go.VL
set_option linter.unusedVariables false
set_option linter.unusedSimpArgs false
section
variable {P : Program} {T : TT} {X : Cx} {I : Nat → Prop} {g : Gam} {s : S} {a : Act} {w : World} {o : Oper} {K : S → Prop}
  {N : Act → World → Prop} {Q : Exit → Act → World → Prop}

/-- a region that draws its order: what must be shown of it -/
def DrawOk (P : Program) (T : TT) : Prop :=
  ∀ (X : Cx) (id : Nat) (ops : Array Oper) (s : S) (a : Act) (w : World) (K : S → Prop) (Q : Exit → Act → World → Prop), Sat X s a w → vdraw T P ops.toList s K →
    (∀ s' a' w', Sat X s' a' w' → K s' → Q .normal a' w') → (Code.region id ops true).wp P Q a w

theorem vpre_sound {n0 : Nat} (hl0 : ∀ id, X.K0 id → id < n0) {s : S} {a : Act} {w : World} {K : S → Prop} (h : Sat X s a w) (hk : vpre n0 s K) : ∃ s', Sat X s' a w ∧ K s' := by
  unfold vpre at hk
  split at hk
  · exact ⟨s, h, hk⟩
  · unfold vpreI at hk
    obtain ⟨l, hk⟩ := hk
    obtain ⟨I, g, hs⟩ := h
    obtain ⟨s', I', g', hs', hk2⟩ := vgh_sound hl0 l hs hk
    exact ⟨s', ⟨I', g', hs'⟩, hk2⟩

theorem sound_code (hT : TOk P T) (hE : EOk P T) (hD : DrawOk P T) (n0 : Nat) (hlow : ∀ id, X.K0 id → id < n0) (c : Code) : ∀ {Qv : Exit → S → Prop} {Q : Exit → Act → World → Prop} {s : S} {a : Act} {w : World}, Sat X s a w → vwp n0 T P c Qv s →
    (∀ e s' a' w', Sat X s' a' w' → Qv e s' → Q e a' w') → c.wp P Q a w := by
  induction c with
  | skip => intro Qv Q s a w h hk hQ; exact wp_skip (hQ _ _ _ _ h hk)
  | region id ops draw =>
    intro Qv Q s a w h hk hQ
    cases draw with
    | true =>
      have hk : vpre n0 s fun s => vdraw T P ops.toList s (Qv .normal) := hk
      obtain ⟨s1, h1, hk1⟩ := vpre_sound hlow h hk
      exact hD X id ops s1 a w _ Q h1 hk1 fun s' a' w' h' hk' => hQ _ _ _ _ h' hk'
    | false =>
      have hk : vpre n0 s fun s => vops T P ops.toList ops.toList s (Qv .normal) := hk
      obtain ⟨s1, h1, hk1⟩ := vpre_sound hlow h hk
      exact wp_region_list (sound_ops hT hE ops.toList h1 hk1 fun s' a' w' h' hk' => hQ _ _ _ _ h' hk')
  | seq x y ihx ihy =>
    intro Qv Q s a w h hk hQ
    refine wp_seq (ihx h hk fun e s' a' w' h' hk' => ?_)
    cases e with
    | normal => exact ihy h' hk' hQ
    | _ => exact hQ _ _ _ _ h' hk'
  | cond c x y ihx ihy =>
    intro Qv Q s a w h hk hQ
    obtain ⟨I, g, hs⟩ := h
    have hc := hs.eval c
    simp only [vwp] at hk
    split at hk
    · rename_i he; rw [he] at hc; exact wp_cond_true hc.tt_inv (ihx ⟨I, g, hs⟩ hk hQ)
    · rename_i he; rw [he] at hc; exact wp_cond_false hc.ff_inv (ihy ⟨I, g, hs⟩ hk hQ)
    · rename_i p he
      rw [he] at hc
      obtain ⟨k1, k2⟩ := vif_true hk
      exact wp_cond_split hc.bool_inv (fun hp => ihx ⟨I, g, hs⟩ (k1 hp) hQ) (fun hp => ihy ⟨I, g, hs⟩ (k2 hp) hQ)
    · exact hk.elim
  | block id c ih =>
    intro Qv Q s a w h hk hQ
    refine wp_block (ih h hk fun e s' a' w' h' hk' => ?_)
    cases e with
    | exit i =>
      simp only [Exit.inBlock]
      simp only at hk'
      split at hk'
      · rename_i he
        rw [if_pos (Nat.eq_of_beq_eq_true he)]; exact hQ _ _ _ _ h' hk'
      · rename_i he
        rw [if_neg (Nat.ne_of_beq_eq_false he)]; exact hQ _ _ _ _ h' hk'
    | _ => exact hQ _ _ _ _ h' hk'
  | loop c ih =>
    intro Qv Q s a w h hk hQ
    simp only [vwp] at hk
    unfold vloop at hk
    obtain ⟨ι, st, μ, i0, hn, h0, hr⟩ := hk
    refine wp_loop_ghost (fun n a w => ∃ i, μ i = n ∧ Sat X (st i) a w) (μ i0) ⟨i0, rfl, h.ent h0 hlow fun id hid => Nat.lt_of_lt_of_le (hlow id hid) (hn i0)⟩ ?_
    rintro n a w ⟨i, rfl, hi⟩
    refine ih hi (hr i) fun e s' a' w' h' hk' => ?_
    cases e with
    | normal =>
      obtain ⟨i', he, hlt⟩ := hk'
      exact ⟨μ i', hlt, i', rfl, h'.ent he hlow fun id hid => Nat.lt_of_lt_of_le (hlow id hid) (hn i')⟩
    | _ => exact hQ _ _ _ _ h' hk'
  | exit id => intro Qv Q s a w h hk hQ; exact wp_exit (hQ _ _ _ _ h hk)
  | ret => intro Qv Q s a w h hk hQ; exact wp_ret (hQ _ _ _ _ h hk)
  | rangeFunc => intro Qv Q s a w h hk hQ; exact hk.elim
  | scope => intro Qv Q s a w h hk hQ; exact hk.elim
  | label => intro Qv Q s a w h hk hQ; exact hk.elim
  | goto => intro Qv Q s a w h hk hQ; exact hk.elim
  | refuse => intro Qv Q s a w h hk hQ; exact hk.elim

def resVar (tmps : Array Value) : ResultVar → Sem Value
  | .tmp t => pure (tmps.getD t undef)
  | .cell x t => do loadVar t (← asAddr (tmps.getD x undef))
theorem results_eq (fn : Func) (tmps : Array Value) : results fn tmps = (do let vs ← fn.results.mapM (resVar tmps); pure (if h : vs.size = 1 then vs[0] else .tuple vs)) := by
  unfold results
  congr 1

theorem run_vresults (hT : TOk P T) (h : St X I g s a w) (rs : List ResultVar) : ∀ {KV : List V → Prop}, vresults T s rs KV →
    ∃ ys vals, (rs.mapM (resVar a.tmps)).run P w = .ok vals w ∧ RVs I g s.nx w ys vals ∧ KV ys := by
  induction rs with
  | nil => intro KV hk; exact ⟨[], [], by simp, ⟨rfl, by simp⟩, hk⟩
  | cons r t ih =>
    intro KV hk
    cases r with
    | tmp k =>
      simp only [vresults, V.force_eq] at hk
      obtain ⟨ys, vals, r1, r2, r3⟩ := ih hk
      refine ⟨look s.env k :: ys, a.tmps.getD k undef :: vals, ?_, ⟨by simp [r2.1], fun i x v hx hv => ?_⟩, r3⟩
      · simp only [List.mapM_cons, Sem.run_bind, resVar, Sem.run_pure, Result.andThen_ok, r1]
      · cases i with
        | zero => cases hx; cases hv; exact h.slots k
        | succ i => exact r2.2 i x v (by simpa using hx) (by simpa using hv)
    | cell k ty =>
      simp only [vresults] at hk
      obtain ⟨y, val, r1, r2, r3⟩ := run_vload hT h.heap (h.slots k) hk
      obtain ⟨ys, vals, q1, q2, q3⟩ := ih r3
      refine ⟨y :: ys, val :: vals, ?_, ⟨by simp [q2.1], fun i x v hx hv => ?_⟩, q3⟩
      · have : (resVar a.tmps (.cell k ty)).run P w = .ok val w := by
          show (do loadVar ty (← asAddr (a.tmps.getD k undef)) : Sem Value).run P w = _
          have hs := h.slots k
          generalize a.tmps.getD k undef = vv at r1 hs ⊢
          cases vv with
          | pointer p =>
            cases p with
            | some p => simpa [Instr.loadAt, Instr.sureAddr, asAddr] using r1
            | none => simp [Instr.loadAt, Instr.sureAddr] at r1
          | _ => simp [Instr.loadAt, Instr.sureAddr] at r1
        simp only [List.mapM_cons, Sem.run_bind, this, Sem.run_pure, Result.andThen_ok, q1]
      · cases i with
        | zero => cases hx; cases hv; exact r2
        | succ i => exact q2.2 i x v (by simpa using hx) (by simpa using hv)

theorem run_results (hT : TOk P T) (h : St X I g s a w) {fn : Func} {KV : List V → Prop} (hk : vresults T s fn.results.toList KV) :
    ∃ ys val, (results fn a.tmps).run P w = .ok val w ∧ RV I g s.nx w (oneOrTup ys) val ∧ KV ys := by
  obtain ⟨ys, vals, r1, r2, r3⟩ := run_vresults hT h fn.results.toList hk
  have hm : (fn.results.mapM (resVar a.tmps)).run P w = .ok vals.toArray w := by
    rw [Array.mapM_eq_mapM_toList]
    simp only [Sem.run_map, r1, Result.andThen_ok]
  have hr : (results fn a.tmps).run P w = .ok (if h : vals.toArray.size = 1 then vals.toArray[0] else .tuple vals.toArray) w := by
    rw [results_eq]
    simp only [Sem.run_bind]
    rw [hm]
    rfl
  refine ⟨ys, _, hr, ?_, r3⟩
  match ys, vals, r2 with
  | [], [], r2 => exact .tup [] [] rfl (by simp)
  | [y], [v], r2 => exact r2.2 0 y v rfl rfl
  | y1 :: y2 :: ys, v1 :: v2 :: vs, r2 =>
    have : ¬ (v1 :: v2 :: vs).toArray.size = 1 := by simp
    rw [dif_neg this]
    exact .tup _ _ r2.1 r2.2
  | [], v :: vs, r2 => have := r2.1; simp at this
  | y :: ys, [], r2 => have := r2.1; simp at this
  | [y], v1 :: v2 :: vs, r2 => have := r2.1; simp at this
  | y1 :: y2 :: ys, [v], r2 => have := r2.1; simp at this

theorem enumE_look (args : List V) : ∀ (k j : Nat), look (enumE args k) j = if k ≤ j then (args[j - k]?).getD .any else .any := by
  induction args with
  | nil => intro k j; simp [enumE, look]
  | cons v t ih =>
    intro k j
    simp only [enumE, look_cons, ih]
    by_cases h1 : k = j
    · subst h1; simp
    · by_cases h2 : k ≤ j
      · rw [if_neg h1, if_pos (by omega), if_pos h2, show j - k = (j - (k + 1)) + 1 from by omega, List.getElem?_cons_succ]
      · rw [if_neg h1, if_neg (by omega), if_neg h2]

theorem spec_of_vbody (hT : TOk P T) (hE : EOk P T) (hD : DrawOk P T) {f n m : Nat} {fn : Func} {c : Code} {args : List V} {hin hout : List (Nat × O)} {res : V}
    (hf : P.funcs[f]? = some fn) (hname : (fn.name == "runtime.NumGoroutine") = false) (hb : fn.body = some c) (hnt : Nat.ble args.length fn.ntmps = true) (hst : boxesStay2 hin hout = true)
    (h : vbody T P fn c n args hin m res hout) : Spec P f n args hin m res hout := by
  refine ⟨⟨fn, hf, hname, by rw [hb]; rfl⟩, fun W I g argv hI hH hlen hargs => ?_⟩
  have hnt := Nat.le_of_ble_eq_true hnt
  have hst0 := hst
  refine calls_of_wp hf hb ?_
  let X : Cx := ⟨W, I, Dom g W hin, fun id => ∃ o, (id, o) ∈ hin ∧ o.isBox = true, g⟩
  have h0 : Sat X { nt := fn.ntmps, nx := n, env := enumE args 0, hp := hin } { tmps := argv.toArray ++ Array.replicate (fn.ntmps - argv.toArray.size) undef, defers := [] } W := by
    refine ⟨I, g, rfl, by simp; omega, fun j => ?_, hH, hI, fun _ h => h, fun b hb => .inl hb, fun b hb => .inr hb, fun id o hm hb hK => rfl, ⟨rfl, rfl, rfl, Nat.le_refl _, fun _ _ _ => rfl⟩, fun id ⟨o, hm, _⟩ => (hH.obj id o hm).1⟩
    show RV I g n W (look (enumE args 0) j) _
    rw [enumE_look, if_pos (Nat.zero_le j), Nat.sub_zero]
    cases hq : args[j]? with
    | none => exact .any _
    | some x =>
      have hj : j < args.length := (List.getElem?_eq_some_iff.1 hq).1
      have hj' : j < argv.length := by omega
      have : (argv.toArray ++ Array.replicate (fn.ntmps - argv.toArray.size) undef).getD j undef = argv[j] := by
        rw [Array.getD_eq_getD_getElem?, Array.getElem?_append_left (by simpa using hj')]
        simp [hj']
      rw [this]
      exact hargs j x _ hq (List.getElem?_eq_getElem hj')
  have hK : ∀ id, X.K0 id → id < n := fun id hid => by obtain ⟨o, hm, _⟩ := hid; exact (hH.obj id o hm).1
  have hend : ∀ e s' a' w', Sat X s' a' w' → (e = .normal ∨ e = .ret) → (vpre n s' fun s' => vresults T s' fn.results.toList fun vs => vend n m res hout s' (oneOrTup vs)) → bodyPost P fn (fun e w' => ∃ (v : Value) (I' : Nat → Prop) (g' : Gam), e = .returned v ∧
      (∀ b, I b → I' b) ∧ (∀ b, I' b → I b ∨ W.heap.size ≤ b ∨ Dom g W hin b) ∧ (∀ b, I' b → b < w'.heap.size) ∧
      HOk I' g' m w' hout ∧ RV I' g' m w' res v ∧
      (∀ id o o', (id, o) ∈ hin → (id, o') ∈ hout → o'.isBox = true → g' id = g id) ∧
      (∀ b, Dom g' w' hout b → W.heap.size ≤ b ∨ Dom g W hin b) ∧ Fr (Dom g W hin) W w') e a' w' := by
    rintro e s' a' w' hs0 he hk0
    obtain ⟨s', ⟨I1, g1, hs⟩, hk⟩ := vpre_sound hK hs0 hk0
    obtain ⟨ys, val, r1, r2, r3⟩ := run_results hT hs hk
    unfold vend at r3
    obtain ⟨fz, bk, r3⟩ := r3
    obtain ⟨s2, I2, vs2, hs2, hv2, ⟨k1, k2, k3, k4, k5, k6, k7, k8⟩, hI2, hnx, hnt2⟩ := vfz_sound fz s' I1 [oneOrTup ys] [val] _ hs ⟨rfl, fun i x v hx hv => by
      cases i with
      | zero => cases hx; cases hv; exact r2
      | succ i => simp at hx⟩ r3
    replace hs2 := hs2.cnv
    have hnd := nodupN_iff.1 k3
    have hlen2 := Nat.eq_of_beq_eq_true k4
    have hH2 := hs2.heap.rename hnd (Nat.le_of_eq hlen2) k2 k6 k7
    have hres : RV I2 (fun i => g1 (rnf bk i)) m w' res val := by
      split at k1
      · rename_i v
        have := hv2.2 0 _ _ rfl rfl
        exact (V.nrm_RV k1 this).unren res rfl k5
      · exact k1.elim
    have hP : a'.defers = [] ∧ ∃ v, (results fn a'.tmps).run P w' = .ok v w' ∧ ∃ (v' : Value) (I' : Nat → Prop) (g' : Gam), Ending.returned v = .returned v' ∧
      (∀ b, I b → I' b) ∧ (∀ b, I' b → I b ∨ W.heap.size ≤ b ∨ Dom g W hin b) ∧ (∀ b, I' b → b < w'.heap.size) ∧
      HOk I' g' m w' hout ∧ RV I' g' m w' res v' ∧
      (∀ id o o', (id, o) ∈ hin → (id, o') ∈ hout → o'.isBox = true → g' id = g id) ∧
      (∀ b, Dom g' w' hout b → W.heap.size ≤ b ∨ Dom g W hin b) ∧ Fr (Dom g W hin) W w' := by
      refine ⟨hs.df, val, r1, val, I2, fun i => g1 (rnf bk i), rfl, hs2.up, hs2.down, hs2.bound, hH2, hres, fun id o o' hmi hmo hbx => ?_, ?_, hs2.fr⟩
      · have hst := stayIn_get k8 id o' hmo hbx (hH.obj id o hmi).1
        obtain ⟨o2, h1, h2⟩ := entH_get k2 id o' hmo
        rw [hst] at h1
        show g1 (rnf bk id) = g id
        rw [hst]
        have hb2 : o2.isBox = true := by rw [O.nrm_box h2, O.isBox_map]; exact hbx
        by_cases hob : o.isBox = true
        · exact hs2.keep id o2 (lookH_mem h1) hb2 ⟨o, hmi, hob⟩
        · exact (hob (boxesStay2_get hst0 id o' hmo hbx o (mem_lookH hH.nodup hmi))).elim
      · rintro b ⟨i, o', hmi, hg⟩
        obtain ⟨o2, h1, h2⟩ := entH_get k2 i o' hmi
        exact hs2.own b ⟨_, o2, lookH_mem h1, hg.ren.nrm h2⟩
    rcases he with rfl | rfl
    · exact hP
    · exact hP
  refine sound_code (X := X) hT hE hD n hK c h0 h fun e s' a' w' hs hk => ?_
  cases e with
  | normal => exact hend _ _ _ _ hs (.inl rfl) hk
  | ret => exact hend _ _ _ _ hs (.inr rfl) hk
  | _ => exact hk.elim
end
end Go.VL
