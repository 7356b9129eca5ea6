/- V-logic, part 20: one operation of a region that draws its order. -/
import Derived.Test.YtkdgodkamaicjaaVSound17
namespace Go.VL
set_option linter.unusedVariables false
set_option linter.unusedSimpArgs false
section
variable {P : Program} {T : TT} {X : Cx} {I : Nat → Prop} {g : Gam} {s : S} {a : Act} {w : World} {o : Oper}

/-- the operation does e -/
def Does (P : Program) (X : Cx) (s : S) (o : Oper) (a : Act) (w : World) (e : Ef) : Prop :=
  ∀ (N : Act → World → Prop) (Q : Exit → Act → World → Prop), (∀ a' w', Sat X (e.bump o.dst s) a' w' → N a' w') → o.wp P a w N Q

theorem put_fits {dst : Option Nat} {v : V} (hd : ∀ d, dst = some d → d < s.nt) {K : S → Prop} (hk : K ⟨s.nt, s.nx, setD dst v s.env, s.hp⟩) : s.put dst v K := by
  cases dst with
  | none => rw [S.put_none]; exact hk
  | some d => rw [S.put_some]; exact ⟨hd d rfl, hk⟩

theorem does_op (hT : TOk P T) (hE : EOk P T) (h : St X I g s a w) {e : Ef} (hk : vop T P o s fun s' => s' = e.bump o.dst s) : Does P X s o a w e := fun _ _ hN =>
  sound_op hT hE h hk fun s' a' w' h' he => hN a' w' (he ▸ h')

theorem does_val (h : St X I g s a w) (hd : ∀ d, o.dst = some d → d < s.nt) {v : V} {val : Value} (hrun : (execOp a.eval o).run P w = .ok (.value val) w) (hv : RV I g s.nx w v val) :
    Does P X s o a w (.val v) := fun _ _ hN =>
  finish_value hrun h hv (K := fun s' => s' = (Ef.val v).bump o.dst s) (put_fits hd rfl) fun s' a' w' h' he => hN a' w' (he ▸ h')

theorem does_skip {N : Act → World → Prop} (h : St X I g s a w) (hd : ∀ d, o.dst = some d → d < s.nt) (hN : ∀ a' w', Sat X ((Ef.val (.tup [])).apply 0 o.dst s) a' w' → N a' w') : N (a.put o.dst undef) w := by
  obtain ⟨s', h1, h2⟩ := h.putO (v := .tup []) (val := undef) (RV.tup [] [] rfl (by simp)) (K := fun s' => s' = (Ef.val (.tup [])).apply 0 o.dst s) (put_fits hd rfl)
  exact hN _ _ (h2 ▸ h1)

theorem fin_does {n : Nat} {v : V} {val : Value} {K : Ef → Prop} (hv : RV I g n w v val) (hk : fin v K) : ∃ v', RV I g n w v' val ∧ K (.val v') := by
  unfold fin at hk
  split at hk
  · rename_i b
    have := hv.bool_inv
    subst this
    cases b with
    | true => exact ⟨.tt, .tt, (vif_true hk).1 rfl⟩
    | false => exact ⟨.ff, .ff, (vif_true hk).2 rfl⟩
  · rw [V.force_eq] at hk; exact ⟨_, hv, hk⟩

theorem does_fin (h : St X I g s a w) (hd : ∀ d, o.dst = some d → d < s.nt) {K : Ef → Prop} {v : Sem Value} (hv : ∀ val, v.run P w = .ok val w → (execOp a.eval o).run P w = .ok (.value val) w)
    (hk : ∃ y val, v.run P w = .ok val w ∧ RV I g s.nx w y val ∧ fin y K) : ∃ e, K e ∧ Does P X s o a w e := by
  obtain ⟨y, val, h1, h2, h3⟩ := hk
  obtain ⟨v', h4, h5⟩ := fin_does h2 h3
  exact ⟨_, h5, does_val h hd (hv val h1) h4⟩

theorem alloc_fits {dst : Option Nat} {ob : O} (st : V) (hst : st.idsLt 1 = true) (hd : ∀ d, dst = some d → d < s.nt) {K : S → Prop} (hk : K ((Ef.new st hst ob).bump dst s)) : s.alloc dst ob (Ef.val? s.nx (.new st hst ob)) K := by
  rw [S.alloc_eq]
  exact put_fits (s := ⟨s.nt, s.nx + 1, s.env, (s.nx, ob) :: s.hp⟩) hd hk

theorem does_vdAlloc (hT : TOk P T) (hE : EOk P T) (h : St X I g s a w) (hd : ∀ d, o.dst = some d → d < s.nt) {t : Nat} (ho : o.op = .alloc t) {K : Ef → Prop} (hk : vdAlloc T t K) : ∃ e, K e ∧ Does P X s o a w e := by
  unfold vdAlloc at hk
  have key : ∀ st ob, K (.new (.ptr 0 0 st 0) rfl ob) → (s.alloc o.dst ob (.ptr s.nx 0 st 0) (fun s' => s' = (Ef.new (.ptr 0 0 st 0) rfl ob).bump o.dst s) → vop T P o s fun s' => s' = (Ef.new (.ptr 0 0 st 0) rfl ob).bump o.dst s) → ∃ e, K e ∧ Does P X s o a w e :=
    fun st ob hk hv => ⟨_, hk, does_op hT hE h (hv (alloc_fits (.ptr 0 0 st 0) rfl hd rfl))⟩
  have hv : ∀ K', valloc T t s o.dst K' → vop T P o s K' := fun K' h => by unfold vop; rw [ho]; exact h
  split at hk <;> rename_i hti
  · exact key _ _ hk fun h => hv _ (by unfold valloc; rw [hti]; exact h)
  · exact key _ _ hk fun h => hv _ (by unfold valloc; rw [hti]; exact h)
  · exact key _ _ hk fun h => hv _ (by unfold valloc; rw [hti]; exact h)
  · exact key _ _ hk fun h => hv _ (by unfold valloc; rw [hti]; exact h)
  · exact key _ _ hk fun h => hv _ (by unfold valloc; rw [hti]; exact h)
  · exact hk.elim

theorem does_vdMake (hT : TOk P T) (hE : EOk P T) (h : St X I g s a w) (hd : ∀ d, o.dst = some d → d < s.nt) {t : Nat} {l c : Operand} (ho : o.op = .makeSlice t l c) {K : Ef → Prop}
    (hk : vdMake T t (evl s.env l) (evl s.env c) K) : ∃ e, K e ∧ Does P X s o a w e := by
  unfold vdMake at hk
  split at hk
  · rename_i hti
    split at hk
    · rename_i h1 h2
      split at hk
      · rename_i hst
        obtain ⟨hc, hk⟩ := vneed_true hk
        split at hk
        · rename_i hnest
          refine ⟨_, hk, does_op hT hE h ?_⟩
          unfold vop; rw [ho]
          simp only [vmake, hti, h1, h2, hst, hnest]
          unfold vneed
          exact ⟨hc, alloc_fits (.slc 0) rfl hd rfl⟩
        · rename_i hnest
          unfold vch at hk
          rcases hk with hk | hk
          · refine ⟨_, hk, does_op hT hE h ?_⟩
            unfold vop; rw [ho]
            simp only [vmake, hti, h1, h2, hst, hnest]
            unfold vneed vch
            exact ⟨hc, .inl (alloc_fits (.slc 0) rfl hd rfl)⟩
          · refine ⟨_, hk, does_op hT hE h ?_⟩
            unfold vop; rw [ho]
            simp only [vmake, hti, h1, h2, hst, hnest]
            unfold vneed vch
            exact ⟨hc, .inr (alloc_fits (.slc 0) rfl hd rfl)⟩
      · exact hk.elim
    · exact hk.elim
  · exact hk.elim

theorem view_det {kd : Kd} {lk : Nat → Option O} {v : V} {KC : C → Option (Nat × List V) → Prop} (h : view kd lk v KC) : ∃ z hz, KC z hz ∧ ∀ KC' : C → Option (Nat × List V) → Prop, KC' z hz → view kd lk v KC' := by
  unfold view at h
  split at h
  · exact ⟨_, _, h, fun _ h => h⟩
  · rw [C.force_eq] at h; exact ⟨_, _, h, fun _ h => by simp only [view, C.force_eq]; exact h⟩
  · split at h
    · rename_i hl
      rw [C.force_eq] at h; exact ⟨_, _, h, fun _ h => by simp only [view, hl, C.force_eq]; exact h⟩
    · rename_i hl
      rw [C.force_eq] at h; exact ⟨_, _, h, fun _ h => by simp only [view, hl, C.force_eq]; exact h⟩
    · exact h.elim
  · exact h.elim

theorem does_vdApp (hd : ∀ d, o.dst = some d → d < s.nt) {t : Nat} {x y : Operand} {K : Ef → Prop}
    (hop : ∀ e : Ef, vappend T t s o.dst (evl s.env x) (evl s.env y) (fun s' => s' = e.bump o.dst s) → Does P X s o a w e)
    (hk : vdApp T t (lookH s.hp) (evl s.env x) (evl s.env y) K) : ∃ e, K e ∧ Does P X s o a w e := by
  unfold vdApp at hk
  split at hk
  · rename_i e sz by' kd hti
    obtain ⟨y', hy', hk, hview⟩ := view_det hk
    split at hk
    · rename_i hx
      split at hk
      · rename_i z hz
        split at hk
        · rename_i hst
          obtain ⟨hc, hk⟩ := vneed_true hk
          rw [C.force_eq] at hk
          refine ⟨_, hk, hop _ ?_⟩
          simp only [vappend, hti]
          refine hview _ ?_
          simp only [hx, hz, hst]
          unfold vneed
          rw [C.force_eq]
          exact ⟨hc, alloc_fits (.slc 0) rfl hd rfl⟩
        · exact hk.elim
      · exact hk.elim
    · rename_i id hx
      split at hk
      · rename_i x' hl
        split at hk
        · rename_i z hz
          split at hk
          · rename_i hst
            obtain ⟨hc, hk⟩ := vneed_true hk
            rw [C.force_eq] at hk
            refine ⟨_, hk, hop _ ?_⟩
            simp only [vappend, hti]
            refine hview _ ?_
            simp only [hx, hl, hz, hst]
            unfold vneed
            rw [C.force_eq]
            refine ⟨hc, ?_⟩
            rw [S.force_eq]
            exact put_fits (s := ⟨s.nt, s.nx, mapE (V.forget id) s.env, setH (mapH (forgetL id) s.hp) id (holO z x'.len (forgetHY id hy'))⟩) hd rfl
          · exact hk.elim
        · exact hk.elim
      · rename_i x' hi' us' hl
        split at hk
        · rename_i z hz
          split at hk
          · rename_i hst
            obtain ⟨hc, hk⟩ := vneed_true hk
            rw [C.force_eq] at hk
            refine ⟨_, hk, hop _ ?_⟩
            simp only [vappend, hti]
            refine hview _ ?_
            simp only [hx, hl, hz, hst]
            unfold vneed
            rw [C.force_eq]
            refine ⟨hc, ?_⟩
            rw [S.force_eq]
            exact put_fits (s := ⟨s.nt, s.nx, mapE (V.forget id) s.env, setH (mapH (forgetL id) s.hp) id (.hol z hi' (forgetL id us'))⟩) hd rfl
          · exact hk.elim
        · exact hk.elim
      · rename_i f' x' hs' hl
        split at hk
        · rename_i z us hz hyl
          split at hk
          · rename_i hst
            obtain ⟨hc, hk⟩ := vneed_true hk
            rw [C.force_eq] at hk
            refine ⟨_, hk, hop _ ?_⟩
            simp only [vappend, hti]
            refine hview _ ?_
            simp only [hx, hl, hz, hst, hyl]
            unfold vneed
            rw [C.force_eq]
            refine ⟨hc, ?_⟩
            rw [S.force_eq]
            exact put_fits (s := ⟨s.nt, s.nx, mapE (V.forget id) s.env, setH (mapH (forgetL id) s.hp) id (.deep false f' z (mapHs (forgetL id) hs' ++ [(x'.len, forgetL id us)]))⟩) hd rfl
          · exact hk.elim
        · exact hk.elim
      · exact hk.elim
    · exact hk.elim
  · exact hk.elim

theorem vhole_det {i : Nat} {A : List (Nat × List V) → Nat → List V → List (Nat × List V) → Prop} {B : Prop} : ∀ {hs pre : List (Nat × List V)}, vhole i pre hs A B →
    (∃ p1 us t, A (pre ++ p1) i us t ∧ ∀ (A' : List (Nat × List V) → Nat → List V → List (Nat × List V) → Prop) (B' : Prop), A' (pre ++ p1) i us t → vhole i pre hs A' B') ∨ (B ∧ ∀ (A' : List (Nat × List V) → Nat → List V → List (Nat × List V) → Prop) (B' : Prop), B' → vhole i pre hs A' B') := by
  intro hs
  induction hs with
  | nil => intro pre h; exact .inr ⟨h, fun _ _ h => h⟩
  | cons x t ih =>
    obtain ⟨hi, us⟩ := x
    intro pre h
    simp only [vhole] at h
    rcases vor_true h with ⟨rfl, h⟩ | ⟨hne, h⟩
    · exact .inl ⟨[], us, t, by simpa using h, fun A' B' h' => by unfold vhole vor; exact .inl ⟨rfl, by simpa using h'⟩⟩
    · rcases ih h with ⟨p1, us', t', h1, h2⟩ | ⟨h1, h2⟩
      · refine .inl ⟨(hi, us) :: p1, us', t', by simpa using h1, fun A' B' h' => ?_⟩
        simp only [vhole]; unfold vor
        exact .inr ⟨hne, h2 A' B' (by simpa using h')⟩
      · exact .inr ⟨h1, fun A' B' h' => by simp only [vhole]; unfold vor; exact .inr ⟨hne, h2 A' B' h'⟩⟩

theorem vset_det0 {x : C} {ti : TI} {i j : Nat} {v : V} {KC : C → Prop} (h : vset x ti i j v KC) : ∃ z, KC z ∧ ∀ KC' : C → Prop, KC' z → vset x ti i j v KC' := by
  unfold vset at h
  split at h
  · rename_i q1
    split at h
    · rename_i q2
      split at h
      · rename_i q3
        exact ⟨_, h, fun K' hk => by simp only [vset, q1, q2, q3]; exact hk⟩
      · exact h.elim
    · exact h.elim
  · rename_i q1
    split at h
    · exact h.elim
    · rename_i q2
      split at h
      · rename_i q3
        exact ⟨_, h, fun K' hk => by simp only [vset, q1, q2, q3]; exact hk⟩
      · exact h.elim

theorem deepSt_det {pn : Bool} {f : Nat} {x : C} {hs : List (Nat × List V)} {ti : TI} {i j : Nat} {v : V} {KO : O → Prop} (h : deepSt pn f x hs ti i j v KO) : ∃ ob, KO ob ∧ ∀ KO' : O → Prop, KO' ob → deepSt pn f x hs ti i j v KO' := by
  unfold deepSt at h
  rcases vhole_det h with ⟨p1, us, t, h1, h2⟩ | ⟨h1, h2⟩
  · split at h1
    · rename_i q1
      split at h1
      · rename_i q2
        refine ⟨_, h1, fun KO' hk => ?_⟩
        unfold deepSt
        refine h2 _ _ ?_
        simp only [q2]
        rw [q1]; exact hk
      · exact h1.elim
    · exact h1.elim
  · split at h1
    · rename_i q1
      obtain ⟨z, h3, h4⟩ := vset_det0 h1
      refine ⟨_, h3, fun KO' hk => ?_⟩
      unfold deepSt
      refine h2 _ _ ?_
      simp only [q1]
      exact h4 (fun x' => KO' (.deep pn f x' hs)) hk
    · rename_i q1
      split at h1
      · rename_i q2
        refine ⟨_, h1, fun KO' hk => ?_⟩
        unfold deepSt
        refine h2 _ _ ?_
        simp only [q1, q2]
        exact hk
      · exact h1.elim

theorem does_store (hT : TOk P T) (hE : EOk P T) (h : St X I g s a w) (hd : ∀ d, o.dst = some d → d < s.nt) {t : Nat} {x y : Operand} (ho : o.op = .store t x y) (hok : (T t).ok = true) {K : Ef → Prop}
    (hk : vdStore T t (lookH s.hp) (evl s.env x) (evl s.env y) fun id ob => K (.set (.tup []) id ob)) : ∃ e, K e ∧ Does P X s o a w e := by
  have key : ∀ id ob, K (.set (.tup []) id ob) → (∀ K' : S → Prop, K' ⟨s.nt, s.nx, s.env, setH s.hp id ob⟩ → vstore T t s (evl s.env x) (evl s.env y) K') → ∃ e, K e ∧ Does P X s o a w e := by
    intro id ob hk hv
    refine ⟨_, hk, does_op hT hE h ?_⟩
    unfold vop; rw [ho]
    simp only [hok]
    exact hv _ (put_fits (s := ⟨s.nt, s.nx, s.env, setH s.hp id ob⟩) hd rfl)
  unfold vdStore at hk
  split at hk
  · split at hk
    · rename_i hx
      split at hk
      · rename_i hl
        split at hk
        · rename_i h0
          split at hk
          · rename_i h1
            split at hk
            · rename_i h2
              refine key _ _ hk fun K' hK' => ?_
              simp only [vstore, hx, hl, h0, h2, S.withHp_eq]
              rw [h1]; exact hK'
            · exact hk.elim
          · exact hk.elim
        · exact hk.elim
      · rename_i x' hl
        split at hk
        · rename_i hwh
          obtain ⟨hc, hk⟩ := vneed_true hk
          simp only [whOk, Bool.and_eq_true] at hwh
          obtain ⟨⟨⟨⟨w1, w2⟩, w3⟩, w4⟩, w5⟩ := hwh
          have w4 := Nat.eq_of_beq_eq_true w4
          subst w4
          exact ⟨_, hk, fun N Q hN => sound_storeH hT ho h hok hx hl hc.1 hc.2 w1 (Nat.eq_of_beq_eq_true w2) (Nat.eq_of_beq_eq_true w3) w5 (K := fun s' => s' = (Ef.set (.tup []) _ (.hol x' _ (evl s.env y).cells)).bump o.dst s)
            (put_fits (s := ⟨s.nt, s.nx, s.env, setH s.hp _ (.hol x' _ (evl s.env y).cells)⟩) hd rfl) fun s' a' w' h' he => hN a' w' (he ▸ h')⟩
        · exact hk.elim
      · rename_i hl
        obtain ⟨hc, hk⟩ := vneed_true hk
        obtain ⟨ob, hk1, hk2⟩ := deepSt_det hk
        refine key _ _ hk1 fun K' hK' => ?_
        simp only [vstore, hx, hl]
        unfold vneed
        exact ⟨hc, hk2 _ (by rw [S.withHp_eq]; exact hK')⟩
      · exact hk.elim
    · exact hk.elim
  · rename_i hsl
    split at hk
    · rename_i hx
      split at hk
      · rename_i hl
        obtain ⟨hc, hk⟩ := vneed_true hk
        unfold vset at hk
        split at hk
        · rename_i q1
          split at hk
          · rename_i q2
            split at hk
            · rename_i q3
              refine key _ _ hk fun K' hK' => ?_
              simp only [vstore, hx, hl, hsl, vfz, S.withHp_eq]
              unfold vneed
              refine ⟨hc, ?_⟩
              simp only [vset, q1, q2, q3]; exact hK'
            · exact hk.elim
          · exact hk.elim
        · rename_i q1
          split at hk
          · exact hk.elim
          · rename_i q2
            split at hk
            · rename_i q3
              refine key _ _ hk fun K' hK' => ?_
              simp only [vstore, hx, hl, hsl, vfz, S.withHp_eq]
              unfold vneed
              refine ⟨hc, ?_⟩
              simp only [vset, q1, q2, q3]; exact hK'
            · exact hk.elim
      · rename_i hl
        obtain ⟨hc, hk⟩ := vneed_true hk
        rcases vor_true hk with ⟨e, hk⟩ | ⟨hne, hk⟩
        · split at hk
          · rename_i h1
            split at hk
            · rename_i h2
              refine key _ _ hk fun K' hK' => ?_
              simp only [vstore, hx, hl]
              unfold vneed vor
              refine ⟨hc, .inl ⟨e, ?_⟩⟩
              rw [h1]
              simp only [h2, S.withHp_eq]; exact hK'
            · exact hk.elim
          · exact hk.elim
        · unfold vset at hk
          split at hk
          · rename_i q1
            split at hk
            · rename_i q2
              split at hk
              · rename_i q3
                refine key _ _ hk fun K' hK' => ?_
                simp only [vstore, hx, hl]
                unfold vneed vor
                refine ⟨hc, .inr ⟨hne, ?_⟩⟩
                simp only [vset, q1, q2, q3, S.withHp_eq]; exact hK'
              · exact hk.elim
            · exact hk.elim
          · rename_i q1
            split at hk
            · exact hk.elim
            · rename_i q2
              split at hk
              · rename_i q3
                refine key _ _ hk fun K' hK' => ?_
                simp only [vstore, hx, hl]
                unfold vneed vor
                refine ⟨hc, .inr ⟨hne, ?_⟩⟩
                simp only [vset, q1, q2, q3, S.withHp_eq]; exact hK'
              · exact hk.elim
      · rename_i hl
        obtain ⟨hc, hk⟩ := vneed_true hk
        obtain ⟨ob, hk1, hk2⟩ := deepSt_det hk
        refine key _ _ hk1 fun K' hK' => ?_
        simp only [vstore, hx, hl]
        unfold vneed
        exact ⟨hc, hk2 _ (by rw [S.withHp_eq]; exact hK')⟩
      · rename_i hl
        split at hk
        · rename_i h0
          split at hk
          · rename_i h1
            split at hk
            · rename_i h2
              refine key _ _ hk fun K' hK' => ?_
              simp only [vstore, hx, hl, h0, h2, S.withHp_eq]
              rw [h1]; exact hK'
            · exact hk.elim
          · exact hk.elim
        · exact hk.elim
      · exact hk.elim
    · exact hk.elim

/-- states that tell the same -/
structure Eqv (s s' : S) : Prop where
  nt : s.nt = s'.nt
  nx : s.nx = s'.nx
  env : ∀ j, look s.env j = look s'.env j
  hp : ∀ i, lookH s.hp i = lookH s'.hp i
  nodup : (s'.hp.map (·.1)).Nodup

theorem St.eqv (h : St X I g s a w) {s' : S} (e : Eqv s s') : St X I g s' a w := by
  have hm : ∀ i o, (i, o) ∈ s'.hp → (i, o) ∈ s.hp := fun i o hm => lookH_mem ((e.hp i).trans (mem_lookH e.nodup hm))
  refine ⟨h.df, h.sz.trans e.nt, fun j => by rw [← e.env, ← e.nx]; exact h.slots j, ⟨fun i o h1 => by rw [← e.nx]; exact h.heap.obj i o (hm i o h1), fun i o b h1 => h.heap.apart i o b (hm i o h1), e.nodup,
    fun i o i' o' b h1 h2 => h.heap.inj i o i' o' b (hm i o h1) (hm i' o' h2)⟩, h.bound, h.up, h.down, ?_, fun i o h1 => h.keep i o (hm i o h1), h.fr, fun i hi => by rw [← e.nx]; exact h.low i hi⟩
  rintro b ⟨i, o, h1, h2⟩
  exact h.own b ⟨i, o, hm i o h1, h2⟩

theorem Sat.eqv (h : Sat X s a w) {s' : S} (e : Eqv s s') : Sat X s' a w := let ⟨I, g, h⟩ := h; ⟨I, g, h.eqv e⟩

theorem lookH_setH {hp : List (Nat × O)} {id : Nat} {ob ob0 : O} (h : lookH hp id = some ob0) (i : Nat) : lookH (setH hp id ob) i = if id = i then some ob else lookH hp i := by
  induction hp with
  | nil => cases h
  | cons x t ih =>
    obtain ⟨k, v⟩ := x
    simp only [setH]
    rw [lookH_cons] at h
    cases hk : Nat.beq k id with
    | true =>
      have hk := Nat.eq_of_beq_eq_true hk
      subst hk
      simp only [lookH_cons]
      split <;> rfl
    | false =>
      have hk := Nat.ne_of_beq_eq_false hk
      rw [if_neg hk] at h
      simp only [lookH_cons, ih h]
      by_cases c : k = i
      · rw [if_pos c, if_neg (fun e => hk (c.trans e.symm)), if_pos c]
      · rw [if_neg c, if_neg c]

theorem lookH_dropH {hp : List (Nat × O)} (hn : (hp.map (·.1)).Nodup) (id i : Nat) : lookH (dropH hp id) i = if id = i then none else lookH hp i := by
  by_cases c : id = i
  · rw [if_pos c]
    cases hq : lookH (dropH hp id) i with
    | none => rfl
    | some o => exact absurd c.symm (mem_dropH hn (lookH_mem hq)).2
  · rw [if_neg c]
    induction hp with
    | nil => rfl
    | cons x t ih =>
      obtain ⟨k, v⟩ := x
      simp only [List.map_cons, List.nodup_cons] at hn
      simp only [dropH]
      cases hk : Nat.beq k id with
      | true =>
        have hk := Nat.eq_of_beq_eq_true hk
        rw [lookH_cons, if_neg (by omega)]
      | false =>
        simp only [lookH_cons, ih hn.2]

theorem dropIn_nil (r : Nat → Nat) (hp : List (Nat × O)) : dropIn r [] hp = hp := rfl

/-- a call of a function value -/
theorem call_wp {c : Call} {f : Nat} {caps : List V} (ho : o.op = .call c) {x : Operand} (hc : c.callee = .value x) (h : St X I g s a w) (hx : evl s.env x = .fn f caps) :
    ∃ vals : List Value, RVs I g s.nx w (evs s.env c.args.toList ++ caps) vals ∧ ∀ {R : Ending → World → Prop} (N : Act → World → Prop) (Q : Exit → Act → World → Prop), Callable P f → Calls P f vals.toArray w R → (∀ e w', R e w' → ∃ v, e = .returned v ∧ N (a.put o.dst v) w') → o.wp P a w N Q := by
  have hfx := h.eval x
  rw [hx] at hfx
  obtain ⟨cvs, hev, hcl, hcr⟩ : ∃ cvs : List Value, a.eval x = .func (.func f) #[] cvs.toArray ∧ caps.length = cvs.length ∧ ∀ (i : Nat) x v, caps[i]? = some x → cvs[i]? = some v → RV I g s.nx w x v := by
    generalize a.eval x = vx at hfx
    cases hfx with | fn _ _ vs hl hr => exact ⟨vs, rfl, hl, hr⟩
  refine ⟨_, (h.evals' c.args.toList).append ⟨hcl, hcr⟩, fun N Q hcb hcalls hR => ?_⟩
  simp only [Oper.wp, run_call ho hc hev hcb, Oper.upon]
  exact hcalls.mono fun e w' he => by
    obtain ⟨v, rfl, hn⟩ := hR e w' he
    exact hn

theorem fin_pre {v : V} {K : Ef → Prop} (hk : fin v K) : ∃ v', K (.val v') ∧ ∀ {I : Nat → Prop} {g : Gam} {n : Nat} {w : World} {val : Value}, RV I g n w v val → RV I g n w v' val := by
  unfold fin at hk
  split at hk
  · rename_i b
    cases b with
    | true => exact ⟨.tt, (vif_true hk).1 rfl, fun h => by rw [h.bool_inv]; exact .tt⟩
    | false => exact ⟨.ff, (vif_true hk).2 rfl, fun h => by rw [h.bool_inv]; exact .ff⟩
  · rw [V.force_eq] at hk; exact ⟨_, hk, fun h => h⟩

theorem St.putS {dst : Option Nat} {v : V} {val : Value} (h : St X I g s a w) (hd : ∀ d, dst = some d → d < s.nt) (hv : RV I g s.nx w v val) : Sat X ⟨s.nt, s.nx, setD dst v s.env, s.hp⟩ (a.put dst val) w := by
  obtain ⟨s', h1, h2⟩ := h.putO hv (K := fun s' => s' = ⟨s.nt, s.nx, setD dst v s.env, s.hp⟩) (put_fits hd rfl)
  exact h2 ▸ h1

mutual
theorem V.ren_ren {r r' : Nat → Nat} : ∀ v : V, (v.ren r).ren r' = v.ren fun i => r' (r i)
  | .ptr i a b c => rfl
  | .slc i => rfl
  | .agg xs => by simp only [V.ren]; rw [renL_renL xs]
  | .tup xs => by simp only [V.ren]; rw [renL_renL xs]
  | .fn f xs => by simp only [V.ren]; rw [renL_renL xs]
  | .any => rfl
  | .tt => rfl
  | .ff => rfl
  | .nil => rfl
  | .c _ => rfl
  | .iptr _ => rfl
theorem renL_renL {r r' : Nat → Nat} : ∀ xs : List V, renL r' (renL r xs) = renL (fun i => r' (r i)) xs
  | [] => rfl
  | x :: t => by simp only [renL]; rw [V.ren_ren x, renL_renL t]
end

mutual
theorem V.idsLt_up {n m : Nat} (hnm : n ≤ m) : ∀ v : V, v.idsLt n = true → v.idsLt m = true
  | .ptr i a b c, h => by simp only [V.idsLt, Nat.blt_eq] at h ⊢; omega
  | .slc i, h => by simp only [V.idsLt, Nat.blt_eq] at h ⊢; omega
  | .agg xs, h => by simp only [V.idsLt] at h ⊢; exact idsLtL_up hnm xs h
  | .tup xs, h => by simp only [V.idsLt] at h ⊢; exact idsLtL_up hnm xs h
  | .fn f xs, h => by simp only [V.idsLt] at h ⊢; exact idsLtL_up hnm xs h
  | .any, _ => rfl
  | .tt, _ => rfl
  | .ff, _ => rfl
  | .nil, _ => rfl
  | .c _, _ => rfl
  | .iptr _, _ => rfl
theorem idsLtL_up {n m : Nat} (hnm : n ≤ m) : ∀ xs : List V, idsLtL n xs = true → idsLtL m xs = true
  | [], _ => rfl
  | x :: t, h => by
    simp only [idsLtL] at h ⊢
    split at h
    · rename_i h1
      rw [V.idsLt_up hnm x h1, idsLtL_up hnm t h]
    · cases h
end

theorem setHs_keys (sets : List (Nat × O)) : ∀ hp : List (Nat × O), (setHs sets hp).map (·.1) = hp.map (·.1) := by
  induction sets with
  | nil => intro hp; rfl
  | cons q t ih => obtain ⟨i, o⟩ := q; intro hp; simp only [setHs, ih, setH_keys]
theorem mem_setHs {sets : List (Nat × O)} : ∀ {hp : List (Nat × O)}, (hp.map (·.1)).Nodup → (sets.map (·.1)).Nodup → ∀ {i o}, (i, o) ∈ setHs sets hp → (i, o) ∈ sets ∨ ((i, o) ∈ hp ∧ i ∉ sets.map (·.1)) := by
  induction sets with
  | nil => intro hp _ _ i o h; exact .inr ⟨h, by simp⟩
  | cons q t ih =>
    obtain ⟨k, ob⟩ := q
    intro hp hn hs i o h
    simp only [setHs] at h
    rw [List.map_cons, List.nodup_cons] at hs
    rcases ih (by rw [setH_keys]; exact hn) hs.2 h with h | ⟨h, h2⟩
    · exact .inl (List.mem_cons_of_mem _ h)
    · rcases mem_setH hn h with ⟨rfl, rfl⟩ | ⟨h3, h4⟩
      · exact .inl List.mem_cons_self
      · exact .inr ⟨h3, by simp only [List.map_cons, List.mem_cons, not_or]; exact ⟨h4, h2⟩⟩
theorem setHs_mem {sets : List (Nat × O)} : ∀ {hp : List (Nat × O)}, (hp.map (·.1)).Nodup → (sets.map (·.1)).Nodup → ∀ {i o}, ((i, o) ∈ sets ∧ i ∈ hp.map (·.1)) ∨ ((i, o) ∈ hp ∧ i ∉ sets.map (·.1)) → (i, o) ∈ setHs sets hp := by
  have one : ∀ {hp : List (Nat × O)} {k i ob o}, ((i, o) ∈ hp ∧ i ≠ k) ∨ (i = k ∧ o = ob ∧ k ∈ hp.map (·.1)) → (i, o) ∈ setH hp k ob := by
    intro hp
    induction hp with
    | nil => intro k i ob o h; rcases h with ⟨h, _⟩ | ⟨_, _, h⟩ <;> simp at h
    | cons q t ih =>
      obtain ⟨a, b⟩ := q
      intro k i ob o h
      simp only [setH]
      cases hk : Nat.beq a k with
      | true =>
        have hk := Nat.eq_of_beq_eq_true hk
        rcases h with ⟨h, h2⟩ | ⟨rfl, rfl, h⟩
        · rcases List.mem_cons.1 h with h | h
          · cases h; exact absurd hk h2
          · exact List.mem_cons_of_mem _ h
        · rw [hk]; exact List.mem_cons_self
      | false =>
        have hk := Nat.ne_of_beq_eq_false hk
        rcases h with ⟨h, h2⟩ | ⟨rfl, rfl, h⟩
        · rcases List.mem_cons.1 h with h | h
          · cases h; exact List.mem_cons_self
          · exact List.mem_cons_of_mem _ (ih (.inl ⟨h, h2⟩))
        · simp only [List.map_cons, List.mem_cons] at h
          rcases h with h | h
          · exact absurd h.symm hk
          · exact List.mem_cons_of_mem _ (ih (.inr ⟨rfl, rfl, h⟩))
  induction sets with
  | nil =>
    intro hp _ _ i o h
    rcases h with ⟨h, _⟩ | ⟨h, _⟩
    · cases h
    · exact h
  | cons q t ih =>
    obtain ⟨k, ob⟩ := q
    intro hp hn hs i o h
    simp only [setHs]
    rw [List.map_cons, List.nodup_cons] at hs
    refine ih (by rw [setH_keys]; exact hn) hs.2 ?_
    rw [setH_keys]
    rcases h with ⟨h, h2⟩ | ⟨h, h2⟩
    · rcases List.mem_cons.1 h with h | h
      · cases h; exact .inr ⟨one (.inr ⟨rfl, rfl, h2⟩), hs.1⟩
      · exact .inl ⟨h, h2⟩
    · simp only [List.map_cons, List.mem_cons, not_or] at h2
      exact .inr ⟨one (.inl ⟨h, h2.1⟩), h2.2⟩
theorem lookH_ext {A B : List (Nat × O)} (hA : (A.map (·.1)).Nodup) (hB : (B.map (·.1)).Nodup) (h : ∀ i o, (i, o) ∈ A ↔ (i, o) ∈ B) (i : Nat) : lookH A i = lookH B i := by
  cases hq : lookH A i with
  | some o => exact (mem_lookH hB ((h i o).1 (lookH_mem hq))).symm
  | none =>
    cases hq' : lookH B i with
    | none => rfl
    | some o => rw [mem_lookH hA ((h i o).2 (lookH_mem hq'))] at hq; cases hq

def seqN (k : Nat) : Nat → List Nat
  | 0 => []
  | m + 1 => k :: seqN (k + 1) m
theorem seqN_length (k m : Nat) : (seqN k m).length = m := by
  induction m generalizing k with
  | zero => rfl
  | succ m ih => simp [seqN, ih]
theorem seqN_get (k m j : Nat) (h : j < m) : (seqN k m)[j]? = some (k + j) := by
  induction m generalizing k j with
  | zero => omega
  | succ m ih =>
    cases j with
    | zero => rfl
    | succ j => simp only [seqN, List.getElem?_cons_succ]; rw [ih (k + 1) j (by omega)]; congr 1; omega
theorem mem_seqN {k m x : Nat} (h : x ∈ seqN k m) : k ≤ x ∧ x < k + m := by
  obtain ⟨j, hj⟩ := List.getElem?_of_mem h
  have hlt : j < m := by rw [← seqN_length k m]; exact (List.getElem?_eq_some_iff.1 hj).1
  rw [seqN_get k m j hlt] at hj; cases hj; omega
theorem seqN_nodup (k m : Nat) : (seqN k m).Nodup := by
  induction m generalizing k with
  | zero => simp [seqN]
  | succ m ih =>
    simp only [seqN, List.nodup_cons]
    exact ⟨fun h => by have := mem_seqN h; omega, ih _⟩
theorem maxN_ge {l : List Nat} {x n : Nat} (h : ∀ x ∈ l, x < n) : maxN l ≤ n := by
  induction l with
  | nil => exact Nat.zero_le _
  | cons a t ih =>
    show Nat.max (a + 1) (maxN t) ≤ n
    exact Nat.max_le.2 ⟨h a List.mem_cons_self, ih fun x hx => h x (List.mem_cons_of_mem _ hx)⟩
theorem mem_maxN {l : List Nat} {x : Nat} (h : x ∈ l) : x + 1 ≤ maxN l := by
  induction l with
  | nil => cases h
  | cons a t ih =>
    show x + 1 ≤ Nat.max (a + 1) (maxN t)
    rcases List.mem_cons.1 h with rfl | h
    · exact Nat.le_max_left _ _
    · exact Nat.le_trans (ih h) (Nat.le_max_right _ _)
theorem newIds_of {r : Nat → Nat} {nx : Nat} {ks : List Nat} : ∀ {m : Nat}, (∀ i, i < m → i ∈ ks ∨ nx ≤ r i) → newIds r nx ks m = true := by
  intro m
  induction m with
  | zero => intro _; rfl
  | succ m ih =>
    intro h
    have ht := ih fun i hi => h i (Nat.lt_succ_of_lt hi)
    cases hq : memN m ks with
    | true => simp only [newIds, hq]; exact ht
    | false =>
      rcases h m (Nat.lt_succ_self m) with h2 | h2
      · rw [memN_iff.2 h2] at hq; cases hq
      · have h3 : Nat.ble nx (r m) = true := by rw [Nat.ble_eq]; exact h2
        simp only [newIds, hq, h3]; exact ht
theorem boxesStay2_of {hin : List (Nat × O)} (h : ∀ i ob, lookH hin i = some ob → ob.isBox = true) : ∀ hout : List (Nat × O), boxesStay2 hin hout = true := by
  intro hout
  induction hout with
  | nil => rfl
  | cons q t ih =>
    obtain ⟨i, o⟩ := q
    simp only [boxesStay2]
    split
    · exact ih
    · split
      · rename_i ob hl
        rw [h i ob hl]; exact ih
      · exact ih
theorem boxO_get {l : List O} (h : boxO l = true) : ∀ (j : Nat) ob, l[j]? = some ob → ob.isBox = true := by
  induction l with
  | nil => intro j ob hj; cases hj
  | cons o t ih =>
    simp only [boxO] at h
    split at h
    · rename_i h1
      intro j ob hj
      cases j with
      | zero => cases hj; exact h1
      | succ j => exact ih h j ob (by simpa using hj)
    · cases h
theorem forgetIn_stay {r : Nat → Nat} {hout : List (Nat × O)} : ∀ {hin : List (Nat × O)}, (∀ i o, (i, o) ∈ hin → stays hout i o = true) → ∀ s : S, forgetIn r hout hin s = s := by
  intro hin
  induction hin with
  | nil => intro _ s; rfl
  | cons q t ih =>
    obtain ⟨i, o⟩ := q
    intro h s
    simp only [forgetIn, h i o List.mem_cons_self]
    exact ih (fun i o hm => h i o (List.mem_cons_of_mem _ hm)) s
theorem hasLk_get {r : Nat → Nat} {lk : Nat → Option O} {l : List (Nat × O)} (h : hasLk r lk l) : ∀ i o, (i, o) ∈ l → lk (r i) = some (o.map (renL r)) := by
  induction l with
  | nil => intro i o hm; cases hm
  | cons q t ih =>
    obtain ⟨k, ob⟩ := q
    intro i o hm
    rcases List.mem_cons.1 hm with hm | hm
    · cases hm; exact h.1
    · exact ih h.2 i o hm
theorem hasIn_of {r : Nat → Nat} {hp : List (Nat × O)} {l : List (Nat × O)} (h : ∀ i o, (i, o) ∈ l → lookH hp (r i) = some (o.map (renL r))) : hasIn r hp l := by
  induction l with
  | nil => trivial
  | cons q t ih => obtain ⟨k, ob⟩ := q; exact ⟨h k ob List.mem_cons_self, ih fun i o hm => h i o (List.mem_cons_of_mem _ hm)⟩
theorem enumO_keys (l : List O) : ∀ k, (enumO k l).map (·.1) = seqN k l.length := by
  induction l with
  | nil => intro k; rfl
  | cons o t ih => intro k; simp only [enumO, List.map_cons, List.length_cons, seqN, ih]
theorem idsLtHs_up {n m : Nat} (hnm : n ≤ m) {hs : List (Nat × List V)} (h : idsLtHs n hs = true) : idsLtHs m hs = true := by
  induction hs with
  | nil => rfl
  | cons q t ih =>
    obtain ⟨k, vs⟩ := q
    simp only [idsLtHs] at h ⊢
    split at h
    · rename_i h1; rw [idsLtL_up hnm _ h1]; exact ih h
    · cases h
theorem O.map_congr {n : Nat} {r r' : Nat → Nat} (hr : ∀ i, i < n → r i = r' i) {o : O} (h : OLt n o) : o.map (renL r) = o.map (renL r') := by
  cases o with
  | box pre bs post => simp only [O.map]; rw [renL_congr hr pre h.1, renL_congr hr post h.2]
  | arr x => rfl
  | hol x hi vs => simp only [O.map]; rw [renL_congr hr vs h]
  | deep p f x hs =>
    simp only [O.map, mapHs_eq]
    congr 1
    exact List.map_congr_left fun q hq => by rw [renL_congr hr q.2 (h q.1 q.2 hq)]
theorem mem_renH_of {r : Nat → Nat} : ∀ {l : List (Nat × O)} {i o}, (i, o) ∈ l → (r i, o.map (renL r)) ∈ renH r l := by
  intro l
  induction l with
  | nil => intro i o hm; cases hm
  | cons q t ih =>
    obtain ⟨a, b⟩ := q
    intro i o hm
    rcases List.mem_cons.1 hm with hm | hm
    · cases hm; simp [renH]
    · simp only [renH]; exact List.mem_cons_of_mem _ (ih hm)

/-- a call that changes objects in their places and makes new ones -/
theorem does_fx (h : St X I g s a w) (hd : ∀ d, o.dst = some d → d < s.nt) {f : Nat} {args : List V} {vals : List Value} (hargs : RVs I g s.nx w args vals)
    (hwp : ∀ {R : Ending → World → Prop} (N : Act → World → Prop) (Q : Exit → Act → World → Prop), Callable P f → Calls P f vals.toArray w R → (∀ e w', R e w' → ∃ v, e = .returned v ∧ N (a.put o.dst v) w') → o.wp P a w N Q)
    {rn : List Nat} {fargs : List V} {hin hos news : List O} {st : V} (hst : st.idsLt news.length = true)
    (hspec : Spec P f rn.length fargs (enumO 0 hin) (rn.length + news.length) (st.ren fun j => rn.length + j) (enumO 0 hos ++ enumO rn.length news))
    (c1 : hin.length = rn.length) (c2 : hos.length = rn.length) (c3 : nodupN rn = true) (c4 : boxO hin = true) (c5 : boxO hos = true) (c6 : pureO news = true) (c7 : idsLtL rn.length fargs = true) (c8 : idsLtH rn.length (enumO 0 hin) = true) (c9 : idsLtH rn.length (enumO 0 hos) = true)
    (he : renL (rnf rn) fargs = args) (hlk : hasLk (rnf rn) (lookH s.hp) (enumO 0 hin)) : Does P X s o a w (.fx (renH (rnf rn) (enumO 0 hos)) news rn st hst) := by
  have hnd := nodupN_iff.1 c3
  have hpure := pureO_get c6
  -- the names
  have hrlt : ∀ i, i < rn.length → rnf rn i < s.nx := fun i hi => by
    have := hasLk_get hlk i (hin[i]'(by omega)) (by have := mem_enumO (k := 0) (List.getElem?_eq_getElem (show i < hin.length by omega)); rwa [Nat.zero_add] at this)
    exact (h.heap.obj _ _ (lookH_mem this)).1
  let rn' := rn ++ seqN s.nx news.length
  have hlen' : rn'.length = rn.length + news.length := by simp [rn', seqN_length]
  have hr1 : ∀ i, i < rn.length → rnf rn' i = rnf rn i := fun i hi => by
    have e1 := rnf_get rn' i (by omega)
    have e2 := rnf_get rn i hi
    rw [List.getElem?_append_left hi, e2] at e1
    exact (Option.some.inj e1).symm
  have hr2 : ∀ j, j < news.length → rnf rn' (rn.length + j) = s.nx + j := fun j hj => by
    have e1 := rnf_get rn' (rn.length + j) (by omega)
    rw [List.getElem?_append_right (by omega), Nat.add_sub_cancel_left, seqN_get _ _ _ hj] at e1
    exact (Option.some.inj e1).symm
  have hnd' : rn'.Nodup := by
    rw [List.nodup_append]
    refine ⟨hnd, seqN_nodup _ _, fun x hx y hy e => ?_⟩
    obtain ⟨i, hi⟩ := List.getElem?_of_mem hx
    have hil := (List.getElem?_eq_some_iff.1 hi).1
    have e9 := rnf_get rn i hil
    rw [hi] at e9
    have := hrlt i hil
    have := mem_seqN hy
    have e3 : x = rnf rn i := Option.some.inj e9
    omega
  have hmx : Nat.max s.nx (maxN rn') = s.nx + news.length := by
    apply Nat.le_antisymm
    · refine Nat.max_le.2 ⟨Nat.le_add_right _ _, maxN_ge (x := 0) fun x hx => ?_⟩
      rcases List.mem_append.1 hx with hx | hx
      · obtain ⟨i, hi⟩ := List.getElem?_of_mem hx
        have hil := (List.getElem?_eq_some_iff.1 hi).1
        have e := rnf_get rn i hil
        rw [hi] at e
        have := hrlt i hil
        have e3 : x = rnf rn i := Option.some.inj e
        omega
      · have := mem_seqN hx; omega
    · rcases Nat.eq_zero_or_pos news.length with h0 | h0
      · rw [h0]; exact Nat.le_max_left _ _
      · refine Nat.le_trans ?_ (Nat.le_max_right _ _)
        have hin : s.nx + (news.length - 1) ∈ rn' := List.mem_append_right _ (List.mem_of_getElem? (seqN_get s.nx news.length (news.length - 1) (by omega)))
        have := mem_maxN hin
        omega
  have hk0 : keysH (enumO 0 hin) = seqN 0 hin.length := by rw [keysH_eq, enumO_keys]
  have hinb : ∀ i ob, (i, ob) ∈ enumO 0 hin → i < rn.length ∧ ob.isBox = true := fun i ob hm => by
    obtain ⟨j, rfl, hj⟩ := enumO_mem hm
    exact ⟨by have := (List.getElem?_eq_some_iff.1 hj).1; omega, boxO_get c4 j ob hj⟩
  have hout_nd : ((enumO 0 hos ++ enumO rn.length news).map (·.1)).Nodup := by
    rw [List.map_append, enumO_keys, enumO_keys, List.nodup_append]
    exact ⟨seqN_nodup _ _, seqN_nodup _ _, fun x hx y hy => by have := mem_seqN hx; have := mem_seqN hy; omega⟩
  have hstay : ∀ i ob, (i, ob) ∈ enumO 0 hin → stays (enumO 0 hos ++ enumO rn.length news) i ob = true := fun i ob hm => by
    obtain ⟨hil, hb⟩ := hinb i ob hm
    have hl : lookH (enumO 0 hos ++ enumO rn.length news) i = some (hos[i]'(by omega)) := mem_lookH hout_nd (List.mem_append_left _ (by
      have := mem_enumO (k := 0) (List.getElem?_eq_getElem (show i < hos.length by omega)); rwa [Nat.zero_add] at this))
    unfold stays
    rw [hb, hl]
    exact boxO_get c5 i _ (List.getElem?_eq_getElem (by omega))
  have hOlt := (idsLtH_get c8)
  have hOlt2 := (idsLtH_get c9)
  have hcall := h.called (rn := rn') hspec (by rw [renL_congr hr1 fargs c7, he]; exact hargs) c7 c8 (hasIn_of fun i ob hm => by
    rw [hr1 i (hinb i ob hm).1, O.map_congr hr1 (hOlt i ob hm).2]; exact hasLk_get hlk i ob hm) (nodupN_iff.2 hnd') (by omega) (by omega) (newIds_of fun i hi => by
    by_cases c : i < rn.length
    · left; rw [hk0]; exact List.mem_of_getElem? (i := i) (by rw [seqN_get _ _ _ (by omega), Nat.zero_add])
    · right; obtain ⟨j, rfl⟩ : ∃ j, i = rn.length + j := ⟨i - rn.length, by omega⟩
      rw [hr2 j (by omega)]; omega) (boxesStay2_of (fun i ob hl => (hinb i ob (lookH_mem hl)).2) _) (nodupN_iff.2 (by rw [hk0]; exact seqN_nodup _ _))
  intro N Q hN
  refine hwp N Q hspec.1 hcall fun e w' he2 => ?_
  obtain ⟨v, I2, g2, rfl, hres, hst2⟩ := he2
  refine ⟨v, rfl, hN _ _ ?_⟩
  have hfs : ∀ s2 : S, forgetIn (rnf rn') (enumO 0 hos ++ enumO rn.length news) (enumO 0 hin) s2 = s2 := forgetIn_stay hstay
  rw [hfs s] at hst2
  have hren : ((st.ren fun j => rn.length + j).ren (rnf rn')) = st.ren fun j => s.nx + j := by
    have key : ∀ v : V, v.idsLt news.length = true → (v.ren fun j => rn.length + j).ren (rnf rn') = v.ren fun j => s.nx + j := by
      intro v hv
      rw [V.ren_ren]
      exact V.ren_congr (n := news.length) (fun i hi => hr2 i hi) v hv
    exact key st hst
  rw [hren, hmx] at hres
  have hput := hst2.putS (dst := o.dst) (v := st.ren fun j => s.nx + j) (val := v) hd (by rw [hmx]; exact hres)
  simp only [hmx] at hput
  refine hput.eqv ⟨rfl, rfl, fun _ => rfl, fun i => ?_, ?_⟩
  · have hsk : ((renH (rnf rn) (enumO 0 hos)).map (·.1)).Nodup := by
      rw [renH_keys, enumO_keys]
      have : ∀ l : List Nat, l.Nodup → (∀ x ∈ l, x < rn.length) → (l.map (rnf rn)).Nodup := by
        intro l
        induction l with
        | nil => intro _ _; simp
        | cons a t ih =>
          intro hn hl
          rw [List.nodup_cons] at hn
          rw [List.map_cons, List.nodup_cons]
          refine ⟨fun hc => ?_, ih hn.2 fun x hx => hl x (List.mem_cons_of_mem _ hx)⟩
          obtain ⟨q, hq, e⟩ := List.mem_map.1 hc
          have := rnf_inj hnd (hl q (List.mem_cons_of_mem _ hq)) (hl a List.mem_cons_self) e
          exact hn.1 (this ▸ hq)
      exact this _ (seqN_nodup _ _) fun x hx => by have := mem_seqN hx; omega
    have hA := hst2.heap.nodup
    have hB : ((renH (fun j => s.nx + j) (enumO 0 news) ++ setHs (renH (rnf rn) (enumO 0 hos)) s.hp).map (·.1)).Nodup := by
      rw [List.map_append, renH_keys, enumO_keys, setHs_keys, List.nodup_append]
      refine ⟨?_, h.heap.nodup, fun x hx y hy e => ?_⟩
      · have : ∀ l : List Nat, l.Nodup → (l.map fun j => s.nx + j).Nodup := by
          intro l
          induction l with
          | nil => intro _; simp
          | cons a t ih =>
            intro hn
            rw [List.nodup_cons] at hn
            rw [List.map_cons, List.nodup_cons]
            refine ⟨fun hc => ?_, ih hn.2⟩
            obtain ⟨q, hq, e⟩ := List.mem_map.1 hc
            have : q = a := by omega
            exact hn.1 (this ▸ hq)
        exact this _ (seqN_nodup _ _)
      · obtain ⟨q, hq, rfl⟩ := List.mem_map.1 hx
        obtain ⟨⟨i, ob⟩, hm, rfl⟩ := List.mem_map.1 hy
        have := (h.heap.obj i ob hm).1
        simp only at e
        omega
    refine lookH_ext hA hB (fun i ob => ?_) i
    have hdrop : ∀ {i ob}, (i, ob) ∈ dropIn (rnf rn') (enumO 0 hin) s.hp → (i, ob) ∈ s.hp ∧ i ∉ (renH (rnf rn) (enumO 0 hos)).map (·.1) := fun {i ob} hm => by
      obtain ⟨h3, h4⟩ := mem_dropIn _ h.heap.nodup hm
      refine ⟨h3, fun hc => ?_⟩
      rw [renH_keys, enumO_keys] at hc
      obtain ⟨q, hq, rfl⟩ := List.mem_map.1 hc
      have hq := mem_seqN hq
      refine h4 q (hin[q]'(by omega)) (by have := mem_enumO (k := 0) (List.getElem?_eq_getElem (show q < hin.length by omega)); rwa [Nat.zero_add] at this) ?_
      rw [hr1 q (by omega)]
    constructor
    · intro hm
      rcases List.mem_append.1 hm with hm | hm
      · obtain ⟨k, ob', hk, rfl, rfl⟩ := mem_renH hm
        rcases List.mem_append.1 hk with hk | hk
        · obtain ⟨hkl, hko⟩ := hOlt2 k ob' hk
          rw [hr1 k hkl, O.map_congr hr1 hko]
          refine List.mem_append_right _ (setHs_mem h.heap.nodup hsk (.inl ⟨mem_renH_of hk, ?_⟩))
          have := hasLk_get hlk k (hin[k]'(by omega)) (by have := mem_enumO (k := 0) (List.getElem?_eq_getElem (show k < hin.length by omega)); rwa [Nat.zero_add] at this)
          exact List.mem_map.2 ⟨_, lookH_mem this, rfl⟩
        · obtain ⟨j, rfl, hj⟩ := enumO_mem hk
          rw [hr2 j (List.getElem?_eq_some_iff.1 hj).1, (hpure j ob' hj).2]
          refine List.mem_append_left _ ?_
          have := mem_renH_of (r := fun j => s.nx + j) (mem_enumO (k := 0) hj)
          rwa [Nat.zero_add, (hpure j ob' hj).2] at this
      · obtain ⟨h3, h4⟩ := hdrop hm
        exact List.mem_append_right _ (setHs_mem h.heap.nodup hsk (.inr ⟨h3, h4⟩))
    · intro hm
      rcases List.mem_append.1 hm with hm | hm
      · obtain ⟨k, ob', hk, rfl, rfl⟩ := mem_renH hm
        obtain ⟨j, rfl, hj⟩ := enumO_mem hk
        refine List.mem_append_left _ ?_
        have := mem_renH_of (r := rnf rn') (List.mem_append_right (enumO 0 hos) (mem_enumO (k := rn.length) hj))
        rw [hr2 j (List.getElem?_eq_some_iff.1 hj).1, (hpure j ob' hj).2] at this
        rw [(hpure j ob' hj).2, Nat.zero_add]; exact this
      · rcases mem_setHs h.heap.nodup hsk hm with hm | ⟨h3, h4⟩
        · obtain ⟨k, ob', hk, rfl, rfl⟩ := mem_renH hm
          obtain ⟨hkl, hko⟩ := hOlt2 k ob' hk
          refine List.mem_append_left _ ?_
          have := mem_renH_of (r := rnf rn') (List.mem_append_left (enumO rn.length news) hk)
          rwa [hr1 k hkl, O.map_congr hr1 hko] at this
        · refine List.mem_append_right _ ?_
          have key : ∀ (l : List (Nat × O)) {hp : List (Nat × O)}, (i, ob) ∈ hp → (∀ q o', (q, o') ∈ l → i ≠ rnf rn' q) → (i, ob) ∈ dropIn (rnf rn') l hp := by
            intro l
            induction l with
            | nil => intro hp h5 _; exact h5
            | cons q t ih =>
              obtain ⟨a, b⟩ := q
              intro hp h5 h6
              refine ih ?_ fun q o' hm => h6 q o' (List.mem_cons_of_mem _ hm)
              have hne := h6 a b List.mem_cons_self
              have one : ∀ {hp : List (Nat × O)}, (i, ob) ∈ hp → (i, ob) ∈ dropH hp (rnf rn' a) := by
                intro hp
                induction hp with
                | nil => intro h7; cases h7
                | cons q2 t2 ih2 =>
                  obtain ⟨a2, b2⟩ := q2
                  intro h7
                  simp only [dropH]
                  cases hk : Nat.beq a2 (rnf rn' a) with
                  | true =>
                    have hk := Nat.eq_of_beq_eq_true hk
                    rcases List.mem_cons.1 h7 with h7 | h7
                    · cases h7; exact absurd hk hne
                    · exact h7
                  | false =>
                    rcases List.mem_cons.1 h7 with h7 | h7
                    · cases h7; exact List.mem_cons_self
                    · exact List.mem_cons_of_mem _ (ih2 h7)
              exact one h5
          refine key _ h3 fun q o' hq hc => h4 ?_
          obtain ⟨hql, _⟩ := hinb q o' hq
          rw [renH_keys, enumO_keys]
          refine List.mem_map.2 ⟨q, List.mem_of_getElem? (i := q) (by rw [seqN_get _ _ _ (by omega), Nat.zero_add]), ?_⟩
          rw [← hr1 q hql]; exact hc.symm
  · show (List.map _ (renH (fun j => s.nx + j) (enumO 0 news) ++ setHs (renH (rnf rn) (enumO 0 hos)) s.hp)).Nodup
    rw [List.map_append, renH_keys, enumO_keys, setHs_keys, List.nodup_append]
    refine ⟨?_, h.heap.nodup, fun x hx y hy e => ?_⟩
    · have : ∀ l : List Nat, l.Nodup → (l.map fun j => s.nx + j).Nodup := by
        intro l
        induction l with
        | nil => intro _; simp
        | cons a t ih =>
          intro hn
          rw [List.nodup_cons] at hn
          rw [List.map_cons, List.nodup_cons]
          refine ⟨fun hc => ?_, ih hn.2⟩
          obtain ⟨q, hq, e⟩ := List.mem_map.1 hc
          have : q = a := by omega
          exact hn.1 (this ▸ hq)
      exact this _ (seqN_nodup _ _)
    · obtain ⟨q, hq, rfl⟩ := List.mem_map.1 hx
      obtain ⟨⟨i, ob⟩, hm, rfl⟩ := List.mem_map.1 hy
      have := (h.heap.obj i ob hm).1
      simp only at e
      omega

theorem does_call (h : St X I g s a w) (hd : ∀ d, o.dst = some d → d < s.nt) {c : Call} {f : Nat} {caps : List V} (ho : o.op = .call c) {x : Operand} (hc : c.callee = .value x) (hx : evl s.env x = .fn f caps) {K : Ef → Prop}
    (hk : vcalld P f (evs s.env c.args.toList ++ caps) (lookH s.hp) K) : ∃ e, K e ∧ Does P X s o a w e := by
  obtain ⟨vals, hargs, hwp⟩ := call_wp (P := P) ho hc h hx
  generalize evs s.env c.args.toList ++ caps = args at hk hargs
  unfold vcalld at hk
  rcases hk with ⟨res, e1, e2, hspec, hk⟩ | ⟨res, hsc, hid, hspec, hk⟩ | ⟨z, st, hst, e1, hspec, hk⟩ | ⟨z, st, hst, e1, e2, e3, hspec, hk⟩ | ⟨id, fargs, pre, post, bs, pre', post', bs', res, hspec, hl, q1, q2, q3, q4, q6, q7, q8, _, hk⟩ | ⟨news, st, hst, e1, e2, e3, hspec, hk⟩ |
    ⟨rn, fargs, hin, hos, news, st, hst, hspec, ⟨c1, c2, c3, c4, c5, c6, c7, c8, c9⟩, he, hlk, hk⟩
  · simp only [idsLtL] at e2
    have e2 : res.idsLt 0 = true := by split at e2 <;> first | assumption | cases e2
    have hcall := h.called (rn := []) hspec (by rw [renL_flat e1]; exact hargs) e1 rfl trivial rfl (Nat.zero_le _) (Nat.zero_le _) rfl rfl rfl
    obtain ⟨v', hk', hv'⟩ := fin_pre hk
    refine ⟨_, hk', fun N Q hN => hwp N Q hspec.1 hcall fun e w' he => ?_⟩
    obtain ⟨v, I2, g2, rfl, hres, hst⟩ := he
    refine ⟨v, rfl, hN _ _ ?_⟩
    rw [V.ren_flat e2] at hres
    have hmx : Nat.max s.nx (maxN []) = s.nx := Nat.max_eq_left (Nat.zero_le _)
    rw [hmx] at hres
    have := hst.putS (dst := o.dst) (v := v') (val := v) hd (by rw [hmx]; exact hv' hres)
    simp only [hmx] at this
    exact this
  · obtain ⟨v', hk', hv'⟩ := fin_pre hk
    refine ⟨_, hk', fun N Q hN => hwp N Q hspec.1 (h.lendScalar hsc hid hspec hargs) fun e w' he => ?_⟩
    obtain ⟨v, rfl, hst, hres⟩ := he
    exact ⟨v, rfl, hN _ _ (hst.putS hd (hv' hres))⟩
  · have hmx : Nat.max s.nx (maxN [s.nx]) = s.nx + 1 := by show Nat.max s.nx (Nat.max (s.nx + 1) 0) = s.nx + 1; simp [Nat.max_def]
    have hcall := h.called (rn := [s.nx]) hspec (by rw [renL_flat e1]; exact hargs) e1 rfl trivial rfl (Nat.zero_le _) (Nat.le_refl _) (by
      have : Nat.ble s.nx s.nx = true := by simp
      simp only [newIds, keysH, memN, rnf, this]) rfl rfl
    refine ⟨_, hk, fun N Q hN => hwp N Q hspec.1 hcall fun e w' he => ?_⟩
    obtain ⟨v, I2, g2, rfl, hres, hst2⟩ := he
    refine ⟨v, rfl, hN _ _ ?_⟩
    have hr0 : ∀ i, i < 1 → rnf [s.nx] i = (fun _ => s.nx) i := fun i hi => by
      have e : i = 0 := by omega
      rw [e]; rfl
    have hren : st.ren (rnf [s.nx]) = st.ren fun _ => s.nx := V.ren_congr hr0 st hst
    rw [hren, hmx] at hres
    have := hst2.putS (dst := o.dst) (v := st.ren fun _ => s.nx) (val := v) hd (by rw [hmx]; exact hres)
    simp only [hmx] at this
    exact this
  · refine ⟨_, hk, fun N Q hN => hwp N Q hspec.1 (h.lendNew (m := 1) (hout := [(0, .arr z)]) (by simp only [okObs]; rw [e1]) e2 e3 hspec hargs) fun e w' he => ?_⟩
    obtain ⟨v, I2, g2, rfl, hst2, hres⟩ := he
    have hren : (st.ren fun i => s.nx + i) = st.ren fun _ => s.nx := V.ren_congr (n := 1) (fun i hi => by
      have e : i = 0 := by omega
      rw [e]; rfl) st hst
    rw [hren] at hres
    exact ⟨v, rfl, hN _ _ (hst2.putS (s := ⟨s.nt, s.nx + 1, s.env, (s.nx, .arr z) :: s.hp⟩) hd hres)⟩
  · have hmem := lookH_mem hl
    have hlt : id < s.nx := (h.heap.obj id _ hmem).1
    simp only [idsLtL] at q6
    have q6 : res.idsLt 0 = true := by split at q6 <;> first | assumption | cases q6
    have hr : ∀ i, i < 1 → rnf [id] i = (fun _ => id) i := fun i hi => by
      have : i = 0 := by omega
      subst this; rfl
    have hin0 : idsLtH 1 [(0, O.box pre bs post)] = true := by
      simp only [idsLtH]
      rw [idsLtL_up (Nat.zero_le 1) _ q1, idsLtL_up (Nat.zero_le 1) _ q2]; rfl
    have hcall := h.called (rn := [id]) hspec (by rw [renL_congr hr fargs q7, q8]; exact hargs) q7 hin0 ⟨by
      show lookH s.hp id = some (.box (renL (rnf [id]) pre) bs (renL (rnf [id]) post))
      rw [renL_flat q1, renL_flat q2]; exact hl, trivial⟩ rfl (Nat.le_refl _) (Nat.le_refl _) rfl rfl rfl
    have hmx : Nat.max s.nx (maxN [id]) = s.nx := Nat.max_eq_left (by show Nat.max (id + 1) 0 ≤ s.nx; exact Nat.max_le.2 ⟨hlt, Nat.zero_le _⟩)
    refine ⟨_, hk, fun N Q hN => hwp N Q hspec.1 hcall fun e w' he => ?_⟩
    obtain ⟨v, I2, g2, rfl, hres, hst⟩ := he
    refine ⟨v, rfl, hN _ _ ?_⟩
    rw [V.ren_flat q6, hmx] at hres
    have hst2 := hst.putS (dst := o.dst) (v := res) (val := v) hd (by rw [hmx]; exact hres)
    refine hst2.eqv ⟨rfl, hmx, fun _ => rfl, fun i => ?_, by show (List.map _ (setH s.hp id _)).Nodup; rw [setH_keys]; exact h.heap.nodup⟩
    show lookH ((id, O.box (renL (rnf [id]) pre') bs' (renL (rnf [id]) post')) :: dropH s.hp id) i = lookH (setH s.hp id _) i
    rw [renL_flat q3, renL_flat q4, lookH_cons, lookH_setH hl, lookH_dropH h.heap.nodup]
    split <;> rfl
  · refine ⟨_, hk, fun N Q hN => hwp N Q hspec.1 (h.lendNew e1 e2 e3 hspec hargs) fun e w' he => ?_⟩
    obtain ⟨v, I2, g2, rfl, hst2, hres⟩ := he
    exact ⟨v, rfl, hN _ _ (hst2.putS hd hres)⟩
  · exact ⟨_, hk, does_fx h hd hargs hwp hst hspec c1 c2 c3 c4 c5 c6 c7 c8 c9 he hlk⟩

theorem eps_eq (env : List (Nat × V)) (l : List (Nat × Operand)) : eps (evl env) l = evp env l := by
  induction l with
  | nil => rfl
  | cons x t ih => obtain ⟨i, x⟩ := x; simp only [eps, evp, ih]
theorem ess_eq (env : List (Nat × V)) (l : List Operand) : ess (evl env) l = evs env l := by
  induction l with
  | nil => rfl
  | cons x t ih => simp only [ess, evs, ih]

theorem zipP_snd (ps : List (Nat × V)) : zipP ps (sndP ps) = ps := by
  induction ps with
  | nil => rfl
  | cons x t ih => obtain ⟨i, x⟩ := x; simp only [sndP, zipP, ih]

mutual
theorem V.frz_other {id : Nat} {x : C} : ∀ v : V, id ∉ v.ids → v.frz id x = v
  | .ptr i a b c, h => by
    simp only [V.ids, List.mem_singleton] at h
    simp only [V.frz]
    cases hq : Nat.beq i id with
    | true => exact absurd (Nat.eq_of_beq_eq_true hq).symm h
    | false => rfl
  | .slc i, h => by
    simp only [V.ids, List.mem_singleton] at h
    simp only [V.frz]
    cases hq : Nat.beq i id with
    | true => exact absurd (Nat.eq_of_beq_eq_true hq).symm h
    | false => rfl
  | .agg xs, h => by simp only [V.ids] at h; simp only [V.frz, frzL_other xs h]
  | .tup xs, h => by simp only [V.ids] at h; simp only [V.frz, frzL_other xs h]
  | .fn f xs, h => by simp only [V.ids] at h; simp only [V.frz, frzL_other xs h]
  | .any, _ => rfl
  | .tt, _ => rfl
  | .ff, _ => rfl
  | .nil, _ => rfl
  | .c _, _ => rfl
  | .iptr _, _ => rfl
theorem frzL_other {id : Nat} {x : C} : ∀ xs : List V, id ∉ idsL xs → frzL id x xs = xs
  | [], _ => rfl
  | y :: t, h => by
    simp only [idsL, List.mem_append, not_or] at h
    simp only [frzL, V.frz_other y h.1, frzL_other t h.2]
end

theorem O.frz_other {id : Nat} {x : C} {ob : O} (h : id ∉ ob.ids) : ob.map (frzL id x) = ob := by
  cases ob with
  | box pre bs post => simp only [O.ids, List.mem_append, not_or] at h; simp only [O.map, frzL_other _ h.1, frzL_other _ h.2]
  | arr y => rfl
  | hol y hi vs => simp only [O.ids] at h; simp only [O.map, frzL_other _ h]
  | deep p f y hs =>
    simp only [O.ids] at h
    have : mapHs (frzL id x) hs = hs := by
      induction hs with
      | nil => rfl
      | cons q t ih =>
        obtain ⟨i, us⟩ := q
        simp only [idsHs, List.mem_append, not_or] at h
        simp only [mapHs, frzL_other _ h.1, ih h.2]
    simp only [O.map, this]

theorem St.lower {nt n1 n : Nat} {env : List (Nat × V)} {hp : List (Nat × O)} (h : St X I g ⟨nt, n1, env, hp⟩ a w) (he : ∀ j, ∀ i ∈ (look env j).ids, i < n) (hh : ∀ i o, (i, o) ∈ hp → i < n ∧ ∀ k ∈ o.ids, k < n)
    (hl : ∀ id, X.K0 id → id < n) : St X I g ⟨nt, n, env, hp⟩ a w :=
  ⟨h.df, h.sz, fun j => (h.slots j).move fun i hi => ⟨he j i hi, rfl⟩, ⟨fun i o hm => ⟨(hh i o hm).1, (h.heap.obj i o hm).2.move rfl fun k hk => ⟨(hh i o hm).2 k hk, rfl⟩⟩, h.heap.apart, h.heap.nodup, h.heap.inj⟩,
    h.bound, h.up, h.down, h.own, h.keep, h.fr, hl⟩

/-- a new slice that nobody will write -/
theorem Sat.frozen {x : C} {dst : Option Nat} {a' : Act} {w' : World} (h : St X I g s a w) (h1 : Sat X (Ef.bump dst (.new (.slc 0) rfl (.arr x)) s) a' w') : Sat X ((Ef.val (.c x)).apply 0 dst s) a' w' := by
  obtain ⟨I1, g1, h1⟩ := h1
  obtain ⟨I2, _, _, h2⟩ := h1.freeze (id := s.nx) (x := x) (by simp only [Ef.bump]; rw [lookH_cons, if_pos rfl])
  have hlt : ∀ i o, (i, o) ∈ s.hp → i < s.nx ∧ ∀ k ∈ o.ids, k < s.nx := fun i o hm => ⟨(h.heap.obj i o hm).1, (h.heap.obj i o hm).2.ids_lt⟩
  refine ⟨I2, g1, St.lower (n1 := s.nx + 1) (h2.eqv ⟨rfl, rfl, fun j => ?_, fun i => ?_, h.heap.nodup⟩) (fun j i hi => ?_) hlt h.low⟩
  · show look (mapE (V.frz s.nx x) (setD dst (.slc s.nx) s.env)) j = look (setD dst (.c x) s.env) j
    rw [look_mapE _ rfl, look_setD, look_setD]
    split
    · simp [V.frz, Nat.beq_refl]
    · exact V.frz_other _ fun hm => by have := (h.slots j).ids_lt _ hm; omega
  · show lookH (mapH (frzL s.nx x) (dropH ((s.nx, .arr x) :: s.hp) s.nx)) i = lookH s.hp i
    have hdr : dropH ((s.nx, O.arr x) :: s.hp) s.nx = s.hp := by simp [dropH, Nat.beq_refl]
    rw [hdr, lookH_mapH]
    cases hq : lookH s.hp i with
    | none => rfl
    | some ob =>
      simp only [Option.map_some]
      rw [O.frz_other fun hm => by have := (hlt i ob (lookH_mem hq)).2 _ hm; omega]
  · rw [look_setD] at hi
    split at hi
    · simp [V.ids] at hi
    · exact (h.slots j).ids_lt i hi

theorem sound_litHol (hT : TOk P T) {t len : Nat} {parts : Array (Nat × Operand)} (ho : o.op = .buildSlice t len parts) (h : St X I g s a w) {e sz by' : Nat} {kd : Kd} (hti : T t = .slice e sz by' kd) {cs : List V}
    (hps : evp s.env parts.toList = [(0, .agg cs)]) (hlen : Nat.beq (evp s.env parts.toList).length len = true) (hmax : Nat.ble (len * sz) 1000000 = true) (hok : litOk kd.empty sz cs = true) {N : Act → World → Prop} {Q : Exit → Act → World → Prop}
    (hd : ∀ d, o.dst = some d → d < s.nt) (hN : ∀ s' a' w', Sat X s' a' w' → s' = (Ef.new (.slc 0) rfl (.hol (kd.zeros 1) 0 cs)).bump o.dst s → N a' w') : o.wp P a w N Q :=
  sound_litHol0 hT ho h hti hps hlen hmax hok (K := fun s' => s' = (Ef.new (.slc 0) rfl (.hol (kd.zeros 1) 0 cs)).bump o.dst s) (alloc_fits (.slc 0) rfl hd rfl) hN

theorem vbuild_litA {t len : Nat} {parts : List (Nat × V)} {dst : Option Nat} {e sz by' : Nat} {kd : Kd} {K : S → Prop} (hti : T t = .slice e sz by' kd) (h1 : Nat.beq parts.length len = true) (h2 : Nat.ble (len * sz) 1000000 = true)
    (h : vlitA kd sz parts s dst K) : vbuildSlice T t len parts s dst K := by
  simp only [vbuildSlice, hti, h1, h2]
  split
  · exact h
  · split
    · unfold vch; exact .inl h
    · split
      · unfold vch; exact .inl h
      · exact h
    · exact h

theorem does_lit (hT : TOk P T) (hE : EOk P T) (h : St X I g s a w) (hd : ∀ d, o.dst = some d → d < s.nt) {t len : Nat} {parts : Array (Nat × Operand)} (ho : o.op = .buildSlice t len parts) {K : Ef → Prop}
    (hk : vdLit T t len (eps (evl s.env) parts.toList) (fun x => K (.val (.c x))) fun ob => K (.new (.slc 0) rfl ob)) : ∃ e, K e ∧ Does P X s o a w e := by
  rw [eps_eq] at hk
  unfold vdLit at hk
  split at hk
  · rename_i hti
    split at hk
    · rename_i q1
      split at hk
      · rename_i q2
        split at hk
        · rename_i q3
          split at hk
          · rename_i x q4
            split at hk
            · rename_i q5
              rw [C.force_eq] at hk
              refine ⟨_, hk, fun N Q hN => ?_⟩
              refine sound_op hT hE h (K := fun s' => s' = (Ef.new (.slc 0) rfl (.arr x)).bump o.dst s) ?_ fun s' a' w' h' he => hN a' w' (Sat.frozen h (he ▸ h'))
              unfold vop; rw [ho]
              refine vbuild_litA hti q1 q2 ?_
              simp only [vlitA, q3, vfz, zipP_snd, q4, q5, C.force_eq]
              exact alloc_fits (.slc 0) rfl hd rfl
            · exact hk.elim
          · exact hk.elim
        · split at hk
          · rename_i cs hps
            split at hk
            · rename_i q4
              rw [forceL_eq] at hk
              refine ⟨_, hk, fun N Q hN => ?_⟩
              exact sound_litHol hT ho h hti hps q1 q2 q4 hd fun s' a' w' h' he => hN a' w' (he ▸ h')
            · exact hk.elim
          · exact hk.elim
      · exact hk.elim
    · exact hk.elim
  · exact hk.elim

theorem does_any (hT : TOk P T) (hE : EOk P T) (h : St X I g s a w) (hd : ∀ d, o.dst = some d → d < s.nt) {K : Ef → Prop} (hk : vd T P o (evl s.env) (lookH s.hp) K) : ∃ e, K e ∧ Does P X s o a w e := by
  unfold vd at hk
  split at hk
  · rename_i x ho
    exact does_fin (v := pure (a.eval x)) h hd (fun val hr => by simp at hr; simp [execOp, ho, hr]) ⟨_, a.eval x, by simp, h.eval x, hk⟩
  · rename_i x ho
    exact does_fin (v := pure (a.eval x)) h hd (fun val hr => by simp at hr; simp [execOp, ho, hr]) ⟨_, a.eval x, by simp, h.eval x, hk⟩
  · rename_i c x y ho
    have hc := h.eval c
    split at hk
    · rename_i e
      rw [e] at hc
      have hp := hc.tt_inv
      exact does_fin (v := pure (a.eval x)) h hd (fun val hr => by simp at hr; simp [execOp, ho, hp, asBool, hr]) ⟨_, a.eval x, by simp, h.eval x, hk⟩
    · rename_i e
      rw [e] at hc
      have hp := hc.ff_inv
      exact does_fin (v := pure (a.eval y)) h hd (fun val hr => by simp at hr; simp [execOp, ho, hp, asBool, hr]) ⟨_, a.eval y, by simp, h.eval y, hk⟩
    · exact hk.elim
  · rename_i t ho; exact does_vdAlloc hT hE h hd ho hk
  · rename_i t x ho
    split at hk
    · rename_i h1
      refine ⟨_, hk, does_op hT hE h ?_⟩
      unfold vop; rw [ho]
      simp only [h1]
      exact alloc_fits (.ptr 0 0 0 0) rfl hd rfl
    · exact hk.elim
  · rename_i t parts ho
    rw [eps_eq] at hk
    split at hk
    · rename_i h1
      unfold vbuild at hk
      split at hk
      · rename_i fs zs hti
        split at hk
        · rename_i cs hcs
          refine ⟨.val (.agg cs), ?_, does_op hT hE h ?_⟩
          · simpa only [fin, V.force_eq] using hk
          · unfold vop; rw [ho]
            simp only [h1, vbuild, hti, hcs]
            exact put_fits hd rfl
        · exact hk.elim
      · exact hk.elim
    · exact hk.elim
  · rename_i t len parts ho; exact does_lit hT hE h hd ho hk
  · rename_i t x ho
    exact does_fin h hd (fun val hr => by simp [execOp, ho, hr]) (run_vload hT h.heap (h.eval x) hk)
  · rename_i t x y ho
    split at hk
    · rename_i hok; exact does_store hT hE h hd ho hok hk
    · exact hk.elim
  · rename_i x ho
    split at hk
    · rename_i row he
      refine ⟨_, hk, does_op hT hE h ?_⟩
      unfold vop; rw [ho]
      simp only [he]
      exact put_fits hd rfl
    · rename_i he
      refine ⟨_, hk, does_op hT hE h ?_⟩
      unfold vop; rw [ho]
      simp only [he]
      exact put_fits hd rfl
    · exact hk.elim
  · rename_i op t x y yt ho
    split at hk
    · rename_i hok
      refine does_fin h hd (v := do eqGuard op t x y (a.eval x) (a.eval y); binOp op t (a.eval x) (a.eval y)) (fun val hr => ?_) (run_vbin (P := P) (t := t) (ox := x) (oy := y) (h.eval x) (h.eval y) hk (fun ⟨b, b', hb, _⟩ => by
        have hbt : boolT (T t) = true := by
          unfold vbinOk at hok
          split at hok
          · rename_i l he; rw [he] at hb; cases hb
          · rename_i k m he; rw [he] at hb; cases hb
          · exact hok
        unfold boolT at hbt
        split at hbt
        · rename_i hti; have := hT t; rw [hti] at this; exact this.2.2.2.2 rfl
        · cases hbt) (fun ⟨l, hl⟩ => by
        unfold vbinOk at hok
        rw [hl] at hok
        exact hE t hok))
      simp only [execOp, ho, Sem.run_bind]; simp only [Sem.run_bind] at hr; rw [hr]; rfl
    · exact hk.elim
  · rename_i op t x ho
    exact does_fin h hd (fun val hr => by simp [execOp, ho, hr]) (run_vun (h.eval x) hk)
  · rename_i r d x ho
    split at hk
    · rename_i hok
      refine does_fin h hd (fun val hr => by simp [execOp, ho, hr]) (run_vconv hT (src := r) (h.eval x) hk ?_)
      unfold intT at hok
      split at hok
      · rename_i k m hti; have := hT r; rw [hti] at this; exact ⟨k, this.2.2.2.1 k m rfl⟩
      · cases hok
    · exact hk.elim
  · rename_i t l c ho; exact does_vdMake hT hE h hd ho hk
  · rename_i t x lo hi mx ho
    refine does_fin (v := Instr.sliceAt t (a.eval x) (lo.map a.eval) (hi.map a.eval) (mx.map a.eval)) h hd (fun val hr => by simp [execOp, ho, hr]) (run_vslice hT (h.eval x) (fun y hy => ?_) (fun e => ?_) (fun y hy => ?_) (fun e => ?_) (fun e => ?_) hk)
    · cases lo with
      | none => cases hy
      | some z => cases hy; exact ⟨_, rfl, h.eval z⟩
    · cases lo with
      | none => rfl
      | some z => cases e
    · cases hi with
      | none => cases hy
      | some z => cases hy; exact ⟨_, rfl, h.eval z⟩
    · cases hi with
      | none => rfl
      | some z => cases e
    · cases mx with
      | none => rfl
      | some z => cases e
  · rename_i t x f ho
    exact does_fin h hd (fun val hr => by simp [execOp, ho, hr]) (run_vfieldAddr hT (h.eval x) hk)
  · rename_i t x f ho
    exact does_fin h hd (fun val hr => by simp [execOp, ho, hr]) (run_vfield hT (h.eval x) hk)
  · rename_i t x ix ho
    exact does_fin h hd (fun val hr => by simp [execOp, ho, hr]) (run_vindexAddr hT h.heap (h.eval x) (h.eval ix) hk)
  · rename_i x i ho
    have hx := h.eval x
    split at hk
    · rename_i vs he
      rw [he] at hx
      split at hk
      · rename_i v hv
        have hv := nthV_get hv
        obtain ⟨us, hu, hl, hr⟩ := hx.tup_inv
        have hlt : i < us.length := by rw [← hl]; exact (List.getElem?_eq_some_iff.1 hv).1
        exact does_fin (v := pure us[i]) h hd (fun val hr => by simp at hr; subst hr; simp [execOp, ho, hu, Instr.extract, hlt]) ⟨v, us[i], by simp, hr i v _ hv (List.getElem?_eq_getElem hlt), hk⟩
      · exact hk.elim
    · exact hk.elim
  · rename_i c ho
    split at hk
    · rename_i b hc
      rw [ess_eq] at hk
      have hargs := h.evals' c.args.toList
      have hvals : (c.args.map a.eval).toList = c.args.toList.map a.eval := by simp
      split at hk
      · rename_i x he
        rw [he] at hargs
        split at hk
        · rename_i t ts hts
          split at hk
          · rename_i e sz by' kd hti
            obtain ⟨v, hv⟩ : ∃ v, c.args.toList.map a.eval = [v] := by
              have := hargs.1
              match hq : c.args.toList.map a.eval, this with
              | [v], _ => exact ⟨v, rfl⟩
            have hx := hargs.2 0 x v rfl (by rw [hv]; rfl)
            have harr : c.args.map a.eval = #[v] := by apply Array.ext'; rw [hvals, hv]
            have hu := (slice_facts hT hti).1
            have h0 : c.argTypes[0]? = some t := by rw [← Array.getElem?_toList, hts]; rfl
            obtain ⟨y, val, r1, r2, r3⟩ := run_vlen (t := o.type) h0 hu h.heap hx hk
            obtain ⟨v', h4, h5⟩ := fin_does r2 r3
            exact ⟨_, h5, does_val h hd (by simp [execOp, ho, resolve, hc, invoke, builtin, harr, r1]) h4⟩
          · exact hk.elim
        · exact hk.elim
      · rename_i x y he
        split at hk
        · rename_i t t' hts
          split at hk
          · rename_i e sz by' kd hti
            have hlen : ∃ p q, c.args.toList = [p, q] := by
              have : (evs s.env c.args.toList).length = 2 := by rw [he]; rfl
              rw [evs_eq, List.length_map] at this
              match hq : c.args.toList, this with
              | [p, q], _ => exact ⟨p, q, rfl⟩
            obtain ⟨p, q, hpq⟩ := hlen
            have he' := he
            rw [hpq] at he'
            simp only [evs, List.cons.injEq, and_true] at he'
            obtain ⟨hx, hy⟩ := he'
            rw [← hx, ← hy] at hk
            refine does_vdApp hd (fun e he2 => does_op hT hE h ?_) hk
            unfold vop; rw [ho]
            simp only [hc, vbuiltin, he, hts, hti]
            rw [← hx, ← hy]
            exact he2
          · exact hk.elim
        · exact hk.elim
      · rename_i x y he
        rw [he] at hargs
        obtain ⟨z, val, r1, r2, r3⟩ := run_vmm (P := P) (ts := c.argTypes) (t := o.type) (isMax := false) hargs.1 hargs.2 hk
        have harr : c.args.map a.eval = (c.args.toList.map a.eval).toArray := by apply Array.ext'; simp
        simp only [Bool.false_eq_true, if_false] at r1
        obtain ⟨v', h4, h5⟩ := fin_does r2 r3
        exact ⟨_, h5, does_val h hd (by simp only [execOp, ho, resolve, hc, invoke, builtin, Sem.run_bind, Sem.run_pure, Result.andThen_ok]; rw [harr, r1]; rfl) h4⟩
      · rename_i x y he
        rw [he] at hargs
        obtain ⟨z, val, r1, r2, r3⟩ := run_vmm (P := P) (ts := c.argTypes) (t := o.type) (isMax := true) hargs.1 hargs.2 hk
        have harr : c.args.map a.eval = (c.args.toList.map a.eval).toArray := by apply Array.ext'; simp
        simp only [if_true] at r1
        obtain ⟨v', h4, h5⟩ := fin_does r2 r3
        exact ⟨_, h5, does_val h hd (by simp only [execOp, ho, resolve, hc, invoke, builtin, Sem.run_bind, Sem.run_pure, Result.andThen_ok]; rw [harr, r1]; rfl) h4⟩
      · exact hk.elim
    · rename_i f hc
      split at hk
      · rename_i g' caps he
        rw [ess_eq] at hk
        exact does_call h hd ho hc he hk
      · exact hk.elim
    · exact hk.elim
  · exact hk.elim
end
end Go.VL
