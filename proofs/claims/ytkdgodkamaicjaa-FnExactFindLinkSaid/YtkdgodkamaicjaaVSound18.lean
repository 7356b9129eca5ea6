/- V-logic, part 20: one operation of a region that draws its order. -/
import Derived.Test.YtkdgodkamaicjaaVSound17
namespace Go.VL
section
variable {P : Program} {T : TT} {X : Cx} {I : Nat → Prop} {g : Gam} {s : S} {a : Act} {w : World} {o : Oper}

/-- the operation does e -/
def Does (P : Program) (X : Cx) (s : S) (o : Oper) (a : Act) (w : World) (e : Ef) : Prop :=
  ∀ (N : Act → World → Prop) (Q : Exit → Act → World → Prop), (∀ a' w', Sat X (e.bump o.dst s) a' w' → N a' w') → o.wp P a w N Q

theorem put_fits {dst : Option Nat} {v : V} (hd : ∀ d, dst = some d → d < s.nt) {K : S → Prop} (hk : K ⟨s.nt, s.nx, setD dst v s.env, s.hp⟩) : s.put dst v K := by
  cases dst with
  | none => rw [S.put_none]; exact hk
  | some d => rw [S.put_some]; exact ⟨hd d rfl, hk⟩

theorem does_op (hT : TOk P T) (hE : EOk P T) (h : St X I g s a w) {e : Ef} (hk : vop T P o s fun s' => s' = e.bump o.dst s) : Does P X s o a w e := fun _ _ hN =>
  sound_op hT hE h hk fun s' a' w' h' he => hN a' w' (he ▸ h')

theorem does_val (h : St X I g s a w) (hd : ∀ d, o.dst = some d → d < s.nt) {v : V} {val : Value} (hrun : (execOp a.eval o).run P w = .ok (.value val) w) (hv : RV I g s.nx w v val) :
    Does P X s o a w (.val v) := fun _ _ hN =>
  finish_value hrun h hv (K := fun s' => s' = (Ef.val v).bump o.dst s) (put_fits hd rfl) fun s' a' w' h' he => hN a' w' (he ▸ h')

theorem does_skip {N : Act → World → Prop} (h : St X I g s a w) (hd : ∀ d, o.dst = some d → d < s.nt) (hN : ∀ a' w', Sat X ((Ef.val (.tup [])).apply 0 o.dst s) a' w' → N a' w') : N (a.put o.dst undef) w := by
  obtain ⟨s', h1, h2⟩ := h.putO (v := .tup []) (val := undef) (RV.tup [] [] rfl (by simp)) (K := fun s' => s' = (Ef.val (.tup [])).apply 0 o.dst s) (put_fits hd rfl)
  exact hN _ _ (h2 ▸ h1)

theorem fin_does {n : Nat} {v : V} {val : Value} {K : Ef → Prop} (hv : RV I g n w v val) (hk : fin v K) : ∃ v', RV I g n w v' val ∧ K (.val v') := by
  unfold fin at hk
  split at hk
  · rename_i b
    have := hv.bool_inv
    subst this
    cases b with
    | true => exact ⟨.tt, .tt, (vif_true hk).1 rfl⟩
    | false => exact ⟨.ff, .ff, (vif_true hk).2 rfl⟩
  · rw [V.force_eq] at hk; exact ⟨_, hv, hk⟩

theorem does_fin (h : St X I g s a w) (hd : ∀ d, o.dst = some d → d < s.nt) {K : Ef → Prop} {v : Sem Value} (hv : ∀ val, v.run P w = .ok val w → (execOp a.eval o).run P w = .ok (.value val) w)
    (hk : ∃ y val, v.run P w = .ok val w ∧ RV I g s.nx w y val ∧ fin y K) : ∃ e, K e ∧ Does P X s o a w e := by
  obtain ⟨y, val, h1, h2, h3⟩ := hk
  obtain ⟨v', h4, h5⟩ := fin_does h2 h3
  exact ⟨_, h5, does_val h hd (hv val h1) h4⟩

theorem alloc_fits {dst : Option Nat} {ob : O} (st : V) (hst : st.idsLt 1 = true) (hd : ∀ d, dst = some d → d < s.nt) {K : S → Prop} (hk : K ((Ef.new st hst ob).bump dst s)) : s.alloc dst ob (Ef.val? s.nx (.new st hst ob)) K := by
  rw [S.alloc_eq]
  exact put_fits (s := ⟨s.nt, s.nx + 1, s.env, (s.nx, ob) :: s.hp⟩) hd hk

theorem does_vdAlloc (hT : TOk P T) (hE : EOk P T) (h : St X I g s a w) (hd : ∀ d, o.dst = some d → d < s.nt) {t : Nat} (ho : o.op = .alloc t) {K : Ef → Prop} (hk : vdAlloc T t K) : ∃ e, K e ∧ Does P X s o a w e := by
  unfold vdAlloc at hk
  have key : ∀ st ob, K (.new (.ptr 0 0 st 0) rfl ob) → (s.alloc o.dst ob (.ptr s.nx 0 st 0) (fun s' => s' = (Ef.new (.ptr 0 0 st 0) rfl ob).bump o.dst s) → vop T P o s fun s' => s' = (Ef.new (.ptr 0 0 st 0) rfl ob).bump o.dst s) → ∃ e, K e ∧ Does P X s o a w e :=
    fun st ob hk hv => ⟨_, hk, does_op hT hE h (hv (alloc_fits (.ptr 0 0 st 0) rfl hd rfl))⟩
  have hv : ∀ K', valloc T t s o.dst K' → vop T P o s K' := fun K' h => by unfold vop; rw [ho]; exact h
  split at hk <;> rename_i hti
  · exact key _ _ hk fun h => hv _ (by unfold valloc; rw [hti]; exact h)
  · exact key _ _ hk fun h => hv _ (by unfold valloc; rw [hti]; exact h)
  · exact key _ _ hk fun h => hv _ (by unfold valloc; rw [hti]; exact h)
  · exact key _ _ hk fun h => hv _ (by unfold valloc; rw [hti]; exact h)
  · exact key _ _ hk fun h => hv _ (by unfold valloc; rw [hti]; exact h)
  · exact hk.elim

theorem does_vdMake (hT : TOk P T) (hE : EOk P T) (h : St X I g s a w) (hd : ∀ d, o.dst = some d → d < s.nt) {t : Nat} {l c : Operand} (ho : o.op = .makeSlice t l c) {K : Ef → Prop}
    (hk : vdMake T t (evl s.env l) (evl s.env c) K) : ∃ e, K e ∧ Does P X s o a w e := by
  unfold vdMake at hk
  split at hk
  · rename_i hti
    split at hk
    · rename_i h1 h2
      split at hk
      · rename_i hst
        obtain ⟨hc, hk⟩ := vneed_true hk
        refine ⟨_, hk, does_op hT hE h ?_⟩
        unfold vop; rw [ho]
        simp only [vmake, hti, h1, h2, hst]
        unfold vneed
        exact ⟨hc, alloc_fits (.slc 0) rfl hd rfl⟩
      · exact hk.elim
    · exact hk.elim
  · exact hk.elim

theorem view_det {kd : Kd} {lk : Nat → Option O} {v : V} {KC : C → Option (Nat × List V) → Prop} (h : view kd lk v KC) : ∃ z hz, KC z hz ∧ ∀ KC' : C → Option (Nat × List V) → Prop, KC' z hz → view kd lk v KC' := by
  unfold view at h
  split at h
  · exact ⟨_, _, h, fun _ h => h⟩
  · rw [C.force_eq] at h; exact ⟨_, _, h, fun _ h => by simp only [view, C.force_eq]; exact h⟩
  · split at h
    · rename_i hl
      rw [C.force_eq] at h; exact ⟨_, _, h, fun _ h => by simp only [view, hl, C.force_eq]; exact h⟩
    · rename_i hl
      rw [C.force_eq] at h; exact ⟨_, _, h, fun _ h => by simp only [view, hl, C.force_eq]; exact h⟩
    · exact h.elim
  · exact h.elim

theorem does_vdApp (hd : ∀ d, o.dst = some d → d < s.nt) {t : Nat} {x y : Operand} {K : Ef → Prop}
    (hop : ∀ e : Ef, vappend T t s o.dst (evl s.env x) (evl s.env y) (fun s' => s' = e.bump o.dst s) → Does P X s o a w e)
    (hk : vdApp T t (lookH s.hp) (evl s.env x) (evl s.env y) K) : ∃ e, K e ∧ Does P X s o a w e := by
  unfold vdApp at hk
  split at hk
  · rename_i e sz by' kd hti
    obtain ⟨y', hy', hk, hview⟩ := view_det hk
    split at hk
    · rename_i hx
      split at hk
      · rename_i z hz
        split at hk
        · rename_i hst
          obtain ⟨hc, hk⟩ := vneed_true hk
          rw [C.force_eq] at hk
          refine ⟨_, hk, hop _ ?_⟩
          simp only [vappend, hti]
          refine hview _ ?_
          simp only [hx, hz, hst]
          unfold vneed
          rw [C.force_eq]
          exact ⟨hc, alloc_fits (.slc 0) rfl hd rfl⟩
        · exact hk.elim
      · exact hk.elim
    · rename_i id hx
      split at hk
      · rename_i x' hl
        split at hk
        · rename_i z hz
          split at hk
          · rename_i hst
            obtain ⟨hc, hk⟩ := vneed_true hk
            rw [C.force_eq] at hk
            refine ⟨_, hk, hop _ ?_⟩
            simp only [vappend, hti]
            refine hview _ ?_
            simp only [hx, hl, hz, hst]
            unfold vneed
            rw [C.force_eq]
            refine ⟨hc, ?_⟩
            rw [S.force_eq]
            exact put_fits (s := ⟨s.nt, s.nx, mapE (V.forget id) s.env, setH (mapH (forgetL id) s.hp) id (holO z x'.len (forgetHY id hy'))⟩) hd rfl
          · exact hk.elim
        · exact hk.elim
      · rename_i x' hi' us' hl
        split at hk
        · rename_i z hz
          split at hk
          · rename_i hst
            obtain ⟨hc, hk⟩ := vneed_true hk
            rw [C.force_eq] at hk
            refine ⟨_, hk, hop _ ?_⟩
            simp only [vappend, hti]
            refine hview _ ?_
            simp only [hx, hl, hz, hst]
            unfold vneed
            rw [C.force_eq]
            refine ⟨hc, ?_⟩
            rw [S.force_eq]
            exact put_fits (s := ⟨s.nt, s.nx, mapE (V.forget id) s.env, setH (mapH (forgetL id) s.hp) id (.hol z hi' (forgetL id us'))⟩) hd rfl
          · exact hk.elim
        · exact hk.elim
      · exact hk.elim
    · exact hk.elim
  · exact hk.elim

theorem does_store (hT : TOk P T) (hE : EOk P T) (h : St X I g s a w) (hd : ∀ d, o.dst = some d → d < s.nt) {t : Nat} {x y : Operand} (ho : o.op = .store t x y) (hok : (T t).ok = true) {K : Ef → Prop}
    (hk : vdStore T t (lookH s.hp) (evl s.env x) (evl s.env y) fun id ob => K (.set (.tup []) id ob)) : ∃ e, K e ∧ Does P X s o a w e := by
  have key : ∀ id ob, K (.set (.tup []) id ob) → (∀ K' : S → Prop, K' ⟨s.nt, s.nx, s.env, setH s.hp id ob⟩ → vstore T t s (evl s.env x) (evl s.env y) K') → ∃ e, K e ∧ Does P X s o a w e := by
    intro id ob hk hv
    refine ⟨_, hk, does_op hT hE h ?_⟩
    unfold vop; rw [ho]
    simp only [hok]
    exact hv _ (put_fits (s := ⟨s.nt, s.nx, s.env, setH s.hp id ob⟩) hd rfl)
  unfold vdStore at hk
  split at hk
  · split at hk
    · rename_i hx
      split at hk
      · rename_i hl
        split at hk
        · rename_i h0
          split at hk
          · rename_i h1
            split at hk
            · rename_i h2
              refine key _ _ hk fun K' hK' => ?_
              simp only [vstore, hx, hl, h0, h2, S.withHp_eq]
              rw [h1]; exact hK'
            · exact hk.elim
          · exact hk.elim
        · exact hk.elim
      · exact hk.elim
    · exact hk.elim
  · rename_i hsl
    split at hk
    · rename_i hx
      split at hk
      · rename_i hl
        obtain ⟨hc, hk⟩ := vneed_true hk
        unfold vset at hk
        split at hk
        · rename_i q1
          split at hk
          · rename_i q2
            split at hk
            · rename_i q3
              refine key _ _ hk fun K' hK' => ?_
              simp only [vstore, hx, hl, hsl, vfz, S.withHp_eq]
              unfold vneed
              refine ⟨hc, ?_⟩
              simp only [vset, q1, q2, q3]; exact hK'
            · exact hk.elim
          · exact hk.elim
        · rename_i q1
          split at hk
          · exact hk.elim
          · rename_i q2
            split at hk
            · rename_i q3
              refine key _ _ hk fun K' hK' => ?_
              simp only [vstore, hx, hl, hsl, vfz, S.withHp_eq]
              unfold vneed
              refine ⟨hc, ?_⟩
              simp only [vset, q1, q2, q3]; exact hK'
            · exact hk.elim
      · rename_i hl
        obtain ⟨hc, hk⟩ := vneed_true hk
        rcases vor_true hk with ⟨e, hk⟩ | ⟨hne, hk⟩
        · split at hk
          · rename_i h1
            split at hk
            · rename_i h2
              refine key _ _ hk fun K' hK' => ?_
              simp only [vstore, hx, hl]
              unfold vneed vor
              refine ⟨hc, .inl ⟨e, ?_⟩⟩
              rw [h1]
              simp only [h2, S.withHp_eq]; exact hK'
            · exact hk.elim
          · exact hk.elim
        · unfold vset at hk
          split at hk
          · rename_i q1
            split at hk
            · rename_i q2
              split at hk
              · rename_i q3
                refine key _ _ hk fun K' hK' => ?_
                simp only [vstore, hx, hl]
                unfold vneed vor
                refine ⟨hc, .inr ⟨hne, ?_⟩⟩
                simp only [vset, q1, q2, q3, S.withHp_eq]; exact hK'
              · exact hk.elim
            · exact hk.elim
          · rename_i q1
            split at hk
            · exact hk.elim
            · rename_i q2
              split at hk
              · rename_i q3
                refine key _ _ hk fun K' hK' => ?_
                simp only [vstore, hx, hl]
                unfold vneed vor
                refine ⟨hc, .inr ⟨hne, ?_⟩⟩
                simp only [vset, q1, q2, q3, S.withHp_eq]; exact hK'
              · exact hk.elim
      · rename_i hl
        split at hk
        · rename_i h0
          split at hk
          · rename_i h1
            split at hk
            · rename_i h2
              refine key _ _ hk fun K' hK' => ?_
              simp only [vstore, hx, hl, h0, h2, S.withHp_eq]
              rw [h1]; exact hK'
            · exact hk.elim
          · exact hk.elim
        · exact hk.elim
      · exact hk.elim
    · exact hk.elim

/-- states that tell the same -/
structure Eqv (s s' : S) : Prop where
  nt : s.nt = s'.nt
  nx : s.nx = s'.nx
  env : ∀ j, look s.env j = look s'.env j
  hp : ∀ i, lookH s.hp i = lookH s'.hp i
  nodup : (s'.hp.map (·.1)).Nodup

theorem St.eqv (h : St X I g s a w) {s' : S} (e : Eqv s s') : St X I g s' a w := by
  have hm : ∀ i o, (i, o) ∈ s'.hp → (i, o) ∈ s.hp := fun i o hm => lookH_mem ((e.hp i).trans (mem_lookH e.nodup hm))
  refine ⟨h.df, h.sz.trans e.nt, fun j => by rw [← e.env, ← e.nx]; exact h.slots j, ⟨fun i o h1 => by rw [← e.nx]; exact h.heap.obj i o (hm i o h1), fun i o b cl h1 => h.heap.apart i o b cl (hm i o h1), e.nodup,
    fun i o i' o' b cl cl' h1 h2 => h.heap.inj i o i' o' b cl cl' (hm i o h1) (hm i' o' h2)⟩, h.bound, h.up, h.down, ?_, fun i o h1 => h.keep i o (hm i o h1), h.fr, fun i hi => by rw [← e.nx]; exact h.low i hi⟩
  rintro b ⟨i, o, cl, h1, h2⟩
  exact h.own b ⟨i, o, cl, hm i o h1, h2⟩

theorem Sat.eqv (h : Sat X s a w) {s' : S} (e : Eqv s s') : Sat X s' a w := let ⟨I, g, h⟩ := h; ⟨I, g, h.eqv e⟩

theorem lookH_setH {hp : List (Nat × O)} {id : Nat} {ob ob0 : O} (h : lookH hp id = some ob0) (i : Nat) : lookH (setH hp id ob) i = if id = i then some ob else lookH hp i := by
  induction hp with
  | nil => cases h
  | cons x t ih =>
    obtain ⟨k, v⟩ := x
    simp only [setH]
    rw [lookH_cons] at h
    cases hk : Nat.beq k id with
    | true =>
      have hk := Nat.eq_of_beq_eq_true hk
      subst hk
      simp only [lookH_cons]
      split <;> rfl
    | false =>
      have hk := Nat.ne_of_beq_eq_false hk
      rw [if_neg hk] at h
      simp only [lookH_cons, ih h]
      by_cases c : k = i
      · rw [if_pos c, if_neg (fun e => hk (c.trans e.symm)), if_pos c]
      · rw [if_neg c, if_neg c]

theorem lookH_dropH {hp : List (Nat × O)} (hn : (hp.map (·.1)).Nodup) (id i : Nat) : lookH (dropH hp id) i = if id = i then none else lookH hp i := by
  by_cases c : id = i
  · rw [if_pos c]
    cases hq : lookH (dropH hp id) i with
    | none => rfl
    | some o => exact absurd c.symm (mem_dropH hn (lookH_mem hq)).2
  · rw [if_neg c]
    induction hp with
    | nil => rfl
    | cons x t ih =>
      obtain ⟨k, v⟩ := x
      simp only [List.map_cons, List.nodup_cons] at hn
      simp only [dropH]
      cases hk : Nat.beq k id with
      | true =>
        have hk := Nat.eq_of_beq_eq_true hk
        rw [lookH_cons, if_neg (by omega)]
      | false =>
        simp only [lookH_cons, ih hn.2]

theorem dropIn_nil (r : Nat → Nat) (hp : List (Nat × O)) : dropIn r [] hp = hp := rfl

/-- a call of a function value -/
theorem call_wp {c : Call} {f : Nat} {caps : List V} (ho : o.op = .call c) {x : Operand} (hc : c.callee = .value x) (h : St X I g s a w) (hx : evl s.env x = .fn f caps) :
    ∃ vals : List Value, RVs I g s.nx w (evs s.env c.args.toList ++ caps) vals ∧ ∀ {R : Ending → World → Prop} (N : Act → World → Prop) (Q : Exit → Act → World → Prop), Callable P f → Calls P f vals.toArray w R → (∀ e w', R e w' → ∃ v, e = .returned v ∧ N (a.put o.dst v) w') → o.wp P a w N Q := by
  have hfx := h.eval x
  rw [hx] at hfx
  obtain ⟨cvs, hev, hcl, hcr⟩ : ∃ cvs : List Value, a.eval x = .func (.func f) #[] cvs.toArray ∧ caps.length = cvs.length ∧ ∀ (i : Nat) x v, caps[i]? = some x → cvs[i]? = some v → RV I g s.nx w x v := by
    generalize a.eval x = vx at hfx
    cases hfx with | fn _ _ vs hl hr => exact ⟨vs, rfl, hl, hr⟩
  refine ⟨_, (h.evals' c.args.toList).append ⟨hcl, hcr⟩, fun N Q hcb hcalls hR => ?_⟩
  simp only [Oper.wp, run_call ho hc hev hcb, Oper.upon]
  exact hcalls.mono fun e w' he => by
    obtain ⟨v, rfl, hn⟩ := hR e w' he
    exact hn

theorem fin_pre {v : V} {K : Ef → Prop} (hk : fin v K) : ∃ v', K (.val v') ∧ ∀ {I : Nat → Prop} {g : Gam} {n : Nat} {w : World} {val : Value}, RV I g n w v val → RV I g n w v' val := by
  unfold fin at hk
  split at hk
  · rename_i b
    cases b with
    | true => exact ⟨.tt, (vif_true hk).1 rfl, fun h => by rw [h.bool_inv]; exact .tt⟩
    | false => exact ⟨.ff, (vif_true hk).2 rfl, fun h => by rw [h.bool_inv]; exact .ff⟩
  · rw [V.force_eq] at hk; exact ⟨_, hk, fun h => h⟩

theorem St.putS {dst : Option Nat} {v : V} {val : Value} (h : St X I g s a w) (hd : ∀ d, dst = some d → d < s.nt) (hv : RV I g s.nx w v val) : Sat X ⟨s.nt, s.nx, setD dst v s.env, s.hp⟩ (a.put dst val) w := by
  obtain ⟨s', h1, h2⟩ := h.putO hv (K := fun s' => s' = ⟨s.nt, s.nx, setD dst v s.env, s.hp⟩) (put_fits hd rfl)
  exact h2 ▸ h1

mutual
theorem V.idsLt_up {n m : Nat} (hnm : n ≤ m) : ∀ v : V, v.idsLt n = true → v.idsLt m = true
  | .ptr i a b c, h => by simp only [V.idsLt, Nat.blt_eq] at h ⊢; omega
  | .slc i, h => by simp only [V.idsLt, Nat.blt_eq] at h ⊢; omega
  | .agg xs, h => by simp only [V.idsLt] at h ⊢; exact idsLtL_up hnm xs h
  | .tup xs, h => by simp only [V.idsLt] at h ⊢; exact idsLtL_up hnm xs h
  | .fn f xs, h => by simp only [V.idsLt] at h ⊢; exact idsLtL_up hnm xs h
  | .any, _ => rfl
  | .tt, _ => rfl
  | .ff, _ => rfl
  | .nil, _ => rfl
  | .c _, _ => rfl
  | .iptr _, _ => rfl
theorem idsLtL_up {n m : Nat} (hnm : n ≤ m) : ∀ xs : List V, idsLtL n xs = true → idsLtL m xs = true
  | [], _ => rfl
  | x :: t, h => by
    simp only [idsLtL] at h ⊢
    split at h
    · rename_i h1
      rw [V.idsLt_up hnm x h1, idsLtL_up hnm t h]
    · cases h
end

theorem does_call (h : St X I g s a w) (hd : ∀ d, o.dst = some d → d < s.nt) {c : Call} {f : Nat} {caps : List V} (ho : o.op = .call c) {x : Operand} (hc : c.callee = .value x) (hx : evl s.env x = .fn f caps) {K : Ef → Prop}
    (hk : vcalld P f (evs s.env c.args.toList ++ caps) (lookH s.hp) K) : ∃ e, K e ∧ Does P X s o a w e := by
  obtain ⟨vals, hargs, hwp⟩ := call_wp (P := P) ho hc h hx
  generalize evs s.env c.args.toList ++ caps = args at hk hargs
  unfold vcalld at hk
  rcases hk with ⟨res, e1, e2, hspec, hk⟩ | ⟨res, hsc, hid, hspec, hk⟩ | ⟨z, st, hst, e1, hspec, hk⟩ | ⟨z, st, hst, e1, e2, e3, hspec, hk⟩ | ⟨id, fargs, pre, post, bs, pre', post', bs', res, hspec, hl, q1, q2, q3, q4, q6, q7, q8, _, hk⟩
  · simp only [idsLtL] at e2
    have e2 : res.idsLt 0 = true := by split at e2 <;> first | assumption | cases e2
    have hcall := h.called (rn := []) hspec (by rw [renL_flat e1]; exact hargs) e1 rfl trivial rfl (Nat.zero_le _) (Nat.zero_le _) rfl rfl rfl rfl
    obtain ⟨v', hk', hv'⟩ := fin_pre hk
    refine ⟨_, hk', fun N Q hN => hwp N Q hspec.1 hcall fun e w' he => ?_⟩
    obtain ⟨v, I2, g2, rfl, hres, hst⟩ := he
    refine ⟨v, rfl, hN _ _ ?_⟩
    rw [V.ren_flat e2] at hres
    have hmx : Nat.max s.nx (maxN []) = s.nx := Nat.max_eq_left (Nat.zero_le _)
    rw [hmx] at hres
    have := hst.putS (dst := o.dst) (v := v') (val := v) hd (by rw [hmx]; exact hv' hres)
    simp only [hmx] at this
    exact this
  · obtain ⟨v', hk', hv'⟩ := fin_pre hk
    refine ⟨_, hk', fun N Q hN => hwp N Q hspec.1 (h.lendScalar hsc hid hspec hargs) fun e w' he => ?_⟩
    obtain ⟨v, rfl, hst, hres⟩ := he
    exact ⟨v, rfl, hN _ _ (hst.putS hd (hv' hres))⟩
  · have hmx : Nat.max s.nx (maxN [s.nx]) = s.nx + 1 := by show Nat.max s.nx (Nat.max (s.nx + 1) 0) = s.nx + 1; simp [Nat.max_def]
    have hcall := h.called (rn := [s.nx]) hspec (by rw [renL_flat e1]; exact hargs) e1 rfl trivial rfl (Nat.zero_le _) (Nat.le_refl _) (by
      have : Nat.ble s.nx s.nx = true := by simp
      simp only [newIds, keysH, memN, rnf, this]) rfl rfl rfl
    refine ⟨_, hk, fun N Q hN => hwp N Q hspec.1 hcall fun e w' he => ?_⟩
    obtain ⟨v, I2, g2, rfl, hres, hst2⟩ := he
    refine ⟨v, rfl, hN _ _ ?_⟩
    have hr0 : ∀ i, i < 1 → rnf [s.nx] i = (fun _ => s.nx) i := fun i hi => by
      have e : i = 0 := by omega
      rw [e]; rfl
    have hren : st.ren (rnf [s.nx]) = st.ren fun _ => s.nx := V.ren_congr hr0 st hst
    rw [hren, hmx] at hres
    have := hst2.putS (dst := o.dst) (v := st.ren fun _ => s.nx) (val := v) hd (by rw [hmx]; exact hres)
    simp only [hmx] at this
    exact this
  · refine ⟨_, hk, fun N Q hN => hwp N Q hspec.1 (h.lendNew e1 e2 hst e3 hspec hargs) fun e w' he => ?_⟩
    obtain ⟨v, I2, g2, rfl, hst2, hres⟩ := he
    exact ⟨v, rfl, hN _ _ (hst2.putS (s := ⟨s.nt, s.nx + 1, s.env, (s.nx, .arr z) :: s.hp⟩) hd hres)⟩
  · have hmem := lookH_mem hl
    have hlt : id < s.nx := (h.heap.obj id _ hmem).1
    simp only [idsLtL] at q6
    have q6 : res.idsLt 0 = true := by split at q6 <;> first | assumption | cases q6
    have hr : ∀ i, i < 1 → rnf [id] i = (fun _ => id) i := fun i hi => by
      have : i = 0 := by omega
      subst this; rfl
    have hin0 : idsLtH 1 [(0, O.box pre bs post)] = true := by
      simp only [idsLtH]
      rw [idsLtL_up (Nat.zero_le 1) _ q1, idsLtL_up (Nat.zero_le 1) _ q2]; rfl
    have hcall := h.called (rn := [id]) hspec (by rw [renL_congr hr fargs q7, q8]; exact hargs) q7 hin0 ⟨by
      show lookH s.hp id = some (.box (renL (rnf [id]) pre) bs (renL (rnf [id]) post))
      rw [renL_flat q1, renL_flat q2]; exact hl, trivial⟩ rfl (Nat.le_refl _) (Nat.le_refl _) rfl rfl rfl rfl
    have hmx : Nat.max s.nx (maxN [id]) = s.nx := Nat.max_eq_left (by show Nat.max (id + 1) 0 ≤ s.nx; exact Nat.max_le.2 ⟨hlt, Nat.zero_le _⟩)
    refine ⟨_, hk, fun N Q hN => hwp N Q hspec.1 hcall fun e w' he => ?_⟩
    obtain ⟨v, I2, g2, rfl, hres, hst⟩ := he
    refine ⟨v, rfl, hN _ _ ?_⟩
    rw [V.ren_flat q6, hmx] at hres
    have hst2 := hst.putS (dst := o.dst) (v := res) (val := v) hd (by rw [hmx]; exact hres)
    refine hst2.eqv ⟨rfl, hmx, fun _ => rfl, fun i => ?_, by show (List.map _ (setH s.hp id _)).Nodup; rw [setH_keys]; exact h.heap.nodup⟩
    show lookH ((id, O.box (renL (rnf [id]) pre') bs' (renL (rnf [id]) post')) :: dropH s.hp id) i = lookH (setH s.hp id _) i
    rw [renL_flat q3, renL_flat q4, lookH_cons, lookH_setH hl, lookH_dropH h.heap.nodup]
    split <;> rfl

theorem eps_eq (env : List (Nat × V)) (l : List (Nat × Operand)) : eps (evl env) l = evp env l := by
  induction l with
  | nil => rfl
  | cons x t ih => obtain ⟨i, x⟩ := x; simp only [eps, evp, ih]
theorem ess_eq (env : List (Nat × V)) (l : List Operand) : ess (evl env) l = evs env l := by
  induction l with
  | nil => rfl
  | cons x t ih => simp only [ess, evs, ih]

theorem zipP_snd (ps : List (Nat × V)) : zipP ps (sndP ps) = ps := by
  induction ps with
  | nil => rfl
  | cons x t ih => obtain ⟨i, x⟩ := x; simp only [sndP, zipP, ih]

mutual
theorem V.frz_other {id : Nat} {x : C} : ∀ v : V, id ∉ v.ids → v.frz id x = v
  | .ptr i a b c, h => by
    simp only [V.ids, List.mem_singleton] at h
    simp only [V.frz]
    cases hq : Nat.beq i id with
    | true => exact absurd (Nat.eq_of_beq_eq_true hq).symm h
    | false => rfl
  | .slc i, h => by
    simp only [V.ids, List.mem_singleton] at h
    simp only [V.frz]
    cases hq : Nat.beq i id with
    | true => exact absurd (Nat.eq_of_beq_eq_true hq).symm h
    | false => rfl
  | .agg xs, h => by simp only [V.ids] at h; simp only [V.frz, frzL_other xs h]
  | .tup xs, h => by simp only [V.ids] at h; simp only [V.frz, frzL_other xs h]
  | .fn f xs, h => by simp only [V.ids] at h; simp only [V.frz, frzL_other xs h]
  | .any, _ => rfl
  | .tt, _ => rfl
  | .ff, _ => rfl
  | .nil, _ => rfl
  | .c _, _ => rfl
  | .iptr _, _ => rfl
theorem frzL_other {id : Nat} {x : C} : ∀ xs : List V, id ∉ idsL xs → frzL id x xs = xs
  | [], _ => rfl
  | y :: t, h => by
    simp only [idsL, List.mem_append, not_or] at h
    simp only [frzL, V.frz_other y h.1, frzL_other t h.2]
end

theorem O.frz_other {id : Nat} {x : C} {ob : O} (h : id ∉ ob.ids) : ob.map (frzL id x) = ob := by
  cases ob with
  | box pre bs post => simp only [O.ids, List.mem_append, not_or] at h; simp only [O.map, frzL_other _ h.1, frzL_other _ h.2]
  | arr y => rfl
  | hol y hi vs => simp only [O.ids] at h; simp only [O.map, frzL_other _ h]

theorem St.lower {nt n1 n : Nat} {env : List (Nat × V)} {hp : List (Nat × O)} (h : St X I g ⟨nt, n1, env, hp⟩ a w) (he : ∀ j, ∀ i ∈ (look env j).ids, i < n) (hh : ∀ i o, (i, o) ∈ hp → i < n ∧ ∀ k ∈ o.ids, k < n)
    (hl : ∀ id, X.K0 id → id < n) : St X I g ⟨nt, n, env, hp⟩ a w :=
  ⟨h.df, h.sz, fun j => (h.slots j).move fun i hi => ⟨he j i hi, rfl⟩, ⟨fun i o hm => ⟨(hh i o hm).1, (h.heap.obj i o hm).2.move rfl fun k hk => ⟨(hh i o hm).2 k hk, rfl⟩⟩, h.heap.apart, h.heap.nodup, h.heap.inj⟩,
    h.bound, h.up, h.down, h.own, h.keep, h.fr, hl⟩

/-- a new slice that nobody will write -/
theorem Sat.frozen {x : C} {dst : Option Nat} {a' : Act} {w' : World} (h : St X I g s a w) (h1 : Sat X (Ef.bump dst (.new (.slc 0) rfl (.arr x)) s) a' w') : Sat X ((Ef.val (.c x)).apply 0 dst s) a' w' := by
  obtain ⟨I1, g1, h1⟩ := h1
  obtain ⟨I2, _, _, h2⟩ := h1.freeze (id := s.nx) (x := x) (by simp only [Ef.bump]; rw [lookH_cons, if_pos rfl])
  have hlt : ∀ i o, (i, o) ∈ s.hp → i < s.nx ∧ ∀ k ∈ o.ids, k < s.nx := fun i o hm => ⟨(h.heap.obj i o hm).1, (h.heap.obj i o hm).2.ids_lt⟩
  refine ⟨I2, g1, St.lower (n1 := s.nx + 1) (h2.eqv ⟨rfl, rfl, fun j => ?_, fun i => ?_, h.heap.nodup⟩) (fun j i hi => ?_) hlt h.low⟩
  · show look (mapE (V.frz s.nx x) (setD dst (.slc s.nx) s.env)) j = look (setD dst (.c x) s.env) j
    rw [look_mapE _ rfl, look_setD, look_setD]
    split
    · simp [V.frz, Nat.beq_refl]
    · exact V.frz_other _ fun hm => by have := (h.slots j).ids_lt _ hm; omega
  · show lookH (mapH (frzL s.nx x) (dropH ((s.nx, .arr x) :: s.hp) s.nx)) i = lookH s.hp i
    have hdr : dropH ((s.nx, O.arr x) :: s.hp) s.nx = s.hp := by simp [dropH, Nat.beq_refl]
    rw [hdr, lookH_mapH]
    cases hq : lookH s.hp i with
    | none => rfl
    | some ob =>
      simp only [Option.map_some]
      rw [O.frz_other fun hm => by have := (hlt i ob (lookH_mem hq)).2 _ hm; omega]
  · rw [look_setD] at hi
    split at hi
    · simp [V.ids] at hi
    · exact (h.slots j).ids_lt i hi

theorem sound_litHol (hT : TOk P T) {t len : Nat} {parts : Array (Nat × Operand)} (ho : o.op = .buildSlice t len parts) (h : St X I g s a w) {e sz by' : Nat} {kd : Kd} (hti : T t = .slice e sz by' kd) {cs : List V}
    (hps : evp s.env parts.toList = [(0, .agg cs)]) (hlen : Nat.beq (evp s.env parts.toList).length len = true) (hmax : Nat.ble (len * sz) 1000000 = true) (hok : litOk kd.empty sz cs = true) {N : Act → World → Prop} {Q : Exit → Act → World → Prop}
    (hd : ∀ d, o.dst = some d → d < s.nt) (hN : ∀ s' a' w', Sat X s' a' w' → s' = (Ef.new (.slc 0) rfl (.hol (kd.zeros 1) 0 cs)).bump o.dst s → N a' w') : o.wp P a w N Q := by
  have hK : ¬ X.K0 s.nx := fun hk => by have := h.low _ hk; omega
  obtain ⟨hu, i, hi, hsz, hbt, hz, hst, hb1, hb2⟩ := slice_facts hT hti
  obtain ⟨q1, q2, q4, q3⟩ : kd.empty.stride = sz ∧ cs.length = sz ∧ holOk kd.empty cs = true ∧ oneL cs = true := by
    unfold litOk at hok
    split at hok
    · rename_i h1 h2 h3; exact ⟨Nat.eq_of_beq_eq_true h1, Nat.eq_of_beq_eq_true h2, h3, hok⟩
    · cases hok
  obtain ⟨x, hpx, hcx⟩ : ∃ x, parts.toList = [(0, x)] ∧ evl s.env x = .agg cs := by
    cases hq : parts.toList with
    | nil => rw [hq] at hps; cases hps
    | cons p t =>
      obtain ⟨i, x⟩ := p
      rw [hq] at hps
      simp only [evp, List.cons.injEq, Prod.mk.injEq] at hps
      cases t with
      | nil => exact ⟨x, by rw [hps.1.1], hps.1.2⟩
      | cons p t => obtain ⟨j, y⟩ := p; simp [evp] at hps
  have hlen := Nat.eq_of_beq_eq_true hlen
  rw [hps] at hlen
  simp only [List.length_singleton] at hlen
  subst hlen
  have hmax := Nat.le_of_ble_eq_true hmax
  have hx := h.eval x
  rw [hcx] at hx
  obtain ⟨us, hus, hul, hur⟩ := hx.agg_inv
  have hvs : RVs I g s.nx w cs us := ⟨hul, hur⟩
  have hvals : ∀ v ∈ [a.eval x], v.cells.size = sz := fun v hv => by
    simp only [List.mem_singleton] at hv; subst hv; rw [hus]; simp [Value.cells]; omega
  have hparts : (parts.map fun p => (p.1, a.eval p.2)).toList = (([a.eval x] : List Value).zipIdx 0).map fun p => (p.2, p.1) := by
    simp [hpx]
  have hzl : ((Array.range (1 * sz)).map ((kdZero kd).cells[· % (kdZero kd).cells.size]!)).toList.length = 1 * sz := by simp
  obtain ⟨cells', f1, f2, f3, f4⟩ := run_fill sz [a.eval x] 0 ((Array.range (1 * sz)).map ((kdZero kd).cells[· % (kdZero kd).cells.size]!)).toList hvals (by rw [hzl, Nat.zero_add]; simp)
  have hpos : 0 < sz := by rw [← q1]; cases kd <;> exact Nat.zero_lt_succ _
  have hrun : (execOp a.eval o).run P w = .ok (.value (.slice (some ⟨w.heap.size, 0, none⟩) 1 1)) (w.alloc (.cells cells'.toArray e)) := by
    have hn1 : ¬ (16777216 < 1 * sz) := by omega
    have hz0 : ¬ (1 * sz = 0) := by omega
    have f1' : Instr.fill (fun i => some (i * sz, sz)) ((Array.range (1 * sz)).map ((kdZero kd).cells[· % (kdZero kd).cells.size]!)) (parts.map fun p => (p.1, a.eval p.2)).toList = some cells'.toArray := by
      rw [hparts, ← f1]
    simp only [Array.toList_map] at f1'
    simp only [Nat.one_mul] at hn1 hz0 f1'
    simp [execOp, ho, Instr.buildSlice, run_underlying hu, sizeOf, typeInfo, zeroValue, hi, hz, hsz, hz0, hn1, newRow, f1']
  obtain ⟨z1, z2, z3⟩ : (kd.zeros 1).isSl = true ∧ (kd.zeros 1).len = 1 ∧ (kd.zeros 1).stride = sz := by rw [← q1]; cases kd <;> exact ⟨rfl, rfl, rfl⟩
  have hcell : ∀ j, j < sz → cells'[0 * sz + j]? = us[j]? := fun j hj => by
    have := f4 0 (a.eval x) j rfl hj
    rw [Nat.zero_add] at this
    rw [this, hus]; simp [Value.cells]
  refine finish_new (cl := (1, 1)) h hrun (fun g' n' hg' hn' hgo => ?_) (fun g' n' hg' hn' => .slc _ _ _ _ hn' hg') hK (K := fun s' => s' = (Ef.new (.slc 0) rfl (.hol (kd.zeros 1) 0 cs)).bump o.dst s) (alloc_fits (.slc 0) rfl hd rfl) hN
  refine .hol _ 0 cs w.heap.size 1 cells' e (by rw [z2]; exact hg') z1 (heap_alloc_new w _) (by rw [f2, hzl, z3]) (by rw [z2]; exact Nat.le_refl _) (by rw [z2]; exact Nat.zero_lt_one) (by rw [z3]; exact q2) (fun i j y hi hne hy => by rw [z2] at hi; omega) (fun j hj => ?_) (fun hp v hv => by
    obtain ⟨m, hm⟩ := List.getElem?_of_mem hv
    have hml : m < sz := by have := (List.getElem?_eq_some_iff.1 hm).1; rw [f2, hzl] at this; omega
    have := hcell m hml
    rw [Nat.zero_mul, Nat.zero_add, hm] at this
    exact hvs.slVal (holOk_sl q4 (by cases kd <;> first | rfl | cases hp)) v (List.mem_of_getElem? this.symm))
  rw [z3] at hj ⊢
  have h1 : j < cs.length := by omega
  have h2 : j < us.length := by omega
  refine ⟨cs[j], us[j], List.getElem?_eq_getElem h1, by rw [hcell j hj]; exact List.getElem?_eq_getElem h2, hvs.one q3 _ (List.getElem_mem h2), ?_⟩
  exact (hur j _ _ (List.getElem?_eq_getElem h1) (List.getElem?_eq_getElem h2)).mono (fun _ h => h) (fun b hI => heap_push_lt _ _ (h.bound b hI)) (Nat.le_of_lt hn') hgo

theorem does_lit (hT : TOk P T) (hE : EOk P T) (h : St X I g s a w) (hd : ∀ d, o.dst = some d → d < s.nt) {t len : Nat} {parts : Array (Nat × Operand)} (ho : o.op = .buildSlice t len parts) {K : Ef → Prop}
    (hk : vdLit T t len (eps (evl s.env) parts.toList) (fun x => K (.val (.c x))) fun ob => K (.new (.slc 0) rfl ob)) : ∃ e, K e ∧ Does P X s o a w e := by
  rw [eps_eq] at hk
  unfold vdLit at hk
  split at hk
  · rename_i hti
    split at hk
    · rename_i q1
      split at hk
      · rename_i q2
        split at hk
        · rename_i q3
          split at hk
          · rename_i x q4
            split at hk
            · rename_i q5
              rw [C.force_eq] at hk
              refine ⟨_, hk, fun N Q hN => ?_⟩
              refine sound_op hT hE h (K := fun s' => s' = (Ef.new (.slc 0) rfl (.arr x)).bump o.dst s) ?_ fun s' a' w' h' he => hN a' w' (Sat.frozen h (he ▸ h'))
              unfold vop; rw [ho]
              simp only [vbuildSlice, hti, q1, q2, q3, vfz, zipP_snd, q4, q5, C.force_eq]
              exact alloc_fits (.slc 0) rfl hd rfl
            · exact hk.elim
          · exact hk.elim
        · split at hk
          · rename_i cs hps
            split at hk
            · rename_i q4
              rw [forceL_eq] at hk
              refine ⟨_, hk, fun N Q hN => ?_⟩
              exact sound_litHol hT ho h hti hps q1 q2 q4 hd fun s' a' w' h' he => hN a' w' (he ▸ h')
            · exact hk.elim
          · exact hk.elim
      · exact hk.elim
    · exact hk.elim
  · exact hk.elim

theorem does_any (hT : TOk P T) (hE : EOk P T) (h : St X I g s a w) (hd : ∀ d, o.dst = some d → d < s.nt) {K : Ef → Prop} (hk : vd T P o (evl s.env) (lookH s.hp) K) : ∃ e, K e ∧ Does P X s o a w e := by
  unfold vd at hk
  split at hk
  · rename_i x ho
    exact does_fin (v := pure (a.eval x)) h hd (fun val hr => by simp at hr; simp [execOp, ho, hr]) ⟨_, a.eval x, by simp, h.eval x, hk⟩
  · rename_i x ho
    exact does_fin (v := pure (a.eval x)) h hd (fun val hr => by simp at hr; simp [execOp, ho, hr]) ⟨_, a.eval x, by simp, h.eval x, hk⟩
  · rename_i c x y ho
    have hc := h.eval c
    split at hk
    · rename_i e
      rw [e] at hc
      have hp := hc.tt_inv
      exact does_fin (v := pure (a.eval x)) h hd (fun val hr => by simp at hr; simp [execOp, ho, hp, asBool, hr]) ⟨_, a.eval x, by simp, h.eval x, hk⟩
    · rename_i e
      rw [e] at hc
      have hp := hc.ff_inv
      exact does_fin (v := pure (a.eval y)) h hd (fun val hr => by simp at hr; simp [execOp, ho, hp, asBool, hr]) ⟨_, a.eval y, by simp, h.eval y, hk⟩
    · exact hk.elim
  · rename_i t ho; exact does_vdAlloc hT hE h hd ho hk
  · rename_i t x ho
    split at hk
    · rename_i h1
      refine ⟨_, hk, does_op hT hE h ?_⟩
      unfold vop; rw [ho]
      simp only [h1]
      exact alloc_fits (.ptr 0 0 0 0) rfl hd rfl
    · exact hk.elim
  · rename_i t parts ho
    rw [eps_eq] at hk
    split at hk
    · rename_i h1
      unfold vbuild at hk
      split at hk
      · rename_i fs zs hti
        split at hk
        · rename_i cs hcs
          refine ⟨.val (.agg cs), ?_, does_op hT hE h ?_⟩
          · simpa only [fin, V.force_eq] using hk
          · unfold vop; rw [ho]
            simp only [h1, vbuild, hti, hcs]
            exact put_fits hd rfl
        · exact hk.elim
      · exact hk.elim
    · exact hk.elim
  · rename_i t len parts ho; exact does_lit hT hE h hd ho hk
  · rename_i t x ho
    exact does_fin h hd (fun val hr => by simp [execOp, ho, hr]) (run_vload hT h.heap (h.eval x) hk)
  · rename_i t x y ho
    split at hk
    · rename_i hok; exact does_store hT hE h hd ho hok hk
    · exact hk.elim
  · rename_i x ho
    split at hk
    · rename_i row he
      refine ⟨_, hk, does_op hT hE h ?_⟩
      unfold vop; rw [ho]
      simp only [he]
      exact put_fits hd rfl
    · rename_i he
      refine ⟨_, hk, does_op hT hE h ?_⟩
      unfold vop; rw [ho]
      simp only [he]
      exact put_fits hd rfl
    · exact hk.elim
  · rename_i op t x y yt ho
    split at hk
    · rename_i hok
      refine does_fin h hd (v := do eqGuard op t x y (a.eval x) (a.eval y); binOp op t (a.eval x) (a.eval y)) (fun val hr => ?_) (run_vbin (P := P) (t := t) (ox := x) (oy := y) (h.eval x) (h.eval y) hk (fun ⟨b, b', hb, _⟩ => by
        have hbt : boolT (T t) = true := by
          unfold vbinOk at hok
          split at hok
          · rename_i l he; rw [he] at hb; cases hb
          · rename_i k m he; rw [he] at hb; cases hb
          · exact hok
        unfold boolT at hbt
        split at hbt
        · rename_i hti; have := hT t; rw [hti] at this; exact this.2.2.2.2 rfl
        · cases hbt) (fun ⟨l, hl⟩ => by
        unfold vbinOk at hok
        rw [hl] at hok
        exact hE t hok))
      simp only [execOp, ho, Sem.run_bind]; simp only [Sem.run_bind] at hr; rw [hr]; rfl
    · exact hk.elim
  · rename_i op t x ho
    exact does_fin h hd (fun val hr => by simp [execOp, ho, hr]) (run_vun (h.eval x) hk)
  · rename_i r d x ho
    split at hk
    · rename_i hok
      refine does_fin h hd (fun val hr => by simp [execOp, ho, hr]) (run_vconv hT (src := r) (h.eval x) hk ?_)
      unfold intT at hok
      split at hok
      · rename_i k m hti; have := hT r; rw [hti] at this; exact ⟨k, this.2.2.2.1 k m rfl⟩
      · cases hok
    · exact hk.elim
  · rename_i t l c ho; exact does_vdMake hT hE h hd ho hk
  · rename_i t x lo hi mx ho
    refine does_fin (v := Instr.sliceAt t (a.eval x) (lo.map a.eval) (hi.map a.eval) (mx.map a.eval)) h hd (fun val hr => by simp [execOp, ho, hr]) (run_vslice hT (h.eval x) (fun y hy => ?_) (fun e => ?_) (fun y hy => ?_) (fun e => ?_) (fun e => ?_) hk)
    · cases lo with
      | none => cases hy
      | some z => cases hy; exact ⟨_, rfl, h.eval z⟩
    · cases lo with
      | none => rfl
      | some z => cases e
    · cases hi with
      | none => cases hy
      | some z => cases hy; exact ⟨_, rfl, h.eval z⟩
    · cases hi with
      | none => rfl
      | some z => cases e
    · cases mx with
      | none => rfl
      | some z => cases e
  · rename_i t x f ho
    exact does_fin h hd (fun val hr => by simp [execOp, ho, hr]) (run_vfieldAddr hT (h.eval x) hk)
  · rename_i t x f ho
    exact does_fin h hd (fun val hr => by simp [execOp, ho, hr]) (run_vfield hT (h.eval x) hk)
  · rename_i t x ix ho
    exact does_fin h hd (fun val hr => by simp [execOp, ho, hr]) (run_vindexAddr hT h.heap (h.eval x) (h.eval ix) hk)
  · rename_i x i ho
    have hx := h.eval x
    split at hk
    · rename_i vs he
      rw [he] at hx
      split at hk
      · rename_i v hv
        have hv := nthV_get hv
        obtain ⟨us, hu, hl, hr⟩ := hx.tup_inv
        have hlt : i < us.length := by rw [← hl]; exact (List.getElem?_eq_some_iff.1 hv).1
        exact does_fin (v := pure us[i]) h hd (fun val hr => by simp at hr; subst hr; simp [execOp, ho, hu, Instr.extract, hlt]) ⟨v, us[i], by simp, hr i v _ hv (List.getElem?_eq_getElem hlt), hk⟩
      · exact hk.elim
    · exact hk.elim
  · rename_i c ho
    split at hk
    · rename_i b hc
      rw [ess_eq] at hk
      have hargs := h.evals' c.args.toList
      have hvals : (c.args.map a.eval).toList = c.args.toList.map a.eval := by simp
      split at hk
      · rename_i x he
        rw [he] at hargs
        split at hk
        · rename_i t ts hts
          split at hk
          · rename_i e sz by' kd hti
            obtain ⟨v, hv⟩ : ∃ v, c.args.toList.map a.eval = [v] := by
              have := hargs.1
              match hq : c.args.toList.map a.eval, this with
              | [v], _ => exact ⟨v, rfl⟩
            have hx := hargs.2 0 x v rfl (by rw [hv]; rfl)
            have harr : c.args.map a.eval = #[v] := by apply Array.ext'; rw [hvals, hv]
            have hu := (slice_facts hT hti).1
            have h0 : c.argTypes[0]? = some t := by rw [← Array.getElem?_toList, hts]; rfl
            obtain ⟨y, val, r1, r2, r3⟩ := run_vlen (t := o.type) h0 hu h.heap hx hk
            obtain ⟨v', h4, h5⟩ := fin_does r2 r3
            exact ⟨_, h5, does_val h hd (by simp [execOp, ho, resolve, hc, invoke, builtin, harr, r1]) h4⟩
          · exact hk.elim
        · exact hk.elim
      · rename_i x y he
        split at hk
        · rename_i t t' hts
          split at hk
          · rename_i e sz by' kd hti
            have hlen : ∃ p q, c.args.toList = [p, q] := by
              have : (evs s.env c.args.toList).length = 2 := by rw [he]; rfl
              rw [evs_eq, List.length_map] at this
              match hq : c.args.toList, this with
              | [p, q], _ => exact ⟨p, q, rfl⟩
            obtain ⟨p, q, hpq⟩ := hlen
            have he' := he
            rw [hpq] at he'
            simp only [evs, List.cons.injEq, and_true] at he'
            obtain ⟨hx, hy⟩ := he'
            rw [← hx, ← hy] at hk
            refine does_vdApp hd (fun e he2 => does_op hT hE h ?_) hk
            unfold vop; rw [ho]
            simp only [hc, vbuiltin, he, hts, hti]
            rw [← hx, ← hy]
            exact he2
          · exact hk.elim
        · exact hk.elim
      · rename_i x y he
        rw [he] at hargs
        obtain ⟨z, val, r1, r2, r3⟩ := run_vmm (P := P) (ts := c.argTypes) (t := o.type) (isMax := false) hargs.1 hargs.2 hk
        have harr : c.args.map a.eval = (c.args.toList.map a.eval).toArray := by apply Array.ext'; simp
        simp only [Bool.false_eq_true, if_false] at r1
        obtain ⟨v', h4, h5⟩ := fin_does r2 r3
        exact ⟨_, h5, does_val h hd (by simp only [execOp, ho, resolve, hc, invoke, builtin, Sem.run_bind, Sem.run_pure, Result.andThen_ok]; rw [harr, r1]; rfl) h4⟩
      · rename_i x y he
        rw [he] at hargs
        obtain ⟨z, val, r1, r2, r3⟩ := run_vmm (P := P) (ts := c.argTypes) (t := o.type) (isMax := true) hargs.1 hargs.2 hk
        have harr : c.args.map a.eval = (c.args.toList.map a.eval).toArray := by apply Array.ext'; simp
        simp only [if_true] at r1
        obtain ⟨v', h4, h5⟩ := fin_does r2 r3
        exact ⟨_, h5, does_val h hd (by simp only [execOp, ho, resolve, hc, invoke, builtin, Sem.run_bind, Sem.run_pure, Result.andThen_ok]; rw [harr, r1]; rfl) h4⟩
      · exact hk.elim
    · rename_i f hc
      split at hk
      · rename_i g' caps he
        rw [ess_eq] at hk
        exact does_call h hd ho hc he hk
      · exact hk.elim
    · exact hk.elim
  · exact hk.elim
end
end Go.VL
