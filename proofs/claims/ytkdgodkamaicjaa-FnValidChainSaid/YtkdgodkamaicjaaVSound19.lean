/- V-logic, part 21: what an operation of a region does is told by its operands and by the objects that they name. -/
import Derived.Test.YtkdgodkamaicjaaVSound18
namespace Go.VL
set_option linter.unusedVariables false
set_option linter.unusedSimpArgs false
section
variable {P : Program} {T : TT} {o : Oper} {lk : Nat → Option O} {KV : V → Prop}

theorem vneed_mk {c A : Prop} (hc : c) (h : A) : vneed c A := by unfold vneed; exact ⟨hc, h⟩
theorem vint_det {k : IntKind} {r : Int} (h : vint k r KV) : ∃ v, KV v ∧ ∀ K' : V → Prop, K' v → vint k r K' := by
  unfold vint at h
  rcases h with ⟨e, h⟩ | h
  · exact ⟨_, h, fun K' h => by unfold vint; exact .inl ⟨e, h⟩⟩
  · exact ⟨_, h, fun K' h => by unfold vint; exact .inr h⟩

theorem vloadRow_det {ti : TI} {row : List C} (h : vloadRow ti row KV) : ∃ v, KV v ∧ ∀ K' : V → Prop, K' v → vloadRow ti row K' := by
  unfold vloadRow at h
  repeat' split at h
  all_goals first
    | exact h.elim
    | exact ⟨_, h, fun K' h' => by simp only [vloadRow, *]⟩

theorem vor_l {c A B : Prop} (hc : c) (h : A) : vor c A B := by unfold vor; exact .inl ⟨hc, h⟩
theorem vor_r {c A B : Prop} (hc : ¬ c) (h : B) : vor c A B := by unfold vor; exact .inr ⟨hc, h⟩

theorem vloadVs_det {ti : TI} {row : List V} (h : vloadVs ti row KV) : ∃ v, KV v ∧ ∀ K' : V → Prop, K' v → vloadVs ti row K' := by
  unfold vloadVs at h
  split at h
  · rename_i q1
    split at h
    · rename_i q2
      exact ⟨_, h, fun K' hk => by simp only [vloadVs, q1, q2]; exact hk⟩
    · exact h.elim
  · rename_i q1
    split at h
    · rw [V.force_eq] at h
      exact ⟨_, h, fun K' hk => by simp only [vloadVs, q1, V.force_eq]; exact hk⟩
    · exact h.elim

theorem vload_det {t : Nat} {x : V} (h : vload T lk t x KV) : ∃ v, KV v ∧ ∀ (lk' : Nat → Option O) (K' : V → Prop), (∀ i ∈ x.ids, lk' i = lk i) → K' v → vload T lk' t x K' := by
  unfold vload at h
  split at h
  · exact h.elim
  · rename_i hok
    split at h
    · obtain ⟨v, h1, h2⟩ := vloadRow_det h
      exact ⟨v, h1, fun lk' K' hl hk => by simp only [vload, hok]; exact h2 _ hk⟩
    · rename_i id i st j
      split at h
      · rename_i x hx
        obtain ⟨hc, h⟩ := vneed_true h
        obtain ⟨v, h1, h2⟩ := vloadRow_det h
        exact ⟨v, h1, fun lk' K' hl hk => by simp only [vload, hok, hl id (by simp [V.ids]), hx]; exact vneed_mk hc (h2 _ hk)⟩
      · rename_i x hi vs hx
        obtain ⟨hc, h⟩ := vneed_true h
        rcases vor_true h with ⟨e, h⟩ | ⟨e, h⟩
        · obtain ⟨v, h1, h2⟩ := vloadVs_det h
          exact ⟨v, h1, fun lk' K' hl hk => by simp only [vload, hok, hl id (by simp [V.ids]), hx]; exact vneed_mk hc (vor_l e (h2 _ hk))⟩
        · obtain ⟨v, h1, h2⟩ := vloadRow_det h
          exact ⟨v, h1, fun lk' K' hl hk => by simp only [vload, hok, hl id (by simp [V.ids]), hx]; exact vneed_mk hc (vor_r e (h2 _ hk))⟩
      · rename_i p f x hs hx
        obtain ⟨hc, h⟩ := vneed_true h
        rcases vhole_det h with ⟨p1, us, t1, h, h3⟩ | ⟨h, h3⟩
        · obtain ⟨v, h1, h2⟩ := vloadVs_det h
          exact ⟨v, h1, fun lk' K' hl hk => by simp only [vload, hok, hl id (by simp [V.ids]), hx]; exact vneed_mk hc (h3 _ _ (h2 _ hk))⟩
        · obtain ⟨hf, h⟩ := vneed_true h
          obtain ⟨v, h1, h2⟩ := vloadVs_det h
          exact ⟨v, h1, fun lk' K' hl hk => by simp only [vload, hok, hl id (by simp [V.ids]), hx]; exact vneed_mk hc (h3 _ _ (vneed_mk hf (h2 _ hk)))⟩
      · rename_i pre bs post hx
        repeat' split at h
        all_goals first
          | exact h.elim
          | exact ⟨_, h, fun lk' K' hl hk => by simp only [vload, hok, hl id (by simp [V.ids]), hx, *]⟩
          | (rw [V.force_eq] at h
             exact ⟨_, h, fun lk' K' hl hk => by simp only [vload, hok, hl id (by simp [V.ids]), hx, V.force_eq, *]⟩)
          | (rename_i q1 _ q2
             obtain ⟨hc, h⟩ := vneed_true h
             exact ⟨_, h, fun lk' K' hl hk => by simp only [vload, hok, hl id (by simp [V.ids]), hx, q1, q2]; exact vneed_mk hc hk⟩)
      · exact h.elim
    · exact h.elim

theorem vbin_det {op : BinOp} {x y : V} (h : vbin op x y KV) : ∃ v, KV v ∧ ∀ K' : V → Prop, K' v → vbin op x y K' := by
  unfold vbin at h
  split at h
  · split at h
    · exact h.elim
    · rename_i hs
      split at h
      all_goals first
        | exact h.elim
        | exact ⟨_, h, fun K' hk => by simp only [vbin, hs]; exact hk⟩
        | (obtain ⟨v, h1, h2⟩ := vint_det h
           exact ⟨v, h1, fun K' hk => by simp only [vbin, hs]; exact h2 _ hk⟩)
        | (obtain ⟨hc, h⟩ := vneed_true h
           obtain ⟨v, h1, h2⟩ := vint_det h
           exact ⟨v, h1, fun K' hk => by simp only [vbin, hs]; exact vneed_mk hc (h2 _ hk)⟩)
        | (obtain ⟨hc, h⟩ := vneed_true h
           exact ⟨_, h, fun K' hk => by simp only [vbin, hs]; exact vneed_mk hc hk⟩)
  · split at h
    all_goals first
      | exact h.elim
      | exact ⟨_, h, fun K' hk => by simp only [vbin]; exact hk⟩
  · rename_i n1 n2
    split at h
    · rename_i q1 q2
      split at h
      all_goals first
        | exact h.elim
        | exact ⟨_, h, fun K' hk => by simp only [vbin, q1, q2]; exact hk⟩
    · exact h.elim

theorem vun_det {op : UnOp} {x : V} (h : vun op x KV) : ∃ v, KV v ∧ ∀ K' : V → Prop, K' v → vun op x K' := by
  unfold vun at h
  split at h
  · split at h
    all_goals first
      | exact h.elim
      | exact ⟨_, h, fun K' hk => by simp only [vun]; exact hk⟩
  · split at h
    · obtain ⟨v, h1, h2⟩ := vint_det h
      exact ⟨v, h1, fun K' hk => by simp only [vun]; exact h2 _ hk⟩
    · exact h.elim
  · exact h.elim

theorem vconv_det {t : Nat} {x : V} (h : vconv T t x KV) : ∃ v, KV v ∧ ∀ K' : V → Prop, K' v → vconv T t x K' := by
  unfold vconv at h
  split at h
  · rename_i hti
    obtain ⟨v, h1, h2⟩ := vint_det h
    exact ⟨v, h1, fun K' hk => by simp only [vconv, hti]; exact h2 _ hk⟩
  · exact h.elim

theorem vmm_det {m : Bool} {xs : List V} (h : vmm m xs KV) : ∃ v, KV v ∧ ∀ K' : V → Prop, K' v → vmm m xs K' := by
  unfold vmm at h
  split at h
  · split at h
    · rename_i hs
      split at h
      · exact ⟨_, h, fun K' hk => by simp only [vmm, hs]; exact hk⟩
      · exact ⟨_, h, fun K' hk => by simp only [vmm, hs]; exact hk⟩
    · exact h.elim
  · exact h.elim

theorem vslice_det {t : Nat} {x : V} {lo hi mx : Option V} (h : vslice T t x lo hi mx KV) : ∃ v, KV v ∧ ∀ K' : V → Prop, K' v → vslice T t x lo hi mx K' := by
  unfold vslice at h
  split at h
  · rename_i hti
    split at h
    · exact h.elim
    · rename_i hs
      split at h
      · obtain ⟨hc, h⟩ := vneed_true h
        exact ⟨_, h, fun K' hk => by simp only [vslice, hti, hs]; exact vneed_mk hc hk⟩
      · obtain ⟨hc, h⟩ := vneed_true h
        rw [C.force_eq] at h
        exact ⟨_, h, fun K' hk => by simp only [vslice, hti, hs, C.force_eq]; exact vneed_mk hc hk⟩
      · obtain ⟨hc, h⟩ := vneed_true h
        rw [C.force_eq] at h
        exact ⟨_, h, fun K' hk => by simp only [vslice, hti, hs, C.force_eq]; exact vneed_mk hc hk⟩
      · obtain ⟨hc, h⟩ := vneed_true h
        rw [C.force_eq] at h
        exact ⟨_, h, fun K' hk => by simp only [vslice, hti, hs, C.force_eq]; exact vneed_mk hc hk⟩
      · exact h.elim
  · exact h.elim

theorem vfieldAddr_det {t f : Nat} {x : V} (h : vfieldAddr T t x f KV) : ∃ v, KV v ∧ ∀ K' : V → Prop, K' v → vfieldAddr T t x f K' := by
  unfold vfieldAddr at h
  split at h
  · rename_i hf
    split at h
    · exact ⟨_, h, fun K' hk => by simp only [vfieldAddr, hf]; exact hk⟩
    · exact ⟨_, h, fun K' hk => by simp only [vfieldAddr, hf]; exact hk⟩
    · exact h.elim
  · exact h.elim

theorem vfield_det {t f : Nat} {x : V} (h : vfield T t x f KV) : ∃ v, KV v ∧ ∀ K' : V → Prop, K' v → vfield T t x f K' := by
  unfold vfield at h
  split at h
  · rename_i hti
    split at h
    · rename_i hf
      split at h
      · split at h
        · rename_i q1
          split at h
          · split at h
            · rename_i q2
              exact ⟨_, h, fun K' hk => by simp only [vfield, hti, hf, q1, q2]; exact hk⟩
            · exact h.elim
          · split at h
            · rename_i q2
              rw [V.force_eq] at h
              exact ⟨_, h, fun K' hk => by simp only [vfield, hti, hf, q1, q2, V.force_eq]; exact hk⟩
            · exact h.elim
        · exact h.elim
      · exact h.elim
    · exact h.elim
  · exact h.elim

theorem vindexAddr_det {t : Nat} {x ix : V} (h : vindexAddr T lk t x ix KV) : ∃ v, KV v ∧ ∀ (lk' : Nat → Option O) (K' : V → Prop), (∀ i ∈ x.ids, lk' i = lk i) → K' v → vindexAddr T lk' t x ix K' := by
  unfold vindexAddr at h
  split at h
  · split at h
    · rename_i hti
      split at h
      · split at h
        · rename_i q1
          obtain ⟨hc, h⟩ := vneed_true h
          exact ⟨_, h, fun lk' K' hl hk => by simp only [vindexAddr, hti, q1]; exact vneed_mk hc hk⟩
        · exact h.elim
      · rename_i id
        split at h
        · rename_i hx
          split at h
          · rename_i q1
            obtain ⟨hc, h⟩ := vneed_true h
            exact ⟨_, h, fun lk' K' hl hk => by simp only [vindexAddr, hti, hl id (by simp [V.ids]), hx, q1]; exact vneed_mk hc hk⟩
          · exact h.elim
        · rename_i hx
          split at h
          · rename_i q1
            obtain ⟨hc, h⟩ := vneed_true h
            exact ⟨_, h, fun lk' K' hl hk => by simp only [vindexAddr, hti, hl id (by simp [V.ids]), hx, q1]; exact vneed_mk hc hk⟩
          · exact h.elim
        · rename_i hx
          split at h
          · rename_i q1
            obtain ⟨hc, h⟩ := vneed_true h
            exact ⟨_, h, fun lk' K' hl hk => by simp only [vindexAddr, hti, hl id (by simp [V.ids]), hx, q1]; exact vneed_mk hc hk⟩
          · exact h.elim
        · exact h.elim
      · exact h.elim
    · rename_i hti
      split at h
      · obtain ⟨hc, h⟩ := vneed_true h
        exact ⟨_, h, fun lk' K' hl hk => by simp only [vindexAddr, hti]; exact vneed_mk hc hk⟩
      · exact h.elim
    · exact h.elim
  · exact h.elim

theorem vlen_det {x : V} (h : vlen lk x KV) : ∃ v, KV v ∧ ∀ (lk' : Nat → Option O) (K' : V → Prop), (∀ i ∈ x.ids, lk' i = lk i) → K' v → vlen lk' x K' := by
  unfold vlen at h
  split at h
  · exact ⟨_, h, fun lk' K' hl hk => by simp only [vlen]; exact hk⟩
  · split at h
    · rename_i hs
      exact ⟨_, h, fun lk' K' hl hk => by simp only [vlen, hs]; exact hk⟩
    · exact h.elim
  · rename_i id
    split at h
    · rename_i hx
      exact ⟨_, h, fun lk' K' hl hk => by simp only [vlen, hl id (by simp [V.ids]), hx]; exact hk⟩
    · rename_i hx
      exact ⟨_, h, fun lk' K' hl hk => by simp only [vlen, hl id (by simp [V.ids]), hx]; exact hk⟩
    · rename_i hx
      exact ⟨_, h, fun lk' K' hl hk => by simp only [vlen, hl id (by simp [V.ids]), hx]; exact hk⟩
    · exact h.elim
  · exact h.elim

theorem fin_det {v : V} {K : Ef → Prop} (h : fin v K) : ∃ e, K e ∧ ∀ K' : Ef → Prop, K' e → fin v K' := by
  unfold fin at h
  split at h
  · rename_i b
    cases b with
    | true => exact ⟨_, (vif_true h).1 rfl, fun K' hk => by simp only [fin]; unfold vif; exact ⟨fun _ => hk, fun h => by cases h⟩⟩
    | false => exact ⟨_, (vif_true h).2 rfl, fun K' hk => by simp only [fin]; unfold vif; exact ⟨fun h => (by cases h), fun _ => hk⟩⟩
  · rename_i hn
    rw [V.force_eq] at h
    refine ⟨_, h, fun K' hk => ?_⟩
    unfold fin
    split
    · exact (hn _ rfl).elim
    · rw [V.force_eq]; exact hk

theorem view_det2 {kd : Kd} {v : V} {KC : C → Option (Nat × List V) → Prop} (h : view kd lk v KC) : ∃ z hz, KC z hz ∧ ∀ (lk' : Nat → Option O) (KC' : C → Option (Nat × List V) → Prop), (∀ i ∈ v.ids, lk' i = lk i) → KC' z hz → view kd lk' v KC' := by
  unfold view at h
  split at h
  · exact ⟨_, _, h, fun _ _ _ h => h⟩
  · rw [C.force_eq] at h; exact ⟨_, _, h, fun _ _ _ h => by simp only [view, C.force_eq]; exact h⟩
  · rename_i id
    split at h
    · rename_i hx
      rw [C.force_eq] at h; exact ⟨_, _, h, fun lk' _ hl h => by simp only [view, hl id (by simp [V.ids]), hx, C.force_eq]; exact h⟩
    · rename_i hx
      rw [C.force_eq] at h; exact ⟨_, _, h, fun lk' _ hl h => by simp only [view, hl id (by simp [V.ids]), hx, C.force_eq]; exact h⟩
    · exact h.elim
  · exact h.elim

theorem vset_det {x : C} {ti : TI} {i j : Nat} {v : V} {KC : C → Prop} (h : vset x ti i j v KC) : ∃ z, KC z ∧ ∀ KC' : C → Prop, KC' z → vset x ti i j v KC' := by
  unfold vset at h
  split at h
  · rename_i q1
    split at h
    · rename_i q2
      split at h
      · rename_i q3
        exact ⟨_, h, fun K' hk => by simp only [vset, q1, q2, q3]; exact hk⟩
      · exact h.elim
    · exact h.elim
  · rename_i q1
    split at h
    · exact h.elim
    · rename_i q2
      split at h
      · rename_i q3
        exact ⟨_, h, fun K' hk => by simp only [vset, q1, q2, q3]; exact hk⟩
      · exact h.elim

theorem vdStore_det {t : Nat} {x v : V} {K : Nat → O → Prop} (h : vdStore T t lk x v K) : ∃ id ob, K id ob ∧ ∀ (lk' : Nat → Option O) (K' : Nat → O → Prop), (∀ i ∈ x.ids, lk' i = lk i) → K' id ob → vdStore T t lk' x v K' := by
  unfold vdStore at h
  split at h
  · rename_i hsl
    split at h
    · rename_i id i st j
      split at h
      · rename_i hx
        split at h
        · rename_i q0
          split at h
          · rename_i q1
            split at h
            · rename_i q2
              exact ⟨_, _, h, fun lk' K' hl hk => by simp only [vdStore, hsl, hl id (by simp [V.ids]), hx, q0, q2]; rw [q1]; exact hk⟩
            · exact h.elim
          · exact h.elim
        · exact h.elim
      · rename_i x' hx
        split at h
        · rename_i q0
          obtain ⟨hc, h⟩ := vneed_true h
          exact ⟨_, _, h, fun lk' K' hl hk => by simp only [vdStore, hsl, hl id (by simp [V.ids]), hx, q0]; exact vneed_mk hc hk⟩
        · exact h.elim
      · rename_i hx
        obtain ⟨hc, h⟩ := vneed_true h
        obtain ⟨ob, h1, h2⟩ := deepSt_det h
        exact ⟨_, _, h1, fun lk' K' hl hk => by simp only [vdStore, hsl, hl id (by simp [V.ids]), hx]; exact vneed_mk hc (h2 _ hk)⟩
      · exact h.elim
    · exact h.elim
  · rename_i hsl
    split at h
    · rename_i id i st j
      split at h
      · rename_i hx
        obtain ⟨hc, h⟩ := vneed_true h
        obtain ⟨z, h1, h2⟩ := vset_det h
        exact ⟨_, _, h1, fun lk' K' hl hk => by simp only [vdStore, hsl, hl id (by simp [V.ids]), hx]; exact vneed_mk hc (h2 (fun x' => K' id (.arr x')) hk)⟩
      · rename_i x hi vs hx
        obtain ⟨hc, h⟩ := vneed_true h
        rcases vor_true h with ⟨e, h⟩ | ⟨e, h⟩
        · split at h
          · rename_i q1
            split at h
            · rename_i q2
              exact ⟨_, _, h, fun lk' K' hl hk => by simp only [vdStore, hsl, hl id (by simp [V.ids]), hx, q2]; exact vneed_mk hc (vor_l e (by rw [q1]; exact hk))⟩
            · exact h.elim
          · exact h.elim
        · obtain ⟨z, h1, h2⟩ := vset_det h
          exact ⟨_, _, h1, fun lk' K' hl hk => by simp only [vdStore, hsl, hl id (by simp [V.ids]), hx]; exact vneed_mk hc (vor_r e (h2 (fun x' => K' id (.hol x' hi vs)) hk))⟩
      · rename_i hx
        obtain ⟨hc, h⟩ := vneed_true h
        obtain ⟨ob, h1, h2⟩ := deepSt_det h
        exact ⟨_, _, h1, fun lk' K' hl hk => by simp only [vdStore, hsl, hl id (by simp [V.ids]), hx]; exact vneed_mk hc (h2 _ hk)⟩
      · rename_i hx
        split at h
        · rename_i q0
          split at h
          · rename_i q1
            split at h
            · rename_i q2
              exact ⟨_, _, h, fun lk' K' hl hk => by simp only [vdStore, hsl, hl id (by simp [V.ids]), hx, q0, q2]; rw [q1]; exact hk⟩
            · exact h.elim
          · exact h.elim
        · exact h.elim
      · exact h.elim
    · exact h.elim

theorem vdAlloc_det {t : Nat} {K : Ef → Prop} (h : vdAlloc T t K) : ∃ e, K e ∧ ∀ K' : Ef → Prop, K' e → vdAlloc T t K' := by
  unfold vdAlloc at h
  split at h <;> first | exact h.elim | (rename_i hti; exact ⟨_, h, fun K' hk => by simp only [vdAlloc, hti]; exact hk⟩)

theorem vdMake_det {t : Nat} {l c : V} {K : Ef → Prop} (h : vdMake T t l c K) : ∃ e, K e ∧ ∀ K' : Ef → Prop, K' e → vdMake T t l c K' := by
  unfold vdMake at h
  split at h
  · rename_i hti
    split at h
    · rename_i a b
      split at h
      · rename_i q1
        obtain ⟨hc, h⟩ := vneed_true h
        split at h
        · rename_i q2
          exact ⟨_, h, fun K' hk => by simp only [vdMake, hti, q1, q2]; exact vneed_mk hc hk⟩
        · rename_i q2
          unfold vch at h
          rcases h with h | h
          · exact ⟨_, h, fun K' hk => by simp only [vdMake, hti, q1, q2]; exact vneed_mk hc (by unfold vch; exact .inl hk)⟩
          · exact ⟨_, h, fun K' hk => by simp only [vdMake, hti, q1, q2]; exact vneed_mk hc (by unfold vch; exact .inr hk)⟩
      · exact h.elim
    · exact h.elim
  · exact h.elim

theorem vdApp_det {t : Nat} {x y : V} {K : Ef → Prop} (h : vdApp T t lk x y K) : ∃ e, K e ∧ ∀ (lk' : Nat → Option O) (K' : Ef → Prop), (∀ i, i ∈ x.ids ∨ i ∈ y.ids → lk' i = lk i) → K' e → vdApp T t lk' x y K' := by
  unfold vdApp at h
  split at h
  · rename_i hti
    obtain ⟨z, hz, h2, hv⟩ := view_det2 h
    clear h
    have h := h2
    clear h2
    split at h
    · split at h
      · rename_i q1
        split at h
        · rename_i q2
          obtain ⟨hc, h⟩ := vneed_true h
          rw [C.force_eq] at h
          exact ⟨_, h, fun lk' K' hl hk => by simp only [vdApp, hti]; exact hv _ _ (fun i hi => hl i (.inr hi)) (by simp only [q1, q2, C.force_eq]; exact vneed_mk hc hk)⟩
        · exact h.elim
      · exact h.elim
    · rename_i id
      split at h
      · rename_i hx
        split at h
        · rename_i q1
          split at h
          · rename_i q2
            obtain ⟨hc, h⟩ := vneed_true h
            rw [C.force_eq] at h
            exact ⟨_, h, fun lk' K' hl hk => by simp only [vdApp, hti]; exact hv _ _ (fun i hi => hl i (.inr hi)) (by simp only [hl id (.inl (by simp [V.ids])), hx, q1, q2, C.force_eq]; exact vneed_mk hc hk)⟩
          · exact h.elim
        · exact h.elim
      · rename_i hx
        split at h
        · rename_i q1
          split at h
          · rename_i q2
            obtain ⟨hc, h⟩ := vneed_true h
            rw [C.force_eq] at h
            exact ⟨_, h, fun lk' K' hl hk => by simp only [vdApp, hti]; exact hv _ _ (fun i hi => hl i (.inr hi)) (by simp only [hl id (.inl (by simp [V.ids])), hx, q1, q2, C.force_eq]; exact vneed_mk hc hk)⟩
          · exact h.elim
        · exact h.elim
      · rename_i hx
        split at h
        · rename_i q1 q3
          split at h
          · rename_i q2
            obtain ⟨hc, h⟩ := vneed_true h
            rw [C.force_eq] at h
            exact ⟨_, h, fun lk' K' hl hk => by simp only [vdApp, hti]; exact hv _ _ (fun i hi => hl i (.inr hi)) (by simp only [hl id (.inl (by simp [V.ids])), hx, q1, q2, q3, C.force_eq]; exact vneed_mk hc hk)⟩
          · exact h.elim
        · exact h.elim
      · exact h.elim
    · exact h.elim
  · exact h.elim

theorem vdLit_det {t len : Nat} {ps : List (Nat × V)} {K : Ef → Prop} (h : vdLit T t len ps (fun x => K (.val (.c x))) fun ob => K (.new (.slc 0) rfl ob)) : ∃ e, K e ∧ ∀ K' : Ef → Prop, K' e → vdLit T t len ps (fun x => K' (.val (.c x))) fun ob => K' (.new (.slc 0) rfl ob) := by
  unfold vdLit at h
  split at h
  · rename_i hti
    split at h
    · rename_i q1
      split at h
      · rename_i q2
        split at h
        · rename_i q3
          split at h
          · rename_i q4
            split at h
            · rename_i q5
              rw [C.force_eq] at h
              exact ⟨_, h, fun K' hk => by simp only [vdLit, hti, q1, q2, q3, q4, q5, C.force_eq]; exact hk⟩
            · exact h.elim
          · exact h.elim
        · rename_i q3
          split at h
          · split at h
            · rename_i q4
              rw [forceL_eq] at h
              refine ⟨_, h, fun K' hk => ?_⟩
              unfold vdLit
              simp only [hti, q1, q2]
              split
              · rw [forceL_eq]; exact hk
              · rename_i q5; rw [q4] at q5; cases q5
            · exact h.elim
          · exact h.elim
      · exact h.elim
    · exact h.elim
  · exact h.elim

theorem vbuild_det {t : Nat} {ps : List (Nat × V)} (h : vbuild T t ps KV) : ∃ v, KV v ∧ ∀ K' : V → Prop, K' v → vbuild T t ps K' := by
  unfold vbuild at h
  split at h
  · rename_i hti
    split at h
    · rename_i q1
      exact ⟨_, h, fun K' hk => by simp only [vbuild, hti, q1]; exact hk⟩
    · exact h.elim
  · exact h.elim

mutual
theorem V.lend_congr {lk' : Nat → Option O} : ∀ x : V, (∀ i ∈ x.ids, lk' i = lk i) → x.lend lk' = x.lend lk
  | .slc id, h => by simp only [V.lend]; rw [h id (by simp [V.ids])]
  | .agg xs, h => by simp only [V.lend]; rw [lendL_congr xs h]
  | .ptr _ _ _ _, _ => rfl
  | .tup _, _ => rfl
  | .fn _ _, _ => rfl
  | .any, _ => rfl
  | .tt, _ => rfl
  | .ff, _ => rfl
  | .nil, _ => rfl
  | .c _, _ => rfl
  | .iptr _, _ => rfl
theorem lendL_congr {lk' : Nat → Option O} : ∀ xs : List V, (∀ i ∈ idsL xs, lk' i = lk i) → lendL lk' xs = lendL lk xs
  | [], _ => rfl
  | x :: t, h => by
    simp only [lendL]
    rw [V.lend_congr x fun i hi => h i (by simp only [idsL]; exact List.mem_append_left _ hi), lendL_congr t fun i hi => h i (by simp only [idsL]; exact List.mem_append_right _ hi)]
end
mutual
theorem V.lentPg_congr {lk' : Nat → Option O} : ∀ x : V, (∀ i ∈ x.ids, lk' i = lk i) → x.lentPg lk' = x.lentPg lk
  | .slc id, h => by simp only [V.lentPg]; rw [h id (by simp [V.ids])]
  | .agg xs, h => by simp only [V.lentPg]; rw [lentPgL_congr xs h]
  | .ptr _ _ _ _, _ => rfl
  | .tup _, _ => rfl
  | .fn _ _, _ => rfl
  | .any, _ => rfl
  | .tt, _ => rfl
  | .ff, _ => rfl
  | .nil, _ => rfl
  | .c _, _ => rfl
  | .iptr _, _ => rfl
theorem lentPgL_congr {lk' : Nat → Option O} : ∀ xs : List V, (∀ i ∈ idsL xs, lk' i = lk i) → lentPgL lk' xs = lentPgL lk xs
  | [], _ => rfl
  | x :: t, h => by
    simp only [lentPgL]
    rw [V.lentPg_congr x fun i hi => h i (by simp only [idsL]; exact List.mem_append_left _ hi), lentPgL_congr t fun i hi => h i (by simp only [idsL]; exact List.mem_append_right _ hi)]
end
theorem okRes_congr {lk' : Nat → Option O} {z : C} {xs : List V} (h : ∀ i ∈ idsL xs, lk' i = lk i) : okRes z lk' xs = okRes z lk xs := by
  unfold okRes; rw [lentPgL_congr xs h]
end
end Go.VL
