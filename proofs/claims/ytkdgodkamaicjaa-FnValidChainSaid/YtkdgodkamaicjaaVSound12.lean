/- V-logic, part 14: calls. -/
import Derived.Test.YtkdgodkamaicjaaVSound11
namespace Go.VL
set_option linter.unusedVariables false
set_option linter.unusedSimpArgs false
section
variable {P : Program} {T : TT} {X : Cx} {I : Nat → Prop} {g : Gam} {s : S} {a : Act} {w : World} {o : Oper} {K : S → Prop}
  {N : Act → World → Prop} {Q : Exit → Act → World → Prop}

theorem idsLtL_get {n : Nat} {xs : List V} (h : idsLtL n xs = true) : ∀ x ∈ xs, x.idsLt n = true := by
  induction xs with
  | nil => intro x hx; cases hx
  | cons y t ih =>
    simp only [idsLtL] at h
    split at h
    · rename_i h1
      intro x hx
      rcases List.mem_cons.1 hx with hx | hx
      · rw [hx]; exact h1
      · exact ih h x hx
    · cases h

/-- from the caller's names to the callee's -/
theorem RV.unren {r : Nat → Nat} {n m : Nat} {u : V} {val : Value} (h : RV I g m w u val) : ∀ v : V, v.ren r = u → v.idsLt n = true → RV I (fun i => g (r i)) n w v val := by
  have list : ∀ (xs ys : List V) (vs : List Value), renL r ys = xs → idsLtL n ys = true → (∀ (i : Nat) x v, xs[i]? = some x → vs[i]? = some v → ∀ y : V, y.ren r = x → y.idsLt n = true → RV I (fun i => g (r i)) n w y v) →
      ys.length = xs.length ∧ ∀ (i : Nat) y v, ys[i]? = some y → vs[i]? = some v → RV I (fun i => g (r i)) n w y v := by
    intro xs ys vs hx hb ih
    subst hx
    rw [renL_eq]
    refine ⟨by simp, fun i y v hy hv => ih i (y.ren r) v ?_ hv y rfl (idsLtL_get hb y (List.mem_of_getElem? hy))⟩
    rw [renL_eq, List.getElem?_map, hy]; rfl
  induction h with
  | any v => intro v hv _; cases v <;> first | exact .any _ | cases hv
  | tt => intro v hv _; cases v <;> first | exact .tt | cases hv
  | ff => intro v hv _; cases v <;> first | exact .ff | cases hv
  | nil => intro v hv _; cases v <;> first | exact .nil | cases hv
  | c x u h => intro v hv _; cases v <;> first | (cases hv; done) | (cases hv; exact .c _ _ h)
  | iptr row b off val hb hc hr => intro v hv _; cases v <;> first | (cases hv; done) | (cases hv; exact .iptr row b off val hb hc hr)
  | agg xs vs hl _ ih =>
    intro v hv hb
    cases v with
    | agg ys =>
      simp only [V.ren, V.agg.injEq] at hv
      obtain ⟨h1, h2⟩ := list xs ys vs hv hb ih
      exact .agg ys vs (h1.trans hl) h2
    | _ => cases hv
  | tup xs vs hl _ ih =>
    intro v hv hb
    cases v with
    | tup ys =>
      simp only [V.ren, V.tup.injEq] at hv
      obtain ⟨h1, h2⟩ := list xs ys vs hv hb ih
      exact .tup ys vs (h1.trans hl) h2
    | _ => cases hv
  | fn f xs vs hl _ ih =>
    intro v hv hb
    cases v with
    | fn f' ys =>
      simp only [V.ren, V.fn.injEq] at hv
      obtain ⟨rfl, hv⟩ := hv
      obtain ⟨h1, h2⟩ := list xs ys vs hv hb ih
      exact .fn _ ys vs (h1.trans hl) h2
    | _ => cases hv
  | ptr id i st j b cl h1 h2 =>
    intro v hv hb
    cases v with
    | ptr k i' st' j' =>
      simp only [V.ren, V.ptr.injEq] at hv
      obtain ⟨rfl, rfl, rfl, rfl⟩ := hv
      exact .ptr k _ _ _ b cl (Nat.blt_eq.mp hb) h2
    | _ => cases hv
  | slc id len b cap h1 h2 =>
    intro v hv hb
    cases v with
    | slc k =>
      simp only [V.ren, V.slc.injEq] at hv
      subst hv
      exact .slc k len b cap (Nat.blt_eq.mp hb) h2
    | _ => cases hv
  | slc0 id h1 h2 =>
    intro v hv hb
    cases v with
    | slc k =>
      simp only [V.ren, V.slc.injEq] at hv
      subst hv
      exact .slc0 k (Nat.blt_eq.mp hb) h2
    | _ => cases hv

/-- .. and back -/
theorem RV.reren {r : Nat → Nat} {g2 : Gam} {n m : Nat} (hr : ∀ i, i < m → r i < n ∧ g2 (r i) = g i) {v : V} {val : Value} (h : RV I g m w v val) : RV I g2 n w (v.ren r) val := by
  have mapped : ∀ (xs : List V) (vs : List Value), (∀ (i : Nat) x v, xs[i]? = some x → vs[i]? = some v → RV I g2 n w (x.ren r) v) → ∀ (i : Nat) x v, (renL r xs)[i]? = some x → vs[i]? = some v → RV I g2 n w x v := by
    intro xs vs ih i x v hx hv
    rw [renL_eq, List.getElem?_map] at hx
    cases hq : xs[i]? with
    | none => rw [hq] at hx; cases hx
    | some y => rw [hq] at hx; cases hx; exact ih i y v hq hv
  induction h with
  | any v => exact .any v
  | tt => exact .tt
  | ff => exact .ff
  | nil => exact .nil
  | c x v h => exact .c x v h
  | agg xs vs hl _ ih => exact .agg _ vs (by rw [renL_eq]; simpa using hl) (mapped xs vs ih)
  | tup xs vs hl _ ih => exact .tup _ vs (by rw [renL_eq]; simpa using hl) (mapped xs vs ih)
  | fn f xs vs hl _ ih => exact .fn f _ vs (by rw [renL_eq]; simpa using hl) (mapped xs vs ih)
  | iptr row b off val hb hc hr => exact .iptr row b off val hb hc hr
  | ptr id i st j b cl h1 h2 => exact .ptr _ i st j b cl (hr id h1).1 (by rw [(hr id h1).2]; exact h2)
  | slc id len b cap h1 h2 => exact .slc _ len b cap (hr id h1).1 (by rw [(hr id h1).2]; exact h2)
  | slc0 id h1 h2 => exact .slc0 _ (hr id h1).1 (by rw [(hr id h1).2]; exact h2)

def OLt (n : Nat) (ob : O) : Prop :=
  match ob with
  | .box pre _ post => idsLtL n pre = true ∧ idsLtL n post = true
  | .arr _ => True
  | .hol _ _ vs => idsLtL n vs = true
  | .deep _ _ _ hs => ∀ i us, (i, us) ∈ hs → idsLtL n us = true

theorem RO.unren {r : Nat → Nat} {n m i : Nat} {ob : O} (h : RO I g m w (r i) (ob.map (renL r))) (hbl : OLt n ob) :
    RO I (fun i => g (r i)) n w i ob := by
  cases ob with
  | arr x => cases h with
    | none _ hg hs h0 => exact .none x hg hs h0
    | arr _ b cap cells ty hg hs hb hl hcap hh ht => exact .arr x b cap cells ty hg hs hb hl hcap hh ht
  | hol x hi vs => cases h with
    | hol _ _ _ b cap cells ty hg hs hb hl hcap hhi hv hh h2 ht =>
      refine .hol x hi vs b cap cells ty hg hs hb hl hcap hhi (by rw [renL_eq] at hv; simpa using hv) hh (fun j hj => ?_) ht
      obtain ⟨u, v, a1, a2, a3, a4⟩ := h2 j hj
      rw [renL_eq, List.getElem?_map] at a1
      cases hq : vs[j]? with
      | none => rw [hq] at a1; cases a1
      | some y => rw [hq] at a1; cases a1; exact ⟨y, v, rfl, a2, a3, a4.unren y rfl (idsLtL_get hbl y (List.mem_of_getElem? hq))⟩
  | deep p f x hs =>
    simp only [O.map] at h
    have hmem : ∀ {i us}, (i, us) ∈ hs → (i, renL r us) ∈ mapHs (renL r) hs := fun {i us} hm => by rw [mapHs_eq]; exact List.mem_map.2 ⟨_, hm, rfl⟩
    generalize hq : mapHs (renL r) hs = hs' at h
    have hkeys : keysHs hs' = keysHs hs := by rw [← hq, keysHs_map]
    cases h with
    | deep0 _ _ _ hg hs0 h0 =>
      have : hs = [] := by cases hs with
        | nil => rfl
        | cons q t => obtain ⟨a, b⟩ := q; simp [mapHs] at hq
      subst this
      exact .deep0 p f x hg hs0 h0
    | deep _ _ _ _ b cap cells ty hg hsl hb hl hcap hh hkn ht h2 hd hty =>
      subst hq
      rw [hkeys] at hkn ht hd
      refine .deep p f x hs b cap cells ty hg hsl hb hl hcap (fun k us hm => ?_) hkn ht (fun k us hm j hj => ?_) hd hty
      · have := hh k _ (hmem hm); rw [renL_eq, List.length_map] at this; exact this
      · obtain ⟨u, v, a1, a2, a3, a4⟩ := h2 k _ (hmem hm) j hj
        rw [renL_eq, List.getElem?_map] at a1
        cases hq : us[j]? with
        | none => rw [hq] at a1; cases a1
        | some y => rw [hq] at a1; cases a1; exact ⟨y, v, rfl, a2, a3, a4.unren y rfl (idsLtL_get (hbl k us hm) y (List.mem_of_getElem? hq))⟩
  | box pre bs post =>
    obtain ⟨hb1, hb2⟩ := hbl
    cases h with
    | box _ _ _ b cl cells ty hg hbk hl h1 h2 h3 =>
      have e1 : (renL r pre).length = pre.length := by rw [renL_eq]; simp
      have e2 : (renL r post).length = post.length := by rw [renL_eq]; simp
      rw [e1, e2] at hl
      rw [e1] at h2 h3
      refine .box pre bs post b cl cells ty hg hbk hl (fun k x v hx hv => ?_) h2 (fun k x v hx hv => ?_)
      · exact (h1 k (x.ren r) v (by rw [renL_eq, List.getElem?_map, hx]; rfl) hv).unren x rfl (idsLtL_get hb1 x (List.mem_of_getElem? hx))
      · exact (h3 k (x.ren r) v (by rw [renL_eq, List.getElem?_map, hx]; rfl) hv).unren x rfl (idsLtL_get hb2 x (List.mem_of_getElem? hx))

theorem RO.reren {r : Nat → Nat} {g2 : Gam} {n m i : Nat} (hr : ∀ i, i < m → r i < n ∧ g2 (r i) = g i) (hi : i < m) {ob : O} (h : RO I g m w i ob) : RO I g2 n w (r i) (ob.map (renL r)) := by
  cases h with
  | none x hg hs h0 => exact .none x (by rw [(hr i hi).2]; exact hg) hs h0
  | arr x b cap cells ty hg hs hb hl hcap hh ht => exact .arr x b cap cells ty (by rw [(hr i hi).2]; exact hg) hs hb hl hcap hh ht
  | hol x hi' vs b cap cells ty hg hs hb hl hcap hhi hv hh h2 ht =>
    exact .hol x hi' _ b cap cells ty (by rw [(hr i hi).2]; exact hg) hs hb hl hcap hhi (by rw [renL_eq]; simpa using hv) hh (fun j hj =>
      let ⟨u, v, a1, a2, a3, a4⟩ := h2 j hj; ⟨u.ren r, v, by rw [renL_eq, List.getElem?_map, a1]; rfl, a2, a3, a4.reren hr⟩) ht
  | deep0 p f x hg hs h0 => exact .deep0 p f x (by rw [(hr i hi).2]; exact hg) hs h0
  | deep p f x hs b cap cells ty hg hsl hb hl hcap hh hkn ht h2 hd hty =>
    simp only [O.map]
    refine .deep p f x _ b cap cells ty (by rw [(hr i hi).2]; exact hg) hsl hb hl hcap (fun k us hm => ?_) (by rw [keysHs_map]; exact hkn) (by rw [keysHs_map]; exact ht) (fun k us hm j hj => ?_) (by rw [keysHs_map]; exact hd) hty
    · obtain ⟨vs, hm2, rfl⟩ := mem_mapHs hm
      exact ⟨(hh k vs hm2).1, by rw [renL_eq, List.length_map]; exact (hh k vs hm2).2⟩
    · obtain ⟨vs, hm2, rfl⟩ := mem_mapHs hm
      obtain ⟨u, v, a1, a2, a3, a4⟩ := h2 k vs hm2 j hj
      exact ⟨u.ren r, v, by rw [renL_eq, List.getElem?_map, a1]; rfl, a2, a3, a4.reren hr⟩
  | box pre bs post b cl cells ty hg hbk hl h1 h2 h3 =>
    have e1 : (renL r pre).length = pre.length := by rw [renL_eq]; simp
    have e2 : (renL r post).length = post.length := by rw [renL_eq]; simp
    have hm : ∀ (xs : List V) (k : Nat) x, (renL r xs)[k]? = some x → ∃ y, xs[k]? = some y ∧ x = y.ren r := fun xs k x hx => by
      rw [renL_eq, List.getElem?_map] at hx
      cases hq : xs[k]? with
      | none => rw [hq] at hx; cases hx
      | some y => rw [hq] at hx; cases hx; exact ⟨y, rfl, rfl⟩
    refine .box _ bs _ b cl cells ty (by rw [(hr i hi).2]; exact hg) hbk (by rw [e1, e2]; exact hl) (fun k x v hx hv => ?_) (by rw [e1]; exact h2) (fun k x v hx hv => ?_)
    · obtain ⟨y, h4, rfl⟩ := hm _ _ _ hx; exact (h1 k y v h4 hv).reren hr
    · obtain ⟨y, h4, rfl⟩ := hm _ _ _ hx; rw [e1] at hv; exact (h3 k y v h4 hv).reren hr

theorem memN_iff {a : Nat} {l : List Nat} : memN a l = true ↔ a ∈ l := by
  induction l with
  | nil => simp [memN]
  | cons b t ih =>
    simp only [memN]
    cases h : Nat.beq a b with
    | true => have := Nat.eq_of_beq_eq_true h; simp [this]
    | false => have := Nat.ne_of_beq_eq_false h; simp [ih, this]
theorem nodupN_iff {l : List Nat} : nodupN l = true ↔ l.Nodup := by
  induction l with
  | nil => simp [nodupN]
  | cons a t ih =>
    simp only [nodupN, List.nodup_cons]
    cases h : memN a t with
    | true => have := memN_iff.1 h; simp [this]
    | false => have : a ∉ t := fun hc => by rw [memN_iff.2 hc] at h; cases h
               simp [ih, this]
theorem rnf_get (rn : List Nat) (i : Nat) (h : i < rn.length) : rn[i]? = some (rnf rn i) := by
  induction rn generalizing i with
  | nil => simp at h
  | cons a t ih => cases i with
    | zero => rfl
    | succ i => simpa [rnf] using ih i (by simpa using h)
theorem rnf_mem {rn : List Nat} {i : Nat} (h : i < rn.length) : rnf rn i ∈ rn := List.mem_of_getElem? (rnf_get rn i h)
theorem rnf_inj {rn : List Nat} (hn : rn.Nodup) : ∀ {i j : Nat}, i < rn.length → j < rn.length → rnf rn i = rnf rn j → i = j := by
  induction rn with
  | nil => intro i j hi; simp at hi
  | cons a t ih =>
    intro i j hi hj h
    rw [List.nodup_cons] at hn
    cases i with
    | zero => cases j with
      | zero => rfl
      | succ j => exact (hn.1 (by have e : a = rnf t j := h; rw [e]; exact rnf_mem (by simpa using hj))).elim
    | succ i => cases j with
      | zero => exact (hn.1 (by have e : rnf t i = a := h; rw [← e]; exact rnf_mem (by simpa using hi))).elim
      | succ j => rw [ih hn.2 (i := i) (j := j) (by simpa using hi) (by simpa using hj) h]
theorem maxN_le {rn : List Nat} {i : Nat} (hi : i < rn.length) : rnf rn i < maxN rn := by
  induction rn generalizing i with
  | nil => simp at hi
  | cons a t ih => cases i with
    | zero => simp only [rnf, maxN]; exact Nat.lt_of_lt_of_le (Nat.lt_succ_self a) (Nat.le_max_left _ _)
    | succ i => exact Nat.lt_of_lt_of_le (ih (i := i) (by simpa using hi)) (Nat.le_max_right _ _)

theorem keysH_eq (hp : List (Nat × O)) : keysH hp = hp.map (·.1) := by
  induction hp with
  | nil => rfl
  | cons x t ih => obtain ⟨k, v⟩ := x; simp [keysH, ih]

theorem newIds_get {r : Nat → Nat} {nx : Nat} {ks : List Nat} : ∀ {m : Nat}, newIds r nx ks m = true → ∀ i, i < m → i ∈ ks ∨ nx ≤ r i := by
  intro m
  induction m with
  | zero => intro _ i hi; omega
  | succ m ih =>
    intro h i hi
    simp only [newIds] at h
    split at h
    · rename_i h1
      by_cases e : i = m
      · subst e
        split at h1
        · rename_i h2; exact .inl (memN_iff.1 h2)
        · exact .inr (Nat.le_of_ble_eq_true h1)
      · exact ih h i (by omega)
    · cases h

theorem hasIn_get {r : Nat → Nat} {hp hin : List (Nat × O)} (h : hasIn r hp hin) : ∀ i o, (i, o) ∈ hin → lookH hp (r i) = some (o.map (renL r)) := by
  induction hin with
  | nil => intro i o hm; cases hm
  | cons x t ih =>
    obtain ⟨k, v⟩ := x
    intro i o hm
    rcases List.mem_cons.1 hm with hm | hm
    · cases hm; exact h.1
    · exact ih h.2 i o hm

theorem idsLtHs_get {n : Nat} {hs : List (Nat × List V)} (h : idsLtHs n hs = true) : ∀ i us, (i, us) ∈ hs → idsLtL n us = true := by
  induction hs with
  | nil => intro i us hm; cases hm
  | cons x t ih =>
    obtain ⟨k, vs⟩ := x
    simp only [idsLtHs] at h
    split at h
    · rename_i h1
      intro i us hm
      rcases List.mem_cons.1 hm with hm | hm
      · cases hm; exact h1
      · exact ih h i us hm
    · cases h

theorem idsLtH_get {n : Nat} {hp : List (Nat × O)} (h : idsLtH n hp = true) : ∀ i o, (i, o) ∈ hp → i < n ∧ OLt n o := by
  induction hp with
  | nil => intro i o hm; cases hm
  | cons x t ih =>
    obtain ⟨k, v⟩ := x
    intro i o hm
    simp only [idsLtH] at h
    split at h
    · rename_i h1
      have h1 := Nat.blt_eq.mp h1
      cases v with
      | arr x =>
        rcases List.mem_cons.1 hm with hm | hm
        · cases hm; exact ⟨h1, trivial⟩
        · exact ih h i o hm
      | hol x hi vs =>
        simp only at h
        split at h
        · rename_i h2
          rcases List.mem_cons.1 hm with hm | hm
          · cases hm; exact ⟨h1, h2⟩
          · exact ih h i o hm
        · cases h
      | deep p f x hs =>
        simp only at h
        split at h
        · rename_i h2
          rcases List.mem_cons.1 hm with hm | hm
          · cases hm; exact ⟨h1, idsLtHs_get h2⟩
          · exact ih h i o hm
        · cases h
      | box pre bs post =>
        simp only at h
        split at h
        · rename_i h2 h3
          rcases List.mem_cons.1 hm with hm | hm
          · cases hm; exact ⟨h1, h2, h3⟩
          · exact ih h i o hm
        · cases h
    · cases h

theorem boxesStay2_get {hin : List (Nat × O)} : ∀ {hout : List (Nat × O)}, boxesStay2 hin hout = true → ∀ i o, (i, o) ∈ hout → o.isBox = true → ∀ ob, lookH hin i = some ob → ob.isBox = true := by
  intro hout
  induction hout with
  | nil => intro _ i o hm; cases hm
  | cons x t ih =>
    obtain ⟨k, v⟩ := x
    intro h i o hm hb
    simp only [boxesStay2] at h
    rcases List.mem_cons.1 hm with hm | hm
    · cases hm
      rw [hb] at h
      intro ob hob
      rw [hob] at h
      simp only at h
      split at h
      · assumption
      · cases h
    · split at h
      · exact ih h i o hm hb
      · split at h
        · split at h
          · exact ih h i o hm hb
          · cases h
        · exact ih h i o hm hb

/-- forgetting several ids -/
def fgs : List Nat → V → V
  | [], v => v
  | i :: t, v => fgs t (v.forget i)
def arrIds (r : Nat → Nat) (hout : List (Nat × O)) : List (Nat × O) → List Nat
  | [] => []
  | (i, o) :: t => match stays hout i o with
    | true => arrIds r hout t
    | false => r i :: arrIds r hout t

theorem fgs_any (l : List Nat) : fgs l .any = .any := by induction l with | nil => rfl | cons a t ih => exact ih
theorem mapE_mapE (f h : V → V) (env : List (Nat × V)) : mapE f (mapE h env) = mapE (fun v => f (h v)) env := by
  induction env with
  | nil => rfl
  | cons x t ih => obtain ⟨k, v⟩ := x; simp [mapE, ih]
theorem mapE_id (env : List (Nat × V)) : mapE (fun v => v) env = env := by
  induction env with
  | nil => rfl
  | cons x t ih => obtain ⟨k, v⟩ := x; simp [mapE, ih]
theorem mapH_mapH (f h : List V → List V) (hp : List (Nat × O)) : mapH f (mapH h hp) = mapH (fun v => f (h v)) hp := by
  induction hp with
  | nil => rfl
  | cons x t ih => obtain ⟨k, v⟩ := x; cases v <;> simp [mapH, ih, O.map, mapHs_eq]
theorem mapH_id (hp : List (Nat × O)) : mapH (fun v => v) hp = hp := by
  induction hp with
  | nil => rfl
  | cons x t ih => obtain ⟨k, v⟩ := x; cases v <;> simp [mapH, ih, O.map, mapHs_eq]

theorem forgetIn_eq (r : Nat → Nat) (hout hin : List (Nat × O)) : ∀ s : S, (forgetIn r hout hin s).env = mapE (fgs (arrIds r hout hin)) s.env ∧ (forgetIn r hout hin s).hp = mapH (List.map (fgs (arrIds r hout hin))) s.hp ∧ (forgetIn r hout hin s).nt = s.nt := by
  induction hin with
  | nil => intro s; exact ⟨(mapE_id _).symm, by
      show s.hp = mapH (List.map fun v => v) s.hp
      rw [show (List.map fun v : V => v) = fun v => v from by funext l; simp]; exact (mapH_id _).symm, rfl⟩
  | cons x t ih =>
    obtain ⟨k, v⟩ := x
    intro s
    simp only [forgetIn, arrIds]
    cases stays hout k v with
    | true => exact ih s
    | false =>
      simp only
      obtain ⟨h1, h2, h3⟩ := ih (s.forget (r k))
      refine ⟨by rw [h1]; exact mapE_mapE _ _ _, ?_, h3⟩
      rw [h2]
      show mapH _ (mapH (forgetL (r k)) s.hp) = _
      rw [mapH_mapH]
      congr 1
      funext l
      rw [forgetL_eq, List.map_map]; rfl

theorem RV.fgs {n : Nat} {g2 : Gam} (l : List Nat) : ∀ {g : Gam} {v : V} {val : Value}, (∀ i, i < n → i ∉ l → g2 i = g i) → RV I g n w v val → RV I g2 n w (fgs l v) val := by
  induction l with
  | nil => intro g v val hg h; exact h.mono (fun _ h => h) (fun _ _ => rfl) (Nat.le_refl _) fun i hi => hg i hi (by simp)
  | cons a t ih =>
    intro g v val hg h
    have h1 : RV I (fun i => if i = a then g2 i else g i) n w (v.forget a) val := h.forget (fun i _ hne => by simp [hne])
    exact ih (fun i hi hnt => by
      by_cases e : i = a
      · simp [e]
      · simp only [e, if_false]; exact hg i hi (by simp [e, hnt])) h1

theorem arrIds_mem {r : Nat → Nat} {hout hin : List (Nat × O)} {j : Nat} (h : j ∈ arrIds r hout hin) : ∃ i ob, (i, ob) ∈ hin ∧ j = r i := by
  induction hin with
  | nil => cases h
  | cons y t ih =>
    obtain ⟨k, v⟩ := y
    simp only [arrIds] at h
    cases hst : stays hout k v with
    | true => rw [hst] at h; obtain ⟨i, x, h1, h2⟩ := ih h; exact ⟨i, x, List.mem_cons_of_mem _ h1, h2⟩
    | false =>
      rw [hst] at h
      rcases List.mem_cons.1 h with h | h
      · exact ⟨k, _, List.mem_cons_self, h⟩
      · obtain ⟨i, x, h1, h2⟩ := ih h; exact ⟨i, x, List.mem_cons_of_mem _ h1, h2⟩
theorem mem_arrIds {r : Nat → Nat} {hout hin : List (Nat × O)} {i : Nat} {ob : O} (hb : stays hout i ob = false) (h : (i, ob) ∈ hin) : r i ∈ arrIds r hout hin := by
  induction hin with
  | nil => cases h
  | cons y t ih =>
    obtain ⟨k, v⟩ := y
    simp only [arrIds]
    rcases List.mem_cons.1 h with h1 | h1
    · cases h1; rw [hb]; exact List.mem_cons_self
    · have h2 := ih h1
      cases stays hout k v with
      | true => exact h2
      | false => exact List.mem_cons_of_mem _ h2
theorem stays_get {hout : List (Nat × O)} {i : Nat} {ob : O} (h : stays hout i ob = true) : ob.isBox = true ∧ ∃ o', lookH hout i = some o' ∧ o'.isBox = true := by
  unfold stays at h
  split at h
  · rename_i h1
    split at h
    · rename_i o' h2; exact ⟨h1, o', h2, h⟩
    · cases h
  · cases h

theorem mem_dropIn {r : Nat → Nat} (hin : List (Nat × O)) : ∀ {hp : List (Nat × O)}, (hp.map (·.1)).Nodup → ∀ {j o'}, (j, o') ∈ dropIn r hin hp → (j, o') ∈ hp ∧ ∀ i o, (i, o) ∈ hin → j ≠ r i := by
  induction hin with
  | nil => intro hp _ j o' h; exact ⟨h, fun i o hm => by cases hm⟩
  | cons y t ih =>
    obtain ⟨k, v⟩ := y
    intro hp hn j o' h
    obtain ⟨h1, h2⟩ := ih (dropH_nodup hn (r k)) h
    obtain ⟨h3, h4⟩ := mem_dropH hn h1
    refine ⟨h3, fun i o hm => ?_⟩
    rcases List.mem_cons.1 hm with hm | hm
    · cases hm; exact h4
    · exact h2 i o hm
theorem dropIn_sublist (r : Nat → Nat) (hin : List (Nat × O)) : ∀ hp : List (Nat × O), (dropIn r hin hp).Sublist hp := by
  induction hin with
  | nil => intro hp; exact List.Sublist.refl _
  | cons y t ih => obtain ⟨k, v⟩ := y; intro hp; exact (ih _).trans (dropH_sublist _ _)

theorem mem_renH {r : Nat → Nat} {hout : List (Nat × O)} {j : Nat} {o' : O} (h : (j, o') ∈ renH r hout) : ∃ i o, (i, o) ∈ hout ∧ j = r i ∧ o' = o.map (renL r) := by
  induction hout with
  | nil => cases h
  | cons y t ih =>
    obtain ⟨k, v⟩ := y
    rcases List.mem_cons.1 h with h | h
    · cases h; exact ⟨k, v, List.mem_cons_self, rfl, rfl⟩
    · obtain ⟨i, o, h1, h2⟩ := ih h; exact ⟨i, o, List.mem_cons_of_mem _ h1, h2⟩
theorem renH_keys (r : Nat → Nat) (hout : List (Nat × O)) : (renH r hout).map (·.1) = (hout.map (·.1)).map r := by
  induction hout with
  | nil => rfl
  | cons y t ih => obtain ⟨k, v⟩ := y; simp [renH, ih]
end
end Go.VL
