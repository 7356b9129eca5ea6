/- V-logic, part 9: stores into objects; objects that are replaced, forgotten or frozen. -/
import Derived.Test.YtkdgodkamaicjaaVSound6
namespace Go.VL
set_option linter.unusedVariables false
set_option linter.unusedSimpArgs false
section
variable {P : Program} {T : TT} {X : Cx} {I : Nat → Prop} {g : Gam} {s : S} {a : Act} {w : World} {o : Oper} {K : S → Prop}
  {N : Act → World → Prop} {Q : Exit → Act → World → Prop}

/-- only block b has turned -/
structure Only (b : Nat) (w w' : World) : Prop where
  os : w'.os = w.os
  tape : w'.tape = w.tape
  output : w'.output = w.output
  size : w'.heap.size = w.heap.size
  block : ∀ k, k ≠ b → w'.heap[k]? = w.heap[k]?
theorem Only.refl (b : Nat) (w : World) : Only b w w := ⟨rfl, rfl, rfl, rfl, fun _ _ => rfl⟩
theorem Only.trans {b : Nat} {u v w : World} (h : Only b u v) (k : Only b v w) : Only b u w :=
  ⟨k.os.trans h.os, k.tape.trans h.tape, k.output.trans h.output, k.size.trans h.size, fun i hi => (k.block i hi).trans (h.block i hi)⟩

theorem setCell_row {w : World} {b i : Nat} {cs : List Value} {ty : TypeId} (v : Value) (hb : w.heap[b]? = some (.cells cs.toArray ty (0, 0))) :
    (w.setCell ⟨b, i, none⟩ v).heap[b]? = some (.cells (cs.set i v).toArray ty (0, 0)) ∧ Only b w (w.setCell ⟨b, i, none⟩ v) := by
  refine ⟨?_, rfl, rfl, rfl, by simp [World.setCell], fun k hk => ?_⟩
  · simp only [World.setCell, Array.getElem?_modify, if_true, hb, Option.map_some]
    simp
  · simp only [World.setCell, Array.getElem?_modify]
    rw [if_neg (by omega)]

theorem run_storeCells (vs : List Value) : ∀ (w : World) (b off i : Nat) (cs : List Value) (ty : TypeId), w.heap[b]? = some (.cells cs.toArray ty (0, 0)) → off + i + vs.length ≤ cs.length →
    (∀ v ∈ vs, v.oneCell' = true) → ∃ w', (storeCells ⟨b, off, none⟩ vs i).run P w = .ok () w' ∧ w'.heap[b]? = some (.cells (putAt cs (off + i) vs).toArray ty (0, 0)) ∧ Only b w w' := by
  induction vs with
  | nil => intro w b off i cs ty hb _ _; exact ⟨w, rfl, hb, Only.refl b w⟩
  | cons v t ih =>
    intro w b off i cs ty hb hl h1
    obtain ⟨e1, e2⟩ := setCell_row (i := off + i) v hb
    obtain ⟨w', r1, r2, r3⟩ := ih (w.setCell ⟨b, off + i, none⟩ v) b off (i + 1) (cs.set (off + i) v) ty e1 (by simp at hl ⊢; omega) (fun u hu => h1 u (List.mem_cons_of_mem _ hu))
    refine ⟨w', ?_, by rw [putAt]; exact r2, e2.trans r3⟩
    have hc : w.cell? ⟨b, off + i, none⟩ = some (cs[off + i]'(by simp at hl; omega)) := by
      rw [cell_of_row w b _ cs.toArray ty (0, 0) hb]
      simp at hl ⊢
    have hf : w.frozen? ⟨b, off + i, none⟩ = false := frozen_of_row w b _ cs.toArray ty hb
    simp only [storeCells, Sem.run_bind, addr_add, run_store P w ⟨b, off + i, none⟩ v .plain (h1 v List.mem_cons_self), hc, hf]
    exact r1

theorem setH_keys (hp : List (Nat × O)) (id : Nat) (ob : O) : (setH hp id ob).map (·.1) = hp.map (·.1) := by
  induction hp with
  | nil => rfl
  | cons x t ih =>
    obtain ⟨k, v⟩ := x
    simp only [setH]
    cases Nat.beq k id <;> simp [ih]
theorem mem_setH {hp : List (Nat × O)} (hn : (hp.map (·.1)).Nodup) {id i : Nat} {ob o' : O} (h : (i, o') ∈ setH hp id ob) : (i = id ∧ o' = ob) ∨ ((i, o') ∈ hp ∧ i ≠ id) := by
  induction hp with
  | nil => cases h
  | cons x t ih =>
    obtain ⟨k, v⟩ := x
    simp only [List.map_cons, List.nodup_cons] at hn
    simp only [setH] at h
    cases hk : Nat.beq k id with
    | true =>
      have hk := Nat.eq_of_beq_eq_true hk
      rw [hk, Nat.beq_refl] at h
      rcases List.mem_cons.1 h with h | h
      · cases h; exact .inl ⟨rfl, rfl⟩
      · refine .inr ⟨List.mem_cons_of_mem _ h, fun e => hn.1 ?_⟩
        rw [hk, ← e]; exact List.mem_map.2 ⟨_, h, rfl⟩
    | false =>
      rw [hk] at h
      rcases List.mem_cons.1 h with h | h
      · cases h; exact .inr ⟨List.mem_cons_self, Nat.ne_of_beq_eq_false hk⟩
      · rcases ih hn.2 h with h | h
        · exact .inl h
        · exact .inr ⟨List.mem_cons_of_mem _ h.1, h.2⟩

/-- object id holds something else now, in its old block -/
theorem St.modify (h : St X I g s a w) {id b : Nat} {cl : Nat × Nat} {ob ob' : O} (hm : (id, ob) ∈ s.hp) (hg : g id = some (b, cl)) (hbx : ob'.isBox = ob.isBox) {w' : World} (ho : Only b w w')
    (hro : RO I g s.nx w' id ob') (hns : ∀ b', Nst g w' id ob' b' → Nst g w id ob b' := by intro _ h; exact h.elim) : St X I g { s with hp := setH s.hp id ob' } a w' := by
  have hI : ∀ k, I k → w'.heap[k]? = w.heap[k]? := fun k hk => ho.block k fun e => (h.heap.apart id ob b hm (.pri hg)).1 (e ▸ hk)
  have hold : ∀ i o', (i, o') ∈ s.hp → i ≠ id → ∀ k, Own g w i o' k → w'.heap[k]? = w.heap[k]? := fun i o' hmi hne k hgk =>
    ho.block k fun e => hne (h.heap.inj i o' id ob k hmi hm hgk (e ▸ .pri hg))
  have hmem : ∀ i o', (i, o') ∈ setH s.hp id ob' → ∃ o'', (i, o'') ∈ s.hp ∧ o''.isBox = o'.isBox ∧ ∀ k, Own g w' i o' k → Own g w i o'' k := fun i o' hmi => by
    rcases mem_setH h.heap.nodup hmi with ⟨rfl, rfl⟩ | ⟨h1, hne⟩
    · exact ⟨ob, hm, hbx.symm, fun k hk => hk.imp _root_.id (hns k)⟩
    · exact ⟨o', h1, rfl, fun k hk => hk.congr rfl fun k c hgk => hold i o' h1 hne k (.pri hgk)⟩
  refine ⟨h.df, h.sz, fun j => (h.slots j).mono (fun _ h => h) hI (Nat.le_refl _) fun _ _ => rfl, ⟨?_, ?_, ?_, ?_⟩, fun k hk => by rw [ho.size]; exact h.bound k hk, h.up, h.down, ?_, ?_, ?_, h.low⟩
  · intro i o' hmi
    rcases mem_setH h.heap.nodup hmi with ⟨rfl, rfl⟩ | ⟨h1, hne⟩
    · exact ⟨(h.heap.obj _ _ hm).1, hro⟩
    · exact ⟨(h.heap.obj _ _ h1).1, (h.heap.obj _ _ h1).2.mono (fun _ h => h) hI (Nat.le_refl _) (fun _ _ => rfl) (h.heap.obj _ _ h1).1 fun k hgk => hold i o' h1 hne k hgk⟩
  · intro i o' k hmi hgk
    obtain ⟨o'', h1, _, h2⟩ := hmem i o' hmi
    rw [ho.size]; exact h.heap.apart i o'' k h1 (h2 k hgk)
  · show (List.map _ (setH s.hp id ob')).Nodup
    rw [setH_keys]; exact h.heap.nodup
  · intro i o1 i' o2 k h1 h2 g1 g2
    obtain ⟨p1, q1, _, r1⟩ := hmem _ _ h1
    obtain ⟨p2, q2, _, r2⟩ := hmem _ _ h2
    exact h.heap.inj i p1 i' p2 k q1 q2 (r1 k g1) (r2 k g2)
  · rintro k ⟨i, o', hmi, hgk⟩
    obtain ⟨o'', h1, _, h2⟩ := hmem i o' hmi
    exact h.own k ⟨i, o'', h1, h2 k hgk⟩
  · intro i o' hmi hb hK
    obtain ⟨o'', h1, h2, _⟩ := hmem i o' hmi
    exact h.keep i o'' h1 (by rw [h2]; exact hb) hK
  · refine ⟨ho.os.trans h.fr.os, ho.tape.trans h.fr.tape, ho.output.trans h.fr.output, by rw [ho.size]; exact h.fr.size, fun k hk hd => ?_⟩
    rw [ho.block k fun e => ?_]
    · exact h.fr.block k hk hd
    · rcases h.own b ⟨id, ob, hm, .pri hg⟩ with h1 | h1
      · omega
      · exact hd (e ▸ h1)

theorem forgetL_get (id : Nat) (xs : List V) (i : Nat) : (forgetL id xs)[i]? = (xs[i]?).map (V.forget id) := by
  induction xs generalizing i with
  | nil => simp [forgetL]
  | cons x t ih => cases i with
    | zero => simp [forgetL]
    | succ i => simpa [forgetL] using ih i
theorem forgetL_eq (id : Nat) (xs : List V) : forgetL id xs = xs.map (V.forget id) := by
  apply List.ext_getElem?; intro i; simp [forgetL_get]
theorem frzL_eq (id : Nat) (x : C) (xs : List V) : frzL id x xs = xs.map (V.frz id x) := by
  induction xs with
  | nil => simp [frzL]
  | cons y t ih => simp [frzL, ih]
theorem renL_eq (r : Nat → Nat) (xs : List V) : renL r xs = xs.map (V.ren r) := by
  induction xs with
  | nil => simp [renL]
  | cons y t ih => simp [renL, ih]

theorem RV.forget {id n : Nat} {g' : Gam} (hg : ∀ i, i < n → i ≠ id → g' i = g i) {v : V} {val : Value} (h : RV I g n w v val) : RV I g' n w (v.forget id) val := by
  have mapped : ∀ (xs : List V) (vs : List Value), xs.length = vs.length → (∀ (i : Nat) x v, xs[i]? = some x → vs[i]? = some v → RV I g' n w (x.forget id) v) →
      ∀ (i : Nat) x v, (forgetL id xs)[i]? = some x → vs[i]? = some v → RV I g' n w x v := by
    intro xs vs _ ih i x v hx hv
    rw [forgetL_get] at hx
    cases hq : xs[i]? with
    | none => rw [hq] at hx; cases hx
    | some y => rw [hq] at hx; cases hx; exact ih i y v hq hv
  induction h with
  | any v => exact .any v
  | tt => exact .tt
  | ff => exact .ff
  | nil => exact .nil
  | c x v h => exact .c x v h
  | agg xs vs hl _ ih => exact .agg _ vs (by rw [forgetL_eq]; simpa using hl) (mapped xs vs hl ih)
  | tup xs vs hl _ ih => exact .tup _ vs (by rw [forgetL_eq]; simpa using hl) (mapped xs vs hl ih)
  | fn f xs vs hl _ ih => exact .fn f _ vs (by rw [forgetL_eq]; simpa using hl) (mapped xs vs hl ih)
  | iptr row b off val hb hc hr => exact .iptr row b off val hb hc hr
  | ptr i p st j b cl h1 h2 =>
    simp only [V.forget]
    cases hk : Nat.beq i id with
    | true => exact .any _
    | false => exact .ptr i p st j b cl h1 (by rw [hg i h1 (Nat.ne_of_beq_eq_false hk)]; exact h2)
  | slc i len b cap h1 h2 =>
    simp only [V.forget]
    cases hk : Nat.beq i id with
    | true => exact .any _
    | false => exact .slc i len b cap h1 (by rw [hg i h1 (Nat.ne_of_beq_eq_false hk)]; exact h2)
  | slc0 i h1 h2 =>
    simp only [V.forget]
    cases hk : Nat.beq i id with
    | true => exact .any _
    | false => exact .slc0 i h1 (by rw [hg i h1 (Nat.ne_of_beq_eq_false hk)]; exact h2)

theorem look_mapE (f : V → V) (hf : f .any = .any) (env : List (Nat × V)) (j : Nat) : look (mapE f env) j = f (look env j) := by
  induction env with
  | nil => exact hf.symm
  | cons x t ih =>
    obtain ⟨k, v⟩ := x
    simp only [mapE, look_cons]
    split
    · rfl
    · exact ih

theorem mem_mapH {fl : List V → List V} {hp : List (Nat × O)} {i : Nat} {ob : O} (h : (i, ob) ∈ mapH fl hp) : ∃ o', (i, o') ∈ hp ∧ ob = o'.map fl := by
  induction hp with
  | nil => cases h
  | cons x t ih =>
    obtain ⟨k, v⟩ := x
    rcases List.mem_cons.1 h with h | h
    · cases h; exact ⟨v, List.mem_cons_self, rfl⟩
    · obtain ⟨o', h1, h2⟩ := ih h; exact ⟨o', List.mem_cons_of_mem _ h1, h2⟩
theorem mapH_keys (fl : List V → List V) (hp : List (Nat × O)) : (mapH fl hp).map (·.1) = hp.map (·.1) := by
  induction hp with
  | nil => rfl
  | cons x t ih => obtain ⟨k, v⟩ := x; simp [mapH, ih]
theorem lookH_mapH (fl : List V → List V) (hp : List (Nat × O)) (i : Nat) : lookH (mapH fl hp) i = (lookH hp i).map (O.map fl) := by
  induction hp with
  | nil => rfl
  | cons x t ih =>
    obtain ⟨k, v⟩ := x
    simp only [mapH, lookH_cons]
    split
    · rfl
    · exact ih
theorem O.isBox_map (fl : List V → List V) (ob : O) : (ob.map fl).isBox = ob.isBox := by cases ob <;> rfl

/-- an object whose cells are told of in another way -/
theorem RO.mapV {I' : Nat → Prop} {g' : Gam} {n n' id : Nat} {w' : World} (f : V → V) (h : ∀ v val, RV I g n w v val → RV I' g' n' w' (f v) val) {fl : List V → List V} (hfl : ∀ xs, fl xs = xs.map f)
    (hI : ∀ b, I b → I' b) (hw : ∀ b, I b → w'.heap[b]? = w.heap[b]?) (hg : g' id = g id) {ob : O} (hbo : ∀ b, Own g w id ob b → w'.heap[b]? = w.heap[b]?) (hr : RO I g n w id ob) :
    RO I' g' n' w' id (ob.map fl) := by
  have hb : ∀ b cl, g id = some (b, cl) → w'.heap[b]? = w.heap[b]? := fun b cl h => hbo b (.pri h)
  cases hr with
  | box pre bs post b cl cells ty hg' hb' hl h1 h2 h3 =>
    simp only [O.map, hfl]
    refine .box _ bs _ b cl cells ty (by rw [hg, hg']) (by rw [hb b cl hg']; exact hb') (by simpa using hl) (fun i x v hx hv => ?_) (fun i x hx => ?_) (fun i x v hx hv => ?_)
    · rw [List.getElem?_map] at hx
      cases hq : pre[i]? with
      | none => rw [hq] at hx; cases hx
      | some y => rw [hq] at hx; cases hx; exact h _ _ (h1 i y v hq hv)
    · simpa using h2 i x hx
    · rw [List.getElem?_map] at hx
      cases hq : post[i]? with
      | none => rw [hq] at hx; cases hx
      | some y => rw [hq] at hx; cases hx; exact h _ _ (h3 i y v hq (by simpa using hv))
  | none x hg' hs h0 => exact .none x (by rw [hg, hg']) hs h0
  | arr x b cap cells ty hg' hs hb' hl hcap hh ht =>
    exact .arr x b cap cells ty (by rw [hg, hg']) hs (by rw [hb b _ hg']; exact hb') hl hcap
      (fun i j y a1 a2 => let ⟨v, h1, h2⟩ := hh i j y a1 a2; ⟨v, h1, h2.mono hI hw⟩) ht
  | hol x hi vs b cap cells ty hg' hs hb' hl hcap hhi hv hh h2 ht =>
    simp only [O.map, hfl]
    refine .hol x hi _ b cap cells ty (by rw [hg, hg']) hs (by rw [hb b _ hg']; exact hb') hl hcap hhi (by simpa using hv)
      (fun i j y a1 a2 a3 => let ⟨v, h1, h2⟩ := hh i j y a1 a2 a3; ⟨v, h1, h2.mono hI hw⟩) (fun j hj => let ⟨u, v, a1, a2, a3, a4⟩ := h2 j hj; ⟨f u, v, by rw [List.getElem?_map, a1]; rfl, a2, a3, h _ _ a4⟩) ht
  | deep0 p q x hg' hs h0 => exact .deep0 p q x (by rw [hg, hg']) hs h0
  | deep p q x hs b cap cells ty hg' hsl hb0 hl hcap hh hkn h1 h2 hd ht =>
    simp only [O.map]
    refine .deep p q x _ b cap cells ty (by rw [hg, hg']) hsl (by rw [hb b _ hg']; exact hb0) hl hcap (fun i us hm => ?_) (by rw [keysHs_map]; exact hkn) (fun i j y a1 a2 a3 a4 => ?_) (fun i us hm j hj => ?_) (by rw [keysHs_map]; exact hd) ht
    · obtain ⟨vs, hm2, rfl⟩ := mem_mapHs hm
      exact ⟨(hh i vs hm2).1, by rw [hfl, List.length_map]; exact (hh i vs hm2).2⟩
    · rw [keysHs_map] at a3
      obtain ⟨v, h3, h4⟩ := h1 i j y a1 a2 a3 a4
      refine ⟨v, h3, h4.mono fun b1 l n e => hbo b1 (.inr ⟨b, _, i * x.stride + j, 0, l, n, hg', ⟨i, j, rfl, ?_, a1, a2, a3⟩, ?_⟩)⟩
      · have := (List.getElem?_eq_some_iff.1 a4).1; rwa [C.row_len _ _ hsl] at this
      · rw [cell_of_row w b _ cells.toArray ty (0, 0) hb0]; rw [← e]; simpa using h3
    · obtain ⟨vs, hm2, rfl⟩ := mem_mapHs hm
      obtain ⟨u, v, a1, a2, a3, a4⟩ := h2 i vs hm2 j hj
      exact ⟨f u, v, by rw [hfl, List.getElem?_map, a1]; rfl, a2, a3, h _ _ a4⟩

/-- the owned slice id lies elsewhere, or holds more: whatever told of it is forgotten -/
theorem St.replace (h : St X I g s a w) {id : Nat} {ob0 ob' : O} (hm : (id, ob0) ∈ s.hp) (hbx : ob'.isBox = false) {w' : World} (gnew : Option (Nat × Nat × Nat))
    (hw1 : w'.os = w.os) (hw2 : w'.tape = w.tape) (hw3 : w'.output = w.output) (hw4 : w.heap.size ≤ w'.heap.size)
    (hw5 : ∀ k, k < w.heap.size → (∀ cl, g id ≠ some (k, cl)) → w'.heap[k]? = w.heap[k]?)
    (hnew : ∀ b cl, gnew = some (b, cl) → b < w'.heap.size ∧ (w.heap.size ≤ b ∨ ∃ cl', g id = some (b, cl')))
    (hro : ∀ g', g' id = gnew → (∀ i, i ≠ id → g' i = g i) → RO I g' s.nx w' id ob')
    (hns : ∀ g', g' id = gnew → ∀ b', Nst g' w' id ob' b' → Nst g w id ob0 b' := by intro _ _ _ h; exact h.elim) :
    ∃ g', g' id = gnew ∧ St X I g' { s.forget id with hp := setH (s.forget id).hp id ob' } a w' := by
  obtain ⟨g', hgn, hgo⟩ : ∃ g' : Gam, g' id = gnew ∧ ∀ i, i ≠ id → g' i = g i := ⟨fun i => if i = id then gnew else g i, by simp, fun i hi => by simp [hi]⟩
  refine ⟨g', hgn, ?_⟩
  have hI : ∀ k, I k → w'.heap[k]? = w.heap[k]? := fun k hk => hw5 k (h.bound k hk) fun cl e => (h.heap.apart id _ k hm (.pri e)).1 hk
  have hwo : ∀ i o', (i, o') ∈ s.hp → i ≠ id → ∀ b, Own g w i o' b → w'.heap[b]? = w.heap[b]? := fun i o' hmi hne b hgb =>
    hw5 b (h.heap.apart i o' b hmi hgb).2 fun cl' e => hne (h.heap.inj i o' id _ b hmi hm hgb (.pri e))
  have hother : ∀ i o' fl, (i, o') ∈ s.hp → i ≠ id → ∀ b, Own g' w' i (o'.map fl) b → Own g w i o' b := fun i o' fl hmi hne b ho =>
    ho.map.congr (hgo i hne) fun b cl hg => hwo i o' hmi hne b (.pri hg)
  have hfor : ∀ v val, RV I g s.nx w v val → RV I g' s.nx w' (v.forget id) val := fun v val hv =>
    (hv.mono (fun _ h => h) hI (Nat.le_refl _) (fun _ _ => rfl)).forget (fun i _ hne => hgo i hne)
  have hnd : ((s.forget id).hp.map (·.1)).Nodup := by show (List.map _ (mapH _ s.hp)).Nodup; rw [mapH_keys]; exact h.heap.nodup
  have hmem : ∀ i o', (i, o') ∈ setH (s.forget id).hp id ob' → (i = id ∧ o' = ob') ∨ (i ≠ id ∧ ∃ o'', (i, o'') ∈ s.hp ∧ o' = o''.map (forgetL id)) := fun i o' hmi => by
    rcases mem_setH hnd hmi with h1 | ⟨h1, h2⟩
    · exact .inl h1
    · exact .inr ⟨h2, mem_mapH h1⟩
  refine ⟨h.df, h.sz, fun j => ?_, ⟨?_, ?_, ?_, ?_⟩, fun k hk => Nat.lt_of_lt_of_le (h.bound k hk) hw4, h.up, h.down, ?_, ?_, ?_, h.low⟩
  · show RV I g' s.nx w' (look (mapE (V.forget id) s.env) j) _
    rw [look_mapE _ rfl]; exact hfor _ _ (h.slots j)
  · intro i o' hmi
    rcases hmem i o' hmi with ⟨rfl, rfl⟩ | ⟨hne, o'', h1, rfl⟩
    · exact ⟨(h.heap.obj _ _ hm).1, hro g' hgn hgo⟩
    · refine ⟨(h.heap.obj _ _ h1).1, ?_⟩
      exact (h.heap.obj _ _ h1).2.mapV (V.forget id) hfor (forgetL_eq id) (fun _ h => h) hI (hgo i hne) fun b hgb => hwo i o'' h1 hne b hgb
  · intro i o' k hmi hgk
    rcases hmem i o' hmi with ⟨rfl, rfl⟩ | ⟨hne, o'', h1, rfl⟩
    · rcases hgk with ⟨c, hgk⟩ | hgk
      · rw [hgn] at hgk
        obtain ⟨h1, h2⟩ := hnew k c hgk
        refine ⟨fun hk => ?_, h1⟩
        rcases h2 with h2 | ⟨cl', h2⟩
        · have := h.bound k hk; omega
        · exact (h.heap.apart _ _ k hm (.pri h2)).1 hk
      · obtain ⟨h2, h3⟩ := h.heap.apart _ _ k hm (.inr (hns g' hgn k hgk))
        exact ⟨h2, Nat.lt_of_lt_of_le h3 hw4⟩
    · obtain ⟨h2, h3⟩ := h.heap.apart i o'' k h1 (hother i o'' _ h1 hne k hgk)
      exact ⟨h2, Nat.lt_of_lt_of_le h3 hw4⟩
  · show (List.map _ (setH (s.forget id).hp id ob')).Nodup
    rw [setH_keys]; exact hnd
  · intro i o1 i' o2 k h1 h2 g1 g2
    have hcase : ∀ i o1, i ≠ id → (i, o1) ∈ s.hp → Own g w i o1 k → Own g' w' id ob' k → False := fun i o1 hne hmi hgi hgk => by
      rcases hgk with ⟨c', hgk⟩ | hgk
      · rw [hgn] at hgk
        rcases (hnew k c' hgk).2 with h3 | ⟨cl', h3⟩
        · have := (h.heap.apart i o1 k hmi hgi).2; omega
        · exact hne (h.heap.inj i o1 id _ k hmi hm hgi (.pri h3))
      · exact hne (h.heap.inj i o1 id _ k hmi hm hgi (.inr (hns g' hgn k hgk)))
    rcases hmem i o1 h1 with ⟨rfl, rfl⟩ | ⟨hne, o1', m1, rfl⟩ <;> rcases hmem i' o2 h2 with ⟨rfl, rfl⟩ | ⟨hne', o2', m2, rfl⟩
    · rfl
    · exact (hcase i' o2' hne' m2 (hother i' o2' _ m2 hne' k g2) g1).elim
    · exact (hcase i o1' hne m1 (hother i o1' _ m1 hne k g1) g2).elim
    · exact h.heap.inj i o1' i' o2' k m1 m2 (hother i o1' _ m1 hne k g1) (hother i' o2' _ m2 hne' k g2)
  · rintro k ⟨i, o', hmi, hgk⟩
    rcases hmem i o' hmi with ⟨rfl, rfl⟩ | ⟨hne, o'', h1, rfl⟩
    · rcases hgk with ⟨c, hgk⟩ | hgk
      · rw [hgn] at hgk
        rcases (hnew k c hgk).2 with h2 | ⟨cl', h2⟩
        · exact .inl (by have := h.fr.size; omega)
        · exact h.own k ⟨_, _, hm, .pri h2⟩
      · exact h.own k ⟨_, _, hm, .inr (hns g' hgn k hgk)⟩
    · exact h.own k ⟨i, o'', h1, hother i o'' _ h1 hne k hgk⟩
  · intro i o' hmi hb hK
    rcases hmem i o' hmi with ⟨rfl, rfl⟩ | ⟨hne, o'', h1, rfl⟩
    · rw [hbx] at hb; cases hb
    · rw [O.isBox_map] at hb; rw [hgo i hne]; exact h.keep i o'' h1 hb hK
  · refine ⟨hw1.trans h.fr.os, hw2.trans h.fr.tape, hw3.trans h.fr.output, Nat.le_trans h.fr.size hw4, fun k hk hd => ?_⟩
    rw [hw5 k (by have := h.fr.size; omega) fun cl e => ?_]
    · exact h.fr.block k hk hd
    · rcases h.own k ⟨id, _, hm, .pri e⟩ with h1 | h1
      · omega
      · exact hd h1
end
end Go.VL
