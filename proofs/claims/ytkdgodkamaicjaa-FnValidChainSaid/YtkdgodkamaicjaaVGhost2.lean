/- V-logic, part 17c: an element is shut; an array whose elements' slices are no longer written. -/
import Derived.Test.YtkdgodkamaicjaaVGhost
namespace Go.VL
set_option linter.unusedVariables false
set_option linter.unusedSimpArgs false
section
variable {P : Program} {T : TT} {X : Cx} {I : Nat → Prop} {g : Gam} {s : S} {a : Act} {w : World} {o : Oper} {K : S → Prop}
  {N : Act → World → Prop} {Q : Exit → Act → World → Prop}

theorem St.thaw (h : St X I g s a w) {id : Nat} {x : C} (hl : lookH s.hp id = some (.deep false 0 x [])) : ∃ I', St X I' g { s with hp := setH s.hp id (.arr x) } a w := by
  have hm := lookH_mem hl
  have hro := (h.heap.obj id _ hm).2
  let I' : Nat → Prop := fun b => I b ∨ Nst g w id (.deep false 0 x []) b
  have hII : ∀ b, I b → I' b := fun b hb => .inl hb
  have hnew : RO I' g s.nx w id (.arr x) ∧ ∀ b cl, g id = some (b, cl) → ¬ I' b := by
    refine ⟨?_, fun b cl hg hc => ?_⟩
    · cases hq : g id with
      | none =>
        cases hro with
        | deep0 _ _ _ hg hs h0 => exact .none x hg hs h0
        | deep _ _ _ _ b cap cells ty hg => rw [hq] at hg; cases hg
      | some p =>
        obtain ⟨b, cl⟩ := p
        obtain ⟨cap, cells, ty, e, hs, hb, hlen, hcap, ht, hr⟩ := hro.deep_rows (I' := I') (fun b hb => .inr hb) hq
        subst e
        exact .arr x b cap cells ty hq hs hb hlen hcap hr ht
    · rcases hc with hc | ⟨b0, cl', k, off, l, c, e1, e2, e3⟩
      · exact (h.heap.apart id _ b hm (.pri hg)).1 hc
      · rw [hg] at e1; cases e1
        cases hro with
        | deep0 _ _ _ hg' => rw [hg] at hg'; cases hg'
        | deep _ _ _ _ b' cap cells ty hg' hsl hb hlen hcap hh hkn ht h2 hd hty =>
          rw [hg] at hg'; cases hg'
          rw [cell_of_row w b _ cells.toArray ty (0, 0) hb] at e3
          have e3 : cells[k]? = some (.slice (some ⟨b, off, none⟩) l c) := by simpa using e3
          exact (hd k k b off l c off l c e2 e2 e3 e3).2 rfl
  have hmem : ∀ i o', (i, o') ∈ setH s.hp id (.arr x) → ∃ o'', (i, o'') ∈ s.hp ∧ (o'.isBox = true → o''.isBox = true) ∧ ∀ k, Own g w i o' k → Own g w i o'' k ∧ ¬ Nst g w id (.deep false 0 x []) k := fun i o' hmi => by
    rcases mem_setH h.heap.nodup hmi with ⟨rfl, rfl⟩ | ⟨h1, hne⟩
    · refine ⟨_, hm, fun e => (by cases e), fun k hk => ?_⟩
      obtain ⟨cl, hk⟩ := hk.nd (fun _ _ _ _ e => by cases e)
      exact ⟨.pri hk, fun hc => hnew.2 k cl hk (.inr hc)⟩
    · exact ⟨o', h1, fun h => h, fun k hk => ⟨hk, fun hc => hne (h.heap.inj i o' id _ k h1 hm hk (.inr hc))⟩⟩
  refine ⟨I', h.df, h.sz, fun j => (h.slots j).mono hII (fun _ _ => rfl) (Nat.le_refl _) fun _ _ => rfl, ⟨?_, ?_, ?_, ?_⟩, ?_, fun b hb => .inl (h.up b hb), ?_, ?_, ?_, h.fr, h.low⟩
  · intro i o' hmi
    rcases mem_setH h.heap.nodup hmi with ⟨rfl, rfl⟩ | ⟨h1, hne⟩
    · exact ⟨(h.heap.obj _ _ hm).1, hnew.1⟩
    · exact ⟨(h.heap.obj _ _ h1).1, (h.heap.obj _ _ h1).2.mono hII (fun _ _ => rfl) (Nat.le_refl _) (fun _ _ => rfl) (h.heap.obj _ _ h1).1 fun _ _ => rfl⟩
  · intro i o' k hmi hgk
    obtain ⟨o'', h1, _, h2⟩ := hmem i o' hmi
    obtain ⟨h3, h4⟩ := h2 k hgk
    obtain ⟨h5, h6⟩ := h.heap.apart i o'' k h1 h3
    exact ⟨fun hc => hc.elim h5 h4, h6⟩
  · show (List.map _ (setH s.hp id (.arr x))).Nodup
    rw [setH_keys]; exact h.heap.nodup
  · intro i o1 i' o2 k h1 h2 g1 g2
    obtain ⟨p1, q1, _, r1⟩ := hmem _ _ h1
    obtain ⟨p2, q2, _, r2⟩ := hmem _ _ h2
    exact h.heap.inj i p1 i' p2 k q1 q2 (r1 k g1).1 (r2 k g2).1
  · rintro b (hb | hb)
    · exact h.bound b hb
    · exact (h.heap.apart id _ b hm (.inr hb)).2
  · rintro b (hb | hb)
    · exact h.down b hb
    · exact .inr (h.own b ⟨id, _, hm, .inr hb⟩)
  · rintro k ⟨i, o', hmi, hgk⟩
    obtain ⟨o'', h1, _, h2⟩ := hmem i o' hmi
    exact h.own k ⟨i, o'', h1, (h2 k hgk).1⟩
  · intro i o' hmi hb hK
    obtain ⟨o'', h1, h2, _⟩ := hmem i o' hmi
    exact h.keep i o'' h1 (h2 hb) hK

theorem forgetS_eq (l : List Nat) : ∀ s : S, (forgetS l s).env = mapE (fgs l) s.env ∧ (forgetS l s).hp = mapH (List.map (fgs l)) s.hp ∧ (forgetS l s).nt = s.nt ∧ (forgetS l s).nx = s.nx := by
  induction l with
  | nil => intro s; exact ⟨(mapE_id _).symm, by
      show s.hp = mapH (List.map fun v => v) s.hp
      rw [show (List.map fun v : V => v) = fun v => v from by funext l; simp]; exact (mapH_id _).symm, rfl, rfl⟩
  | cons k t ih =>
    intro s
    simp only [forgetS]
    obtain ⟨h1, h2, h3, h4⟩ := ih (s.forget k)
    refine ⟨by rw [h1]; exact mapE_mapE _ _ _, ?_, h3, h4⟩
    rw [h2]
    show mapH _ (mapH (forgetL k) s.hp) = _
    rw [mapH_mapH]
    congr 1
    funext l
    rw [forgetL_eq, List.map_map]; rfl

theorem mem_dropS (l : List Nat) : ∀ {hp : List (Nat × O)}, (hp.map (·.1)).Nodup → ∀ {j o'}, (j, o') ∈ dropS l hp → (j, o') ∈ hp ∧ j ∉ l := by
  induction l with
  | nil => intro hp _ j o' h; exact ⟨h, by simp⟩
  | cons k t ih =>
    intro hp hn j o' h
    obtain ⟨h1, h2⟩ := ih (dropH_nodup hn k) h
    obtain ⟨h3, h4⟩ := mem_dropH hn h1
    exact ⟨h3, by simp [h2, h4]⟩
theorem dropS_sublist (l : List Nat) : ∀ hp : List (Nat × O), (dropS l hp).Sublist hp := by
  induction l with
  | nil => intro hp; exact List.Sublist.refl _
  | cons k t ih => intro hp; exact (ih _).trans (dropH_sublist _ _)

theorem shutIds_mem {us : List V} {k : Nat} (h : k ∈ shutIds us) : ∃ j : Nat, us[j]? = some (V.slc k) := by
  induction us with
  | nil => cases h
  | cons u t ih =>
    have hrec : k ∈ shutIds t → ∃ j : Nat, (u :: t)[j]? = some (V.slc k) := fun h => by obtain ⟨j, hj⟩ := ih h; exact ⟨j + 1, hj⟩
    cases u with
    | slc a =>
      simp only [shutIds] at h
      rcases List.mem_cons.1 h with rfl | h
      · exact ⟨0, rfl⟩
      · exact hrec h
    | _ => exact hrec h
theorem mem_shutIds {us : List V} {j k : Nat} (h : us[j]? = some (V.slc k)) : k ∈ shutIds us := by
  induction us generalizing j with
  | nil => cases h
  | cons u t ih =>
    cases j with
    | zero => cases h; simp [shutIds]
    | succ j =>
      have := ih (by simpa using h)
      cases u <;> simp only [shutIds] <;> first | exact List.mem_cons_of_mem _ this | exact this
theorem shutIds_inj {us : List V} (hn : (shutIds us).Nodup) : ∀ {j j' k : Nat}, us[j]? = some (V.slc k) → us[j']? = some (V.slc k) → j = j' := by
  induction us with
  | nil => intro j j' k h; cases h
  | cons u t ih =>
    intro j j' k h h'
    cases j with
    | zero =>
      cases j' with
      | zero => rfl
      | succ j' =>
        cases h
        simp only [shutIds, List.nodup_cons] at hn
        exact (hn.1 (mem_shutIds (by simpa using h'))).elim
    | succ j =>
      cases j' with
      | zero =>
        cases h'
        simp only [shutIds, List.nodup_cons] at hn
        exact (hn.1 (mem_shutIds (by simpa using h))).elim
      | succ j' =>
        have hn' : (shutIds t).Nodup := by
          cases u <;> simp only [shutIds] at hn <;> first | exact (List.nodup_cons.1 hn).2 | exact hn
        have := ih hn' (j := j) (j' := j') (k := k) (by simpa using h) (by simpa using h')
        omega

/-- a cell that may be shut: what it holds -/
def Shut (lk : Nat → Option O) (u : V) (y : C) : Prop :=
  (∃ k n, u = .c (.int k n) ∧ y = .int k n) ∨ (u = .nil ∧ y = .nums .i64 []) ∨
  ∃ a xs, u = .slc a ∧ y = .nums .i64 xs ∧ (lk a = some (.arr (.nums .i64 xs)) ∨ ∃ p, lk a = some (.deep p 0 (.nums .i64 xs) []))

theorem shutOk_get {lk : Nat → Option O} {us : List V} (h : shutOk lk us = true) : ∀ (j : Nat) u, us[j]? = some u → ∃ y, Shut lk u y ∧ (shutRow lk us)[j]? = some (match u with | .slc _ => V.c y | u => u) := by
  induction us with
  | nil => intro j u hj; cases hj
  | cons u t ih =>
    intro j u' hj
    simp only [shutOk] at h
    cases u with
    | slc a =>
      simp only at h
      split at h
      · rename_i xs hl
        cases j with
        | zero => cases hj; exact ⟨_, .inr (.inr ⟨a, xs, rfl, rfl, .inl hl⟩), by simp [shutRow, hl]⟩
        | succ j => obtain ⟨y, h1, h2⟩ := ih h j u' (by simpa using hj); exact ⟨y, h1, by simpa [shutRow] using h2⟩
      · rename_i p xs hl
        cases j with
        | zero => cases hj; exact ⟨_, .inr (.inr ⟨a, xs, rfl, rfl, .inr ⟨p, hl⟩⟩), by simp [shutRow, hl]⟩
        | succ j => obtain ⟨y, h1, h2⟩ := ih h j u' (by simpa using hj); exact ⟨y, h1, by simpa [shutRow] using h2⟩
      · cases h
    | nil =>
      cases j with
      | zero => cases hj; exact ⟨_, .inr (.inl ⟨rfl, rfl⟩), rfl⟩
      | succ j => obtain ⟨y, h1, h2⟩ := ih h j u' (by simpa using hj); exact ⟨y, h1, by simpa [shutRow] using h2⟩
    | c z =>
      cases z with
      | int k n =>
        cases j with
        | zero => cases hj; exact ⟨_, .inl ⟨k, n, rfl, rfl⟩, rfl⟩
        | succ j => obtain ⟨y, h1, h2⟩ := ih h j u' (by simpa using hj); exact ⟨y, h1, by simpa [shutRow] using h2⟩
      | _ => cases h
    | _ => cases h
theorem shutRow_length (lk : Nat → Option O) (us : List V) : (shutRow lk us).length = us.length := by
  induction us with
  | nil => rfl
  | cons u t ih => cases u <;> simp [shutRow, ih]

theorem asNums_shut {lk : Nat → Option O} {us : List V} (hok : shutOk lk us = true) {j : Nat} {v : V} {xs : List Int} (hv : (shutRow lk us)[j]? = some v) (h : v.asNums = some xs) : ∃ u, us[j]? = some u ∧ Shut lk u (.nums .i64 xs) := by
  have hj : j < us.length := by rw [← shutRow_length lk us]; exact (List.getElem?_eq_some_iff.1 hv).1
  obtain ⟨y, h1, h2⟩ := shutOk_get hok j us[j] (List.getElem?_eq_getElem hj)
  refine ⟨us[j], List.getElem?_eq_getElem hj, ?_⟩
  rw [hv] at h2
  generalize us[j] = u at h1 h2
  rcases h1 with ⟨k, n, rfl, rfl⟩ | ⟨rfl, rfl⟩ | ⟨a, zs, rfl, rfl, h3⟩
  · cases h2; cases h
  · cases h2; cases h; exact .inr (.inl ⟨rfl, rfl⟩)
  · cases h2; cases h; exact .inr (.inr ⟨a, _, rfl, rfl, h3⟩)
theorem asInt_shut {lk : Nat → Option O} {us : List V} (hok : shutOk lk us = true) {j : Nat} {v : V} {k : IntKind} {n : Int} (hv : (shutRow lk us)[j]? = some v) (h : v.asInt k = some n) : ∃ u, us[j]? = some u ∧ Shut lk u (.int k n) := by
  have hj : j < us.length := by rw [← shutRow_length lk us]; exact (List.getElem?_eq_some_iff.1 hv).1
  obtain ⟨y, h1, h2⟩ := shutOk_get hok j us[j] (List.getElem?_eq_getElem hj)
  refine ⟨us[j], List.getElem?_eq_getElem hj, ?_⟩
  rw [hv] at h2
  generalize us[j] = u at h1 h2
  rcases h1 with ⟨k', n', rfl, rfl⟩ | ⟨rfl, rfl⟩ | ⟨a, zs, rfl, rfl, h3⟩
  · cases h2
    simp only [V.asInt] at h
    split at h
    · rename_i hk; have := sameK_eq hk; subst this; cases h; exact .inl ⟨_, _, rfl, rfl⟩
    · cases h
  · cases h2; cases h
  · cases h2; cases h

theorem setEl_inv {lk : Nat → Option O} {us : List V} (hok : shutOk lk us = true) {x x' : C} {i : Nat} (hx : (match x.isNest with | true => C.setEl x i (shutRow lk us) | false => none) = some x') (hi : i < x.len) (hul : us.length = x.stride) :
    x'.isSl = true ∧ x'.stride = x.stride ∧ x'.len = x.len ∧ x'.isPg = x.isPg ∧ (∀ k, k ≠ i → x'.row k = x.row k) ∧ ∀ (j : Nat) y, (x'.row i)[j]? = some y → ∃ u, us[j]? = some u ∧ Shut lk u y := by
  have hrl := shutRow_length lk us
  have row : ∀ j : Nat, j < us.length → ∃ v, (shutRow lk us)[j]? = some v := fun j hj => ⟨_, List.getElem?_eq_getElem (by rw [hrl]; exact hj)⟩
  cases x with
  | pgs xs =>
    simp only [C.stride] at hul
    simp only [C.len] at hi
    simp only [C.isNest] at hx
    obtain ⟨v1, e1⟩ := row 0 (by omega)
    obtain ⟨v2, e2⟩ := row 1 (by omega)
    obtain ⟨v3, e3⟩ := row 2 (by omega)
    have hsr : shutRow lk us = [v1, v2, v3] := by
      match hq : shutRow lk us, hrl.trans hul with
      | [p, q, r], _ => rw [hq] at e1 e2 e3; cases e1; cases e2; cases e3; rfl
    rw [hsr] at hx
    simp only [C.setEl, C.setRow, mkPg, Option.map_eq_some_iff] at hx
    obtain ⟨pg, hx, rfl⟩ := hx
    split at hx
    · rename_i a b c h1 h2 h3
      cases hx
      refine ⟨rfl, rfl, by simp [C.len], rfl, fun k hk => by simp only [C.row, getD_set _ _ _ _ _ hi, if_neg hk], fun j y hy => ?_⟩
      simp only [C.row, getD_set _ _ _ _ _ hi, if_true, Pg.row] at hy
      match j with
      | 0 => cases hy; exact asNums_shut hok e1 h1
      | 1 => cases hy; exact asNums_shut hok e2 h2
      | 2 => cases hy; exact asNums_shut hok e3 h3
      | j + 3 => simp at hy
    · cases hx
  | lks xs =>
    simp only [C.stride] at hul
    simp only [C.len] at hi
    simp only [C.isNest] at hx
    obtain ⟨v1, e1⟩ := row 0 (by omega)
    obtain ⟨v2, e2⟩ := row 1 (by omega)
    obtain ⟨v3, e3⟩ := row 2 (by omega)
    have hsr : shutRow lk us = [v1, v2, v3] := by
      match hq : shutRow lk us, hrl.trans hul with
      | [p, q, r], _ => rw [hq] at e1 e2 e3; cases e1; cases e2; cases e3; rfl
    rw [hsr] at hx
    simp only [C.setEl, C.setRow, mkLk, Option.map_eq_some_iff] at hx
    obtain ⟨pg, hx, rfl⟩ := hx
    split at hx
    · rename_i a b c h1 h2 h3
      cases hx
      refine ⟨rfl, rfl, by simp [C.len], rfl, fun k hk => by simp only [C.row, getD_set _ _ _ _ _ hi, if_neg hk], fun j y hy => ?_⟩
      simp only [C.row, getD_set _ _ _ _ _ hi, if_true, Lk.row] at hy
      match j with
      | 0 => cases hy; exact asNums_shut hok e1 h1
      | 1 => cases hy; exact asInt_shut hok e2 h2
      | 2 => cases hy; exact asInt_shut hok e3 h3
      | j + 3 => simp at hy
    · cases hx
  | numss xs =>
    simp only [C.stride] at hul
    simp only [C.len] at hi
    simp only [C.isNest] at hx
    obtain ⟨v1, e1⟩ := row 0 (by omega)
    have hsr : shutRow lk us = [v1] := by
      match hq : shutRow lk us, hrl.trans hul with
      | [p], _ => rw [hq] at e1; cases e1; rfl
    rw [hsr] at hx
    simp only [C.setEl, C.setRow, Option.map_eq_some_iff] at hx
    obtain ⟨l, h1, rfl⟩ := hx
    refine ⟨rfl, rfl, by simp [C.len], rfl, fun k hk => by simp only [C.row, getD_set _ _ _ _ _ hi, if_neg hk], fun j y hy => ?_⟩
    simp only [C.row, getD_set _ _ _ _ _ hi, if_true] at hy
    cases j with
    | zero => cases hy; exact asNums_shut hok e1 h1
    | succ j => simp at hy
  | _ => simp [C.isNest] at hx

/-- numbers of its own -/
theorem RO.nums_cells {n a : Nat} {xs : List Int} (h : RO I g n w a (.arr (.nums .i64 xs)) ∨ ∃ p, RO I g n w a (.deep p 0 (.nums .i64 xs) [])) :
    (g a = Option.none ∧ xs = []) ∨ ∃ (b cap : Nat) (cs : List Value) (ty : TypeId), g a = some (b, cap, xs.length) ∧ w.heap[b]? = some (.cells cs.toArray ty (0, 0)) ∧ cs.length = cap ∧ xs.length ≤ cap ∧ ∀ (q : Nat) m, xs[q]? = some m → cs[q]? = some (.int .i64 m) := by
  have key : ∀ {cells : List Value}, (∀ i j y, i < xs.length → ((C.nums .i64 xs).row i)[j]? = some y → ∃ v, cells[i * 1 + j]? = some v ∧ v = .int .i64 (xs.getD i 0)) → ∀ (q : Nat) m, xs[q]? = some m → cells[q]? = some (.int .i64 m) := fun {cells} hh q m hq => by
    have hlt := (List.getElem?_eq_some_iff.1 hq).1
    obtain ⟨v, e1, rfl⟩ := hh q 0 _ hlt rfl
    rw [Nat.mul_one, Nat.add_zero] at e1
    rw [e1]; simp [List.getD, hq]
  rcases h with h | ⟨p, h⟩
  · cases h with
    | none _ hg hs h0 => exact .inl ⟨hg, List.eq_nil_of_length_eq_zero h0⟩
    | arr _ b cap cells ty hg hs hb hl hcap hh =>
      refine .inr ⟨b, cap, cells, ty, hg, hb, by rw [hl]; exact Nat.mul_one _, hcap, key fun i j y hi hy => ?_⟩
      obtain ⟨v, e1, e2⟩ := hh i j y hi hy
      refine ⟨v, e1, ?_⟩
      cases j with
      | zero =>
        simp only [C.row, List.getElem?_cons_zero, Option.some.injEq] at hy
        subst hy
        cases e2 with
        | int => rfl
        | empty _ _ _ hs => cases hs
        | sl _ _ _ _ _ hs => cases hs
      | succ j => simp [C.row] at hy
  · cases h with
    | deep0 _ _ _ hg hs h0 => exact .inl ⟨hg, List.eq_nil_of_length_eq_zero h0⟩
    | deep _ _ _ _ b cap cells ty hg hs hb hl hcap hh hkn ht =>
      refine .inr ⟨b, cap, cells, ty, hg, hb, by rw [hl]; exact Nat.mul_one _, hcap, key fun i j y hi hy => ?_⟩
      obtain ⟨v, e1, e2⟩ := ht i j y (Nat.zero_le _) hi (by simp [keysHs]) hy
      refine ⟨v, e1, ?_⟩
      cases j with
      | zero =>
        simp only [C.row, List.getElem?_cons_zero, Option.some.injEq] at hy
        subst hy
        cases e2; rfl
      | succ j => simp [C.row] at hy

theorem St.shut (h : St X I g s a w) {id i f : Nat} {p : Bool} {x x' : C} {us : List V} {t : List (Nat × List V)} (hl : lookH s.hp id = some (.deep p f x ((i, us) :: t))) (hok : shutOk (lookH s.hp) us = true)
    (hx : (match x.isNest with | true => C.setEl x i (shutRow (lookH s.hp) us) | false => none) = some x') (hnd : (id :: shutIds us).Nodup) (hit : i ∉ keysHs t) :
    St X I g { s with env := mapE (fgs (shutIds us)) s.env, hp := dropS (shutIds us) (mapH (List.map (fgs (shutIds us))) (setH s.hp id (.deep p f x' t))) } a w := by
  have hm := lookH_mem hl
  have hidlt := (h.heap.obj id _ hm).1
  have hro := (h.heap.obj id _ hm).2
  rw [List.nodup_cons] at hnd
  obtain ⟨hidn, hnd⟩ := hnd
  cases hro with
  | deep _ _ _ _ b cap cells ty hg hsl hb hlen hcap hh hkn ht h2 hd hty =>
  obtain ⟨hi, hul⟩ := hh i us List.mem_cons_self
  obtain ⟨x1, x2, x3, x4, x5, x6⟩ := setEl_inv hok hx hi hul
  have hcl : ∀ (k : Nat), w.cell? ⟨b, k, none⟩ = cells[k]? := fun k => by rw [cell_of_row w b _ cells.toArray ty (0, 0) hb]; simp
  have hrl := C.row_len x' i x1
  -- the objects that are shut in
  have hsl2 : ∀ {j k : Nat}, us[j]? = some (V.slc k) → ∃ xs, ((k, O.arr (.nums .i64 xs)) ∈ s.hp ∨ ∃ q, (k, O.deep q 0 (.nums .i64 xs) []) ∈ s.hp) := fun {j k} hj => by
    obtain ⟨y, hy, _⟩ := shutOk_get hok j _ hj
    rcases hy with ⟨_, _, e, _⟩ | ⟨e, _⟩ | ⟨a, xs, e, _, h3⟩
    · cases e
    · cases e
    · cases e
      rcases h3 with h3 | ⟨q, h3⟩
      · exact ⟨xs, .inl (lookH_mem h3)⟩
      · exact ⟨xs, .inr ⟨q, lookH_mem h3⟩⟩
  -- the cells of the element
  have cell : ∀ (j : Nat) y, (x'.row i)[j]? = some y → j < x.stride ∧ ∃ u v, us[j]? = some u ∧ cells[i * x.stride + j]? = some v ∧ NC w y v ∧ ∀ b' o l c, v = .slice (some ⟨b', o, none⟩) l c → ∃ k ob, u = .slc k ∧ (k, ob) ∈ s.hp ∧ Own g w k ob b' := by
    intro j y hj
    have hjl : j < x.stride := by have := (List.getElem?_eq_some_iff.1 hj).1; rwa [hrl, x2] at this
    refine ⟨hjl, ?_⟩
    obtain ⟨u, hu, hsh⟩ := x6 j y hj
    obtain ⟨u', v, a1, a2, a3, a4⟩ := h2 i us List.mem_cons_self j hjl
    rw [hu] at a1; cases a1
    refine ⟨u, v, hu, a2, ?_⟩
    rcases hsh with ⟨k, n, rfl, rfl⟩ | ⟨rfl, rfl⟩ | ⟨k, xs, rfl, rfl, h3⟩
    · rw [a4.int_inv]; exact ⟨.int k n, fun _ _ _ _ e => by cases e⟩
    · cases a4; exact ⟨.nil _, fun _ _ _ _ e => by cases e⟩
    · have hob : ∃ ob, (k, ob) ∈ s.hp ∧ (RO I g s.nx w k (.arr (.nums .i64 xs)) ∨ ∃ p, RO I g s.nx w k (.deep p 0 (.nums .i64 xs) [])) := by
        rcases h3 with h3 | ⟨q, h3⟩
        · exact ⟨_, lookH_mem h3, .inl (h.heap.obj _ _ (lookH_mem h3)).2⟩
        · exact ⟨_, lookH_mem h3, .inr ⟨q, (h.heap.obj _ _ (lookH_mem h3)).2⟩⟩
      obtain ⟨ob, hmo, hor⟩ := hob
      rcases RO.nums_cells hor with ⟨hgn, rfl⟩ | ⟨b', cap', cs, ty', hgb, hb', hl', hc', hh'⟩
      · obtain ⟨_, ⟨b', c', l', e, _⟩ | ⟨_, rfl⟩⟩ := a4.slc_inv
        · rw [hgn] at e; cases e
        · exact ⟨.nil _, fun _ _ _ _ e => by cases e⟩
      · obtain ⟨_, ⟨b2, c2, l2, e, rfl⟩ | ⟨e, _⟩⟩ := a4.slc_inv
        · rw [hgb] at e; cases e
          exact ⟨.sl _ xs b' cap' cs ty' hb' hl' hc' hh', fun b3 _ _ _ e => by cases e; exact ⟨k, ob, rfl, hmo, .pri hgb⟩⟩
        · rw [hgb] at e; cases e
  have hv : ∀ v val, RV I g s.nx w v val → RV I g s.nx w (fgs (shutIds us) v) val := fun v val hv => hv.fgs _ fun _ _ _ => rfl
  have hndS : ((mapH (List.map (fgs (shutIds us))) (setH s.hp id (.deep p f x' t))).map (·.1)).Nodup := by rw [mapH_keys, setH_keys]; exact h.heap.nodup
  have hmem : ∀ {k o'}, (k, o') ∈ dropS (shutIds us) (mapH (List.map (fgs (shutIds us))) (setH s.hp id (.deep p f x' t))) → k ∉ shutIds us ∧ ((k = id ∧ o' = (O.deep p f x' t).map (List.map (fgs (shutIds us)))) ∨ (k ≠ id ∧ ∃ o'', (k, o'') ∈ s.hp ∧ o' = o''.map (List.map (fgs (shutIds us))))) := fun {k o'} hk => by
    obtain ⟨h1, h3⟩ := mem_dropS _ hndS hk
    obtain ⟨o'', h4, rfl⟩ := mem_mapH h1
    refine ⟨h3, ?_⟩
    rcases mem_setH h.heap.nodup h4 with ⟨rfl, rfl⟩ | ⟨h5, h6⟩
    · exact .inl ⟨rfl, rfl⟩
    · exact .inr ⟨h6, o'', h5, rfl⟩
  have hkeys0 : keysHs ((i, us) :: t) = i :: keysHs t := rfl
  -- what is told now
  have told : ∀ {k}, Told f x' (keysHs t) k → Told f x (keysHs ((i, us) :: t)) k ∨ ∃ j, j < x.stride ∧ k = i * x.stride + j := fun {k} ⟨i', j, e, q1, q2, q3, q4⟩ => by
    rw [x2] at e q1; rw [x3] at q3
    by_cases c : i' = i
    · subst c; exact .inr ⟨j, q1, e⟩
    · exact .inl ⟨i', j, e, q1, q2, q3, by rw [hkeys0]; simp [c, q4]⟩
  have inner : ∀ {j b' o l c : Nat}, j < x.stride → cells[i * x.stride + j]? = some (.slice (some ⟨b', o, none⟩) l c) → ∃ k ob, us[j]? = some (V.slc k) ∧ (k, ob) ∈ s.hp ∧ Own g w k ob b' := fun {j b' o l c} hj hc => by
    have hjl : j < (x'.row i).length := by rw [hrl, x2]; exact hj
    obtain ⟨_, u, v, a1, a2, a3, a4⟩ := cell j _ (List.getElem?_eq_getElem hjl)
    rw [hc] at a2; cases a2
    obtain ⟨k, ob, rfl, h5, h6⟩ := a4 b' o l c rfl
    exact ⟨k, ob, a1, h5, h6⟩
  have ownN : ∀ {b'}, Own g w id ((O.deep p f x' t).map (List.map (fgs (shutIds us)))) b' → Own g w id (.deep p f x ((i, us) :: t)) b' ∨ ∃ k ob, k ∈ shutIds us ∧ (k, ob) ∈ s.hp ∧ Own g w k ob b' := fun {b'} ho => by
    rcases ho.map with ho | ⟨b0, cl, k, off, l, c, e1, e2, e3⟩
    · exact .inl (.inl ho)
    · rw [hg] at e1; cases e1
      rcases told e2 with e2 | ⟨j, hj, rfl⟩
      · exact .inl (.inr ⟨b, _, k, off, l, c, hg, e2, e3⟩)
      · rw [hcl] at e3
        obtain ⟨k, ob, h5, h6, h7⟩ := inner hj e3
        exact .inr ⟨k, ob, mem_shutIds h5, h6, h7⟩
  have back : ∀ {k o'}, (k, o') ∈ dropS (shutIds us) (mapH (List.map (fgs (shutIds us))) (setH s.hp id (.deep p f x' t))) → ∀ {b'}, Own g w k o' b' → ∃ k2 o2, (k2, o2) ∈ s.hp ∧ Own g w k2 o2 b' ∧ (k2 = k ∨ (k = id ∧ k2 ∈ shutIds us)) := fun {k o'} hk {b'} ho => by
    obtain ⟨_, ⟨rfl, rfl⟩ | ⟨_, o'', h1, rfl⟩⟩ := hmem hk
    · rcases ownN ho with ho | ⟨k2, ob, h3, h4, h5⟩
      · exact ⟨_, _, hm, ho, .inl rfl⟩
      · exact ⟨k2, ob, h4, h5, .inr ⟨rfl, h3⟩⟩
    · exact ⟨k, o'', h1, ho.map, .inl rfl⟩
  refine ⟨h.df, h.sz, fun j => ?_, ⟨?_, ?_, ?_, ?_⟩, h.bound, h.up, h.down, ?_, ?_, h.fr, h.low⟩
  · show RV I g s.nx w (look (mapE (fgs (shutIds us)) s.env) j) _
    rw [look_mapE _ (fgs_any _)]; exact hv _ _ (h.slots j)
  · intro k o' hk
    obtain ⟨_, ⟨rfl, rfl⟩ | ⟨hne, o'', h1, rfl⟩⟩ := hmem hk
    · refine ⟨hidlt, RO.mapV (fgs (shutIds us)) hv (fun _ => rfl) (fun _ h => h) (fun _ _ => rfl) rfl (fun _ _ => rfl) ?_⟩
      refine .deep p f x' t b cap cells ty (by rw [x3]; exact hg) x1 hb (by rw [x2]; exact hlen) (by rw [x3]; exact hcap) (fun k us' hmk => ?_) (List.nodup_cons.1 hkn).2 (fun i' j y a1 a2 a3 a4 => ?_) (fun k us' hmk j hj => ?_) (fun k k' b' o l c o' l' c' t1 t2 e1 e2 => ?_) (fun hp => hty (by rw [← x4]; exact hp))
      · rw [x3, x2]; exact hh k us' (List.mem_cons_of_mem _ hmk)
      · rw [x3] at a2; rw [x2]
        by_cases c : i' = i
        · subst c
          obtain ⟨_, u, v, q1, q2, q3, _⟩ := cell j y a4
          exact ⟨v, q2, q3⟩
        · rw [x5 i' c] at a4
          exact ht i' j y a1 a2 (by rw [hkeys0]; simp [c, a3]) a4
      · rw [x2] at hj ⊢
        exact h2 k us' (List.mem_cons_of_mem _ hmk) j hj
      · have nb : ∀ {k2 ob}, (k2, ob) ∈ s.hp → k2 ∈ shutIds us → Own g w k2 ob b' → b' ≠ b ∧ ∀ k3, Told f x (keysHs ((i, us) :: t)) k3 → ∀ o l c, cells[k3]? ≠ some (.slice (some ⟨b', o, none⟩) l c) := fun {k2 ob} h5 h6 h7 =>
          ⟨fun e => hidn ((h.heap.inj _ _ _ _ b' h5 hm h7 (by rw [e]; exact Own.pri hg)) ▸ h6), fun k3 h8 o l c h9 => hidn ((h.heap.inj _ _ _ _ b' h5 hm h7 (.inr ⟨b, _, k3, o, l, c, hg, h8, by rw [hcl]; exact h9⟩)) ▸ h6)⟩
        rcases told t1 with t1 | ⟨j, hj, rfl⟩ <;> rcases told t2 with t2 | ⟨j', hj', rfl⟩
        · exact hd k k' b' o l c o' l' c' t1 t2 e1 e2
        · obtain ⟨k2, ob, h5, h6, h7⟩ := inner hj' e2
          exact absurd e1 ((nb h6 (mem_shutIds h5) h7).2 k t1 o l c)
        · obtain ⟨k2, ob, h5, h6, h7⟩ := inner hj e1
          exact absurd e2 ((nb h6 (mem_shutIds h5) h7).2 k' t2 o' l' c')
        · obtain ⟨k2, ob, h5, h6, h7⟩ := inner hj e1
          obtain ⟨k2', ob', h5', h6', h7'⟩ := inner hj' e2
          have := h.heap.inj k2 ob k2' ob' b' h6 h6' h7 h7'
          subst this
          exact ⟨by rw [shutIds_inj hnd h5 h5'], (nb h6 (mem_shutIds h5) h7).1⟩
    · exact ⟨(h.heap.obj k o'' h1).1, (h.heap.obj k o'' h1).2.mapV (fgs (shutIds us)) hv (fun _ => rfl) (fun _ h => h) (fun _ _ => rfl) rfl fun _ _ => rfl⟩
  · intro k o' b' hk ho
    obtain ⟨k2, o2, h3, h4, _⟩ := back hk ho
    exact h.heap.apart k2 o2 b' h3 h4
  · exact hndS.sublist ((dropS_sublist _ _).map _)
  · intro k1 o1 k2 o2 b' hm1 hm2 ho1 ho2
    obtain ⟨q1, p1, h3, h4, h5⟩ := back hm1 ho1
    obtain ⟨q2, p2, h6, h7, h8⟩ := back hm2 ho2
    have e := h.heap.inj q1 p1 q2 p2 b' h3 h6 h4 h7
    have n1 := (hmem hm1).1
    have n2 := (hmem hm2).1
    rcases h5 with rfl | ⟨rfl, h5⟩ <;> rcases h8 with rfl | ⟨rfl, h8⟩
    · exact e
    · subst e; exact (n1 h8).elim
    · subst e; exact (n2 h5).elim
    · rfl
  · rintro b' ⟨k, o', hk, ho⟩
    obtain ⟨k2, o2, h3, h4, _⟩ := back hk ho
    exact h.own b' ⟨k2, o2, h3, h4⟩
  · intro k o' hk hb' hK
    obtain ⟨_, ⟨rfl, rfl⟩ | ⟨hne, o'', h1, rfl⟩⟩ := hmem hk
    · exact h.keep _ _ hm (by rw [O.isBox_map] at hb'; exact hb') hK
    · exact h.keep _ _ h1 (by rw [O.isBox_map] at hb'; exact hb') hK

theorem RO.hol_deep {n id hi : Nat} {x : C} {vs : List V} (h : RO I g n w id (.hol x hi vs)) (h1 : x.len = 1) : RO I g n w id (.deep false 0 x [(hi, vs)]) ∧ ∀ b, ¬ Nst g w id (.deep false 0 x [(hi, vs)]) b := by
  cases h with
  | hol _ _ _ b cap cells ty hg hs hb hl hcap hhi hv hh h2 ht =>
    have hi0 : hi = 0 := by omega
    have no : ∀ k, ¬ Told 0 x (keysHs [(hi, vs)]) k := by
      rintro k ⟨i, j, _, _, _, h4, h5⟩
      exact h5 (by simp [keysHs]; omega)
    refine ⟨.deep _ _ _ _ b cap cells ty hg hs hb hl hcap (fun i us hm => ?_) (by simp [keysHs]) (fun i j y _ h4 h5 _ => absurd (by simp [keysHs]; omega) h5) (fun i us hm => ?_) (fun k _ _ _ _ _ _ _ _ hk => absurd hk (no k)) ht, fun b' => ?_⟩
    · simp only [List.mem_singleton, Prod.mk.injEq] at hm; obtain ⟨rfl, rfl⟩ := hm; exact ⟨hhi, hv⟩
    · simp only [List.mem_singleton, Prod.mk.injEq] at hm; obtain ⟨rfl, rfl⟩ := hm; exact h2
    · rintro ⟨_, _, k, _, _, _, _, hk, _⟩
      exact no k hk
theorem look_keepE : ∀ (env : List (Nat × V)) (l : List Nat) (j : Nat), look (keepE l env) j = look env j ∨ look (keepE l env) j = .any := by
  have mem_dropN : ∀ (l : List Nat) (i j : Nat), i ≠ j → memN j (dropN i l) = memN j l := by
    intro l i j hne
    induction l with
    | nil => rfl
    | cons a t ih =>
      simp only [dropN]
      cases hb : Nat.beq a i with
      | true =>
        have e1 := Nat.eq_of_beq_eq_true hb
        have e2 : Nat.beq j a = false := by
          cases hq : Nat.beq j a with
          | false => rfl
          | true => have := Nat.eq_of_beq_eq_true hq; omega
        show memN j (dropN i t) = match Nat.beq j a with | true => true | false => memN j t
        rw [e2, ih]
      | false =>
        simp only [memN]
        rw [ih]
  have off : ∀ (env : List (Nat × V)) (l : List Nat) (j : Nat), memN j l = false → look (keepE l env) j = .any := by
    intro env
    induction env with
    | nil => intro l j _; rfl
    | cons x t ih =>
      obtain ⟨i, v⟩ := x
      intro l j hj
      simp only [keepE]
      cases hm : memN i l with
      | false => exact ih l j hj
      | true =>
        simp only [look_cons]
        by_cases c : i = j
        · subst c; rw [hm] at hj; cases hj
        · rw [if_neg c]; exact ih _ j (by rw [mem_dropN _ _ _ c]; exact hj)
  intro env
  induction env with
  | nil => intro l j; exact .inl rfl
  | cons x t ih =>
    obtain ⟨i, v⟩ := x
    intro l j
    by_cases hj : memN j l = false
    · exact .inr (off _ l j hj)
    · simp only [keepE]
      cases hm : memN i l with
      | true =>
        simp only [look_cons]
        by_cases c : i = j
        · exact .inl (by rw [if_pos c, if_pos c])
        · rw [if_neg c, if_neg c]; exact ih _ j
      | false =>
        simp only [look_cons]
        by_cases c : i = j
        · subst c; exact absurd hm hj
        · rw [if_neg c]; exact ih _ j
theorem St.keepE (h : St X I g s a w) (l : List Nat) : St X I g { s with env := VL.keepE l s.env } a w :=
  ⟨h.df, h.sz, fun j => by
    rcases look_keepE s.env l j with e | e
    · rw [show look ({ s with env := VL.keepE l s.env } : S).env j = look s.env j from e]; exact h.slots j
    · rw [show look ({ s with env := VL.keepE l s.env } : S).env j = .any from e]; exact .any _, h.heap, h.bound, h.up, h.down, h.own, h.keep, h.fr, h.low⟩

theorem vgh1_sound {n0 : Nat} (hl0 : ∀ id, X.K0 id → id < n0) (c : Gh) (h : St X I g s a w) (hk : vgh1 n0 c s K) : ∃ s' I' g', St X I' g' s' a w ∧ K s' := by
  unfold vgh1 at hk
  split at hk
  · rename_i ids
    obtain ⟨s', I', vs', hs', _, hk2, _, _, _⟩ := vfz_sound ids s I [] [] _ h ⟨rfl, by simp⟩ hk
    exact ⟨s', I', g, hs', hk2⟩
  · rw [S.withHp_eq] at hk
    exact ⟨_, I, g, h.cnv, hk⟩
  · rename_i id
    split at hk
    · rename_i x hl
      split at hk
      · rename_i hn
        rw [S.withHp_eq] at hk
        obtain ⟨kk, xs, rfl⟩ : ∃ k xs, x = .nums k xs := by cases x <;> first | exact ⟨_, _, rfl⟩ | cases hn
        have hro := (h.heap.obj id _ (lookH_mem hl)).2
        have hro' := hro
        obtain ⟨r1, r2⟩ := hro.arr_deep fun cells b cap ty hg hb i j y hi hy => by
          cases hro' with
          | none _ hg' => rw [hg] at hg'; cases hg'
          | arr _ b' cap' cells' ty' hg' hs hb' hl' hcap hh =>
            rw [hg] at hg'; cases hg'
            rw [hb] at hb'
            simp only [Option.some.injEq, Obj.cells.injEq] at hb'
            have e : cells = cells' := by have := congrArg Array.toList hb'.1; simpa using this
            subst e
            obtain ⟨v, e1, e2⟩ := hh i j y hi hy
            cases j with
            | zero =>
              simp only [C.row, List.getElem?_cons_zero, Option.some.injEq] at hy
              subst hy
              cases e2 with
              | int => exact ⟨_, e1, .int _ _, fun _ _ _ e => by cases e⟩
              | empty _ _ _ hs => cases hs
              | sl _ _ _ _ _ hs => cases hs
            | succ j => simp [C.row] at hy
        exact ⟨_, I, g, h.retell (lookH_mem hl) (fun e => by cases e) r1 (fun b hb => (r2 b hb).elim), hk⟩
      · exact hk.elim
    · exact hk.elim
  · rename_i id i
    split at hk
    · rename_i p f x hs hl
      obtain ⟨⟨hf, hi⟩, hk⟩ := vneed_true hk
      rcases vhole_true hk with ⟨_, _, _, _, hk⟩ | ⟨hne, hk⟩
      · exact hk.elim
      · rw [S.force_eq] at hk
        obtain ⟨g', h1⟩ := h.opn hl hf hi hne
        exact ⟨_, I, g', h1, hk⟩
    · exact hk.elim
  · rename_i id
    split at hk
    · rename_i p f x i us t hl
      split at hk
      · rename_i hok
        split at hk
        · rename_i x' hx
          split at hk
          · rename_i hnd
            rcases vhole_true hk with ⟨_, _, _, _, hk⟩ | ⟨hne, hk⟩
            · exact hk.elim
            · rw [S.force_eq] at hk
              have h1 := h.shut hl hok hx (nodupN_iff.1 hnd) hne
              refine ⟨_, I, g, ?_, hk⟩
              obtain ⟨e1, e2, e3, e4⟩ := forgetS_eq (shutIds us) { s with hp := setH s.hp id (.deep p f x' t) }
              have : ({ forgetS (shutIds us) { s with hp := setH s.hp id (.deep p f x' t) } with hp := dropS (shutIds us) (forgetS (shutIds us) { s with hp := setH s.hp id (.deep p f x' t) }).hp } : S) =
                  { s with env := mapE (fgs (shutIds us)) s.env, hp := dropS (shutIds us) (mapH (List.map (fgs (shutIds us))) (setH s.hp id (.deep p f x' t))) } := by
                rw [e2]
                generalize hq : forgetS (shutIds us) { s with hp := setH s.hp id (.deep p f x' t) } = s2 at e1 e3 e4
                obtain ⟨nt, nx, env, hp⟩ := s2
                simp only at e1 e3 e4
                subst e1 e3 e4
                rfl
              rw [this]; exact h1
          · exact hk.elim
        · exact hk.elim
      · exact hk.elim
    · exact hk.elim
  · rename_i id
    split at hk
    · rename_i x hl
      rw [S.withHp_eq] at hk
      obtain ⟨I', h1⟩ := h.thaw hl
      exact ⟨_, I', g, h1, hk⟩
    · exact hk.elim
  · rename_i id
    split at hk
    · rename_i p f x hs hl
      obtain ⟨hle, hk⟩ := vneed_true hk
      rw [S.withHp_eq] at hk
      obtain ⟨r1, r2⟩ := RO.adv hle (h.heap.obj id _ (lookH_mem hl)).2
      exact ⟨_, I, g, h.retell (ob' := .deep p (f + 1) x []) (lookH_mem hl) (fun e _ => e) r1 r2, hk⟩
    · exact hk.elim
  · rename_i id
    split at hk
    · rename_i f x hs hl
      split at hk
      · rename_i hn
        rw [S.withHp_eq] at hk
        exact ⟨_, I, g, h.retell (ob' := .deep true f x hs) (lookH_mem hl) (fun _ hK => by have := hl0 id hK; have := Nat.le_of_ble_eq_true hn; omega) (h.heap.obj id _ (lookH_mem hl)).2.flag (fun b hb => hb), hk⟩
      · exact hk.elim
    · exact hk.elim
  · rename_i id
    split at hk
    · rename_i f x hs hl
      rw [S.withHp_eq] at hk
      exact ⟨_, I, g, h.retell (ob' := .deep false f x hs) (lookH_mem hl) (fun e => by cases e) (h.heap.obj id _ (lookH_mem hl)).2.flag (fun b hb => hb), hk⟩
    · exact hk.elim
  · rename_i id
    split at hk
    · rename_i x hi vs hl
      split at hk
      · rename_i h1
        rw [S.withHp_eq] at hk
        have h1 := Nat.eq_of_beq_eq_true h1
        have hro := (h.heap.obj id _ (lookH_mem hl)).2
        obtain ⟨r1, r2⟩ := hro.hol_deep h1
        exact ⟨_, I, g, h.retell (ob' := .deep false 0 x [(hi, vs)]) (lookH_mem hl) (fun e => by cases e) r1 (fun b hb => (r2 b hb).elim), hk⟩
      · exact hk.elim
    · exact hk.elim
  · rename_i l
    rw [S.force_eq] at hk
    exact ⟨_, I, g, h.keepE l, hk⟩
  · rename_i d dq z
    split at hk
    · rename_i hd
      split at hk
      · rename_i h1 h2
        have h2 := Nat.eq_of_beq_eq_true h2
        obtain ⟨g', hg', h3⟩ := h.newNil z h1 h2
        have hv : a.tmps.getD d undef = .slice none 0 0 := by
          have := h.slots d
          rw [hd] at this
          generalize a.tmps.getD d undef = v at this
          cases this; rfl
        have h4 : St X I g' ⟨s.nt, s.nx + 1, (d, .slc s.nx) :: s.env, (s.nx, .arr z) :: s.hp⟩ a w := ⟨h3.df, h3.sz, fun j => by
          rw [look_cons]
          split
          · rename_i e; subst e
            rw [hv]; exact .slc0 _ (Nat.lt_succ_self _) hg'
          · exact h3.slots j, h3.heap, h3.bound, h3.up, h3.down, h3.own, h3.keep, h3.fr, h3.low⟩
        split at hk
        · have h5 := h4.retell (id := s.nx) (ob := .arr z) (ob' := .deep false 0 z []) List.mem_cons_self (fun e => by cases e) (.deep0 _ _ _ hg' h1 h2) (fun b hb => by
            obtain ⟨b0, cl, _, _, _, _, hq, _⟩ := hb
            rw [hg'] at hq; cases hq)
          refine ⟨_, I, g', h5, ?_⟩
          have : setH ((s.nx, .arr z) :: s.hp) s.nx (.deep false 0 z []) = (s.nx, .deep false 0 z []) :: s.hp := by
            simp only [setH]
            rw [show Nat.beq s.nx s.nx = true from Nat.beq_refl _]
          rw [this]; exact hk
        · exact ⟨_, I, g', h4, hk⟩
      · exact hk.elim
    · exact hk.elim

theorem vgh_sound {n0 : Nat} (hl0 : ∀ id, X.K0 id → id < n0) : ∀ (l : List Gh) {s : S} {I : Nat → Prop} {g : Gam}, St X I g s a w → vgh n0 l s K → ∃ s' I' g', St X I' g' s' a w ∧ K s' := by
  intro l
  induction l with
  | nil => intro s I g h hk; exact ⟨s, I, g, h, hk⟩
  | cons c t ih =>
    intro s I g h hk
    obtain ⟨s1, I1, g1, h1, hk1⟩ := vgh1_sound hl0 c h hk
    exact ih h1 hk1

theorem Sat.ent {s' : S} (h : Sat X s a w) {n0 : Nat} (he : Ent n0 s s') (hl0 : ∀ id, X.K0 id → id < n0) (hlow : ∀ id, X.K0 id → id < s'.nx) : Sat X s' a w := by
  unfold Ent at he
  obtain ⟨l, fz, bk, he⟩ := he
  obtain ⟨I0, g0, h⟩ := h
  obtain ⟨s, I, g, h, he⟩ := vgh_sound hl0 l h he
  obtain ⟨s1, I1, vs1, hs, _, ⟨e1, e2, e3, e4, e5, e6, e7, e8, e9⟩, hI, hnx, hnt⟩ := vfz_sound fz s I [] [] _ h ⟨rfl, by simp⟩ he
  replace hs := hs.cnv
  have hnd := nodupN_iff.1 e4
  have hlen := Nat.le_of_ble_eq_true e5
  have hH := hs.heap.rename hnd hlen e2 e7 e8
  refine ⟨I1, fun i => g (rnf bk i), hs.df, by rw [← e3]; exact hs.sz, fun j => ?_, hH, hs.bound, hs.up, hs.down, ?_, ?_, hs.fr, hlow⟩
  · rcases entE_look e1 j with h1 | h1
    · rw [h1]; exact .any _
    · exact (V.nrm_RV h1 (hs.slots j)).unren _ rfl (idsLtE_look e6 j)
  · rintro b ⟨i, o, hmi, hg⟩
    obtain ⟨o', h1, h2⟩ := entH_get e2 i o hmi
    exact hs.own b ⟨_, o', lookH_mem h1, hg.ren.nrm h2⟩
  · intro i o hmi hb hK
    have hst := stayIn_get e9 i o hmi hb (hl0 i hK)
    obtain ⟨o', h1, h2⟩ := entH_get e2 i o hmi
    have hb' : o'.isBox = true := by rw [O.nrm_box h2, O.isBox_map]; exact hb
    show g (rnf bk i) = X.g0 i
    have := hs.keep _ _ (lookH_mem h1) hb' (by rw [hst]; exact hK)
    rw [hst] at this ⊢; exact this
end
end Go.VL
