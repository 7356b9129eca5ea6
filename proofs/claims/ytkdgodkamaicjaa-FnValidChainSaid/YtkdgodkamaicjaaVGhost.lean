/- V-logic, part 17b: steps that change nothing but what is told. -/
import Derived.Test.YtkdgodkamaicjaaVSound15
namespace Go.VL
set_option linter.unusedVariables false
set_option linter.unusedSimpArgs false
section
variable {P : Program} {T : TT} {X : Cx} {I : Nat → Prop} {g : Gam} {s : S} {a : Act} {w : World} {o : Oper} {K : S → Prop}
  {N : Act → World → Prop} {Q : Exit → Act → World → Prop}

/-- one object is told otherwise -/
theorem St.retell (h : St X I g s a w) {id : Nat} {ob ob' : O} (hm : (id, ob) ∈ s.hp) (hbx : ob'.isBox = true → X.K0 id → ob.isBox = true) (hro : RO I g s.nx w id ob') (hns : ∀ b, Nst g w id ob' b → Nst g w id ob b) :
    St X I g { s with hp := setH s.hp id ob' } a w := by
  have hmem : ∀ i o', (i, o') ∈ setH s.hp id ob' → ∃ o'', (i, o'') ∈ s.hp ∧ (o'.isBox = true → X.K0 i → o''.isBox = true) ∧ ∀ k, Own g w i o' k → Own g w i o'' k := fun i o' hmi => by
    rcases mem_setH h.heap.nodup hmi with ⟨rfl, rfl⟩ | ⟨h1, hne⟩
    · exact ⟨ob, hm, hbx, fun k hk => hk.imp _root_.id (hns k)⟩
    · exact ⟨o', h1, fun h _ => h, fun k hk => hk⟩
  refine ⟨h.df, h.sz, h.slots, ⟨?_, ?_, ?_, ?_⟩, h.bound, h.up, h.down, ?_, ?_, h.fr, h.low⟩
  · intro i o' hmi
    rcases mem_setH h.heap.nodup hmi with ⟨rfl, rfl⟩ | ⟨h1, hne⟩
    · exact ⟨(h.heap.obj _ _ hm).1, hro⟩
    · exact h.heap.obj _ _ h1
  · intro i o' k hmi hgk
    obtain ⟨o'', h1, _, h2⟩ := hmem i o' hmi
    exact h.heap.apart i o'' k h1 (h2 k hgk)
  · show (List.map _ (setH s.hp id ob')).Nodup
    rw [setH_keys]; exact h.heap.nodup
  · intro i o1 i' o2 k h1 h2 g1 g2
    obtain ⟨p1, q1, _, r1⟩ := hmem _ _ h1
    obtain ⟨p2, q2, _, r2⟩ := hmem _ _ h2
    exact h.heap.inj i p1 i' p2 k q1 q2 (r1 k g1) (r2 k g2)
  · rintro k ⟨i, o', hmi, hgk⟩
    obtain ⟨o'', h1, _, h2⟩ := hmem i o' hmi
    exact h.own k ⟨i, o'', h1, h2 k hgk⟩
  · intro i o' hmi hb hK
    obtain ⟨o'', h1, h2, _⟩ := hmem i o' hmi
    exact h.keep i o'' h1 (h2 hb hK) hK

theorem RO.flag {n id f : Nat} {p q : Bool} {x : C} {hs : List (Nat × List V)} (h : RO I g n w id (.deep p f x hs)) : RO I g n w id (.deep q f x hs) := by
  cases h with
  | deep0 _ _ _ hg hs h0 => exact .deep0 _ _ _ hg hs h0
  | deep _ _ _ _ b cap cells ty hg hsl hb hl hcap hh hkn ht h2 hd hty => exact .deep _ _ _ _ b cap cells ty hg hsl hb hl hcap hh hkn ht h2 hd hty

theorem keysLe_get {f : Nat} : ∀ {hs : List (Nat × List V)}, keysLe f hs → ∀ i ∈ keysHs hs, i ≤ f := by
  intro hs
  induction hs with
  | nil => intro _ i hi; simp [keysHs] at hi
  | cons q t ih =>
    obtain ⟨a, b⟩ := q
    intro h i hi
    simp only [keysHs, List.map_cons, List.mem_cons] at hi
    rcases hi with rfl | hi
    · exact h.1
    · exact ih h.2 i hi

theorem RO.adv {n id f : Nat} {p : Bool} {x : C} {hs : List (Nat × List V)} (hk : keysLe f hs) (h : RO I g n w id (.deep p f x hs)) :
    RO I g n w id (.deep p (f + 1) x []) ∧ ∀ b, Nst g w id (.deep p (f + 1) x []) b → Nst g w id (.deep p f x hs) b := by
  have hsub : ∀ {k}, Told (f + 1) x (keysHs []) k → Told f x (keysHs hs) k := fun {k} ⟨i, j, e, q1, q2, q3, _⟩ => ⟨i, j, e, q1, by omega, q3, fun hc => by have := keysLe_get hk i hc; omega⟩
  refine ⟨?_, fun b ⟨b0, cl, k, off, l, c, e1, e2, e3⟩ => ⟨b0, cl, k, off, l, c, e1, hsub e2, e3⟩⟩
  cases h with
  | deep0 _ _ _ hg hs h0 => exact .deep0 _ _ _ hg hs h0
  | deep _ _ _ _ b cap cells ty hg hsl hb hl hcap hh hkn ht h2 hd hty =>
    exact .deep _ _ _ _ b cap cells ty hg hsl hb hl hcap (fun i us hm => by cases hm) (by simp [keysHs]) (fun i j y a1 a2 a3 a4 => ht i j y (by omega) a2 (fun hc => by have := keysLe_get hk i hc; omega) a4) (fun i us hm => by cases hm)
      (fun k k' b' o l c o' l' c' t1 t2 e1 e2 => hd k k' b' o l c o' l' c' (hsub t1) (hsub t2) e1 e2) hty

/-! an element is opened -/
theorem openRow_get (n j : Nat) (row : List C) : (openRow n row)[j]? = (row[j]?).map fun c => match c with | .nums _ _ => V.slc (n + j) | .int k m => .c (.int k m) | .bool b => .c (.bool b) | _ => .any := by
  induction row generalizing n j with
  | nil => rfl
  | cons c t ih =>
    cases j with
    | zero => cases c <;> rfl
    | succ j =>
      have := ih (n + 1) j
      cases c <;> simp only [openRow, List.getElem?_cons_succ, this] <;> (cases t[j]? with | none => rfl | some d => cases d <;> simp <;> omega)

theorem openObs_mem {n : Nat} {row : List C} {k : Nat} {ob : O} (h : (k, ob) ∈ openObs n row) : ∃ j kk xs, row[j]? = some (.nums kk xs) ∧ k = n + j ∧ ob = .arr (.nums kk xs) := by
  induction row generalizing n with
  | nil => cases h
  | cons c t ih =>
    have hrec : (k, ob) ∈ openObs (n + 1) t → ∃ j kk xs, (c :: t)[j]? = some (.nums kk xs) ∧ k = n + j ∧ ob = .arr (.nums kk xs) := fun h => by
      obtain ⟨j, kk, xs, h1, h2, h3⟩ := ih h; exact ⟨j + 1, kk, xs, h1, by omega, h3⟩
    cases c with
    | nums kk xs =>
      simp only [openObs] at h
      rcases List.mem_cons.1 h with h | h
      · cases h; exact ⟨0, kk, xs, rfl, rfl, rfl⟩
      · exact hrec h
    | _ => exact hrec h

theorem openObs_nodup (n : Nat) (row : List C) : ((openObs n row).map (·.1)).Nodup ∧ ∀ k ∈ (openObs n row).map (·.1), n ≤ k := by
  induction row generalizing n with
  | nil => simp [openObs]
  | cons c t ih =>
    obtain ⟨h1, h2⟩ := ih (n + 1)
    cases c with
    | nums kk xs =>
      simp only [openObs, List.map_cons, List.nodup_cons]
      refine ⟨⟨fun hc => by have := h2 n hc; omega, h1⟩, fun k hk => ?_⟩
      rcases List.mem_cons.1 hk with rfl | hk
      · exact Nat.le_refl _
      · have := h2 k hk; omega
    | _ => exact ⟨h1, fun k hk => by have := h2 k hk; omega⟩

def slotG (v : Option Value) : Option (Nat × Nat × Nat) :=
  match v with
  | some (.slice (some p) l c) => some (p.block, c, l)
  | _ => none

theorem St.opn (h : St X I g s a w) {id i f : Nat} {p : Bool} {x : C} {hs : List (Nat × List V)} (hl : lookH s.hp id = some (.deep p f x hs)) (hf : f ≤ i) (hi : i < x.len) (hne : i ∉ keysHs hs) :
    ∃ g', St X I g' { s with nx := s.nx + x.stride, hp := openObs s.nx (x.row i) ++ setH s.hp id (.deep p f x (hs ++ [(i, openRow s.nx (x.row i))])) } a w := by
  have hm := lookH_mem hl
  have hidlt := (h.heap.obj id _ hm).1
  have hro := (h.heap.obj id _ hm).2
  cases hro with
  | deep0 _ _ _ _ _ h0 => omega
  | deep _ _ _ _ b cap cells ty hg hsl hb hlen hcap hh hkn ht h2 hd hty =>
  have hcl : ∀ (k : Nat), w.cell? ⟨b, k, none⟩ = cells[k]? := fun k => by rw [cell_of_row w b _ cells.toArray ty (0, 0) hb]; simp
  have hrl := C.row_len x i hsl
  let g' : Gam := fun k => if k < s.nx then g k else slotG cells[i * x.stride + (k - s.nx)]?
  have hgo : ∀ k, k < s.nx → g' k = g k := fun k hk => by simp [g', hk]
  have hgn : ∀ j, g' (s.nx + j) = slotG cells[i * x.stride + j]? := fun j => by
    show (if s.nx + j < s.nx then g (s.nx + j) else slotG cells[i * x.stride + (s.nx + j - s.nx)]?) = _
    rw [if_neg (by omega), Nat.add_sub_cancel_left]
  have htd : ∀ {j}, j < x.stride → Told f x (keysHs hs) (i * x.stride + j) := fun {j} hj => ⟨i, j, rfl, hj, hf, hi, hne⟩
  have hkeys : keysHs (hs ++ [(i, openRow s.nx (x.row i))]) = keysHs hs ++ [i] := by simp [keysHs]
  have hsub : ∀ {k}, Told f x (keysHs (hs ++ [(i, openRow s.nx (x.row i))])) k → Told f x (keysHs hs) k ∧ ∀ j, j < x.stride → k ≠ i * x.stride + j := fun {k} ⟨i', j', e, q1, q2, q3, q4⟩ => by
    rw [hkeys, List.mem_append, not_or] at q4
    refine ⟨⟨i', j', e, q1, q2, q3, q4.1⟩, fun j hj => ?_⟩
    have := row_apart (st := x.stride) (fun c : i' = i => q4.2 (by simp [c])) q1
    omega
  -- the cells of the element
  have cell : ∀ j kk xs, (x.row i)[j]? = some (.nums kk xs) → j < x.stride ∧ ((cells[i * x.stride + j]? = some (.slice none 0 0) ∧ xs = [] ∧ g' (s.nx + j) = none) ∨
      ∃ (b' cap' : Nat) (cs : List Value) (ty' : TypeId), cells[i * x.stride + j]? = some (.slice (some ⟨b', 0, none⟩) xs.length cap') ∧ g' (s.nx + j) = some (b', cap', xs.length) ∧ w.heap[b']? = some (.cells cs.toArray ty' (0, 0)) ∧ cs.length = cap' ∧ xs.length ≤ cap' ∧
        (∀ (q : Nat) m, xs[q]? = some m → cs[q]? = some (.int kk m)) ∧ Nst g w id (.deep p f x hs) b') := by
    intro j kk xs hj
    have hjl : j < x.stride := by have := (List.getElem?_eq_some_iff.1 hj).1; rwa [hrl] at this
    refine ⟨hjl, ?_⟩
    obtain ⟨v, e1, e2⟩ := ht i j _ hf hi hne hj
    cases e2 with
    | nil => exact .inl ⟨e1, rfl, by rw [hgn, e1]; rfl⟩
    | sl _ _ b' cap' cs ty' hb' hl' hc' hh' =>
      exact .inr ⟨b', cap', cs, ty', e1, by rw [hgn, e1]; rfl, hb', hl', hc', hh', b, _, _, 0, _, _, hg, htd hjl, by rw [hcl]; exact e1⟩
  have hmem : ∀ {k o'}, (k, o') ∈ openObs s.nx (x.row i) ++ setH s.hp id (.deep p f x (hs ++ [(i, openRow s.nx (x.row i))])) →
      (∃ j kk xs, (x.row i)[j]? = some (.nums kk xs) ∧ k = s.nx + j ∧ o' = .arr (.nums kk xs)) ∨ (k = id ∧ o' = .deep p f x (hs ++ [(i, openRow s.nx (x.row i))])) ∨ ((k, o') ∈ s.hp ∧ k ≠ id) := fun {k o'} hmk => by
    rcases List.mem_append.1 hmk with hmk | hmk
    · exact .inl (openObs_mem hmk)
    · exact .inr (mem_setH h.heap.nodup hmk)
  have hlt : ∀ {k o'}, (k, o') ∈ s.hp → k < s.nx := fun {k o'} hk => (h.heap.obj k o' hk).1
  -- whose block
  have own1 : ∀ {j kk xs b'}, (x.row i)[j]? = some (.nums kk xs) → Own g' w (s.nx + j) (.arr (.nums kk xs)) b' → Nst g w id (.deep p f x hs) b' ∧ ∃ l c, cells[i * x.stride + j]? = some (.slice (some ⟨b', 0, none⟩) l c) := fun {j kk xs b'} hj ho => by
    obtain ⟨cl, ho⟩ := ho.nd (fun _ _ _ _ e => by cases e)
    rcases (cell j kk xs hj).2 with ⟨_, _, e⟩ | ⟨b2, cap', cs, ty', e1, e2, _, _, _, _, e3⟩
    · rw [e] at ho; cases ho
    · rw [e2] at ho; cases ho; exact ⟨e3, _, _, e1⟩
  have own2 : ∀ {b'}, Own g' w id (.deep p f x (hs ++ [(i, openRow s.nx (x.row i))])) b' → b' = b ∨ ∃ k off l c, Told f x (keysHs hs) k ∧ (∀ j, j < x.stride → k ≠ i * x.stride + j) ∧ cells[k]? = some (.slice (some ⟨b', off, none⟩) l c) := fun {b'} ho => by
    rcases ho with ⟨cl, ho⟩ | ⟨b0, cl, k, off, l, c, e1, e2, e3⟩
    · rw [hgo id hidlt, hg] at ho; cases ho; exact .inl rfl
    · rw [hgo id hidlt, hg] at e1; cases e1
      rw [hcl] at e3
      exact .inr ⟨k, off, l, c, (hsub e2).1, (hsub e2).2, e3⟩
  have own2' : ∀ {b'}, Own g' w id (.deep p f x (hs ++ [(i, openRow s.nx (x.row i))])) b' → Own g w id (.deep p f x hs) b' := fun {b'} ho => by
    rcases own2 ho with rfl | ⟨k, off, l, c, e1, _, e2⟩
    · exact .pri hg
    · exact .inr ⟨b, _, k, off, l, c, hg, e1, by rw [hcl]; exact e2⟩
  have own3 : ∀ {k o' b'}, (k, o') ∈ s.hp → Own g' w k o' b' → Own g w k o' b' := fun {k o' b'} hk ho => ho.congr (hgo k (hlt hk)) fun _ _ _ => rfl
  have back : ∀ {k o'}, (k, o') ∈ openObs s.nx (x.row i) ++ setH s.hp id (.deep p f x (hs ++ [(i, openRow s.nx (x.row i))])) → ∀ {b'}, Own g' w k o' b' → ∃ k2 o2, (k2, o2) ∈ s.hp ∧ Own g w k2 o2 b' := fun {k o'} hmk {b'} ho => by
    rcases hmem hmk with ⟨j, kk, xs, hj, rfl, rfl⟩ | ⟨rfl, rfl⟩ | ⟨hk, hk2⟩
    · exact ⟨id, _, hm, .inr (own1 hj ho).1⟩
    · exact ⟨_, _, hm, own2' ho⟩
    · exact ⟨_, _, hk, own3 hk ho⟩
  refine ⟨g', h.df, h.sz, fun j => (h.slots j).mono (fun _ h => h) (fun _ _ => rfl) (by simp) hgo, ⟨?_, ?_, ?_, ?_⟩, h.bound, h.up, h.down, ?_, ?_, h.fr, fun k hk => by have := h.low k hk; simp; omega⟩
  · intro k o' hmk
    rcases hmem hmk with ⟨j, kk, xs, hj, rfl, rfl⟩ | ⟨rfl, rfl⟩ | ⟨hk, hk2⟩
    · obtain ⟨hjl, hc⟩ := cell j kk xs hj
      refine ⟨by simp; omega, ?_⟩
      rcases hc with ⟨_, rfl, e⟩ | ⟨b', cap', cs, ty', e1, e2, e3, e4, e5, e6, _⟩
      · exact .none _ e rfl rfl
      · refine RO.arr_of (x := .nums kk xs) e2 rfl e3 (by rw [e4]; simp [C.stride]) e5 (fun q j' y hq hy => ?_) (fun hp => by cases hp)
        simp only [C.len] at hq
        cases j' with
        | zero =>
          simp only [C.row, List.getElem?_cons_zero, Option.some.injEq] at hy
          subst hy
          refine ⟨.int kk (xs.getD q 0), ?_, .int _ _⟩
          have := e6 q xs[q] (List.getElem?_eq_getElem hq)
          simp only [C.stride, Nat.mul_one, Nat.add_zero]
          rw [this]; simp [List.getD, hq]
        | succ j' => simp [C.row] at hy
    · refine ⟨by simp; omega, .deep p f x _ b cap cells ty (by rw [hgo _ hidlt]; exact hg) hsl hb hlen hcap (fun k us hmk => ?_) ?_ (fun k j y a1 a2 a3 a4 => ?_) (fun k us hmk j hj => ?_) (fun k k' b' o l c o' l' c' t1 t2 e1 e2 => hd k k' b' o l c o' l' c' (hsub t1).1 (hsub t2).1 e1 e2) hty⟩
      · rcases List.mem_append.1 hmk with hmk | hmk
        · exact hh k us hmk
        · simp only [List.mem_singleton] at hmk; cases hmk
          refine ⟨hi, ?_⟩
          rw [← hrl]
          apply Nat.le_antisymm
          · rcases Nat.lt_or_ge (x.row i).length (openRow s.nx (x.row i)).length with c | c
            · have := openRow_get s.nx (x.row i).length (x.row i)
              rw [List.getElem?_eq_getElem c] at this; simp at this
            · exact c
          · rcases Nat.lt_or_ge (openRow s.nx (x.row i)).length (x.row i).length with c | c
            · have := openRow_get s.nx (openRow s.nx (x.row i)).length (x.row i)
              rw [List.getElem?_eq_getElem c] at this; simp at this
            · exact c
      · rw [hkeys, List.nodup_append]
        exact ⟨hkn, by simp, fun c hc d hd => by simp only [List.mem_singleton] at hd; subst hd; exact fun e => hne (e ▸ hc)⟩
      · rw [hkeys, List.mem_append, not_or] at a3
        exact ht k j y a1 a2 a3.1 a4
      · rcases List.mem_append.1 hmk with hmk | hmk
        · obtain ⟨u, v, a1, a2, a3, a4⟩ := h2 k us hmk j hj
          exact ⟨u, v, a1, a2, a3, a4.mono (fun _ h => h) (fun _ _ => rfl) (by simp) hgo⟩
        · simp only [List.mem_singleton] at hmk; cases hmk
          obtain ⟨y, hy⟩ : ∃ y, (x.row i)[j]? = some y := ⟨_, List.getElem?_eq_getElem (show j < (x.row i).length by rw [hrl]; exact hj)⟩
          obtain ⟨v, e1, e2⟩ := ht i j _ hf hi hne hy
          refine ⟨_, v, by rw [openRow_get, hy]; rfl, e1, by cases e2 <;> rfl, ?_⟩
          cases e2 with
          | int kk m => exact .c _ _ (.int kk m)
          | bool bb => exact .c _ _ (.bool bb)
          | nil kk => exact .slc0 _ (by show s.nx + j < s.nx + x.stride; omega) (by rw [hgn, e1]; rfl)
          | sl kk xs b' cap' cs ty' hb' hl' hc' hh' => exact .slc _ _ b' cap' (by show s.nx + j < s.nx + x.stride; omega) (by rw [hgn, e1]; rfl)
    · exact ⟨by have := hlt hk; simp; omega, (h.heap.obj k o' hk).2.mono (fun _ h => h) (fun _ _ => rfl) (by simp) hgo (hlt hk) fun _ _ => rfl⟩
  · intro k o' b' hmk ho
    obtain ⟨k2, o2, h3, h4⟩ := back hmk ho
    exact h.heap.apart k2 o2 b' h3 h4
  · show (List.map _ (openObs s.nx (x.row i) ++ setH s.hp id _)).Nodup
    rw [List.map_append, setH_keys, List.nodup_append]
    refine ⟨(openObs_nodup _ _).1, h.heap.nodup, fun c hc d hd => ?_⟩
    obtain ⟨⟨k, o'⟩, hk, rfl⟩ := List.mem_map.1 hd
    have h3 := hlt hk
    have h4 := (openObs_nodup _ _).2 c hc
    simp only
    omega
  · intro k1 o1 k2 o2 b' hm1 hm2 ho1 ho2
    have c13 : ∀ {j kk xs k o'}, (x.row i)[j]? = some (.nums kk xs) → (k, o') ∈ s.hp → k ≠ id → Own g' w (s.nx + j) (.arr (.nums kk xs)) b' → Own g' w k o' b' → False := fun {j kk xs k o'} hj hk hk2 q1 q2 =>
      hk2 (h.heap.inj k o' id _ b' hk hm (own3 hk q2) (.inr (own1 hj q1).1))
    have c12 : ∀ {j kk xs}, (x.row i)[j]? = some (.nums kk xs) → Own g' w (s.nx + j) (.arr (.nums kk xs)) b' → Own g' w id (.deep p f x (hs ++ [(i, openRow s.nx (x.row i))])) b' → False := fun {j kk xs} hj q1 q2 => by
      obtain ⟨_, l, c, e1⟩ := own1 hj q1
      have hjl := (cell j kk xs hj).1
      rcases own2 q2 with rfl | ⟨k, off, l', c', e2, e3, e4⟩
      · exact (hd _ _ b' 0 l c 0 l c (htd hjl) (htd hjl) e1 e1).2 rfl
      · exact e3 j hjl (hd _ _ b' off l' c' 0 l c e2 (htd hjl) e4 e1).1
    rcases hmem hm1 with ⟨j, kk, xs, hj, rfl, rfl⟩ | ⟨rfl, rfl⟩ | ⟨hk1, hk1'⟩ <;> rcases hmem hm2 with ⟨j', kk', xs', hj', rfl, rfl⟩ | ⟨e2, rfl⟩ | ⟨hk2, hk2'⟩
    · obtain ⟨_, l, c, e1⟩ := own1 hj ho1
      obtain ⟨_, l', c', e2⟩ := own1 hj' ho2
      have := (hd _ _ b' 0 l c 0 l' c' (htd (cell j kk xs hj).1) (htd (cell j' kk' xs' hj').1) e1 e2).1
      omega
    · subst e2; exact (c12 hj ho1 ho2).elim
    · exact (c13 hj hk2 hk2' ho1 ho2).elim
    · exact (c12 hj' ho2 ho1).elim
    · exact e2.symm
    · exact h.heap.inj _ _ _ _ b' hm hk2 (own2' ho1) (own3 hk2 ho2)
    · exact (c13 hj' hk1 hk1' ho2 ho1).elim
    · subst e2; exact h.heap.inj _ _ _ _ b' hk1 hm (own3 hk1 ho1) (own2' ho2)
    · exact h.heap.inj _ _ _ _ b' hk1 hk2 (own3 hk1 ho1) (own3 hk2 ho2)
  · rintro b' ⟨k, o', hmk, ho⟩
    obtain ⟨k2, o2, h3, h4⟩ := back hmk ho
    exact h.own b' ⟨k2, o2, h3, h4⟩
  · intro k o' hmk hb' hK
    rcases hmem hmk with ⟨j, kk, xs, hj, rfl, rfl⟩ | ⟨rfl, rfl⟩ | ⟨hk, hk2⟩
    · cases hb'
    · rw [hgo _ hidlt]; exact h.keep _ _ hm hb' hK
    · rw [hgo _ (hlt hk)]; exact h.keep _ _ hk hb' hK
end
end Go.VL
