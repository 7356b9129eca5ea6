/- V-logic, part 25: regions that draw their order. -/
import Derived.Test.YtkdgodkamaicjaaVSound22
namespace Go.VL
set_option linter.unusedVariables false
set_option linter.unusedSimpArgs false
section
variable {P : Program} {T : TT} {X : Cx} {ops : Array Oper} {Q : Exit → Act → World → Prop}

theorem pairOk_false {a b : Rec} (h : pairOk false a b = true) : meets a.dst b.names = false ∧ meets b.dst a.names = false ∧ meets a.wr b.rd = false ∧ meets b.wr a.rd = false ∧ meets a.wr b.wr = false ∧ a.tot = false ∧ b.tot = false ∧ meets a.nw b.mn = false ∧ meets b.nw a.mn = false := by
  simp only [pairOk, Bool.and_eq_true, Bool.not_eq_true'] at h
  obtain ⟨⟨⟨⟨⟨⟨⟨⟨⟨_, h1⟩, h2⟩, h3⟩, h4⟩, h5⟩, h6⟩, h7⟩, h8⟩, h9⟩ := h
  exact ⟨h1, h2, h3, h4, h5, h6, h7, h8, h9⟩

theorem pairOk_nw {anc : Bool} {a b : Rec} (h : pairOk anc a b = true) : meets b.nw a.mn = false ∧ meets a.nw b.nw = false := by
  cases anc with
  | false =>
    refine ⟨(pairOk_false h).2.2.2.2.2.2.2.2, ?_⟩
    simp only [pairOk, Bool.and_eq_true, Bool.not_eq_true'] at h
    obtain ⟨⟨⟨⟨⟨⟨⟨⟨⟨h0, h1⟩, h2⟩, h3⟩, h4⟩, h5⟩, h6⟩, h7⟩, h8⟩, h9⟩ := h
    exact h0
  | true =>
    simp only [pairOk] at h
    split at h
    · rename_i h1 h2; exact ⟨h1, h2⟩
    · cases h

theorem mem_tmpsOf {l : List Operand} {t : Nat} (h : Operand.tmp t ∈ l) : t ∈ tmpsOf l := by
  induction l with
  | nil => cases h
  | cons x r ih =>
    rcases List.mem_cons.1 h with h2 | h2
    · subst h2; exact List.mem_cons_self
    · have h3 := ih h2
      clear h ih h2
      cases x <;> simp only [tmpsOf] <;> first | exact List.mem_cons_of_mem _ h3 | exact h3

theorem mem_setHs0 {sets : List (Nat × O)} : ∀ {hp : List (Nat × O)} {i : Nat} {o : O}, (i, o) ∈ setHs sets hp → (i, o) ∈ sets ∨ (i, o) ∈ hp := by
  induction sets with
  | nil => intro hp i o h; exact .inr h
  | cons q t ih =>
    obtain ⟨k, ob⟩ := q
    intro hp i o h
    simp only [setHs] at h
    rcases ih h with h | h
    · exact .inl (List.mem_cons_of_mem _ h)
    · have : ∀ {hp : List (Nat × O)}, (i, o) ∈ setH hp k ob → (i, o) = (k, ob) ∨ (i, o) ∈ hp := by
        intro hp
        induction hp with
        | nil => intro h; simp [setH] at h
        | cons q2 t2 ih2 =>
          obtain ⟨k2, o2⟩ := q2
          intro h
          simp only [setH] at h
          split at h
          · rename_i hk
            have hk := Nat.eq_of_beq_eq_true hk
            rcases List.mem_cons.1 h with h | h
            · rw [hk] at h; exact .inl h
            · exact .inr (List.mem_cons_of_mem _ h)
          · rcases List.mem_cons.1 h with h | h
            · rw [h]; exact .inr List.mem_cons_self
            · rcases ih2 h with h | h
              · exact .inl h
              · exact .inr (List.mem_cons_of_mem _ h)
      rcases this h with h | h
      · rw [h]; exact .inl List.mem_cons_self
      · exact .inr h

theorem Sat.ofBump {I : Nat → Prop} {g : Gam} {s : S} {a : Act} {w : World} {dst : Option Nat} {e : Ef} {k : Nat} (h : St X I g s a w) (hf : ∀ x ∈ e.nw k, x < s.nx ∧ Fresh x s ∧ ¬ X.K0 x)
    (hob : ∀ x ∈ e.obIds, x < s.nx ∧ x ∉ e.nw k) (hp : e.pu = true)
    {a' : Act} {w' : World} (h1 : Sat X (e.bump dst s) a' w') : Sat X (e.apply k dst s) a' w' := by
  cases e with
  | new st hst ob =>
    obtain ⟨hk, hfr, hK⟩ := hf k (by simp [Ef.nw])
    exact Sat.rename h hk hfr.key hfr.env (fun i o hm => hfr.hp i o (mem_lookH h.heap.nodup hm)) (fun i hi => ⟨(hob i hi).1, fun c => (hob i hi).2 (by simp [Ef.nw, c])⟩) hK h1
  | fx sets news rds st hst =>
    have hin : ∀ j, j < news.length → k + 20 * j ∈ (Ef.fx sets news rds st hst).nw k := fun j hj => by
      simp only [Ef.nw, keysH_eq]
      exact newsH_keys_mem.2 ⟨j, hj, by omega⟩
    refine Sat.renames (hp2 := setHs sets s.hp) h hst (pureO_get hp) (fun j hj => ?_) (fun i o hm => ?_) (by rw [setHs_keys]; exact h.heap.nodup) (fun i o hm q hq => ?_) h1
    · obtain ⟨a1, a2, a3⟩ := hf _ (hin j hj)
      refine ⟨a1, a2.key, a2.env, fun i o hm => ?_, a3⟩
      rcases mem_setHs0 hm with hm | hm
      · exact fun hc => (hob _ (Ef.setL_ids' hm hc)).2 (hin j hj)
      · exact a2.hp i o (mem_lookH h.heap.nodup hm)
    · have : i ∈ (setHs sets s.hp).map (·.1) := List.mem_map.2 ⟨_, hm, rfl⟩
      rw [setHs_keys] at this
      obtain ⟨⟨i', o'⟩, h3, rfl⟩ := List.mem_map.1 this
      exact ⟨o', h3⟩
    · rcases mem_setHs0 hm with hm | hm
      · exact (hob _ (Ef.setL_ids' hm hq)).1
      · exact (h.heap.obj _ _ hm).2.ids_lt _ hq
  | _ => exact h1

theorem Ef.nw_ge {k : Nat} {e : Ef} {x : Nat} (h : x ∈ e.nw k) : k ≤ x := by
  cases e with
  | new st hst ob => simp only [Ef.nw, List.mem_singleton] at h; omega
  | fx sets news rds st hst =>
    simp only [Ef.nw, keysH_eq] at h
    obtain ⟨j, _, h2⟩ := newsH_keys_mem.1 h
    omega
  | _ => simp [Ef.nw] at h

structure Region' (T : TT) (P : Program) (X : Cx) (ops : Array Oper) (nx0 : Nat) (E : List (Oper × Ef)) (s0 : S) : Prop where
  hE0 : E.map (·.1) = ops.toList
  hst : Steps T P ops.toList nx0 E 0 s0
  hedge : edgesOk ops.toList 0 = true
  hdst : dstsOk s0.nt ops.toList = true
  hlen : ops.toList.length ≤ 100
  hpair : pairsOk (nx0 + 100) (masks ops.toList []) (recs ops.toList nx0 E 0 s0) 0 [] = true
  hnx : s0.nx = nx0 + 100
  hfresh : ∀ k, Fresh (nx0 + k) s0
  hkeys : ∀ k ∈ s0.hp.map (·.1), k < nx0 + 0
  hnd : (s0.hp.map (·.1)).Nodup
  hK : ∀ id, X.K0 id → id < nx0

theorem fo_nt {nx0 : Nat} {M : Nat → Bool} (E : List (Oper × Ef)) : ∀ {i : Nat} {s : S}, (fo nx0 M E i s).nt = s.nt ∧ (fo nx0 M E i s).nx = s.nx := by
  induction E with
  | nil => intro i s; exact ⟨rfl, rfl⟩
  | cons x t ih =>
    obtain ⟨o, e⟩ := x
    intro i s
    simp only [fo]
    cases M i with
    | true => exact ⟨(ih (i := i + 1) (s := e.apply (nx0 + i) o.dst s)).1.trans (apply_nt _ _ _ _).1, (ih (i := i + 1) (s := e.apply (nx0 + i) o.dst s)).2.trans (apply_nt _ _ _ _).2⟩
    | false => exact ih

theorem region_step (hT : TOk P T) (hE : EOk P T) {nx0 : Nat} {E : List (Oper × Ef)} {s0 : S} (R : Region' T P X ops nx0 E s0) {M M' : Nat → Bool} {i : Nat} {o : Oper} (hM : Closed ops.toList M) (hi : M i = false)
    (ho : ops.toList[i]? = some o) (hed : ∀ e ∈ o.after.toList, Region.binds .any e = true → M e.on = true) (hi' : M' i = true) (hother : ∀ j, j ≠ i → M' j = M j) {a : Act} {w : World}
    (h : Sat X (fo nx0 M E 0 s0) a w) {KN : Act → World → Prop} (hN : ∀ a' w', Sat X (fo nx0 M' E 0 s0) a' w' → KN a' w') : wpOp P ops Q i KN a w := by
  obtain ⟨I, g, h⟩ := h
  have hlenE : E.length = ops.toList.length := by rw [← R.hE0, List.length_map]
  obtain ⟨e, hEi⟩ : ∃ e, E[i]? = some (o, e) := by
    have := R.hE0 ▸ ho
    rw [List.getElem?_map] at this
    cases hq : E[i]? with
    | none => rw [hq] at this; cases this
    | some x => obtain ⟨o', e⟩ := x; rw [hq] at this; cases this; exact ⟨e, rfl⟩
  have hopsE : ∀ {j o' e'}, E[j]? = some (o', e') → ops.toList[j]? = some o' := fun hj => by rw [← R.hE0, List.getElem?_map, hj]; rfl
  have hin : i < 100 := Nat.lt_of_lt_of_le (List.getElem?_eq_some_iff.1 ho).1 R.hlen
  obtain ⟨hstep, hrec⟩ := steps_get E R.hst hEi
  obtain ⟨hown, _, _⟩ := pairsOk_get _ R.hpair i _ hrec
  simp only [Nat.zero_add] at hstep hrec hown
  -- the pairs
  have anc1 : ∀ j, M j = false → ((masks ops.toList []).getD i 0).testBit j = false := fun j hj => by
    cases hb : ((masks ops.toList []).getD i 0).testBit j with
    | false => rfl
    | true => have := closed_mask R.hedge hM i o j ho hed hb; rw [hj] at this; cases this
  have anc2 : ∀ j o', ops.toList[j]? = some o' → M j = true → ((masks ops.toList []).getD j 0).testBit i = false := fun j o' hj hmj => by
    cases hb : ((masks ops.toList []).getD j 0).testBit i with
    | false => rfl
    | true => have := closed_mask R.hedge hM j o' i hj (hM j o' hmj hj) hb; rw [hi] at this; cases this
  have before : ∀ j o' e', j < i → E[j]? = some (o', e') → pairOk (((masks ops.toList []).getD i 0).testBit j) (recOf ops.toList (nx0 + j) o' (evl (fo nx0 (fun k => decide (k < j)) E 0 s0).env) e') (recOf ops.toList (nx0 + i) o (evl (fo nx0 (fun k => decide (k < i)) E 0 s0).env) e) = true := fun j o' e' hlt hj => by
    obtain ⟨_, hr⟩ := steps_get E R.hst hj
    have := (pairsOk_get _ R.hpair i _ hrec).2.2 j _ hlt hr
    simpa only [Nat.zero_add] using this
  have behind : ∀ j o' e', i < j → E[j]? = some (o', e') → pairOk (((masks ops.toList []).getD j 0).testBit i) (recOf ops.toList (nx0 + i) o (evl (fo nx0 (fun k => decide (k < i)) E 0 s0).env) e) (recOf ops.toList (nx0 + j) o' (evl (fo nx0 (fun k => decide (k < j)) E 0 s0).env) e') = true := fun j o' e' hlt hj => by
    obtain ⟨_, hr⟩ := steps_get E R.hst hj
    have := (pairsOk_get _ R.hpair j _ hr).2.2 i _ hlt hrec
    simpa only [Nat.zero_add] using this
  generalize hSi : fo nx0 (fun k => decide (k < i)) E 0 s0 = Si at hstep hrec hown before behind
  generalize hri : recOf ops.toList (nx0 + i) o (evl Si.env) e = ri at hrec hown before behind
  have hrd : ri.rd = e.rds ++ rdOf o (evl Si.env) := by rw [← hri]; rfl
  have hagree : Agree ri.names ri.rd Si (fo nx0 M E 0 s0) := by
    rw [← hSi]
    refine fo_agree E ⟨fun _ _ => rfl, fun _ _ => rfl⟩ fun j o' e' hj hne => ?_
    simp only [Nat.zero_add] at hne ⊢
    have hrdmn : ∀ x ∈ ri.rd, x ∈ ri.mn := fun x hx => by
      rw [← hri] at hx ⊢
      simp only [recOf] at hx ⊢
      rcases List.mem_append.1 hx with hx | hx
      · exact List.mem_append_left _ (List.mem_append_right _ (Ef.rds_ids hx))
      · split at hx
        · cases hx
        · exact List.mem_append_right _ hx
    rcases Nat.lt_trichotomy j i with c | c | c
    · have hmj : M j = false := by
        cases hm : M j with
        | false => rfl
        | true => rw [hm] at hne; exact absurd (by simpa using c) hne
      have hp := before j o' e' c hj
      rw [anc1 j hmj] at hp
      obtain ⟨h1, h2, h3, h4, h5, h6, h7, h8, h9⟩ := pairOk_false hp
      refine ⟨fun d hd hc => meets_false h1 d (by simp [recOf, hc]) hd, h6, fun x hx => meets_false h3 x hx, fun x hx hc => meets_false h8 x hx (hrdmn x hc)⟩
    · subst c; rw [hi] at hne; exact absurd (by simp) hne
    · have hmj : M j = true := by
        cases hm : M j with
        | true => rfl
        | false => rw [hm] at hne; exact absurd (by simpa using Nat.le_of_lt c) hne
      have hp := behind j o' e' c hj
      rw [anc2 j o' (hopsE hj) hmj] at hp
      obtain ⟨h1, h2, h3, h4, h5, h6, h7, h8, h9⟩ := pairOk_false hp
      refine ⟨fun d hd hc => meets_false h2 d (by simp [recOf, hc]) hd, h7, fun x hx => meets_false h4 x hx, fun x hx hc => meets_false h9 x hx (hrdmn x hc)⟩
  have hsame : Same o (evl Si.env) (evl (fo nx0 M E 0 s0).env) (lookH Si.hp) (lookH (fo nx0 M E 0 s0).hp) := by
    refine ⟨fun x hx => ?_, fun j hj => (hagree.2 j (by rw [hrd]; exact List.mem_append_right _ hj)).symm⟩
    cases x with
    | tmp t =>
      refine (hagree.1 t ?_).symm
      rw [← hri]
      simp only [recOf]
      exact List.mem_append_left _ (List.mem_append_right _ (mem_tmpsOf (by simpa using hx)))
    | _ => rfl
  have hrds : ∀ j ∈ e.rds, lookH (fo nx0 M E 0 s0).hp j = lookH Si.hp j := fun j hj => (hagree.2 j (by rw [hrd]; exact List.mem_append_left _ hj)).symm
  have hnwri : ri.nw = e.nw (nx0 + i) := by rw [← hri]; rfl
  have hfr : ∀ x ∈ e.nw (nx0 + i), Fresh x (fo nx0 M E 0 s0) := fun x hx => by
    have hge := Ef.nw_ge hx
    have hx' : x ∈ ri.nw := by rw [hnwri]; exact hx
    have h00 := R.hfresh (x - nx0)
    rw [show nx0 + (x - nx0) = x by omega] at h00
    refine fo_fresh E h00 fun j o' e' hj hmj => ?_
    simp only [Nat.zero_add] at hmj ⊢
    have hne : j ≠ i := fun c => by rw [c, hi] at hmj; cases hmj
    rcases Nat.lt_or_gt_of_ne hne with c2 | c2
    · obtain ⟨q1, q2⟩ := pairOk_nw (before j o' e' c2 hj)
      exact ⟨fun c => meets_false q2 x c hx', fun c => meets_false q1 _ hx' (List.mem_append_left _ c)⟩
    · have hp := behind j o' e' c2 hj
      have q2 := (pairOk_nw hp).2
      rw [anc2 j o' (hopsE hj) hmj] at hp
      exact ⟨fun c => meets_false q2 x hx' c, fun c => meets_false (pairOk_false hp).2.2.2.2.2.2.2.1 _ hx' (List.mem_append_left _ c)⟩
  have hownf : ri.pu = true ∧ (∀ x ∈ ri.mn, x < nx0 + 100) ∧ (∀ x ∈ ri.nw, x < nx0 + 100) ∧ ∀ x ∈ ri.nw, x ∉ ri.mn := by
    unfold Rec.own at hown
    split at hown
    · rename_i h0
      split at hown
      · rename_i h1 h1'
        split at hown
        · cases hown
        · rename_i h2; exact ⟨h0, allLt_get h1, allLt_get h1', meets_false h2⟩
      · cases hown
    · cases hown
  have hSnx : (fo nx0 M E 0 s0).nx = nx0 + 100 := (fo_nt E).2.trans R.hnx
  have hSnt : (fo nx0 M E 0 s0).nt = s0.nt := (fo_nt E).1
  have hfin : ∀ a' w', Sat X (e.apply (nx0 + i) o.dst (fo nx0 M E 0 s0)) a' w' → KN a' w' := fun a' w' hs => by
    refine hN a' w' (hs.eqv ?_)
    have h0 := fo_insert (nx0 := nx0) (k := i) (M := M) (M' := M') E (i := 0) (s := s0) hEi (by simpa using hi) (by simpa using hi') (by simpa using hother) fun j o' e' hlt hj hmj => by
      simp only [Nat.zero_add] at hmj ⊢
      have hp := behind j o' e' hlt hj
      rw [anc2 j o' (hopsE hj) hmj] at hp
      obtain ⟨h1, h2, h3, h4, h5, h6, h7, h8, h9⟩ := pairOk_false hp
      rw [← hri] at h1 h2 h3 h4 h5 h6 h8 h9
      have q2 := (pairOk_nw (behind j o' e' hlt hj)).2
      rw [← hri] at q2
      exact ⟨fun d hd hd' => meets_false h1 d (by simp [recOf, hd]) (by simp [recOf, hd']), h6, h7, meets_false h5, fun x hx => ⟨fun hc => meets_false h8 x hx (List.mem_append_left _ (List.mem_append_right _ (Ef.wr_ids hc))), fun hc => meets_false q2 x hx hc⟩, fun x hx hc => meets_false h9 x hx (List.mem_append_left _ (List.mem_append_right _ (Ef.wr_ids hc)))⟩
    simp only [Nat.zero_add] at h0
    refine ⟨h0.nt, h0.nx, h0.env, h0.hp, fo_nodup E R.hnd (fun j o' e' hj x hx hc => ?_) fun j j' o1 e1 o2 e2 hlt hj hj' x hx hc => ?_⟩
    · have := R.hkeys x hc
      have := Ef.nw_ge hx
      omega
    · obtain ⟨_, hr1⟩ := steps_get E R.hst hj
      obtain ⟨_, hr2⟩ := steps_get E R.hst hj'
      exact meets_false (pairOk_nw ((pairsOk_get _ R.hpair j' _ hr2).2.2 j _ hlt hr1)).2 x hx hc
  have hdd : ∀ d, o.dst = some d → d < (fo nx0 M E 0 s0).nt := fun d hd => by rw [hSnt]; exact dstsOk_get _ R.hdst o (List.mem_of_getElem? ho) d hd
  have hoArr : ops[i]? = some o := by rw [← Array.getElem?_toList]; exact ho
  have run : Region.wanted o (yielded ops a.tmps) = true → Runs T P o Si e → wpOp P ops Q i KN a w := fun hw hr => by
    unfold wpOp
    simp only [hoArr, hw, if_true]
    obtain ⟨e', he', hdoes⟩ := does_any hT hE h hdd (hr _ _ (fun e' => e' = e) hsame hrds rfl)
    subst he'
    refine .inl (hdoes KN Q fun a' w' hs => hfin a' w' (Sat.ofBump h (fun x hx => ⟨?_, hfr x hx, fun hk => ?_⟩) (fun x hx => ?_) ?_ hs))
    · rw [hSnx]; exact hownf.2.2.1 x (by rw [hnwri]; exact hx)
    · have := R.hK _ hk; have := Ef.nw_ge hx; omega
    · have hmn : x ∈ ri.mn := by rw [← hri]; exact List.mem_append_left _ (List.mem_append_right _ hx)
      rw [hSnx]
      exact ⟨hownf.2.1 x hmn, fun c => hownf.2.2.2 x (by rw [hnwri]; exact c) hmn⟩
    · have := hownf.1; rw [← hri] at this; exact this
  have skip : Region.wanted o (yielded ops a.tmps) = false → e = .val (.tup []) → wpOp P ops Q i KN a w := fun hw he => by
    unfold wpOp
    simp only [hoArr, hw, Bool.false_eq_true, if_false]
    exact does_skip h hdd fun a' w' hs => hfin a' w' (by rw [he]; exact hs)
  unfold Step at hstep
  split at hstep
  · rename_i hg; exact run (by simp [Region.wanted, hg]) hstep
  · rename_i j want hg
    obtain ⟨d, hs, hcases⟩ := hstep
    have hw : ∀ y, yielded ops a.tmps j = y → Region.wanted o (yielded ops a.tmps) = (y == some want) := fun y hy => by simp [Region.wanted, hg, hy]
    have hd := h.slots d
    have hnames : d ∈ ri.names := by
      rw [← hri]; simp only [recOf]
      refine List.mem_append_right _ ?_
      simp only [guardSlot, hg, hs, List.mem_singleton]
    rw [← hagree.1 d hnames] at hd
    rcases hcases with ⟨he, hc⟩ | ⟨he, hc⟩ | ⟨⟨vs, he⟩, hc⟩
    · rw [he] at hd
      have hy := yielded_of hs hd.tt_inv
      cases want with
      | true => exact run (by rw [hw _ hy]; rfl) hc
      | false => exact skip (by rw [hw _ hy]; rfl) hc
    · rw [he] at hd
      have hy := yielded_of hs hd.ff_inv
      cases want with
      | true => exact skip (by rw [hw _ hy]; rfl) hc
      | false => exact run (by rw [hw _ hy]; rfl) hc
    · rw [he] at hd
      obtain ⟨us, hv, _⟩ := hd.tup_inv
      have hy := yielded_none hs hv
      exact skip (by rw [hw _ hy]; simp) hc

def Mof (listed : Array Bool) : Nat → Bool := fun j => listed.getD j false

theorem Mof_set {listed : Array Bool} {i : Nat} (hi : i < listed.size) : Mof (listed.setIfInBounds i true) i = true ∧ ∀ j, j ≠ i → Mof (listed.setIfInBounds i true) j = Mof listed j := by
  refine ⟨?_, fun j hj => ?_⟩
  · simp [Mof, hi]
  · exact getD_set_ne false (Ne.symm hj)

theorem countP_lt {p p' : Nat → Bool} {i : Nat} (l : List Nat) (hle : ∀ j, p' j = true → p j = true) (hi : i ∈ l) (h1 : p i = true) (h2 : p' i = false) : l.countP p' < l.countP p := by
  induction l with
  | nil => cases hi
  | cons x t ih =>
    rw [List.countP_cons, List.countP_cons]
    have hmono : t.countP p' ≤ t.countP p := List.countP_mono_left fun j _ hj => hle j hj
    rcases List.mem_cons.1 hi with hi | hi
    · subst hi; simp only [h1, h2, if_true, Bool.false_eq_true, if_false]; omega
    · have := ih hi
      cases hx : p' x with
      | true => rw [hle x hx]; simp only [if_true]; omega
      | false => simp only [Bool.false_eq_true, if_false]; omega

theorem region_all (hT : TOk P T) (hE : EOk P T) {nx0 : Nat} {E : List (Oper × Ef)} {s0 : S} (R : Region' T P X ops nx0 E s0) (hQ : ∀ a w, Sat X (fo nx0 (fun _ => true) E 0 s0) a w → Q .normal a w) :
    ∀ (fuel : Nat) (listed : Array Bool) (a : Act) (w : World), listed.size = ops.size → Closed ops.toList (Mof listed) → Sat X (fo nx0 (Mof listed) E 0 s0) a w →
      (List.range ops.size).countP (fun j => !Mof listed j) ≤ fuel → wpAny P .any ops Q fuel listed a w := by
  have hlenE : E.length = ops.size := by have := congrArg List.length R.hE0; simpa using this
  have hdone : ∀ (listed : Array Bool) (a : Act) (w : World), listed.size = ops.size → Closed ops.toList (Mof listed) → Sat X (fo nx0 (Mof listed) E 0 s0) a w → Region.ready .any ops listed = [] → Q .normal a w := by
    intro listed a w hsz hc hs hr
    have hall : ∀ j, j < ops.size → Mof listed j = true := by
      intro j
      induction j using Nat.strongRecOn with
      | _ j ih =>
        intro hj
        cases hm : Mof listed j with
        | true => rfl
        | false =>
          have : j ∈ Region.ready .any ops listed := mem_ready.2 ⟨by
            have : listed.getD j true = listed.getD j false := by simp [hsz, hj]
            rw [this]; exact hm, ops[j], by simp [hj], fun e he hb => by
              have hlt := edgesOk_get ops.toList R.hedge j ops[j] (by simp [hj]) e (by simpa using he) hb
              exact ih e.on (by omega) (by omega)⟩
          rw [hr] at this; cases this
    refine hQ a w ?_
    rw [fo_congr (M' := Mof listed) E fun j _ hj => (hall j (by omega)).symm]
    exact hs
  intro fuel
  induction fuel with
  | zero =>
    intro listed a w hsz hc hs hcount
    have hr : Region.ready .any ops listed = [] := by
      cases hq : Region.ready .any ops listed with
      | nil => rfl
      | cons i t =>
        have hi : i ∈ Region.ready .any ops listed := by rw [hq]; exact List.mem_cons_self
        obtain ⟨h1, o, ho, _⟩ := mem_ready.1 hi
        have hlt := (Array.getElem?_eq_some_iff.1 ho).1
        have hm : Mof listed i = false := by
          have : listed.getD i true = listed.getD i false := by simp [hsz, hlt]
          rw [this] at h1; exact h1
        have h0 : (List.range ops.size).countP (fun j => !Mof listed j) = 0 := by omega
        rw [List.countP_eq_zero] at h0
        have := h0 i (List.mem_range.2 hlt)
        rw [hm] at this; exact absurd rfl this
    exact ⟨hr, hdone listed a w hsz hc hs hr⟩
  | succ fuel ih =>
    intro listed a w hsz hc hs hcount
    refine ⟨hdone listed a w hsz hc hs, fun i hi => ?_⟩
    obtain ⟨h1, o, ho, hed⟩ := mem_ready.1 hi
    have hlt := (Array.getElem?_eq_some_iff.1 ho).1
    have hm : Mof listed i = false := by
      have : listed.getD i true = listed.getD i false := by simp [hsz, hlt]
      rw [this] at h1; exact h1
    obtain ⟨m1, m2⟩ := Mof_set (listed := listed) (i := i) (by rw [hsz]; exact hlt)
    refine region_step hT hE R hc hm (by rw [Array.getElem?_toList]; exact ho) (fun e he hb => hed e (by simpa using he) hb) m1 m2 hs fun a' w' hs' => ih _ a' w' (by simp [hsz]) ?_ hs' ?_
    · intro k o' hk ho' e he hb
      by_cases c : k = i
      · subst c
        rw [Array.getElem?_toList, ho] at ho'
        cases ho'
        exact getD_set_true (hed e (by simpa using he) hb)
      · rw [m2 k c] at hk
        exact getD_set_true (hc k o' hk ho' e he hb)
    · have := countP_lt (p := fun j => !Mof listed j) (p' := fun j => !Mof (listed.setIfInBounds i true) j) (i := i) (List.range ops.size) (fun j hj => by
        by_cases c : j = i
        · subst c; rw [m1] at hj; cases hj
        · rw [m2 j c] at hj; exact hj) (List.mem_range.2 hlt) (by rw [hm]; rfl) (by rw [m1]; rfl)
      omega

theorem St.raise {I : Nat → Prop} {g : Gam} {s : S} {a : Act} {w : World} (h : St X I g s a w) (n : Nat) (hn : s.nx ≤ n) : St X I g ⟨s.nt, n, s.env, s.hp⟩ a w :=
  ⟨h.df, h.sz, fun j => (h.slots j).mono (fun _ h => h) (fun _ _ => rfl) hn fun _ _ => rfl, h.heap.mono (fun _ h => h) (fun _ h => .inl h) (fun _ _ => rfl) hn (fun _ _ => rfl) (Nat.le_refl _), h.bound, h.up, h.down, h.own, h.keep, h.fr,
    fun id hid => Nat.lt_of_lt_of_le (h.low id hid) hn⟩

theorem draw_ok (hT : TOk P T) (hE : EOk P T) (hm : P.follows .mixedOrders = true) : DrawOk P T := by
  intro X id ops s a w K Q ⟨I, g, h⟩ hk hQ
  obtain ⟨nt, nx, env, hp⟩ := s
  simp only [vdraw] at hk
  obtain ⟨E, hE0, hst, hk⟩ := vds_run ops.toList hk
  obtain ⟨hok, hk⟩ := vneed_true hk
  simp only [drawOk, Bool.and_eq_true, List.nil_append] at hok
  obtain ⟨⟨⟨o1, o2⟩, o3⟩, o4⟩ := hok
  have R : Region' T P X ops nx E ⟨nt, nx + 100, env, hp⟩ := ⟨hE0, hst, o1, o2, Nat.le_of_ble_eq_true o3, o4, rfl, fun k => ⟨fun j hj => by have := (h.slots j).ids_lt _ hj; simp only at this; omega,
    by
      cases hq : lookH hp (nx + k) with
      | none => rfl
      | some o => have := (h.heap.obj _ _ (lookH_mem hq)).1; simp only at this; omega,
    fun i o hi hj => by have := (h.heap.obj _ _ (lookH_mem hi)).2.ids_lt _ hj; simp only at this; omega⟩,
    fun k hk => by
      obtain ⟨⟨i, o⟩, h1, h2⟩ := List.mem_map.1 hk
      have := (h.heap.obj _ _ h1).1
      simp only at this h2
      omega, h.heap.nodup, h.low⟩
  refine wp_region_any hm (region_all hT hE R (fun a w hs => hQ _ a w hs hk) ops.size (Array.replicate ops.size false) a _ (by simp) ?_ ?_ ?_)
  · intro k o hk ho
    simp [Mof, Array.getD_eq_getD_getElem?, Array.getElem?_replicate] at hk
    split at hk <;> cases hk
  · rw [fo_none E fun j _ => by
      simp [Mof, Array.getD_eq_getD_getElem?, Array.getElem?_replicate]
      split <;> rfl]
    exact ⟨I, g, (h.raise (nx + 100) (by simp)).world rfl rfl rfl (Nat.le_refl _) fun _ _ => rfl⟩
  · exact Nat.le_trans List.countP_le_length (by simp)
end
end Go.VL
