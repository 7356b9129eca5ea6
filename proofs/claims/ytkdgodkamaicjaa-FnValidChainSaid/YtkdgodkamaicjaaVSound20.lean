/- V-logic, part 22: the same for every operation. -/
import Derived.Test.YtkdgodkamaicjaaVSound19
namespace Go.VL
set_option linter.unusedVariables false
set_option linter.unusedSimpArgs false
section
variable {P : Program} {T : TT} {o : Oper} {lk : Nat → Option O}

def rdOf (o : Oper) (ev : Operand → V) : List Nat := match Op.quietName o.op with | true => [] | false => idsL (ess ev o.op.operands.toList)

theorem ess_map (ev : Operand → V) (l : List Operand) : ess ev l = l.map ev := by
  induction l with
  | nil => rfl
  | cons x t ih => simp only [ess, ih, List.map_cons]
theorem eps_map (ev : Operand → V) (l : List (Nat × Operand)) : eps ev l = l.map fun p => (p.1, ev p.2) := by
  induction l with
  | nil => rfl
  | cons x t ih => obtain ⟨i, x⟩ := x; simp only [eps, ih, List.map_cons]
theorem ess_ids {ev : Operand → V} {l : List Operand} {x : Operand} (hx : x ∈ l) {i : Nat} (hi : i ∈ (ev x).ids) : i ∈ idsL (ess ev l) := by
  rw [ess_map]; exact mem_idsL.2 ⟨_, List.mem_map.2 ⟨x, hx, rfl⟩, hi⟩

/-- the same operands, the same objects -/
structure Same (o : Oper) (ev ev' : Operand → V) (lk lk' : Nat → Option O) : Prop where
  evs : ∀ x ∈ o.op.operands, ev' x = ev x
  lks : ∀ i ∈ rdOf o ev, lk' i = lk i

theorem Same.rd {ev ev' : Operand → V} {lk' : Nat → Option O} (h : Same o ev ev' lk lk') (hq : Op.quietName o.op = false) {x : Operand} (hx : x ∈ o.op.operands) : ∀ i ∈ (ev x).ids, lk' i = lk i := fun i hi =>
  h.lks i (by unfold rdOf; rw [hq]; exact ess_ids (by simpa using hx) hi)

theorem okObs_congr {lk' : Nat → Option O} {xs : List V} (h : ∀ i ∈ idsL xs, lk' i = lk i) : ∀ {l : List (Nat × O)}, okObs lk' xs l = okObs lk xs l := by
  intro l
  induction l with
  | nil => rfl
  | cons q t ih =>
    obtain ⟨i, o⟩ := q
    cases o with
    | arr z => simp only [okObs, okRes_congr h, ih]
    | deep p f x hs => cases hs <;> simp only [okObs, ih]
    | _ => rfl
theorem hasLk_congr {r : Nat → Nat} {lk lk' : Nat → Option O} {l : List (Nat × O)} (h : ∀ q o, (q, o) ∈ l → lk' (r q) = lk (r q)) (hl : hasLk r lk l) : hasLk r lk' l := by
  induction l with
  | nil => trivial
  | cons q t ih =>
    obtain ⟨i, o⟩ := q
    exact ⟨(h i o List.mem_cons_self).trans hl.1, ih (fun q o hq => h q o (List.mem_cons_of_mem _ hq)) hl.2⟩
theorem vcalld_det {f : Nat} {args : List V} {K : Ef → Prop} (h : vcalld P f args lk K) : ∃ e, K e ∧ ∀ (lk' : Nat → Option O) (K' : Ef → Prop), (∀ i ∈ idsL args, lk' i = lk i) → (∀ i ∈ e.rds, lk' i = lk i) → K' e → vcalld P f args lk' K' := by
  unfold vcalld at h
  rcases h with ⟨res, e1, e2, hspec, hk⟩ | ⟨res, hsc, hid, hspec, hk⟩ | ⟨z, st, hst, e1, hspec, hk⟩ | ⟨z, st, hst, e1, e2, e3, hspec, hk⟩ | ⟨id, fargs, pre, post, bs, pre', post', bs', res, hspec, hl, q1, q2, q3, q4, q6, q7, q8, q9, hk⟩ | ⟨news, st, hst, e1, e2, e3, hspec, hk⟩ | ⟨rn, fargs, hin, hos, news, st, hst, hspec, hc, e1, hl, hk⟩
  · obtain ⟨e, h1, h2⟩ := fin_det hk
    exact ⟨e, h1, fun lk' K' hl hr hk => by unfold vcalld; exact .inl ⟨res, e1, e2, hspec, h2 _ hk⟩⟩
  · obtain ⟨e, h1, h2⟩ := fin_det hk
    exact ⟨e, h1, fun lk' K' hl hr hk => by unfold vcalld; rw [lendL_congr _ hl]; exact .inr (.inl ⟨res, hsc, hid, hspec, h2 _ hk⟩)⟩
  · exact ⟨_, hk, fun lk' K' hl hr hk => by unfold vcalld; exact .inr (.inr (.inl ⟨z, st, hst, e1, hspec, hk⟩))⟩
  · exact ⟨_, hk, fun lk' K' hl hr hk => by unfold vcalld; rw [lendL_congr _ hl]; exact .inr (.inr (.inr (.inl ⟨z, st, hst, (okRes_congr hl).trans e1, e2, e3, hspec, hk⟩)))⟩
  · refine ⟨_, hk, fun lk' K' hl' hr hk => ?_⟩
    unfold vcalld
    exact .inr (.inr (.inr (.inr (.inl ⟨id, fargs, pre, post, bs, pre', post', bs', res, hspec, (hl' id (memN_iff.1 q9)).trans hl, q1, q2, q3, q4, q6, q7, q8, q9, hk⟩))))
  · refine ⟨_, hk, fun lk' K' hl' hr hk => ?_⟩
    unfold vcalld; rw [lendL_congr _ hl']
    exact .inr (.inr (.inr (.inr (.inr (.inl ⟨news, st, hst, (okObs_congr hl').trans e1, e2, e3, hspec, hk⟩)))))
  · refine ⟨_, hk, fun lk' K' hl' hr hk => ?_⟩
    unfold vcalld
    refine .inr (.inr (.inr (.inr (.inr (.inr ⟨rn, fargs, hin, hos, news, st, hst, hspec, hc, e1, hasLk_congr (fun q o hq => hr _ ?_) hl, hk⟩)))))
    obtain ⟨j, rfl, hj⟩ := enumO_mem hq
    have hlt : 0 + j < rn.length := by have := (List.getElem?_eq_some_iff.1 hj).1; have := hc.1; omega
    exact List.mem_of_getElem? (rnf_get rn _ hlt)

theorem vd_det {ev : Operand → V} {K : Ef → Prop} (h : vd T P o ev lk K) : ∃ e, K e ∧ ∀ (ev' : Operand → V) (lk' : Nat → Option O) (K' : Ef → Prop), Same o ev ev' lk lk' → (∀ i ∈ e.rds, lk' i = lk i) → K' e → vd T P o ev' lk' K' := by
  unfold vd at h
  split at h
  · rename_i x ho
    obtain ⟨e, h1, h2⟩ := fin_det h
    exact ⟨e, h1, fun ev' lk' K' hs hr0 hk => by unfold vd; rw [ho]; simp only [hs.evs x (by simp [ho, Op.operands])]; exact h2 _ hk⟩
  · rename_i x ho
    obtain ⟨e, h1, h2⟩ := fin_det h
    exact ⟨e, h1, fun ev' lk' K' hs hr0 hk => by unfold vd; rw [ho]; simp only [hs.evs x (by simp [ho, Op.operands])]; exact h2 _ hk⟩
  · rename_i c x y ho
    split at h
    · rename_i q
      obtain ⟨e, h1, h2⟩ := fin_det h
      exact ⟨e, h1, fun ev' lk' K' hs hr0 hk => by unfold vd; rw [ho]; simp only [hs.evs x (by simp [ho, Op.operands]), hs.evs c (by simp [ho, Op.operands]), q]; exact h2 _ hk⟩
    · rename_i q
      obtain ⟨e, h1, h2⟩ := fin_det h
      exact ⟨e, h1, fun ev' lk' K' hs hr0 hk => by unfold vd; rw [ho]; simp only [hs.evs y (by simp [ho, Op.operands]), hs.evs c (by simp [ho, Op.operands]), q]; exact h2 _ hk⟩
    · exact h.elim
  · rename_i t ho
    obtain ⟨e, h1, h2⟩ := vdAlloc_det h
    exact ⟨e, h1, fun ev' lk' K' hs hr0 hk => by unfold vd; rw [ho]; exact h2 _ hk⟩
  · rename_i t x ho
    split at h
    · rename_i q
      exact ⟨_, h, fun ev' lk' K' hs hr0 hk => by unfold vd; rw [ho]; simp only [hs.evs x (by simp [ho, Op.operands]), q]; exact hk⟩
    · exact h.elim
  · rename_i t parts ho
    split at h
    · rename_i q
      obtain ⟨v, h1, h2⟩ := vbuild_det h
      obtain ⟨e, h3, h4⟩ := fin_det h1
      refine ⟨e, h3, fun ev' lk' K' hs hr0 hk => ?_⟩
      have he : eps ev' parts.toList = eps ev parts.toList := by
        rw [eps_map, eps_map]; exact List.map_congr_left fun p hp => by rw [hs.evs p.2 (by simp only [ho, Op.operands, List.mem_toArray]; exact List.mem_map.2 ⟨p, hp, rfl⟩)]
      unfold vd; rw [ho]
      simp only [he, q]
      exact h2 _ (h4 _ hk)
    · exact h.elim
  · rename_i t len parts ho
    obtain ⟨v, h1, h2⟩ := vdLit_det h
    refine ⟨_, h1, fun ev' lk' K' hs hr0 hk => ?_⟩
    have he : eps ev' parts.toList = eps ev parts.toList := by
      rw [eps_map, eps_map]; exact List.map_congr_left fun p hp => by rw [hs.evs p.2 (by simp only [ho, Op.operands, List.mem_toArray]; exact List.mem_map.2 ⟨p, hp, rfl⟩)]
    unfold vd; rw [ho]
    simp only [he]
    exact h2 K' hk
  · rename_i t x ho
    obtain ⟨v, h1, h2⟩ := vload_det h
    obtain ⟨e, h3, h4⟩ := fin_det h1
    refine ⟨e, h3, fun ev' lk' K' hs hr0 hk => ?_⟩
    have hx : x ∈ o.op.operands := by simp [ho, Op.operands]
    have hr := hs.rd (by rw [ho]; rfl) hx
    unfold vd; rw [ho]; simp only [hs.evs x hx]
    exact h2 _ _ hr (h4 _ hk)
  · rename_i t x y ho
    split at h
    · rename_i q
      obtain ⟨id, ob, h1, h2⟩ := vdStore_det h
      refine ⟨_, h1, fun ev' lk' K' hs hr0 hk => ?_⟩
      have hx : x ∈ o.op.operands := by simp [ho, Op.operands]
      have hr := hs.rd (by rw [ho]; rfl) hx
      unfold vd; rw [ho]; simp only [q, hs.evs x hx, hs.evs y (by simp [ho, Op.operands])]
      exact h2 _ (fun id ob => K' (.set (.tup []) id ob)) hr hk
    · exact h.elim
  · rename_i x ho
    split at h
    · rename_i q
      exact ⟨_, h, fun ev' lk' K' hs hr0 hk => by unfold vd; rw [ho]; simp only [hs.evs x (by simp [ho, Op.operands]), q]; exact hk⟩
    · rename_i q
      exact ⟨_, h, fun ev' lk' K' hs hr0 hk => by unfold vd; rw [ho]; simp only [hs.evs x (by simp [ho, Op.operands]), q]; exact hk⟩
    · exact h.elim
  · rename_i op t x y yt ho
    split at h
    · rename_i q
      obtain ⟨v, h1, h2⟩ := vbin_det h
      obtain ⟨e, h3, h4⟩ := fin_det h1
      exact ⟨e, h3, fun ev' lk' K' hs hr0 hk => by unfold vd; rw [ho]; simp only [hs.evs x (by simp [ho, Op.operands]), hs.evs y (by simp [ho, Op.operands]), q]; exact h2 _ (h4 _ hk)⟩
    · exact h.elim
  · rename_i op t x ho
    obtain ⟨v, h1, h2⟩ := vun_det h
    obtain ⟨e, h3, h4⟩ := fin_det h1
    exact ⟨e, h3, fun ev' lk' K' hs hr0 hk => by unfold vd; rw [ho]; simp only [hs.evs x (by simp [ho, Op.operands])]; exact h2 _ (h4 _ hk)⟩
  · rename_i r d x ho
    split at h
    · rename_i q
      obtain ⟨v, h1, h2⟩ := vconv_det h
      obtain ⟨e, h3, h4⟩ := fin_det h1
      exact ⟨e, h3, fun ev' lk' K' hs hr0 hk => by unfold vd; rw [ho]; simp only [hs.evs x (by simp [ho, Op.operands]), q]; exact h2 _ (h4 _ hk)⟩
    · exact h.elim
  · rename_i t l c ho
    obtain ⟨e, h1, h2⟩ := vdMake_det h
    exact ⟨e, h1, fun ev' lk' K' hs hr0 hk => by unfold vd; rw [ho]; simp only [hs.evs l (by simp [ho, Op.operands]), hs.evs c (by simp [ho, Op.operands])]; exact h2 _ hk⟩
  · rename_i t x lo hi mx ho
    obtain ⟨v, h1, h2⟩ := vslice_det h
    obtain ⟨e, h3, h4⟩ := fin_det h1
    refine ⟨e, h3, fun ev' lk' K' hs hr0 hk => ?_⟩
    have hlo : lo.map ev' = lo.map ev := by cases lo with | none => rfl | some z => simp only [Option.map_some, hs.evs z (by simp [ho, Op.operands])]
    have hhi : hi.map ev' = hi.map ev := by cases hi with | none => rfl | some z => simp only [Option.map_some, hs.evs z (by simp [ho, Op.operands])]
    have hmx : mx.map ev' = mx.map ev := by cases mx with | none => rfl | some z => simp only [Option.map_some, hs.evs z (by simp [ho, Op.operands])]
    unfold vd; rw [ho]; simp only [hs.evs x (by simp [ho, Op.operands]), hlo, hhi, hmx]; exact h2 _ (h4 _ hk)
  · rename_i t x f ho
    obtain ⟨v, h1, h2⟩ := vfieldAddr_det h
    obtain ⟨e, h3, h4⟩ := fin_det h1
    exact ⟨e, h3, fun ev' lk' K' hs hr0 hk => by unfold vd; rw [ho]; simp only [hs.evs x (by simp [ho, Op.operands])]; exact h2 _ (h4 _ hk)⟩
  · rename_i t x f ho
    obtain ⟨v, h1, h2⟩ := vfield_det h
    obtain ⟨e, h3, h4⟩ := fin_det h1
    exact ⟨e, h3, fun ev' lk' K' hs hr0 hk => by unfold vd; rw [ho]; simp only [hs.evs x (by simp [ho, Op.operands])]; exact h2 _ (h4 _ hk)⟩
  · rename_i t x ix ho
    obtain ⟨v, h1, h2⟩ := vindexAddr_det h
    obtain ⟨e, h3, h4⟩ := fin_det h1
    refine ⟨e, h3, fun ev' lk' K' hs hr0 hk => ?_⟩
    have hx : x ∈ o.op.operands := by simp [ho, Op.operands]
    have hr := hs.rd (by rw [ho]; rfl) hx
    unfold vd; rw [ho]; simp only [hs.evs x hx, hs.evs ix (by simp [ho, Op.operands])]; exact h2 _ _ hr (h4 _ hk)
  · rename_i x i ho
    split at h
    · rename_i q
      split at h
      · rename_i q2
        obtain ⟨e, h3, h4⟩ := fin_det h
        exact ⟨e, h3, fun ev' lk' K' hs hr0 hk => by unfold vd; rw [ho]; simp only [hs.evs x (by simp [ho, Op.operands]), q, q2]; exact h4 _ hk⟩
      · exact h.elim
    · exact h.elim
  · rename_i c ho
    have hargs : ∀ {ev' : Operand → V} {lk' : Nat → Option O}, Same o ev ev' lk lk' → ess ev' c.args.toList = ess ev c.args.toList := fun hs => by
      rw [ess_map, ess_map]; exact List.map_congr_left fun p hp => hs.evs p (by simp only [ho, Op.operands, Call.operands]; cases c.callee <;> simp_all)
    have hrd : ∀ {ev' : Operand → V} {lk' : Nat → Option O}, Same o ev ev' lk lk' → ∀ x ∈ c.args.toList, ∀ i ∈ (ev x).ids, lk' i = lk i := fun hs x hx => hs.rd (by rw [ho]; rfl) (by simp only [ho, Op.operands, Call.operands]; cases c.callee <;> simp_all)
    split at h
    · rename_i b hc
      split at h
      · rename_i x he
        split at h
        · rename_i t ts hts
          split at h
          · rename_i e sz by' kd hti
            obtain ⟨v, h1, h2⟩ := vlen_det h
            obtain ⟨e, h3, h4⟩ := fin_det h1
            refine ⟨e, h3, fun ev' lk' K' hs hr0 hk => ?_⟩
            unfold vd; rw [ho]; simp only [hc, hargs hs, he, hts, hti]
            refine h2 _ _ (fun i hi => ?_) (h4 _ hk)
            have : x ∈ ess ev c.args.toList := by rw [he]; simp
            rw [ess_map] at this
            obtain ⟨y, hy, rfl⟩ := List.mem_map.1 this
            exact hrd hs y hy i hi
          · exact h.elim
        · exact h.elim
      · rename_i x y he
        split at h
        · rename_i t t' hts
          split at h
          · rename_i e sz by' kd hti
            obtain ⟨e, h1, h2⟩ := vdApp_det h
            refine ⟨e, h1, fun ev' lk' K' hs hr0 hk => ?_⟩
            unfold vd; rw [ho]; simp only [hc, hargs hs, he, hts, hti]
            refine h2 _ _ (fun i hi => ?_) hk
            have h5 : x ∈ ess ev c.args.toList := by rw [he]; simp
            have h6 : y ∈ ess ev c.args.toList := by rw [he]; simp
            rw [ess_map] at h5 h6
            obtain ⟨p, hp, rfl⟩ := List.mem_map.1 h5
            obtain ⟨q, hq, rfl⟩ := List.mem_map.1 h6
            rcases hi with hi | hi
            · exact hrd hs p hp i hi
            · exact hrd hs q hq i hi
          · exact h.elim
        · exact h.elim
      · rename_i x y he
        obtain ⟨v, h1, h2⟩ := vmm_det h
        obtain ⟨e, h3, h4⟩ := fin_det h1
        exact ⟨e, h3, fun ev' lk' K' hs hr0 hk => by unfold vd; rw [ho]; simp only [hc, hargs hs, he]; exact h2 _ (h4 _ hk)⟩
      · rename_i x y he
        obtain ⟨v, h1, h2⟩ := vmm_det h
        obtain ⟨e, h3, h4⟩ := fin_det h1
        exact ⟨e, h3, fun ev' lk' K' hs hr0 hk => by unfold vd; rw [ho]; simp only [hc, hargs hs, he]; exact h2 _ (h4 _ hk)⟩
      · exact h.elim
    · rename_i f hc
      split at h
      · rename_i g' caps he
        obtain ⟨e, h1, h2⟩ := vcalld_det h
        refine ⟨e, h1, fun ev' lk' K' hs hr0 hk => ?_⟩
        have hf : f ∈ o.op.operands := by simp [ho, Op.operands, Call.operands, hc]
        unfold vd; rw [ho]; simp only [hc, hargs hs, hs.evs f hf, he]
        refine h2 _ _ (fun i hi => ?_) hr0 hk
        obtain ⟨x, hx, hi⟩ := mem_idsL.1 hi
        rcases List.mem_append.1 hx with hx | hx
        · rw [ess_map] at hx
          obtain ⟨y, hy, rfl⟩ := List.mem_map.1 hx
          exact hrd hs y hy i hi
        · exact hs.rd (by rw [ho]; rfl) hf i (by rw [he]; simp only [V.ids]; exact mem_idsL.2 ⟨x, hx, hi⟩)
      · exact h.elim
    · exact h.elim
  · exact h.elim
end
end Go.VL
