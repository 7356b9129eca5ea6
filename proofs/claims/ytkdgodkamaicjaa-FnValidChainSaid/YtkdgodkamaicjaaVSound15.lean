/- V-logic, part 17: regions, code, functions. -/
import Derived.Test.YtkdgodkamaicjaaVSound14
import Derived.Deep.LoopGhost
namespace Go.VL
set_option linter.unusedVariables false
set_option linter.unusedSimpArgs false
section
variable {P : Program} {T : TT} {X : Cx} {I : Nat → Prop} {g : Gam} {s : S} {a : Act} {w : World} {o : Oper} {K : S → Prop}
  {N : Act → World → Prop} {Q : Exit → Act → World → Prop}

theorem slot_yielded {ops : Array Oper} {j d : Nat} (hs : slotOf ops.toList j = some d) : (ops[j]?).bind (·.dst) = some d := by
  unfold slotOf at hs
  rw [Array.getElem?_toList] at hs
  split at hs
  · rename_i o ho; rw [ho]; exact hs
  · cases hs

theorem yielded_of {ops : Array Oper} {j d : Nat} (hs : slotOf ops.toList j = some d) {tmps : Array Value} {b : Bool} (h : tmps.getD d undef = .bool b) : yielded ops tmps j = some b := by
  unfold yielded
  rw [slot_yielded hs]
  have : tmps[d]? = some (.bool b) := by
    rw [Array.getD_eq_getD_getElem?] at h
    cases hq : tmps[d]? with
    | none => rw [hq] at h; cases h
    | some v => rw [hq] at h; simp at h; rw [h]
  simp [this]
theorem yielded_none {ops : Array Oper} {j d : Nat} (hs : slotOf ops.toList j = some d) {tmps : Array Value} {vs : Array Value} (h : tmps.getD d undef = .tuple vs) : yielded ops tmps j = none := by
  unfold yielded
  rw [slot_yielded hs]
  cases hq : tmps[d]? with
  | none => simp [hq]
  | some v =>
    rw [Array.getD_eq_getD_getElem?, hq] at h
    simp at h
    simp [hq, h]

theorem sound_guard (hT : TOk P T) (hE : EOk P T) {ops : Array Oper} {rest : List Oper} (h : St X I g s a w) (hk : vguard T P ops.toList o s K)
    (hN : ∀ s' a' w', Sat X s' a' w' → K s' → wpList P ops Q rest a' w') : wpList P ops Q (o :: rest) a w := by
  have run : ∀ {s' : S} {I'} {g'}, Region.wanted o (yielded ops a.tmps) = true → St X I' g' s' a w → vop T P o s' K → wpList P ops Q (o :: rest) a w := fun hw hst hk => by
    unfold wpList
    rw [if_pos hw]
    exact .inl (sound_op hT hE hst hk hN)
  have skip : ∀ {s' : S} {I'} {g'}, Region.wanted o (yielded ops a.tmps) = false → St X I' g' s' a w → s'.put o.dst (.tup []) K → wpList P ops Q (o :: rest) a w := fun hw hst hk => by
    unfold wpList
    rw [if_neg (by rw [hw]; simp)]
    obtain ⟨s2, h1, h2⟩ := hst.putO (v := .tup []) (val := undef) (RV.tup [] [] rfl (by simp)) hk
    exact hN s2 _ _ h1 h2
  unfold vguard at hk
  split at hk
  · rename_i hg
    exact run (by simp [Region.wanted, hg]) h hk
  · rename_i j want hg
    have hw : ∀ y, yielded ops a.tmps j = y → Region.wanted o (yielded ops a.tmps) = (y == some want) := fun y hy => by simp [Region.wanted, hg, hy]
    split at hk
    · exact hk.elim
    · rename_i d hs
      have hd := h.slots d
      split at hk
      · rename_i he
        rw [he] at hd
        have hy := yielded_of hs hd.tt_inv
        cases want with
        | true => exact run (by rw [hw _ hy]; rfl) h hk
        | false => exact skip (by rw [hw _ hy]; rfl) h hk
      · rename_i he
        rw [he] at hd
        have hy := yielded_of hs hd.ff_inv
        cases want with
        | true => exact skip (by rw [hw _ hy]; rfl) h hk
        | false => exact run (by rw [hw _ hy]; rfl) h hk
      · rename_i p he
        rw [he] at hd
        have hv := hd.bool_inv
        have hy := yielded_of hs hv
        obtain ⟨k1, k2⟩ := vif_true hk
        have put' : ∀ v : V, RV I g s.nx w v (.bool p) → d < s.nt → St X I g { s with env := (d, v) :: s.env } a w := fun v hvv hlt => by
          refine ⟨h.df, h.sz, fun j => ?_, h.heap, h.bound, h.up, h.down, h.own, h.keep, h.fr, h.low⟩
          rw [look_cons]
          split
          · rename_i e; subst e; rw [hv]; exact hvv
          · exact h.slots j
        cases p with
        | true =>
          have k1 := k1 rfl
          rw [S.put_some] at k1
          cases want with
          | true => exact run (by rw [hw _ hy]; rfl) (put' .tt .tt k1.1) k1.2
          | false => exact skip (by rw [hw _ hy]; rfl) (put' .tt .tt k1.1) k1.2
        | false =>
          have k2 := k2 rfl
          rw [S.put_some] at k2
          cases want with
          | true => exact skip (by rw [hw _ hy]; rfl) (put' .ff .ff k2.1) k2.2
          | false => exact run (by rw [hw _ hy]; rfl) (put' .ff .ff k2.1) k2.2
      · rename_i xs he
        rw [he] at hd
        obtain ⟨vs, hv, _⟩ := hd.tup_inv
        have hy := yielded_none hs hv
        exact skip (by rw [hw _ hy]; simp) h hk
      · exact hk.elim

theorem sound_ops (hT : TOk P T) (hE : EOk P T) {ops : Array Oper} (rest : List Oper) : ∀ {s a w}, Sat X s a w → vops T P ops.toList rest s K →
    (∀ s' a' w', Sat X s' a' w' → K s' → Q .normal a' w') → wpList P ops Q rest a w := by
  induction rest with
  | nil => intro s a w h hk hN; exact hN s a w h hk
  | cons o t ih =>
    intro s a w ⟨I, g, h⟩ hk hN
    exact sound_guard hT hE h hk fun s' a' w' h' hk' => ih h' hk' hN

theorem V.nrm_RV {n : Nat} {v u : V} (h : v.nrm = u.nrm) {val : Value} (hv : RV I g n w v val) : RV I g n w u val := by
  have one : ∀ {v u : V} {val : Value}, v.norm = u.norm → RV I g n w v val → RV I g n w u val := by
    intro v u val h hv
    have back : RV I g n w v.norm val := by
      cases v with
      | tt => rw [hv.tt_inv]; exact RV.mkbool _ _
      | ff => rw [hv.ff_inv]; exact RV.mkbool _ _
      | _ => exact hv
    rw [h] at back
    cases u with
    | tt => rw [back.bool_inv]; exact .tt
    | ff => rw [back.bool_inv]; exact .ff
    | _ => exact back
  have list : ∀ {xs ys : List V} {vs : List Value}, normL xs = normL ys → RVs I g n w xs vs → RVs I g n w ys vs := by
    intro xs
    induction xs with
    | nil => intro ys vs h hr; cases ys with
      | nil => exact hr
      | cons y t => cases h
    | cons x t ih =>
      intro ys vs h hr
      cases ys with
      | nil => cases h
      | cons y u =>
        simp only [normL, List.cons.injEq] at h
        cases vs with
        | nil => have := hr.1; simp at this
        | cons v vs =>
          have h2 := ih (vs := vs) h.2 ⟨by have := hr.1; simpa using this, fun i x v hx hv => hr.2 (i + 1) x v (by simpa using hx) (by simpa using hv)⟩
          refine ⟨by simp [h2.1], fun i z q hz hq => ?_⟩
          cases i with
          | zero => cases hz; cases hq; exact one h.1 (hr.2 0 _ _ rfl rfl)
          | succ i => exact h2.2 i z q (by simpa using hz) (by simpa using hq)
  cases v with
  | tup xs =>
    cases u with
    | tup ys =>
      simp only [V.nrm, V.tup.injEq] at h
      obtain ⟨vs, rfl, hl, hr⟩ := hv.tup_inv
      have := list h ⟨hl, hr⟩
      exact .tup ys vs this.1 this.2
    | _ => simp [V.nrm, V.norm] at h
  | agg xs =>
    cases u with
    | agg ys =>
      simp only [V.nrm, V.agg.injEq] at h
      obtain ⟨vs, rfl, hl, hr⟩ := hv.agg_inv
      have := list h ⟨hl, hr⟩
      exact .agg ys vs this.1 this.2
    | _ => simp [V.nrm, V.norm] at h
  | _ =>
    cases u with
    | tup ys => simp [V.nrm, V.norm] at h
    | agg ys => simp [V.nrm, V.norm] at h
    | _ => refine one ?_ hv; exact h

theorem normL_RVs {xs ys : List V} (h : normL xs = normL ys) : xs.length = ys.length ∧ ∀ (i : Nat) y, ys[i]? = some y → ∃ x, xs[i]? = some x ∧ x.norm = y.norm := by
  induction xs generalizing ys with
  | nil => cases ys with
    | nil => exact ⟨rfl, by simp⟩
    | cons y t => cases h
  | cons x t ih =>
    cases ys with
    | nil => cases h
    | cons y u =>
      simp only [normL, List.cons.injEq] at h
      obtain ⟨h1, h2⟩ := ih h.2
      exact ⟨by simp [h1], fun i z hz => by
        cases i with
        | zero => cases hz; exact ⟨x, rfl, h.1⟩
        | succ i => obtain ⟨q, q1, q2⟩ := h2 i z (by simpa using hz); exact ⟨q, by simpa using q1, q2⟩⟩

theorem V.norm_RV {n : Nat} {v u : V} (h : v.norm = u.norm) {val : Value} (hv : RV I g n w v val) : RV I g n w u val := by
  have back : RV I g n w v.norm val := by
    cases v with
    | tt => rw [hv.tt_inv]; exact RV.mkbool _ _
    | ff => rw [hv.ff_inv]; exact RV.mkbool _ _
    | _ => exact hv
  rw [h] at back
  cases u with
  | tt => rw [back.bool_inv]; exact .tt
  | ff => rw [back.bool_inv]; exact .ff
  | _ => exact back

theorem nrmHs_get : ∀ {hs hs' : List (Nat × List V)}, mapHs normL hs = mapHs normL hs' → keysHs hs = keysHs hs' ∧ ∀ i us', (i, us') ∈ hs' → ∃ us, (i, us) ∈ hs ∧ normL us = normL us' := by
  intro hs
  induction hs with
  | nil => intro hs' h; cases hs' with
    | nil => exact ⟨rfl, fun i us hm => by cases hm⟩
    | cons q t => obtain ⟨a, b⟩ := q; simp [mapHs] at h
  | cons q t ih =>
    obtain ⟨a, b⟩ := q
    intro hs' h
    cases hs' with
    | nil => simp [mapHs] at h
    | cons q' t' =>
      obtain ⟨a', b'⟩ := q'
      simp only [mapHs, List.cons.injEq, Prod.mk.injEq] at h
      obtain ⟨⟨rfl, h1⟩, h2⟩ := h
      obtain ⟨k1, k2⟩ := ih h2
      refine ⟨by simp only [keysHs, List.map_cons] at k1 ⊢; rw [k1], fun i us' hm => ?_⟩
      rcases List.mem_cons.1 hm with hm | hm
      · cases hm; exact ⟨b, List.mem_cons_self, h1⟩
      · obtain ⟨us, h3, h4⟩ := k2 i us' hm; exact ⟨us, List.mem_cons_of_mem _ h3, h4⟩

theorem O.nrm_RO {n id : Nat} {ob ob' : O} (h : ob.nrm = ob'.nrm) (hr : RO I g n w id ob) : RO I g n w id ob' := by
  cases ob with
  | arr x => cases ob' with
    | arr y => cases h; exact hr
    | box => cases h
    | hol => cases h
    | deep => cases h
  | deep p f x hs => cases ob' with
    | arr y => cases h
    | box => cases h
    | hol => cases h
    | deep p' f' x' hs' =>
      simp only [O.nrm, O.deep.injEq] at h
      obtain ⟨rfl, rfl, rfl, e1⟩ := h
      obtain ⟨k1, k2⟩ := nrmHs_get e1
      cases hr with
      | deep0 _ _ _ hg hs h0 =>
        cases hs' with
        | nil => exact .deep0 _ _ _ hg hs h0
        | cons q t => obtain ⟨a, b⟩ := q; simp [mapHs] at e1
      | deep _ _ _ _ b cap cells ty hg hsl hb hl hcap hh hkn ht h2 hd hty =>
        rw [k1] at hkn ht hd
        refine .deep _ _ _ hs' b cap cells ty hg hsl hb hl hcap (fun i us' hm => ?_) hkn ht (fun i us' hm j hj => ?_) hd hty
        · obtain ⟨us, h3, h4⟩ := k2 i us' hm
          exact ⟨(hh i us h3).1, by rw [← (normL_RVs h4).1]; exact (hh i us h3).2⟩
        · obtain ⟨us, h3, h4⟩ := k2 i us' hm
          obtain ⟨l1, m1⟩ := normL_RVs h4
          obtain ⟨u, v, a1, a2, a3, a4⟩ := h2 i us h3 j hj
          have hlt : j < us'.length := by rw [← l1, (hh i us h3).2]; exact hj
          obtain ⟨y, hy, e⟩ := m1 j us'[j] (List.getElem?_eq_getElem hlt)
          rw [a1] at hy; cases hy
          exact ⟨us'[j], v, List.getElem?_eq_getElem hlt, a2, a3, V.norm_RV e a4⟩
  | hol x hi vs => cases ob' with
    | arr y => cases h
    | box => cases h
    | deep => cases h
    | hol x' hi' vs' =>
      simp only [O.nrm, O.hol.injEq] at h
      obtain ⟨rfl, rfl, e1⟩ := h
      obtain ⟨l1, m1⟩ := normL_RVs e1
      cases hr with
      | hol _ _ _ b cap cells ty hg hs hb hl hcap hhi hv hh h2 ht =>
        refine .hol x hi vs' b cap cells ty hg hs hb hl hcap hhi (by rw [← l1]; exact hv) hh (fun j hj => ?_) ht
        obtain ⟨u, v, a1, a2, a3, a4⟩ := h2 j hj
        have hlt : j < vs'.length := by rw [← l1, hv]; exact hj
        obtain ⟨y, hy, e⟩ := m1 j vs'[j] (List.getElem?_eq_getElem hlt)
        rw [a1] at hy; cases hy
        exact ⟨vs'[j], v, List.getElem?_eq_getElem hlt, a2, a3, V.norm_RV e a4⟩
  | box pre bs post =>
    cases ob' with
    | arr y => cases h
    | hol => cases h
    | deep => cases h
    | box pre' bs' post' =>
      simp only [O.nrm, O.box.injEq] at h
      obtain ⟨e1, rfl, e3⟩ := h
      obtain ⟨l1, m1⟩ := normL_RVs e1
      obtain ⟨l3, m3⟩ := normL_RVs e3
      cases hr with
      | box _ _ _ b cl cells ty hg hb hl h1 h2 h3 =>
        refine .box pre' bs post' b cl cells ty hg hb (by rw [hl, l1, l3]) (fun i x v hx hv => ?_) (by rw [← l1]; exact h2) (fun i x v hx hv => ?_)
        · obtain ⟨y, hy, e⟩ := m1 i x hx; exact V.norm_RV e (h1 i y v hy hv)
        · obtain ⟨y, hy, e⟩ := m3 i x hx; exact V.norm_RV e (h3 i y v hy (by rw [l1]; exact hv))

theorem entE_look {r : Nat → Nat} {env : List (Nat × V)} : ∀ {env' : List (Nat × V)}, entE r env env' → ∀ j, look env' j = .any ∨ (look env j).nrm = ((look env' j).ren r).nrm := by
  intro env'
  induction env' with
  | nil => intro _ j; exact .inl rfl
  | cons x t ih =>
    obtain ⟨k, v⟩ := x
    intro h j
    rw [look_cons]
    split
    · rename_i e; subst e; exact .inr h.1
    · exact ih h.2 j
theorem idsLtE_look {n : Nat} {env : List (Nat × V)} (h : idsLtE n env = true) (j : Nat) : (look env j).idsLt n = true := by
  induction env with
  | nil => rfl
  | cons x t ih =>
    obtain ⟨k, v⟩ := x
    simp only [idsLtE] at h
    split at h
    · rename_i h1
      rw [look_cons]
      split
      · exact h1
      · exact ih h
    · cases h
theorem entH_get {r : Nat → Nat} {hp : List (Nat × O)} : ∀ {hp' : List (Nat × O)}, entH r hp hp' → ∀ i o, (i, o) ∈ hp' → ∃ o', lookH hp (r i) = some o' ∧ o'.nrm = (o.map (renL r)).nrm := by
  intro hp'
  induction hp' with
  | nil => intro _ i o hm; cases hm
  | cons x t ih =>
    obtain ⟨k, v⟩ := x
    intro h i o hm
    rcases List.mem_cons.1 hm with hm | hm
    · cases hm
      have := h.1
      cases hq : lookH hp (r k) with
      | none => rw [hq] at this; cases this
      | some o' => rw [hq] at this; exact ⟨o', rfl, Option.some.inj this⟩
    · exact ih h.2 i o hm
theorem O.nrm_box {o o' : O} (h : o.nrm = o'.nrm) : o.isBox = o'.isBox := by
  cases o <;> cases o' <;> first | rfl | (cases h; done) | (simp only [O.nrm, O.deep.injEq] at h; exact h.1)
theorem Nst.nrm {id b : Nat} {o o' : O} (h : o.nrm = o'.nrm) (hn : Nst g w id o' b) : Nst g w id o b := by
  cases o' with
  | deep p f x hs => cases o with
    | deep p' f' x' hs' =>
      simp only [O.nrm, O.deep.injEq] at h
      obtain ⟨rfl, rfl, rfl, e⟩ := h
      simp only [Nst, (nrmHs_get e).1] at hn ⊢; exact hn
    | _ => cases h
  | _ => exact hn.elim
theorem Own.nrm {id b : Nat} {o o' : O} (h : o.nrm = o'.nrm) (hn : Own g w id o' b) : Own g w id o b := hn.imp _root_.id (Nst.nrm h)
theorem stayIn_get {n0 : Nat} {r : Nat → Nat} {hp : List (Nat × O)} (h : stayIn n0 r hp = true) : ∀ i o, (i, o) ∈ hp → o.isBox = true → i < n0 → r i = i := by
  induction hp with
  | nil => intro i o hm; cases hm
  | cons x t ih =>
    obtain ⟨k, v⟩ := x
    intro i o hm hb hn
    simp only [stayIn] at h
    rcases List.mem_cons.1 hm with hm | hm
    · cases hm
      rw [hb] at h
      simp only at h
      split at h
      · rename_i h1; have := Nat.le_of_ble_eq_true h1; omega
      · split at h
        · rename_i h2; exact Nat.eq_of_beq_eq_true h2
        · cases h
    · split at h
      · exact ih h i o hm hb hn
      · split at h
        · exact ih h i o hm hb hn
        · split at h
          · exact ih h i o hm hb hn
          · cases h

theorem Own.ren {r : Nat → Nat} {i b : Nat} {o : O} (ho : Own (fun i => g (r i)) w i o b) : Own g w (r i) (o.map (renL r)) b := by
  rcases ho with ⟨cl, ho⟩ | ho
  · exact .inl ⟨cl, ho⟩
  · refine .inr ?_
    cases o with
    | deep p f x hs => simpa only [Nst, O.map, keysHs_map] using ho
    | _ => exact ho.elim
/-- the heap under other names -/
theorem HOk.rename {n n' : Nat} {hp hp' : List (Nat × O)} (h : HOk I g n w hp) {bk : List Nat} (hnd : bk.Nodup) (hlen : n' ≤ bk.length) (hent : entH (rnf bk) hp hp') (hlt : idsLtH n' hp' = true) (hk : nodupN (keysH hp') = true) :
    HOk I (fun i => g (rnf bk i)) n' w hp' := by
  have hk' := nodupN_iff.1 hk
  rw [keysH_eq] at hk'
  have hl := idsLtH_get hlt
  have hm : ∀ i o, (i, o) ∈ hp' → ∃ o', (rnf bk i, o') ∈ hp ∧ o'.nrm = (o.map (renL (rnf bk))).nrm := fun i o hmi => by
    obtain ⟨o', h1, h2⟩ := entH_get hent i o hmi; exact ⟨o', lookH_mem h1, h2⟩
  refine ⟨fun i o hmi => ?_, fun i o b hmi hg => ?_, hk', fun i o i' o' b h1 h2 g1 g2 => ?_⟩
  · obtain ⟨o', h1, h2⟩ := hm i o hmi
    exact ⟨(hl i o hmi).1, (O.nrm_RO h2 (h.obj _ _ h1).2).unren (hl i o hmi).2⟩
  · obtain ⟨o', h1, h2⟩ := hm i o hmi
    exact h.apart _ _ b h1 (hg.ren.nrm h2)
  · obtain ⟨p1, q1, r1⟩ := hm i o h1
    obtain ⟨p2, q2, r2⟩ := hm i' o' h2
    exact rnf_inj hnd (Nat.lt_of_lt_of_le (hl i o h1).1 hlen) (Nat.lt_of_lt_of_le (hl i' o' h2).1 hlen) (h.inj _ _ _ _ b q1 q2 (g1.ren.nrm r1) (g2.ren.nrm r2))

theorem cnvH_keys (hp : List (Nat × O)) : (cnvH hp).map (·.1) = hp.map (·.1) := by
  induction hp with
  | nil => rfl
  | cons x t ih => obtain ⟨k, v⟩ := x; simp [cnvH, ih]
theorem mem_cnvH {hp : List (Nat × O)} {i : Nat} {ob : O} (h : (i, ob) ∈ cnvH hp) : ∃ o', (i, o') ∈ hp ∧ ob = o'.cnv := by
  induction hp with
  | nil => cases h
  | cons x t ih =>
    obtain ⟨k, v⟩ := x
    rcases List.mem_cons.1 h with h | h
    · cases h; exact ⟨v, List.mem_cons_self, rfl⟩
    · obtain ⟨o', h1, h2⟩ := ih h; exact ⟨o', List.mem_cons_of_mem _ h1, h2⟩
theorem O.isBox_cnv (o : O) : o.cnv.isBox = o.isBox := by
  cases o with
  | hol x hi vs => simp only [O.cnv]; split <;> rfl
  | _ => rfl
theorem RO.cnv {n id : Nat} {ob : O} (h : RO I g n w id ob) : RO I g n w id ob.cnv := by
  cases ob with
  | hol y hi us =>
    simp only [O.cnv]
    split
    · rename_i x hx
      cases h with
      | hol _ _ _ b cap cells ty hg hs hbk hl hcap hhi hvl h h2 ht =>
        have hle : ∀ j, j < y.stride → hi * y.stride + j < cells.length := fun j hj => by rw [hl]; exact row_in (hi := hi) hhi hcap hj
        have hrow : RV I g n w (.agg us) (.agg ((cells.drop (hi * y.stride)).take y.stride).toArray) := by
          refine .agg us _ ?_ fun j u v hu hv => ?_
          · simp only [List.length_take, List.length_drop]
            cases hst : y.stride with
            | zero => omega
            | succ k => have := hle k (by omega); rw [hst] at this; omega
          · rw [List.getElem?_take] at hv
            split at hv
            · rename_i hj
              rw [List.getElem?_drop] at hv
              obtain ⟨u', v', a1, a2, _, a4⟩ := h2 j hj
              rw [hu] at a1; rw [hv] at a2; cases a1; cases a2; exact a4
            · cases hv
        obtain ⟨e1, e2, e3, e4, e5, e6⟩ := setRow_inv hx hhi hrow
        refine .arr x b cap cells ty (by rw [e3]; exact hg) e1 hbk (by rw [e2]; exact hl) (by rw [e3]; exact hcap) (fun i j z hi' hz => ?_) (fun hp => ht (by rw [← setRow_pg hx]; exact hp))
        rw [e3] at hi'
        rw [e2]
        by_cases c : i = hi
        · subst c
          obtain ⟨u, q1, q2, _⟩ := e6 j z hz
          refine ⟨u, ?_, q2⟩
          have q1 : ((cells.drop (i * y.stride)).take y.stride)[j]? = some u := by simpa [Value.cells] using q1
          rw [List.getElem?_take] at q1
          split at q1
          · rw [List.getElem?_drop] at q1; exact q1
          · cases q1
        · rw [e4 i c] at hz
          exact h i j z hi' c hz
    · exact h
  | _ => exact h
theorem Own.cnv {id b : Nat} {o : O} (h : Own g w id o.cnv b) : Own g w id o b := by
  cases o with
  | hol x hi vs =>
    simp only [O.cnv] at h
    split at h
    · exact .inl (h.nd fun _ _ _ _ e => by cases e)
    · exact h
  | _ => exact h
theorem HOk.cnv {n : Nat} {hp : List (Nat × O)} (h : HOk I g n w hp) : HOk I g n w (cnvH hp) := by
  refine ⟨fun i o hm => ?_, fun i o b hm hg => ?_, by rw [cnvH_keys]; exact h.nodup, fun i o i' o' b h1 h2 g1 g2 => ?_⟩
  · obtain ⟨o', h1, rfl⟩ := mem_cnvH hm; exact ⟨(h.obj i o' h1).1, (h.obj i o' h1).2.cnv⟩
  · obtain ⟨o', h1, rfl⟩ := mem_cnvH hm; exact h.apart i o' b h1 hg.cnv
  · obtain ⟨p1, q1, rfl⟩ := mem_cnvH h1
    obtain ⟨p2, q2, rfl⟩ := mem_cnvH h2
    exact h.inj i p1 i' p2 b q1 q2 g1.cnv g2.cnv
/-- what is told of a state, a little less -/
theorem St.cnv (h : St X I g s a w) : St X I g { s with hp := cnvH s.hp } a w := by
  refine ⟨h.df, h.sz, h.slots, h.heap.cnv, h.bound, h.up, h.down, ?_, ?_, h.fr, h.low⟩
  · rintro b ⟨i, o, hm, hg⟩
    obtain ⟨o', h1, rfl⟩ := mem_cnvH hm
    exact h.own b ⟨i, o', h1, hg.cnv⟩
  · intro i o hm hb hK
    obtain ⟨o', h1, rfl⟩ := mem_cnvH hm
    rw [O.isBox_cnv] at hb
    exact h.keep i o' h1 hb hK

end
end Go.VL
