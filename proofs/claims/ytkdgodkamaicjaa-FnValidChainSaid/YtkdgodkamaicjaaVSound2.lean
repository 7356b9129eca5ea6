/- V-logic, part 4: operations that only compute. -/
import Derived.Test.YtkdgodkamaicjaaVSound1
namespace Go.VL
set_option linter.unusedVariables false
set_option linter.unusedSimpArgs false
variable {P : Program} {T : TT} {X : Cx} {I : Nat → Prop} {g : Gam} {s : S} {a : Act} {w : World} {o : Oper} {K : S → Prop}
  {N : Act → World → Prop} {Q : Exit → Act → World → Prop}

theorem RV_cval (n : Nat) (v : Value) : RV I g n w (cval v) v := by
  unfold cval
  split
  · exact .c _ _ (.int _ _)
  · exact .tt
  · exact .ff
  · exact .nil
  · rename_i vs
    split
    · rename_i h
      have : vs = #[] := by simpa using h
      subst this
      exact .tup [] [] rfl (by simp)
    · exact .any _
  · exact .any _

theorem St.eval (h : St X I g s a w) (x : Operand) : RV I g s.nx w (evl s.env x) (a.eval x) := by
  cases x with
  | tmp t => exact h.slots t
  | const v => exact RV_cval _ v
  | global g => exact .any _
  | func f => exact .fn f [] [] rfl (by simp)

theorem RV.int_inv {k : IntKind} {m : Int} {n : Nat} {v : Value} (h : RV I g n w (.c (.int k m)) v) : v = .int k m := by
  cases h with | c _ _ h => cases h with
  | int => rfl
  | empty _ _ _ hs => cases hs
  | sl _ _ _ _ _ hs => cases hs
theorem RV.bool_inv {m : Bool} {n : Nat} {v : Value} (h : RV I g n w (.c (.bool m)) v) : v = .bool m := by
  cases h with | c _ _ h => cases h with
  | bool => rfl
  | empty _ _ _ hs => cases hs
  | sl _ _ _ _ _ hs => cases hs
theorem RV.tt_inv {n : Nat} {v : Value} (h : RV I g n w .tt v) : v = .bool true := by cases h; rfl
theorem RV.ff_inv {n : Nat} {v : Value} (h : RV I g n w .ff v) : v = .bool false := by cases h; rfl
theorem RV.bool?_inv {x : V} {b : Bool} (hx : x.bool? = some b) {n : Nat} {v : Value} (h : RV I g n w x v) : v = .bool b := by
  cases x with
  | tt => cases hx; exact h.tt_inv
  | ff => cases hx; exact h.ff_inv
  | c y => cases y with
    | bool c => cases hx; exact h.bool_inv
    | _ => cases hx
  | _ => cases hx
theorem RV.mkbool (b : Bool) (n : Nat) : RV I g n w (.c (.bool b)) (.bool b) := .c _ _ (.bool b)
theorem RV.mkint (k : IntKind) (m : Int) (n : Nat) : RV I g n w (.c (.int k m)) (.int k m) := .c _ _ (.int k m)
theorem RV.agg_inv {xs : List V} {n : Nat} {v : Value} (h : RV I g n w (.agg xs) v) : ∃ vs : List Value, v = .agg vs.toArray ∧ xs.length = vs.length ∧ ∀ (i : Nat) x v, xs[i]? = some x → vs[i]? = some v → RV I g n w x v := by
  cases h with | agg _ vs hl h => exact ⟨vs, rfl, hl, h⟩
theorem RV.tup_inv {xs : List V} {n : Nat} {v : Value} (h : RV I g n w (.tup xs) v) : ∃ vs : List Value, v = .tuple vs.toArray ∧ xs.length = vs.length ∧ ∀ (i : Nat) x v, xs[i]? = some x → vs[i]? = some v → RV I g n w x v := by
  cases h with | tup _ vs hl h => exact ⟨vs, rfl, hl, h⟩

theorem sameK_eq {k k' : IntKind} (h : sameK k k' = true) : k = k' := by cases k <;> cases k' <;> first | rfl | cases h

theorem sound_move {x : Operand} (ho : o.op = .move x ∨ o.op = .assign x) (h : St X I g s a w) (hk : s.put o.dst (evl s.env x) K)
    (hN : ∀ s' a' w', Sat X s' a' w' → K s' → N a' w') : o.wp P a w N Q := by
  refine finish_value (v := evl s.env x) (val := a.eval x) (w' := w) ?_ h (h.eval x) hk hN
  rcases ho with ho | ho <;> simp [execOp, ho]

theorem vif_true {p : Bool} {A B : Prop} (h : vif p A B) : (p = true → A) ∧ (p = false → B) := by unfold vif at h; exact h
theorem vneed_true {c A : Prop} (h : vneed c A) : c ∧ A := by unfold vneed at h; exact h
theorem vint_true {k : IntKind} {r : Int} {K : V → Prop} (h : vint k r K) : K (.c (.int k (k.wrap r))) := by
  unfold vint at h
  rcases h with ⟨e, h⟩ | h
  · rw [e]; exact h
  · exact h

theorem sound_pick {c x y : Operand} (ho : o.op = .pick c x y) (h : St X I g s a w)
    (hk : match evl s.env c with
      | .tt => s.put o.dst (evl s.env x) K
      | .ff => s.put o.dst (evl s.env y) K
      | .c (.bool p) => vif p (s.put o.dst (evl s.env x) K) (s.put o.dst (evl s.env y) K)
      | _ => False)
    (hN : ∀ s' a' w', Sat X s' a' w' → K s' → N a' w') : o.wp P a w N Q := by
  have hc := h.eval c
  have key : ∀ p : Bool, a.eval c = .bool p → (p = true → s.put o.dst (evl s.env x) K) → (p = false → s.put o.dst (evl s.env y) K) → o.wp P a w N Q := by
    intro p hp h1 h2
    cases p with
    | true => exact finish_value (v := evl s.env x) (val := a.eval x) (w' := w) (by simp [execOp, ho, hp, asBool]) h (h.eval x) (h1 rfl) hN
    | false => exact finish_value (v := evl s.env y) (val := a.eval y) (w' := w) (by simp [execOp, ho, hp, asBool]) h (h.eval y) (h2 rfl) hN
  split at hk
  · rename_i e; rw [e] at hc; exact key true hc.tt_inv (fun _ => hk) (fun h => by cases h)
  · rename_i e; rw [e] at hc; exact key false hc.ff_inv (fun h => by cases h) (fun _ => hk)
  · rename_i p e; rw [e] at hc; exact key p hc.bool_inv (vif_true hk).1 (vif_true hk).2
  · exact hk.elim

theorem run_equalIn_bool (d : Nat) {t : TypeId} (w : World) (hu : P.underlying t = some .bool) (b b' : Bool) :
    (Op.equalIn (d + 1) t (.bool b) (.bool b')).run P w = .ok (b == b') w := by
  simp [Op.equalIn, run_underlying hu]

/-- the run of a binary operation -/
theorem run_vbin {op : BinOp} {t : TypeId} {x y : V} {n : Nat} {vx vy : Value} {KV : V → Prop} {ox oy : Operand}
    (hx : RV I g n w x vx) (hy : RV I g n w y vy) (hk : vbin op x y KV)
    (hT : (∃ b b', x.bool? = some b ∧ y.bool? = some b') → P.underlying t = some .bool)
    (hP : (∃ l, x = .agg l) → P.eqGuardType P.depth t = false ∧ ∀ a b c d : Int, ∀ w : World, (Op.equal t (.agg #[.int .i64 a, .int .i64 b]) (.agg #[.int .i64 c, .int .i64 d])).run P w = .ok (a == c && b == d) w) :
    ∃ v val, (do eqGuard op t ox oy vx vy; binOp op t vx vy : Sem Value).run P w = .ok val w ∧ RV I g n w v val ∧ KV v := by
  unfold vbin at hk
  split at hk
  · rename_i k p k' q
    have e1 := hx.int_inv
    have e2 := hy.int_inv
    subst e1 e2
    split at hk
    · exact hk.elim
    · rename_i hs
      have hkk := sameK_eq hs
      subst hkk
      have hg : ∀ op, (eqGuard op t ox oy (.int k p) (.int k q)).run P w = .ok () w := by
        intro op; cases op <;> rfl
      split at hk <;> try exact hk.elim
      · exact ⟨_, _, by simp [hg, binOp, Op.intArith], RV.mkint _ _ _, vint_true hk⟩
      · exact ⟨_, _, by simp [hg, binOp, Op.intArith], RV.mkint _ _ _, vint_true hk⟩
      · exact ⟨_, _, by simp [hg, binOp, Op.intArith], RV.mkint _ _ _, vint_true hk⟩
      · obtain ⟨h0, hk⟩ := vneed_true hk
        exact ⟨_, _, by simp [hg, binOp, Op.intDiv, h0], RV.mkint _ _ _, vint_true hk⟩
      · obtain ⟨h0, hk⟩ := vneed_true hk
        exact ⟨_, _, by simp [hg, binOp, Op.intDiv, h0], RV.mkint _ _ _, hk⟩
      · exact ⟨_, _, by simp [hg, binOp, Op.intBits, vbit], RV.mkint _ _ _, hk⟩
      · exact ⟨_, _, by simp [hg, binOp, Op.intBits, vbit], RV.mkint _ _ _, hk⟩
      · exact ⟨_, _, by simp [hg, binOp, Op.intBits, vbit], RV.mkint _ _ _, hk⟩
      · exact ⟨_, _, by simp [hg, binOp, Op.intCmp], RV.mkbool _ _, hk⟩
      · exact ⟨_, _, by simp [hg, binOp, Op.intCmp], RV.mkbool _ _, hk⟩
      · exact ⟨_, _, by simp [hg, binOp, Op.intCmp], RV.mkbool _ _, hk⟩
      · exact ⟨_, _, by simp [hg, binOp, Op.intCmp], RV.mkbool _ _, hk⟩
      · exact ⟨_, _, by simp [hg, binOp, Op.intCmp], RV.mkbool _ _, hk⟩
      · exact ⟨_, _, by simp [hg, binOp, Op.intCmp], RV.mkbool _ _, hk⟩
  · rename_i p q r u
    obtain ⟨hP1, hP2⟩ := hP ⟨_, rfl⟩
    obtain ⟨vs, rfl, hl, hv⟩ := hx.agg_inv
    obtain ⟨us, rfl, hl', hu⟩ := hy.agg_inv
    have : ∃ a b, vs = [a, b] := by
      match vs, hl with | [a, b], _ => exact ⟨a, b, rfl⟩
    obtain ⟨a1, b1, rfl⟩ := this
    have : ∃ a b, us = [a, b] := by
      match us, hl' with | [a, b], _ => exact ⟨a, b, rfl⟩
    obtain ⟨a2, b2, rfl⟩ := this
    have e1 := (hv 0 _ _ rfl rfl).int_inv
    have e2 := (hv 1 _ _ rfl rfl).int_inv
    have e3 := (hu 0 _ _ rfl rfl).int_inv
    have e4 := (hu 1 _ _ rfl rfl).int_inv
    subst e1 e2 e3 e4
    split at hk <;> try exact hk.elim
    · exact ⟨_, _, by simp [eqGuard, hP1, binOp, hP2], RV.mkbool _ _, hk⟩
    · exact ⟨_, _, by simp [eqGuard, hP1, binOp, hP2], RV.mkbool _ _, hk⟩
  · split at hk
    · rename_i b b' hb hb'
      have e1 := RV.bool?_inv hb hx
      have e2 := RV.bool?_inv hb' hy
      subst e1 e2
      have hu := hT ⟨b, b', hb, hb'⟩
      have hg : ∀ op, (eqGuard op t ox oy (.bool b) (.bool b')).run P w = .ok () w := by
        intro op; cases op <;> rfl
      have he : (Op.equal t (.bool b) (.bool b')).run P w = .ok (b == b') w := by
        exact run_equalIn_bool 9999 w hu b b'
      split at hk <;> try exact hk.elim
      · exact ⟨_, _, by simp [hg, binOp, he], RV.mkbool _ _, hk⟩
      · refine ⟨_, _, by simp [hg, binOp, he]; rfl, ?_, hk⟩
        cases b <;> cases b' <;> exact RV.mkbool _ _
    · exact hk.elim
end Go.VL
