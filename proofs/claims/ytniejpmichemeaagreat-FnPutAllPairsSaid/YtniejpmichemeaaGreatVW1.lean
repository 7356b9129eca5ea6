/- V-logic: PT22 PT23 PT24 PT25 -/
import Derived.Test.YtniejpmichemeaaGreatVPE
namespace Go.VL
set_option linter.unusedVariables false
set_option linter.unusedSimpArgs false
theorem zou {xs : List Int} {k : Int} (ha : Asc xs) : k ∈ xs ↔ belF xs k < xs.length ∧ xs.getD (belF xs k) 0 = k := by
 constructor
 ·intro h
  obtain ⟨i, hi, e⟩ := List.getElem_of_mem h
  have e' : xs.getD i 0 = k := by rw [List.getD_eq_getElem?_getD, List.getElem?_eq_getElem hi]; exact e
  have hb : belF xs k = i := zv4 ha (by omega) (fun j hj => by have := zez ha hj hi; omega) (fun j h1 h2 => by
   rcases Nat.lt_or_ge i j with c | c
   ·have := zez ha c h2; omega
   ·obtain rfl : i = j := by omega
    omega)
  rw [hb]; exact ⟨hi, e'⟩
 ·rintro ⟨h1, h2⟩
  rw [← h2]; exact zaq 0 h1
theorem zmk (xs : List Pr) (i : Nat) : (xs.map Pr.key).getD i 0 = (xs.getD i ⟨0, 0⟩).key := by
 rw [List.getD_eq_getElem?_getD, List.getD_eq_getElem?_getD, List.getElem?_map]
 cases xs[i]? <;> rfl
theorem PgOk.row {ps : List Pg} {p : Pg} (h : PgOk ps p) (hk : p.kids = []) : zdb (zab p) = true ∧ p.vals.length = p.keys.length := by
 have k4 := h.k4
 rcases h.c with ⟨_, h2, h3⟩ | ⟨_, _, h2, _⟩
 ·refine ⟨?_, h2⟩
  unfold zdb
  rw [zdi h2, h.vk, zby p h2, decide_eq_true (by omega), Bool.true_and, Bool.and_true]
  refine List.all_eq_true.2 fun x hx => decide_eq_true (h3 _ ?_)
  rw [← zq8 h2]; exact List.mem_map.2 ⟨x, hx, rfl⟩
 ·rw [hk] at h2; simp at h2
structure LvB (root : Int) (ps : List Pg) : Prop where
 pos : 1 ≤ (lvF ps (htF root ps) root).length
 le : (lvF ps (htF root ps) root).length ≤ 97656
 four : (psF root ps).length ≤ 4 * (lvF ps (htF root ps) root).length
 len : (psF root ps).length ≤ 100
def wiF (x : Pr) : Bool → List Pr → List Pr
 |d, [] => if d then [] else [x]
 |d, p :: t => (if !d && decide (x.key ≤ p.key) then [x] else []) ++ ((if p.key ≠ x.key then [p] else []) ++ wiF x (d || decide (x.key ≤ p.key)) t)
theorem z6s {x : Pr} : ∀ {l : List Pr}, (∀ y ∈ l, x.key < y.key) → wiF x true l = l
 |[], _ => rfl
 |p :: t, h => by
  have := h p List.mem_cons_self
  rw [wiF, if_neg (by simp), if_pos (by omega), Bool.true_or, z6s fun y hy => h y (List.mem_cons_of_mem _ hy)]; rfl
theorem z9f {x : Pr} : ∀ {l : List Pr}, Asc (l.map Pr.key) → wiF x false l = zbc l x
 |[], _ => rfl
 |p :: t, ha => by
  rw [List.map_cons, zcf] at ha
  have lt : ∀ z ∈ t, p.key < z.key := fun z hz => ha.1 _ (List.mem_map.2 ⟨z, hz, rfl⟩)
  rw [wiF, zbc]
  by_cases c : p.key < x.key
  ·rw [if_pos c, decide_eq_false (show ¬ x.key ≤ p.key by omega), if_neg (by simp), if_pos (by omega), Bool.or_false, z9f ha.2]; rfl
  ·rw [if_neg c, decide_eq_true (show x.key ≤ p.key by omega), if_pos (by rfl), Bool.or_true, z6s fun y hy => by have := lt y hy; omega]
   by_cases e : p.key = x.key
   ·rw [if_pos e, if_neg (by omega)]; rfl
   ·rw [if_neg e, if_pos (by omega)]; rfl
theorem wiF_step {x : Pr} {d : Bool} {l : List Pr} {i : Nat} (h : i < l.length) : wiF x d (l.drop i) = (if !d && decide (x.key ≤ (l.getD i ⟨0, 0⟩).key) then [x] else []) ++ ((if (l.getD i ⟨0, 0⟩).key ≠ x.key then [l.getD i ⟨0, 0⟩] else []) ++ wiF x (d || decide (x.key ≤ (l.getD i ⟨0, 0⟩).key)) (l.drop (i + 1))) := by
 rw [List.drop_eq_getElem_cons h, List.getD_eq_getElem?_getD, List.getElem?_eq_getElem h]; rfl
theorem VT0.psF {root : Int} {ps : List Pg} {h : Nat} (v : VT0 root ps h) (w : Go.VL.vTree root ps = true) : htF root ps = h ∧ Go.VL.psF root ps = prF ps h (zb ps root) := by
 have q := za0 w
 have e : htF root ps = h := by
  rw [v.vTree, decide_eq_true_iff] at w
  exact (v.vt w.1 w.2).ht
 refine ⟨e, ?_⟩
 unfold Go.VL.psF
 rw [e]
structure PutF (root : Int) (ps : List Pg) (x : Pr) (r : Int × List Pg) : Prop where
 v0 : vTree root ps = true
 rng : (0 ≤ x.key ∧ x.key ≤ 99) ∧ -1000 ≤ x.value ∧ x.value ≤ 1000
 vt : vTree r.1 r.2 = true
 prs : psF r.1 r.2 = zbc (psF root ps) x
 le : zea ps x.key (htF root ps) root ≤ htF root ps
 ht : htF r.1 r.2 = htF root ps + (if zea ps x.key (htF root ps) root = htF root ps then 1 else 0)
 len : r.2.length = ps.length + zea ps x.key (htF root ps) root + (if zea ps x.key (htF root ps) root = htF root ps then 1 else 0)
 root : r.1 ≠ root ↔ zea ps x.key (htF root ps) root = htF root ps
theorem z4h {root : Int} {ps : List Pg} {x : Pr} {r : Int × List Pg} (h : zqc root ps x = some r) : PutF root ps x r := by
 obtain ⟨h1, h2, rfl, h4⟩ := zrm h
 have v := za0 h1
 have hb := zsq.1 h2
 have P := zvr v.v0 hb.2 hb.1.1 hb.1.2
 obtain ⟨e1, e2⟩ := P.vt.psF h4
 refine ⟨h1, hb, h4, ?_, P.le, ?_, P.len, P.root⟩
 ·rw [e2, P.prs]; rfl
 ·rw [e1]; split <;> omega
end Go.VL
