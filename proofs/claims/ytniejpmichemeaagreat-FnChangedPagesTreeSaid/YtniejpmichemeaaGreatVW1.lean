/- V-logic: PT22 PT23 PT24 PT25 -/
import Derived.Test.YtniejpmichemeaaGreatVPE
namespace Go.VL
set_option linter.unusedVariables false
set_option linter.unusedSimpArgs false
theorem zou {xs : List Int} {k : Int} (ha : Asc xs) : k ∈ xs ↔ belF xs k < xs.length ∧ xs.getD (belF xs k) 0 = k := by
 constructor
 ·intro h
  obtain ⟨i, hi, e⟩ := List.getElem_of_mem h
  have e' : xs.getD i 0 = k := by rw [List.getD_eq_getElem?_getD, List.getElem?_eq_getElem hi]; exact e
  have hb : belF xs k = i := zv4 ha (by omega) (fun j hj => by have := zez ha hj hi; omega) (fun j h1 h2 => by
   rcases Nat.lt_or_ge i j with c | c
   ·have := zez ha c h2; omega
   ·obtain rfl : i = j := by omega
    omega)
  rw [hb]; exact ⟨hi, e'⟩
 ·rintro ⟨h1, h2⟩
  rw [← h2]; exact zaq 0 h1
theorem zmk (xs : List Pr) (i : Nat) : (xs.map Pr.key).getD i 0 = (xs.getD i ⟨0, 0⟩).key := by
 rw [List.getD_eq_getElem?_getD, List.getD_eq_getElem?_getD, List.getElem?_map]
 cases xs[i]? <;> rfl
theorem PgOk.row {ps : List Pg} {p : Pg} (h : PgOk ps p) (hk : p.kids = []) : zdb (zab p) = true ∧ p.vals.length = p.keys.length := by
 have k4 := h.k4
 rcases h.c with ⟨_, h2, h3⟩ | ⟨_, _, h2, _⟩
 ·refine ⟨?_, h2⟩
  unfold zdb
  rw [zdi h2, h.vk, zby p h2, decide_eq_true (by omega), Bool.true_and, Bool.and_true]
  refine List.all_eq_true.2 fun x hx => decide_eq_true (h3 _ ?_)
  rw [← zq8 h2]; exact List.mem_map.2 ⟨x, hx, rfl⟩
 ·rw [hk] at h2; simp at h2
structure LvB (root : Int) (ps : List Pg) : Prop where
 pos : 1 ≤ (lvF ps (htF root ps) root).length
 le : (lvF ps (htF root ps) root).length ≤ 97656
 four : (psF root ps).length ≤ 4 * (lvF ps (htF root ps) root).length
 len : (psF root ps).length ≤ 100
theorem VT0.psF {root : Int} {ps : List Pg} {h : Nat} (v : VT0 root ps h) (w : Go.VL.vTree root ps = true) : htF root ps = h ∧ Go.VL.psF root ps = prF ps h (zb ps root) := by
 have q := za0 w
 have e : htF root ps = h := by
  rw [v.vTree, decide_eq_true_iff] at w
  exact (v.vt w.1 w.2).ht
 refine ⟨e, ?_⟩
 unfold Go.VL.psF
 rw [e]
structure PutF (root : Int) (ps : List Pg) (x : Pr) (r : Int × List Pg) : Prop where
 v0 : vTree root ps = true
 rng : (0 ≤ x.key ∧ x.key ≤ 99) ∧ -1000 ≤ x.value ∧ x.value ≤ 1000
 vt : vTree r.1 r.2 = true
 prs : psF r.1 r.2 = zbc (psF root ps) x
 le : zea ps x.key (htF root ps) root ≤ htF root ps
 ht : htF r.1 r.2 = htF root ps + (if zea ps x.key (htF root ps) root = htF root ps then 1 else 0)
 len : r.2.length = ps.length + zea ps x.key (htF root ps) root + (if zea ps x.key (htF root ps) root = htF root ps then 1 else 0)
 root : r.1 ≠ root ↔ zea ps x.key (htF root ps) root = htF root ps
theorem z4h {root : Int} {ps : List Pg} {x : Pr} {r : Int × List Pg} (h : zqc root ps x = some r) : PutF root ps x r := by
 obtain ⟨h1, h2, rfl, h4⟩ := zrm h
 have v := za0 h1
 have hb := zsq.1 h2
 have P := zvr v.v0 hb.2 hb.1.1 hb.1.2
 obtain ⟨e1, e2⟩ := P.vt.psF h4
 refine ⟨h1, hb, h4, ?_, P.le, ?_, P.len, P.root⟩
 ·rw [e2, P.prs]; rfl
 ·rw [e1]; split <;> omega
def pgEq (p q : Pg) : Bool := decide (p.keys = q.keys) && decide (p.kids = q.kids) && decide (p.vals = q.vals)
theorem z6i {p q : Pg} : pgEq p q = true ↔ p = q := by
 unfold pgEq
 rw [Bool.and_eq_true, Bool.and_eq_true, decide_eq_true_iff, decide_eq_true_iff, decide_eq_true_iff]
 constructor
 ·rintro ⟨⟨h1, h2⟩, h3⟩; cases p; cases q; simp_all
 ·rintro rfl; exact ⟨⟨rfl, rfl⟩, rfl⟩
theorem z8m {p q : Pg} : pgEq p q = false ↔ p ≠ q := by rw [← Bool.not_eq_true, z6i]
def chF (ps qs : List Pg) (n : Nat) : List Int := ((List.range n).filter fun i => !pgEq (ps.getD i ⟨[], [], []⟩) (qs.getD i ⟨[], [], []⟩)).map Int.ofNat
theorem chF_succ (ps qs : List Pg) (n : Nat) : chF ps qs (n + 1) = chF ps qs n ++ (if pgEq (ps.getD n ⟨[], [], []⟩) (qs.getD n ⟨[], [], []⟩) = true then [] else [(n : Int)]) := by
 unfold chF
 rw [List.range_succ, List.filter_append, List.map_append]
 congr 1
 cases h : pgEq (ps.getD n ⟨[], [], []⟩) (qs.getD n ⟨[], [], []⟩) with
 |false => rw [List.filter_cons_of_pos (by rw [h]; rfl), if_neg (by decide)]; rfl
 |true => rw [List.filter_cons_of_neg (by rw [h]; decide), if_pos rfl]; rfl
theorem z5i {ps qs : List Pg} {n : Nat} {i : Int} : i ∈ chF ps qs n ↔ 0 ≤ i ∧ i < n ∧ zb qs i ≠ zb ps i := by
 unfold chF
 rw [List.mem_map]
 constructor
 ·rintro ⟨k, hk, rfl⟩
  rw [List.mem_filter, List.mem_range] at hk
  refine ⟨Int.natCast_nonneg _, by show (k : Int) < n; omega, fun e => ?_⟩
  have h := hk.2
  rw [show ps.getD k ⟨[], [], []⟩ = qs.getD k ⟨[], [], []⟩ from e.symm, z6i.2 rfl] at h
  cases h
 ·rintro ⟨h0, h1, h2⟩
  refine ⟨i.toNat, ?_, by show ((i.toNat : Nat) : Int) = i; omega⟩
  rw [List.mem_filter, List.mem_range]
  refine ⟨by omega, ?_⟩
  rw [z8m.2 fun e => h2 e.symm]; rfl
theorem chF_len (ps qs : List Pg) (n : Nat) : (chF ps qs n).length ≤ n := by
 unfold chF
 rw [List.length_map]
 have := List.length_filter_le (fun i => !pgEq (ps.getD i ⟨[], [], []⟩) (qs.getD i ⟨[], [], []⟩)) (List.range n)
 rwa [List.length_range] at this
end Go.VL
