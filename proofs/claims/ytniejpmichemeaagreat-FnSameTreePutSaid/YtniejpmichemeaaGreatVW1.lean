/- V-logic: PT22 PT23 PT24 PT25 -/
import Derived.Test.YtniejpmichemeaaGreatVPE
namespace Go.VL
set_option linter.unusedVariables false
set_option linter.unusedSimpArgs false
theorem zou {xs : List Int} {k : Int} (ha : Asc xs) : k ∈ xs ↔ belF xs k < xs.length ∧ xs.getD (belF xs k) 0 = k := by
 constructor
 ·intro h
  obtain ⟨i, hi, e⟩ := List.getElem_of_mem h
  have e' : xs.getD i 0 = k := by rw [List.getD_eq_getElem?_getD, List.getElem?_eq_getElem hi]; exact e
  have hb : belF xs k = i := zv4 ha (by omega) (fun j hj => by have := zez ha hj hi; omega) (fun j h1 h2 => by
   rcases Nat.lt_or_ge i j with c | c
   ·have := zez ha c h2; omega
   ·obtain rfl : i = j := by omega
    omega)
  rw [hb]; exact ⟨hi, e'⟩
 ·rintro ⟨h1, h2⟩
  rw [← h2]; exact zaq 0 h1
theorem zv9 {xs : List Pr} {k : Int} (h : k ∈ xs.map Pr.key) : zei xs k = (xs.getD (belF (xs.map Pr.key) k) ⟨0, 0⟩).value := by unfold zei; rw [if_pos h]
theorem zkw {xs : List Pr} {k : Int} (h : k ∉ xs.map Pr.key) : zei xs k = 0 := by unfold zei; rw [if_neg h]
theorem zmk (xs : List Pr) (i : Nat) : (xs.map Pr.key).getD i 0 = (xs.getD i ⟨0, 0⟩).key := by
 rw [List.getD_eq_getElem?_getD, List.getD_eq_getElem?_getD, List.getElem?_map]
 cases xs[i]? <;> rfl
theorem zzk {ps : List Pg} {d mn mx : Nat} {a lo hi key : Int} (h : Fit ps (d + 1) mn mx a lo hi) :
  zei (zab (zb ps (lfF ps key (d + 1) a))) key = zei (prF ps (d + 1) (zb ps a)) key ∧ ((zab (zb ps (lfF ps key (d + 1) a))).map Pr.key).contains key = ((prF ps (d + 1) (zb ps a)).map Pr.key).contains key := by
 obtain ⟨_, _, l, r, hl⟩ := zec h _ (zi7 h (key := key))
 have hi := zvj h (key := key)
 rw [← zdi hl.len] at hi
 constructor
 ·by_cases c : key ∈ (prF ps (d + 1) (zb ps a)).map Pr.key
  ·obtain ⟨y, hy, rfl⟩ := List.mem_map.1 c
   rw [zhx (zaa.row h.2.2.2.2).asc hy, zhx hl.row.asc (z1d h hy)]
  ·rw [zkw c, zkw fun q => c (hi.2 q)]
 ·rw [Bool.eq_iff_iff, List.contains_iff_mem, List.contains_iff_mem]; exact hi.symm
theorem PgOk.row {ps : List Pg} {p : Pg} (h : PgOk ps p) (hk : p.kids = []) : zdb (zab p) = true ∧ p.vals.length = p.keys.length := by
 have k4 := h.k4
 rcases h.c with ⟨_, h2, h3⟩ | ⟨_, _, h2, _⟩
 ·refine ⟨?_, h2⟩
  unfold zdb
  rw [zdi h2, h.vk, zby p h2, decide_eq_true (by omega), Bool.true_and, Bool.and_true]
  refine List.all_eq_true.2 fun x hx => decide_eq_true (h3 _ ?_)
  rw [← zq8 h2]; exact List.mem_map.2 ⟨x, hx, rfl⟩
 ·rw [hk] at h2; simp at h2
structure LvB (root : Int) (ps : List Pg) : Prop where
 pos : 1 ≤ (lvF ps (htF root ps) root).length
 le : (lvF ps (htF root ps) root).length ≤ 97656
 four : (psF root ps).length ≤ 4 * (lvF ps (htF root ps) root).length
 len : (psF root ps).length ≤ 100
theorem z4x : ∀ {l l' : List Pr}, Asc (l.map Pr.key) → Asc (l'.map Pr.key) → (∀ y, y ∈ l ↔ y ∈ l') → l = l'
 |[], [], _, _, _ => rfl
 |[], b :: t, _, _, h => absurd ((h b).2 List.mem_cons_self) (by simp)
 |a :: t, [], _, _, h => absurd ((h a).1 List.mem_cons_self) (by simp)
 |a :: t, b :: u, h1, h2, h => by
  rw [List.map_cons, zcf] at h1 h2
  have lt1 : ∀ y ∈ t, a.key < y.key := fun y hy => h1.1 _ (List.mem_map.2 ⟨y, hy, rfl⟩)
  have lt2 : ∀ y ∈ u, b.key < y.key := fun y hy => h2.1 _ (List.mem_map.2 ⟨y, hy, rfl⟩)
  have e : a = b := by
   rcases List.mem_cons.1 ((h a).1 List.mem_cons_self) with e | e
   ·exact e
   ·rcases List.mem_cons.1 ((h b).2 List.mem_cons_self) with e' | e'
    ·exact e'.symm
    ·have := lt2 a e; have := lt1 b e'; omega
  subst e
  congr 1
  refine z4x h1.2 h2.2 fun y => ⟨fun hy => ?_, fun hy => ?_⟩
  ·rcases List.mem_cons.1 ((h y).1 (List.mem_cons_of_mem _ hy)) with e | e
   ·have := lt1 y hy; rw [e] at this; omega
   ·exact e
  ·rcases List.mem_cons.1 ((h y).2 (List.mem_cons_of_mem _ hy)) with e | e
   ·have := lt2 y hy; rw [e] at this; omega
   ·exact e
theorem z4o {l : List Pr} (ha : Asc (l.map Pr.key)) {x y : Pr} : y ∈ zbc l x ↔ y = x ∨ (y ∈ l ∧ y.key ≠ x.key) := by
 constructor
 ·intro h
  by_cases c : y.key = x.key
  ·exact .inl (zn5 (zso ha) h zyh c)
  ·rcases zlc h with e | e
   ·exact .inl e
   ·exact .inr ⟨e, c⟩
 ·rintro (rfl | ⟨h1, h2⟩)
  ·exact zyh
  ·exact zwg ha h1 h2
theorem z5d {l : List Pr} (ha : Asc (l.map Pr.key)) {x : Pr} (h : x ∈ l) : zbc l x = l := by
 refine z4x (zso ha) ha fun z => ?_
 rw [z4o ha]
 constructor
 ·rintro (rfl | ⟨h1, _⟩)
  ·exact h
  ·exact h1
 ·intro hz
  by_cases c : z.key = x.key
  ·exact .inl (zn5 ha hz h c)
  ·exact .inr ⟨hz, c⟩
theorem insP_fix {l : List Pr} (ha : Asc (l.map Pr.key)) {x : Pr} : zbc l x = l ↔ x ∈ l :=
 ⟨fun h => h ▸ zyh, z5d ha⟩
theorem mem_val {l : List Pr} (ha : Asc (l.map Pr.key)) {x : Pr} : x ∈ l ↔ x.key ∈ l.map Pr.key ∧ zei l x.key = x.value := by
 constructor
 ·intro h
  exact ⟨List.mem_map.2 ⟨x, h, rfl⟩, zhx ha h⟩
 ·rintro ⟨h1, h2⟩
  obtain ⟨y, hy, e⟩ := List.mem_map.1 h1
  have := zhx ha hy
  rw [e, h2] at this
  have : y = x := by cases x; cases y; simp_all
  exact this ▸ hy
theorem VT0.psF {root : Int} {ps : List Pg} {h : Nat} (v : VT0 root ps h) (w : Go.VL.vTree root ps = true) : htF root ps = h ∧ Go.VL.psF root ps = prF ps h (zb ps root) := by
 have q := za0 w
 have e : htF root ps = h := by
  rw [v.vTree, decide_eq_true_iff] at w
  exact (v.vt w.1 w.2).ht
 refine ⟨e, ?_⟩
 unfold Go.VL.psF
 rw [e]
structure PutF (root : Int) (ps : List Pg) (x : Pr) (r : Int × List Pg) : Prop where
 v0 : vTree root ps = true
 rng : (0 ≤ x.key ∧ x.key ≤ 99) ∧ -1000 ≤ x.value ∧ x.value ≤ 1000
 vt : vTree r.1 r.2 = true
 prs : psF r.1 r.2 = zbc (psF root ps) x
 le : zea ps x.key (htF root ps) root ≤ htF root ps
 ht : htF r.1 r.2 = htF root ps + (if zea ps x.key (htF root ps) root = htF root ps then 1 else 0)
 len : r.2.length = ps.length + zea ps x.key (htF root ps) root + (if zea ps x.key (htF root ps) root = htF root ps then 1 else 0)
 root : r.1 ≠ root ↔ zea ps x.key (htF root ps) root = htF root ps
theorem z4h {root : Int} {ps : List Pg} {x : Pr} {r : Int × List Pg} (h : zqc root ps x = some r) : PutF root ps x r := by
 obtain ⟨h1, h2, rfl, h4⟩ := zrm h
 have v := za0 h1
 have hb := zsq.1 h2
 have P := zvr v.v0 hb.2 hb.1.1 hb.1.2
 obtain ⟨e1, e2⟩ := P.vt.psF h4
 refine ⟨h1, hb, h4, ?_, P.le, ?_, P.len, P.root⟩
 ·rw [e2, P.prs]; rfl
 ·rw [e1]; split <;> omega
end Go.VL
