/- V-logic: PT22 PT23 PT24 PT25 -/
import Derived.Test.YtbpbgjkingjdcaaVPE
namespace Go.VL
set_option linter.unusedVariables false
set_option linter.unusedSimpArgs false
theorem zou {xs : List Int} {k : Int} (ha : Asc xs) : k ∈ xs ↔ belF xs k < xs.length ∧ xs.getD (belF xs k) 0 = k := by
 constructor
 ·intro h
  obtain ⟨i, hi, e⟩ := List.getElem_of_mem h
  have e' : xs.getD i 0 = k := by rw [List.getD_eq_getElem?_getD, List.getElem?_eq_getElem hi]; exact e
  have hb : belF xs k = i := zv4 ha (by omega) (fun j hj => by have := zez ha hj hi; omega) (fun j h1 h2 => by
   rcases Nat.lt_or_ge i j with c | c
   ·have := zez ha c h2; omega
   ·obtain rfl : i = j := by omega
    omega)
  rw [hb]; exact ⟨hi, e'⟩
 ·rintro ⟨h1, h2⟩
  rw [← h2]; exact zaq 0 h1
theorem zmk (xs : List Pr) (i : Nat) : (xs.map Pr.key).getD i 0 = (xs.getD i ⟨0, 0⟩).key := by
 rw [List.getD_eq_getElem?_getD, List.getD_eq_getElem?_getD, List.getElem?_map]
 cases xs[i]? <;> rfl
theorem PgOk.row {ps : List Pg} {p : Pg} (h : PgOk ps p) (hk : p.kids = []) : zdb (zab p) = true ∧ p.vals.length = p.keys.length := by
 have k4 := h.k4
 rcases h.c with ⟨_, h2, h3⟩ | ⟨_, _, h2, _⟩
 ·refine ⟨?_, h2⟩
  unfold zdb
  rw [zdi h2, h.vk, zby p h2, decide_eq_true (by omega), Bool.true_and, Bool.and_true]
  refine List.all_eq_true.2 fun x hx => decide_eq_true (h3 _ ?_)
  rw [← zq8 h2]; exact List.mem_map.2 ⟨x, hx, rfl⟩
 ·rw [hk] at h2; simp at h2
structure LvB (root : Int) (ps : List Pg) : Prop where
 pos : 1 ≤ (lvF ps (htF root ps) root).length
 le : (lvF ps (htF root ps) root).length ≤ 97656
 four : (psF root ps).length ≤ 4 * (lvF ps (htF root ps) root).length
 len : (psF root ps).length ≤ 100
theorem z4t : ∀ {l l' : List Pr}, Asc (l.map Pr.key) → Asc (l'.map Pr.key) → (∀ y, y ∈ l ↔ y ∈ l') → l = l'
 |[], [], _, _, _ => rfl
 |[], b :: t, _, _, h => absurd ((h b).2 List.mem_cons_self) (by simp)
 |a :: t, [], _, _, h => absurd ((h a).1 List.mem_cons_self) (by simp)
 |a :: t, b :: u, h1, h2, h => by
  rw [List.map_cons, zcf] at h1 h2
  have lt1 : ∀ y ∈ t, a.key < y.key := fun y hy => h1.1 _ (List.mem_map.2 ⟨y, hy, rfl⟩)
  have lt2 : ∀ y ∈ u, b.key < y.key := fun y hy => h2.1 _ (List.mem_map.2 ⟨y, hy, rfl⟩)
  have e : a = b := by
   rcases List.mem_cons.1 ((h a).1 List.mem_cons_self) with e | e
   ·exact e
   ·rcases List.mem_cons.1 ((h b).2 List.mem_cons_self) with e' | e'
    ·exact e'.symm
    ·have := lt2 a e; have := lt1 b e'; omega
  subst e
  congr 1
  refine z4t h1.2 h2.2 fun y => ⟨fun hy => ?_, fun hy => ?_⟩
  ·rcases List.mem_cons.1 ((h y).1 (List.mem_cons_of_mem _ hy)) with e | e
   ·have := lt1 y hy; rw [e] at this; omega
   ·exact e
  ·rcases List.mem_cons.1 ((h y).2 (List.mem_cons_of_mem _ hy)) with e | e
   ·have := lt2 y hy; rw [e] at this; omega
   ·exact e
theorem z4k {l : List Pr} (ha : Asc (l.map Pr.key)) {x y : Pr} : y ∈ zbc l x ↔ y = x ∨ (y ∈ l ∧ y.key ≠ x.key) := by
 constructor
 ·intro h
  by_cases c : y.key = x.key
  ·exact .inl (zn5 (zso ha) h zyh c)
  ·rcases zlc h with e | e
   ·exact .inl e
   ·exact .inr ⟨e, c⟩
 ·rintro (rfl | ⟨h1, h2⟩)
  ·exact zyh
  ·exact zwg ha h1 h2
theorem z7l {l : List Pr} (ha : Asc (l.map Pr.key)) {x y : Pr} (h : y.key = x.key) : zbc (zbc l x) y = zbc l y := by
 refine z4t (zso (zso ha)) (zso ha) fun z => ?_
 rw [z4k (zso ha), z4k ha, z4k ha]
 constructor
 ·rintro (rfl | ⟨rfl | ⟨h1, h2⟩, h3⟩)
  ·exact .inl rfl
  ·exact absurd h.symm h3
  ·exact .inr ⟨h1, h3⟩
 ·rintro (rfl | ⟨h1, h2⟩)
  ·exact .inl rfl
  ·exact .inr ⟨.inr ⟨h1, fun e => h2 (e.trans h.symm)⟩, h2⟩
theorem z49 {l : List Pr} (ha : Asc (l.map Pr.key)) {x : Pr} (h : x ∈ l) : zbc l x = l := by
 refine z4t (zso ha) ha fun z => ?_
 rw [z4k ha]
 constructor
 ·rintro (rfl | ⟨h1, _⟩)
  ·exact h
  ·exact h1
 ·intro hz
  by_cases c : z.key = x.key
  ·exact .inl (zn5 ha hz h c)
  ·exact .inr ⟨hz, c⟩
theorem z5b {x : Pr} : ∀ {l : List Pr}, Asc (l.map Pr.key) → x.key ∈ l.map Pr.key → (zbc l x).map Pr.key = l.map Pr.key
 |[], _, h => by cases h
 |p :: t, ha, h => by
  rw [List.map_cons, zcf] at ha
  unfold zbc
  split
  ·rename_i c
   rw [List.map_cons, List.map_cons, z5b ha.2]
   rcases List.mem_cons.1 h with e | e
   ·omega
   ·exact e
  ·split
   ·rename_i c
    rw [List.map_cons, List.map_cons, c]
   ·rename_i c1 c2
    rcases List.mem_cons.1 h with e | e
    ·omega
    ·have := ha.1 _ e; omega
theorem z5g {α : Type} (d : α) : ∀ {l : List α} {i : Nat} {p : α}, p = l.getD i d → l.set i p = l
 |[], _, _, _ => rfl
 |a :: t, 0, p, h => by rw [h]; rfl
 |a :: t, i + 1, p, h => by rw [List.set_cons_succ, z5g d (l := t) (i := i) h]
theorem z6c {ps qs : List Pg} {key : Int} (h : ∀ i : Int, (zb qs i).keys = (zb ps i).keys ∧ (zb qs i).kids = (zb ps i).kids) : ∀ {d : Nat} {a : Int}, lfF qs key d a = lfF ps key d a
 |0, _ => rfl
 |1, _ => rfl
 |d + 2, a => by
  show lfF qs key (d + 1) _ = lfF ps key (d + 1) _
  rw [(h a).1, (h a).2, z6c h (d := d + 1)]
def LfQ (ps : List Pg) (x : Pr) (lf : Int) : Pg := zae (zbc (zab (zb ps lf)) x)
theorem z5y {root : Int} {ps : List Pg} {x : Pr} {d : Nat} (v : VT0 root ps (d + 1)) (hv : -1000 ≤ x.value ∧ x.value ≤ 1000) (h0 : 0 ≤ x.key) (h9 : x.key ≤ 99) (hx : x.key ∈ (zb ps (lfF ps x.key (d + 1) root)).keys) :
  zer root ps (d + 1) x = (root, ps.set (lfF ps x.key (d + 1) root).toNat (LfQ ps x (lfF ps x.key (d + 1) root))) := by
 have ha := v.at h0 h9
 obtain ⟨l0, l1, lo, hi, hl⟩ := zec v.fit _ (zi7 v.fit (key := x.key))
 have hl4 := znl v.fit (Nat.le_refl 4) _ (zi7 v.fit (key := x.key))
 have hrow : (zab (zb ps (lfF ps x.key (d + 1) root))).map Pr.key = (zb ps (lfF ps x.key (d + 1) root)).keys := zdi hl.len
 have hil := zok (x := x) (l := zab (zb ps (lfF ps x.key (d + 1) root))) (by rw [hrow]; exact hl.asc)
 rw [zby _ hl.len, hrow, if_pos hx] at hil
 have e := zz1 hv ha (i := d) (by omega)
 rw [zlt, show d + 1 - d = 1 by omega] at e
 refine e ?_
 show ¬ 4 < (zb (ps.set _ _) _).keys.length
 rw [zc9 l0 l1 l0, if_pos rfl]
 simp only [zae, List.length_map]
 omega
theorem z67 {root : Int} {ps : List Pg} {x y : Pr} {d : Nat} (v : VT0 root ps (d + 1)) (hv : -1000 ≤ x.value ∧ x.value ≤ 1000) (hw : -1000 ≤ y.value ∧ y.value ≤ 1000) (h0 : 0 ≤ x.key) (h9 : x.key ≤ 99) (hy : y.key = x.key) (hx : x ∈ zab (zb ps (lfF ps x.key (d + 1) root))) :
  ∃ qs, zer root ps (d + 1) y = (root, qs) ∧ qs.length = ps.length ∧ VT0 root qs (d + 1) ∧ zer root qs (d + 1) x = (root, ps) := by
 obtain ⟨l0, l1, lo, hi, hl⟩ := zec v.fit _ (zi7 v.fit (key := x.key))
 have hrow : (zab (zb ps (lfF ps x.key (d + 1) root))).map Pr.key = (zb ps (lfF ps x.key (d + 1) root)).keys := zdi hl.len
 have hxk : x.key ∈ (zb ps (lfF ps x.key (d + 1) root)).keys := by rw [← hrow]; exact List.mem_map.2 ⟨x, hx, rfl⟩
 have e1 := z5y v hw (by rw [hy]; exact h0) (by rw [hy]; exact h9) (by rw [hy]; exact hxk)
 rw [hy] at e1
 have ok := zvr v hw (by rw [hy]; exact h0) (by rw [hy]; exact h9)
 have hs : zea ps y.key (d + 1) root = 0 := by rw [hy]; exact z28 hxk
 rw [hs] at ok
 have ov := ok.vt
 rw [if_neg (by omega), e1] at ov
 obtain ⟨qs, hqs⟩ : ∃ qs, qs = ps.set (lfF ps x.key (d + 1) root).toNat (LfQ ps y (lfF ps x.key (d + 1) root)) := ⟨_, rfl⟩
 rw [← hqs] at e1 ov
 have hyk : y.key ∈ (zab (zb ps (lfF ps x.key (d + 1) root))).map Pr.key := by rw [hrow, hy]; exact hxk
 have hqk : (LfQ ps y (lfF ps x.key (d + 1) root)).keys = (zb ps (lfF ps x.key (d + 1) root)).keys := by
  unfold LfQ zae
  show (zbc _ y).map Pr.key = _
  rw [z5b (by rw [hrow]; exact hl.asc) hyk, hrow]
 have hsame : ∀ i : Int, (zb qs i).keys = (zb ps i).keys ∧ (zb qs i).kids = (zb ps i).kids := fun i => by
  by_cases c : i.toNat = (lfF ps x.key (d + 1) root).toNat
  ·have e : zb qs i = LfQ ps y (lfF ps x.key (d + 1) root) := by
    unfold zb
    rw [hqs, c, z7 _ _ _ _ _ (by omega), if_pos rfl]
   have e' : zb ps i = zb ps (lfF ps x.key (d + 1) root) := by unfold zb; rw [c]
   rw [e, e']
   exact ⟨hqk, by rw [hl.kids]; rfl⟩
  ·have e : zb qs i = zb ps i := by
    unfold zb
    rw [hqs, z7 _ _ _ _ _ (by omega), if_neg c]
   rw [e]; exact ⟨rfl, rfl⟩
 refine ⟨qs, e1, by rw [hqs, List.length_set], ov, ?_⟩
 have elf := z6c hsame (key := x.key) (d := d + 1) (a := root)
 have e2 := z5y ov hv h0 h9 (by rw [elf, (hsame _).1]; exact hxk)
 rw [e2, elf]
 congr 1
 have ea : zb qs (lfF ps x.key (d + 1) root) = LfQ ps y (lfF ps x.key (d + 1) root) := by
  rw [hqs, zc9 l0 l1 l0, if_pos rfl]
 have eq : LfQ qs x (lfF ps x.key (d + 1) root) = zb ps (lfF ps x.key (d + 1) root) := by
  unfold LfQ
  rw [ea]
  unfold LfQ
  rw [ze3, z7l (by rw [hrow]; exact hl.asc) hy.symm, z49 (by rw [hrow]; exact hl.asc) hx, zwi hl.len hl.kids]
 rw [eq, hqs, List.set_set]
 exact z5g ⟨[], [], []⟩ rfl
theorem VT0.psF {root : Int} {ps : List Pg} {h : Nat} (v : VT0 root ps h) (w : Go.VL.vTree root ps = true) : htF root ps = h ∧ Go.VL.psF root ps = prF ps h (zb ps root) := by
 have q := za0 w
 have e : htF root ps = h := by
  rw [v.vTree, decide_eq_true_iff] at w
  exact (v.vt w.1 w.2).ht
 refine ⟨e, ?_⟩
 unfold Go.VL.psF
 rw [e]
structure PutF (root : Int) (ps : List Pg) (x : Pr) (r : Int × List Pg) : Prop where
 v0 : vTree root ps = true
 rng : (0 ≤ x.key ∧ x.key ≤ 99) ∧ -1000 ≤ x.value ∧ x.value ≤ 1000
 vt : vTree r.1 r.2 = true
 prs : psF r.1 r.2 = zbc (psF root ps) x
 le : zea ps x.key (htF root ps) root ≤ htF root ps
 ht : htF r.1 r.2 = htF root ps + (if zea ps x.key (htF root ps) root = htF root ps then 1 else 0)
 len : r.2.length = ps.length + zea ps x.key (htF root ps) root + (if zea ps x.key (htF root ps) root = htF root ps then 1 else 0)
 root : r.1 ≠ root ↔ zea ps x.key (htF root ps) root = htF root ps
theorem z4h {root : Int} {ps : List Pg} {x : Pr} {r : Int × List Pg} (h : zqc root ps x = some r) : PutF root ps x r := by
 obtain ⟨h1, h2, rfl, h4⟩ := zrm h
 have v := za0 h1
 have hb := zsq.1 h2
 have P := zvr v.v0 hb.2 hb.1.1 hb.1.2
 obtain ⟨e1, e2⟩ := P.vt.psF h4
 refine ⟨h1, hb, h4, ?_, P.le, ?_, P.len, P.root⟩
 ·rw [e2, P.prs]; rfl
 ·rw [e1]; split <;> omega
theorem z6u {root : Int} {ps : List Pg} {x : Pr} {r : Int × List Pg} (h1 : vTree root ps = true) (h2 : (0 ≤ x.key ∧ x.key ≤ 99) ∧ -1000 ≤ x.value ∧ x.value ≤ 1000) (h3 : zer root ps (htF root ps) x = r) (h4 : vTree r.1 r.2 = true) : zqc root ps x = some r := by
 subst h3
 unfold zqc
 rw [if_pos ⟨h1, zsq.2 h2, h4⟩]
theorem z83 {root : Int} {ps : List Pg} {x y : Pr} {r : Int × List Pg} (h : zqc root ps x = some r) (hy : y.key = x.key) (hw : -1000 ≤ y.value ∧ y.value ≤ 1000) :
  ∃ qs, zqc r.1 r.2 y = some (r.1, qs) ∧ qs.length = r.2.length ∧ zqc r.1 qs x = some r := by
 have F := z4h h
 have v := za0 F.vt
 have hx : x ∈ psF r.1 r.2 := by rw [F.prs]; exact zyh
 obtain ⟨d, hd⟩ : ∃ d, htF r.1 r.2 = d + 1 := ⟨htF r.1 r.2 - 1, by have := v.h1; omega⟩
 have h3 := v.h3
 have l16 := v.l16
 unfold psF at hx
 rw [hd] at v hx h3
 have hr := z1d v.fit hx
 obtain ⟨qs, e1, e2, e3, e4⟩ := z67 v.v0 F.rng.2 hw F.rng.1.1 F.rng.1.2 hy hr
 have vq := e3.vt (by omega) h3
 have wq : vTree r.1 qs = true := zdk.2 ⟨_, vq⟩
 refine ⟨qs, z6u F.vt ⟨by rw [hy]; exact F.rng.1, hw⟩ (by rw [hd]; exact e1) wq, e2, z6u wq F.rng (by rw [vq.ht]; exact e4) F.vt⟩
end Go.VL
