/- V-logic: PT22 -/
import Derived.Test.YtbpbgjkingjdcaaVPE
namespace Go.VL
set_option linter.unusedVariables false
set_option linter.unusedSimpArgs false
theorem belF_has {xs : List Int} {k : Int} (ha : Asc xs) : k ∈ xs ↔ belF xs k < xs.length ∧ xs.getD (belF xs k) 0 = k := by
 constructor
 ·intro h
  obtain ⟨i, hi, e⟩ := List.getElem_of_mem h
  have e' : xs.getD i 0 = k := by rw [List.getD_eq_getElem?_getD, List.getElem?_eq_getElem hi]; exact e
  have hb : belF xs k = i := belF_at ha (by omega) (fun j hj => by have := asc_getD ha hj hi; omega) (fun j h1 h2 => by
   rcases Nat.lt_or_ge i j with c | c
   ·have := asc_getD ha c h2; omega
   ·obtain rfl : i = j := by omega
    omega)
  rw [hb]; exact ⟨hi, e'⟩
 ·rintro ⟨h1, h2⟩
  rw [← h2]; exact getD_mem 0 h1
theorem valF_in {xs : List Pr} {k : Int} (h : k ∈ xs.map Pr.key) : valF xs k = (xs.getD (belF (xs.map Pr.key) k) ⟨0, 0⟩).value := by unfold valF; rw [if_pos h]
theorem valF_no {xs : List Pr} {k : Int} (h : k ∉ xs.map Pr.key) : valF xs k = 0 := by unfold valF; rw [if_neg h]
theorem map_key_getD (xs : List Pr) (i : Nat) : (xs.map Pr.key).getD i 0 = (xs.getD i ⟨0, 0⟩).key := by
 rw [List.getD_eq_getElem?_getD, List.getD_eq_getElem?_getD, List.getElem?_map]
 cases xs[i]? <;> rfl
theorem valF_leaf {ps : List Pg} {d mn mx : Nat} {a lo hi key : Int} (h : Fit ps (d + 1) mn mx a lo hi) :
  valF (rowF (pgAt ps (lfF ps key (d + 1) a))) key = valF (prF ps (d + 1) (pgAt ps a)) key ∧ ((rowF (pgAt ps (lfF ps key (d + 1) a))).map Pr.key).contains key = ((prF ps (d + 1) (pgAt ps a)).map Pr.key).contains key := by
 obtain ⟨_, _, l, r, hl⟩ := lvF_leaf h _ (lfF_mem h (key := key))
 have hi := lfF_iff h (key := key)
 rw [← rowF_keys hl.len] at hi
 constructor
 ·by_cases c : key ∈ (prF ps (d + 1) (pgAt ps a)).map Pr.key
  ·obtain ⟨y, hy, rfl⟩ := List.mem_map.1 c
   rw [valF_mem (PFit.row h.2.2.2.2).asc hy, valF_mem hl.row.asc (lfF_pair h hy)]
  ·rw [valF_no c, valF_no fun q => c (hi.2 q)]
 ·rw [Bool.eq_iff_iff, List.contains_iff_mem, List.contains_iff_mem]; exact hi.symm
theorem PgOk.row {ps : List Pg} {p : Pg} (h : PgOk ps p) (hk : p.kids = []) : vRow (rowF p) = true ∧ p.vals.length = p.keys.length := by
 have k4 := h.k4
 rcases h.c with ⟨_, h2, h3⟩ | ⟨_, _, h2, _⟩
 ·refine ⟨?_, h2⟩
  unfold vRow
  rw [rowF_keys h2, h.vk, rowF_len p h2, decide_eq_true (by omega), Bool.true_and, Bool.and_true]
  refine List.all_eq_true.2 fun x hx => decide_eq_true (h3 _ ?_)
  rw [← rowF_vals h2]; exact List.mem_map.2 ⟨x, hx, rfl⟩
 ·rw [hk] at h2; simp at h2
def fillF (root : Int) (ps : List Pg) : Int := (100 * ((psF root ps).length : Int)).tdiv (4 * ((lvF ps (htF root ps) root).length : Int))
structure LvB (root : Int) (ps : List Pg) : Prop where
 pos : 1 ≤ (lvF ps (htF root ps) root).length
 le : (lvF ps (htF root ps) root).length ≤ 97656
 four : (psF root ps).length ≤ 4 * (lvF ps (htF root ps) root).length
 len : (psF root ps).length ≤ 100
theorem vTree_lv {root : Int} {ps : List Pg} (h : vTree root ps = true) (hlen : (psF root ps).length ≤ 100) : LvB root ps := by
 have v := vTree_ht h
 have hf := v.fit
 have h3 := v.h3
 obtain ⟨d, hd⟩ : ∃ d, htF root ps = d + 1 := ⟨htF root ps - 1, by have := v.h1; omega⟩
 rw [hd] at hf
 refine ⟨by rw [hd]; exact lvF_pos hf, ?_, ?_, hlen⟩
 ·rw [hd]
  have hwl := wk_len _ (hf.wkOk (Nat.le_refl 4))
  have hw4 : wkB (d + 1) ≤ 97656 := Nat.le_trans (wkB_mono (show d + 1 ≤ 8 by omega)) (by decide)
  rw [← lvF_walk hf]
  exact Nat.le_trans (List.length_filter_le _ _) (by omega)
 ·unfold psF; rw [hd]; exact lvF_four hf (Nat.le_refl 4)
theorem fillF_b {root : Int} {ps : List Pg} (b : LvB root ps) : 0 ≤ fillF root ps := by
 unfold fillF; exact Int.tdiv_nonneg (by omega) (by omega)
theorem fillF_le {r1 r2 : Int} {p1 p2 : List Pg} (b : LvB r2 p2) (h1 : (psF r1 p1).length = (psF r2 p2).length) (h2 : (lvF p2 (htF r2 p2) r2).length ≤ (lvF p1 (htF r1 p1) r1).length) (h0 : 1 ≤ (lvF p2 (htF r2 p2) r2).length) : fillF r1 p1 ≤ fillF r2 p2 := by
 unfold fillF
 rw [h1]
 generalize (psF r2 p2).length = n
 generalize (lvF p2 (htF r2 p2) r2).length = x at *
 generalize (lvF p1 (htF r1 p1) r1).length = y at *
 rw [Int.tdiv_eq_ediv_of_nonneg (by omega), Int.tdiv_eq_ediv_of_nonneg (by omega)]
 rw [Int.le_ediv_iff_mul_le (by omega)]
 have := Int.ediv_mul_le (100 * (n : Int)) (b := 4 * (y : Int)) (by omega)
 have hq : 0 ≤ 100 * (n : Int) / (4 * (y : Int)) := Int.ediv_nonneg (by omega) (by omega)
 refine Int.le_trans (Int.mul_le_mul_of_nonneg_left (by omega) hq) this
end Go.VL
