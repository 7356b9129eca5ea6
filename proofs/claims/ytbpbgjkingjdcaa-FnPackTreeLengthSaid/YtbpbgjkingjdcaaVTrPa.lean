/- V-logic: TrPa -/
import Derived.Test.YtbpbgjkingjdcaaVGr
import Derived.Test.YtbpbgjkingjdcaaVTrHa
import Derived.Test.YtbpbgjkingjdcaaVTrYa
import Derived.Test.YtbpbgjkingjdcaaVPE
namespace Go.VL
open Go.Proofs
set_option maxRecDepth 10000
set_option linter.unusedSimpArgs false
set_option linter.unusedVariables false
theorem z5w (l : List Int) : -2003 < z4f l ∧ z4f l < 2003 := by
 rcases List.eq_nil_or_concat l with rfl | ⟨i, x, rfl⟩
 ·decide
 ·have e : z4f (i.concat x) = (z4f i * 41 + x).tmod 2003 := by unfold z4f; rw [List.concat_eq_append, List.foldl_append]; rfl
  rw [e]
  exact ⟨Int.lt_tmod_of_pos _ (by decide), Int.tmod_lt_of_pos _ (by decide)⟩
theorem z50 {xs : List Int} {k : Nat} (h : k < xs.length) : z4f (xs.take (k + 1)) = (z4f (xs.take k) * 41 + xs.getD k 0).tmod 2003 := by
 rw [zat 0 h]; unfold z4f; rw [List.foldl_append]; rfl
def nmB (xs : List Int) : Prop := xs.length ≤ 1048576 ∧ ∀ i, -1048576 ≤ xs.getD i 0 ∧ xs.getD i 0 ≤ 1048576
theorem z5r (xs : List Int) (hb : nmB xs) : zr Try.prog 168 0 [.c (.nums .i64 xs)] [] 0 (.c (.int .i64 (z4f xs))) [] := by
 obtain ⟨hl, hb⟩ := hb
 refine spi (fn := Try.f168) _ ?_
 conv => whnf
 refine zd0 (fun (k : Nat) (n : Int) => k ≤ xs.length ∧ n = z4f (xs.take k)) (fun k n => ⟨20, 0, [(0, .c (.nums .i64 xs)), (3, .c (.int .i64 n)), (4, .c (.int .i64 k))], []⟩) (fun k _ => xs.length - k) 0 23 ⟨Nat.zero_le _, rfl⟩ (fun _ _ => Nat.zero_le _) zbn (fun k n hk => ?_)
 obtain ⟨hk, hn⟩ := hk
 have hc := z5w (xs.take k)
 have hx := hb k
 have e := Int.toNat_natCast k
 rw [← hn] at hc
 conv => whnf
 repeat' first
  |(refine za (by (try simp only [wA, wL]) <;> omega) ?_; conv => whnf)
  |(refine zk (fun h => ?_) (fun h => ?_) <;> (try simp only [qA] at h) <;> (try simp only [wA] at h) <;> conv => whnf)
  |refine zi ?_
  |(refine zg (by (try simp only [wA, wL]) <;> omega) (by (try simp only [wA, wL]) <;> omega) ?_; conv => whnf)
 ·exact ⟨⟨(k + 1, (n * 41 + xs.getD k 0).tmod 2003), by omega, by rw [z50 (by omega), hn]⟩, zbn, by dsimp only; omega⟩
 ·rw [hn, List.take_of_length_le (by omega)]
theorem z66 (xs : List Int) (hb : nmB xs) : zr Try.prog 110 0 [.c (.nums .i64 xs)] [] 0 (.c (.int .i64 (z4f xs))) [] := by
 obtain ⟨hl, hb⟩ := hb
 refine spi (fn := Try.f110) _ ?_
 conv => whnf
 refine zd0 (fun (k : Nat) (n : Int) => k ≤ xs.length ∧ n = z4f (xs.take k)) (fun k n => ⟨19, 0, [(3, .c (.int .i64 n)), (6, .c (.nums .i64 xs)), (7, .c (.int .i64 xs.length)), (8, .c (.int .i64 k))], []⟩) (fun k _ => xs.length - k) 0 23 ⟨Nat.zero_le _, rfl⟩ (fun _ _ => Nat.zero_le _) zbn (fun k n hk => ?_)
 obtain ⟨hk, hn⟩ := hk
 have hc := z5w (xs.take k)
 have hx := hb k
 have e := Int.toNat_natCast k
 rw [← hn] at hc
 conv => whnf
 repeat' first
  |(refine za (by (try simp only [wA, wL]) <;> omega) ?_; conv => whnf)
  |(refine zk (fun h => ?_) (fun h => ?_) <;> (try simp only [qA] at h) <;> (try simp only [wA] at h) <;> conv => whnf)
  |refine zi ?_
  |(refine zg (by (try simp only [wA, wL]) <;> omega) (by (try simp only [wA, wL]) <;> omega) ?_; conv => whnf)
 ·exact ⟨⟨(k + 1, (41 * n + xs.getD k 0).tmod 2003), by omega, by rw [z50 (by omega), hn, Int.mul_comm]⟩, zbn, by dsimp only; omega⟩
 ·rw [hn, List.take_of_length_le (by omega)]
theorem z6x (xs ys : List Int) (hl : xs.length ≤ 4294967296) (hm : ys.length ≤ 4294967296) : zr Try.prog 114 0 [.c (.nums .i64 xs), .c (.nums .i64 ys)] [] 0 (.c (.bool (decide (xs = ys)))) [] := by
 refine spi (fn := Try.f114) _ ?_
 conv => whnf
 repeat' first | (refine zk (fun h => ?_) (fun h => ?_) <;> (try simp only [qA] at h) <;> (try simp only [wA] at h) <;> conv => whnf) | refine zd ?_
 ·exact decide_eq_false (fun q => by subst q; omega)
 refine zau (fun k : Nat => k ≤ xs.length ∧ xs.take k = ys.take k) (fun k => ⟨26, 0, [(0, .c (.nums .i64 xs)), (1, .c (.nums .i64 ys)), (12, .c (.int .i64 xs.length)), (13, .c (.int .i64 k))], []⟩) (fun k => xs.length - k) 0 ⟨Nat.zero_le _, rfl⟩ (fun _ => Nat.zero_le _) zbn (fun k hk => ?_)
 obtain ⟨hk, he⟩ := hk
 conv => whnf
 repeat' first
  |(refine za (by kernel_rfl) ?_; conv => whnf)
  |(refine za (by (try simp only [wA, wL]) <;> omega) ?_; conv => whnf)
  |(refine zk (fun h => ?_) (fun h => ?_) <;> (try simp only [qA] at h) <;> (try simp only [wA] at h) <;> conv => whnf)
  |refine zc ?_
  |refine zd ?_
  |(refine zg (by (try simp only [wA, wL]) <;> omega) (by (try simp only [wA, wL]) <;> omega) ?_; conv => whnf)
  |(refine ze ?_; conv => whnf)
 ·exact decide_eq_false (fun q => by subst q; omega)
 ·exact ⟨⟨k + 1, by omega, by rw [zat 0 (by omega), zat 0 (by omega), he, (by assumption : xs.getD k 0 = ys.getD k 0)]⟩, zbn, by dsimp only; omega⟩
 ·rw [List.take_of_length_le (by omega), List.take_of_length_le (by omega)] at he
  exact decide_eq_true he
theorem z7x (L : List (List Int)) (hL : L.length ≤ 1024) (h : L.flatten.length ≤ 1048576) : zr Try.prog 109 0 [.c (.numss L)] [] 1 (.slc 0) [(0, .arr (.nums .i64 L.flatten))] := by
 have hs : ∀ k, k < L.length → (L.take k).flatten.length + (L.getD k []).length ≤ 1048576 ∧ (L.take (k + 1)).flatten = (L.take k).flatten ++ L.getD k [] := fun k hk => by
  have e : (L.take (k + 1)).flatten = (L.take k).flatten ++ L.getD k [] := by rw [zat [] hk, List.flatten_append]; simp
  have e2 := congrArg (fun M => (List.flatten M).length) (List.take_append_drop (k + 1) L)
  simp only [List.flatten_append, List.length_append, e] at e2
  exact ⟨by omega, e⟩
 refine spi (fn := Try.f109) _ ?_
 conv => whnf
 refine zd0 (fun (k : Nat) (n : Nat) => k ≤ L.length ∧ n = (L.take k).flatten.length) (fun k n => ⟨36, 0, [(0, .c (.numss L)), (3, .c (.int .i64 n)), (9, .c (.numss L)), (10, .c (.int .i64 L.length)), (11, .c (.int .i64 k))], []⟩) (fun k _ => L.length - k) 0 0 ⟨Nat.zero_le _, rfl⟩ (fun _ _ => Nat.zero_le _) zbn (fun k n hk => ?_)
 obtain ⟨hk, hn⟩ := hk
 by_cases hk2 : k < L.length
 ·obtain ⟨e1, e2⟩ := hs k hk2
  rw [← hn] at e1
  replace e2 : n + (L.getD k []).length = (L.take (k + 1)).flatten.length := by rw [e2, hn, List.length_append]
  conv => whnf
  repeat' first
   |(refine zn ?_ ?_; (focus ((try simp only [qA]) <;> (try simp only [wA]) <;> omega)); conv => whnf)
   |(refine zm ?_ ?_; (focus ((try simp only [qA]) <;> (try simp only [wA]) <;> omega)); conv => whnf)
   |(refine za (by (try simp only [wA, wL]) <;> omega) ?_; conv => whnf)
   |(refine zg (by (try simp only [wA, wL]) <;> omega) (by (try simp only [wA, wL]) <;> omega) ?_; conv => whnf)
  exact ⟨⟨(k + 1, n + (L.getD k []).length), by omega, e2⟩, zbn, by dsimp only; omega⟩
 ·rw [List.take_of_length_le (by omega)] at hn
  conv => whnf
  repeat' first | (refine zm ?_ ?_; (focus ((try simp only [qA]) <;> (try simp only [wA]) <;> omega)); conv => whnf) | (refine z8 (z7r n (by omega)) rfl ?_; conv => whnf)
  refine zd0 (fun (k : Nat) (M : List Int) => k ≤ L.length ∧ M = (L.take k).flatten) (fun k M => ⟨36, 1, [(6, .slc 0), (25, .c (.numss L)), (26, .c (.int .i64 L.length)), (27, .c (.int .i64 k))], [(0, .arr (.nums .i64 M))]⟩) (fun k _ => L.length - k) 0 [] ⟨Nat.zero_le _, rfl⟩ (fun _ _ => Nat.zero_le _) (z5 [] [0]) (fun k M hk => ?_)
  obtain ⟨hk, hM⟩ := hk
  by_cases hk2 : k < L.length
  ·obtain ⟨e1, e2⟩ := hs k hk2
   rw [← hM] at e1 e2
   conv => whnf
   repeat' first
    |(refine zn ?_ ?_; (focus ((try simp only [qA]) <;> (try simp only [wA]) <;> omega)); conv => whnf)
    |(refine za (by (try simp only [wA, wL]) <;> omega) ?_; conv => whnf)
    |(refine zg (by (try simp only [wA, wL]) <;> omega) (by (try simp only [wA, wL]) <;> omega) ?_; conv => whnf)
   exact ⟨⟨(k + 1, M ++ L.getD k []), by omega, e2.symm⟩, (z5 [] [0]), by dsimp only; omega⟩
  ·rw [List.take_of_length_le (by omega)] at hM
   subst hM
   conv => whnf
   repeat' (refine zm ?_ ?_; (focus ((try simp only [qA]) <;> (try simp only [wA]) <;> omega)); conv => whnf)
   exact (zu [] [0])
theorem z7m (a b c : List Int) (h : a.length + b.length + c.length ≤ 1048576) : zr Try.prog 109 0 [.c (.numss [a, b, c])] [] 1 (.slc 0) [(0, .arr (.nums .i64 (a ++ (b ++ c))))] := by
 have := z7x [a, b, c] (by simp) (by simp; omega)
 rwa [show [a, b, c].flatten = a ++ (b ++ c) by simp] at this
structure pgB (p : Pg) : Prop where
 keys : p.keys.length ≤ 4294967296
 kids : p.kids.length ≤ 4294967296
 vals : p.vals.length ≤ 4294967296
theorem z56 (p : Pg) (hp : pgB p) : zr Try.prog 166 0 [inV p] [] 0 (.c (.bool (zl3 p))) [] := by
 obtain ⟨h1, h2, h3⟩ := hp
 obtain ⟨K, C, W⟩ := p
 dsimp only at h1 h2
 have hk := zkj K h1
 have hkl := zgy K.length 1 5
 have hal := zqg C 0 15 h2
 have e : zl3 ⟨K, C, W⟩ = (decide (1 ≤ K.length ∧ K.length ≤ 5) && za2 K && decide (C.length = K.length + 1) && (C.all fun x => decide (0 ≤ x ∧ x ≤ 15)) && decide C.Nodup) := rfl
 generalize zl3 ⟨K, C, W⟩ = X at *
 generalize za2 K = VK at *
 rw [decide_eq_decide.2 (show (1 ≤ (K.length : Int) ∧ (K.length : Int) ≤ 5) ↔ 1 ≤ K.length ∧ K.length ≤ 5 by omega)] at hkl
 generalize decide (1 ≤ K.length ∧ K.length ≤ 5) = KL at *
 generalize (C.all fun x => decide (0 ≤ x ∧ x ≤ 15)) = AL at *
 refine spi (fn := Try.f166) _ ?_
 conv => whnf
 refine zau (fun k : Nat => k ≤ C.length ∧ (C.take k).Nodup) (fun k => ⟨45, 1, [(1, .ptr 0 0 0 0), (3, .c (.int .i64 k))], [(0, .box [.c (.nums .i64 K), .c (.nums .i64 C)] [] [])]⟩) (fun k => C.length - k) 0 ⟨Nat.zero_le _, List.nodup_nil⟩ (fun _ => Nat.zero_le _) (z5 [] [0]) (fun k hk => ?_)
 obtain ⟨hkl2, hn⟩ := hk
 have hi := zo5 (C.take k) (C.getD k 0) (by rw [List.length_take]; omega)
 conv => whnf
 repeat' first
  |(refine za (by kernel_rfl) ?_; conv => whnf)
  |(refine za (by (try simp only [wA, wL]) <;> omega) ?_; conv => whnf)
  |(refine zk (fun h => ?_) (fun h => ?_) <;> (try simp only [qA] at h) <;> (try simp only [wA] at h) <;> conv => whnf)
  |refine zd ?_
  |refine zh ?_
  |(refine zg (by (try simp only [wA, wL]) <;> omega) (by (try simp only [wA, wL]) <;> omega) ?_; conv => whnf)
  |(refine zw (hi) rfl rfl ?_; conv => whnf)
  |(refine zp (hk) rfl rfl ?_; conv => whnf)
  |(refine zp (hkl) rfl rfl ?_; conv => whnf)
  |(refine zp (hal) rfl rfl ?_; conv => whnf)
  |(refine ze ?_; conv => whnf)
 all_goals clear hi hk hkl hal
 ·rw [e, decide_eq_false (p := C.Nodup) fun q => ?_, Bool.and_false]
  exact ((zo8 (by omega)).1 ((List.take_sublist (k + 1) C).nodup q)).2 (List.contains_iff_mem.1 h)
 ·exact ⟨⟨k + 1, by omega, (zo8 (by omega)).2 ⟨hn, fun q => by rw [List.contains_iff_mem.2 q] at h; cases h⟩⟩, (z5 [] [0]), by dsimp only; omega⟩
 all_goals rw [List.take_of_length_le (by omega)] at hn
 ·subst VK; subst KL
  rw [e, decide_eq_true hn, decide_eq_true (by omega)]; simp
 ·rw [e, decide_eq_false (p := C.length = K.length + 1) (by omega)]; simp
 ·rw [e, h]; rfl
 ·rw [e, h]; simp
theorem z5l {p : Pg} (h : 4 < p.keys.length ∨ za2 p.keys = false) : zin p = false := by
 unfold zin
 rcases h with h | h
 ·rw [if_pos h]
 ·split
  ·rfl
  ·rfl
theorem z6m {p : Pg} (h : ¬ 4 < p.keys.length) (hv : za2 p.keys = true) : zin p = if p.kids.length = 0 then decide (p.vals.length = p.keys.length) && vl1 p.vals else decide (p.vals.length = 0) && zl3 p := by
 unfold zin
 rw [if_neg h, if_neg (by rw [hv]; decide)]
theorem z43 (p : Pg) (hp : pgB p) : zr Try.prog 111 0 [pgV p] [] 0 (.c (.bool (zin p))) [] := by
 have hvi := z56 p hp
 have hio := ze2 p
 have hk := zkj p.keys hp.keys
 have hal := zqg p.vals (-1000) 1000 hp.vals
 change zr _ _ _ _ _ _ (.c (.bool (vl1 p.vals))) _ at hal
 obtain ⟨h1, h2, h3⟩ := hp
 have n := z5l (p := p)
 have y := z6m (p := p)
 generalize zin p = X at *
 generalize zl3 p = VI at *
 generalize za2 p.keys = VK at *
 generalize vl1 p.vals = VL at *
 refine spi (fn := Try.f111) _ ?_
 conv => whnf
 repeat' first
  |(refine zk (fun h => ?_) (fun h => ?_) <;> (try simp only [qA] at h) <;> (try simp only [wA] at h) <;> conv => whnf)
  |refine zd ?_
  |refine zh ?_
  |(refine zp (hk) rfl rfl ?_; conv => whnf)
  |(refine zp (hal) rfl rfl ?_; conv => whnf)
  |(refine zp (hio) rfl rfl ?_; conv => whnf)
  |(refine zp (hvi) rfl rfl ?_; conv => whnf)
 all_goals clear hk hal hio hvi
 ·exact n (.inr h)
 ·exact n (.inl (by omega))
 ·rw [y (by omega) (by assumption), if_pos (by omega), decide_eq_true (by omega)]; rfl
 ·rw [y (by omega) (by assumption), if_pos (by omega), decide_eq_false (by omega)]; rfl
 ·rw [y (by omega) (by assumption), if_neg (by omega), decide_eq_true (by omega)]; rfl
 ·rw [y (by omega) (by assumption), if_neg (by omega), decide_eq_false (by omega)]; rfl
theorem z4q (p : Pg) (hp : pgB p) : zr Try.prog 62 0 [pgV p] [] 0 (.c (.bool (zin p))) [] := by
 have hvi := zuk p.keys p.kids p.vals hp.keys hp.kids
 have hio := zxh p
 have hk := zfj p.keys hp.keys
 obtain ⟨h1, h2, h3⟩ := hp
 have n := z5l (p := p)
 have y := z6m (p := p)
 rw [show (⟨p.keys, p.kids, p.vals⟩ : Pg) = p from rfl] at hvi
 generalize zin p = X at *
 generalize zl3 p = VI at *
 generalize za2 p.keys = VK at *
 refine spi (fn := Try.f62) _ ?_
 conv => whnf
 repeat' first
  |(refine zk (fun h => ?_) (fun h => ?_) <;> (try simp only [qA] at h) <;> (try simp only [wA] at h) <;> conv => whnf)
  |refine zd ?_
  |refine zh ?_
  |(refine zp (hk) rfl rfl ?_; conv => whnf)
  |(refine zp (hio) rfl rfl ?_; conv => whnf)
  |(refine zp (hvi) rfl rfl ?_; conv => whnf)
 all_goals clear hk hio hvi
 ·exact n (.inl (by omega))
 ·exact n (.inr h)
 ·rw [y (by omega) (by assumption), if_neg (by omega), decide_eq_true (by omega)]; rfl
 ·rw [y (by omega) (by assumption), if_neg (by omega), decide_eq_false (by omega)]; rfl
 ·rw [y (by omega) (by assumption), if_pos (by omega), decide_eq_false (by omega)]; rfl
 have e : X = vl1 p.vals := by rw [y (by omega) (by assumption), if_pos (by omega), decide_eq_true (by omega)]; rfl
 refine zau (fun k : Nat => (p.vals.take k).all (fun x => decide (-1000 ≤ x ∧ x ≤ 1000)) = true) (fun k => ⟨46, 0, [(36, .c (.nums .i64 p.vals)), (37, .c (.int .i64 p.vals.length)), (38, .c (.int .i64 k))], []⟩) (fun k => p.vals.length - k) 0 rfl (fun _ => Nat.zero_le _) (z5 [] []) (fun k hk => ?_)
 conv => whnf
 repeat' first
  |(refine za (by (try simp only [wA, wL]) <;> omega) ?_; conv => whnf)
  |(refine zk (fun h => ?_) (fun h => ?_) <;> (try simp only [qA] at h) <;> (try simp only [wA] at h) <;> conv => whnf)
  |refine zc ?_
  |refine zd ?_
  |(refine zg (by (try simp only [wA, wL]) <;> omega) (by (try simp only [wA, wL]) <;> omega) ?_; conv => whnf)
  |(refine zp (zrb _) rfl rfl ?_; conv => whnf)
 ·rw [e]; exact zf6 0 (k := k) (by omega) (by simp at h ⊢; omega)
 ·exact ⟨⟨k + 1, zeg 0 hk (by omega) (by simpa using h)⟩, zbn, by dsimp only; omega⟩
 ·rw [e]; exact zh3 hk (by omega)
theorem z8d : zr Try.prog 132 0 [.tt] [] 0 (.c (.int .i64 1)) [] := by
 refine spi (fn := Try.f132) _ ?_
 conv => whnf
 repeat' refine zi ?_
 rfl
theorem z78 : zr Try.prog 132 0 [.ff] [] 0 (.c (.int .i64 0)) [] := by
 refine spi (fn := Try.f132) _ ?_
 conv => whnf
 repeat' refine zi ?_
 rfl
theorem z7o {xs : List Int} (h : za2 xs = true) : ∀ x ∈ xs, 0 ≤ x ∧ x ≤ 99 := (zde.1 h).2
theorem z5v {p : Pg} (h : zin p = true) : (∀ x ∈ p.keys, 0 ≤ x ∧ x ≤ 99) ∧ (∀ x ∈ p.kids, 0 ≤ x ∧ x ≤ 15) ∧ (∀ x ∈ p.vals, -1000 ≤ x ∧ x ≤ 1000) := by
 by_cases c1 : 4 < p.keys.length
 ·rw [z5l (.inl c1)] at h; cases h
 by_cases c2 : za2 p.keys = true
 ·rw [z6m c1 c2] at h
  refine ⟨z7o c2, ?_⟩
  split at h
  ·rename_i c3
   rw [Bool.and_eq_true] at h
   refine ⟨by rw [List.eq_nil_of_length_eq_zero c3]; simp, fun x hx => ?_⟩
   exact of_decide_eq_true (List.all_eq_true.1 h.2 x hx)
  ·rw [Bool.and_eq_true, decide_eq_true_eq] at h
   obtain ⟨h3, h4⟩ := h
   unfold zl3 at h4
   simp only [Bool.and_eq_true] at h4
   exact ⟨fun x hx => of_decide_eq_true (List.all_eq_true.1 h4.1.2 x hx), by rw [List.eq_nil_of_length_eq_zero h3]; simp⟩
 ·rw [z5l (.inr (by simpa using c2))] at h; cases h
theorem z4x {xs : List Int} {P : Int → Prop} (h : ∀ x ∈ xs, P x) (h0 : P 0) (i : Nat) : P (xs.getD i 0) := by
 rw [List.getD_eq_getElem?_getD]
 cases q : xs[i]? with
 |none => exact h0
 |some v => exact h v (List.mem_of_getElem? q)
theorem z5e {p : Pg} (h : zin p = true) : nmB (pkB p) := by
 obtain ⟨h1, h2⟩ := ztf h
 obtain ⟨a, b, c⟩ := z5v h
 refine ⟨by unfold pkB; simp; omega, fun i => z4x (P := fun x => -1048576 ≤ x ∧ x ≤ 1048576) (fun x hx => ?_) (by decide) i⟩
 unfold pkB at hx
 simp only [List.mem_cons, List.mem_append, List.mem_map] at hx
 rcases hx with rfl | hx | hx | ⟨y, hy, rfl⟩
 ·unfold hdF; split <;> omega
 ·have := a x hx; omega
 ·have := b x hx; omega
 ·have := c y hy; omega
theorem z5i {xs : List Int} {k : Nat} (h : k < xs.length) (f : Int → Int) : (xs.take (k + 1)).map f = (xs.take k).map f ++ [f (xs.getD k 0)] := by
 rw [zat 0 h, List.map_append]; rfl
theorem z4p (p : Pg) (hf : zin p = true) : zr Try.prog 38 0 [pgV p] [] 1 (.slc 0) [(0, .arr (.nums .i64 (pkF p)))] := by
 obtain ⟨h1, h2⟩ := ztf hf
 have hck := z66 (pkB p) (z5e hf)
 have hv := (z5v hf).2.2
 have hfp := z4q p ⟨by omega, by omega, by omega⟩
 have e0 : pkB p = hdF p :: (p.keys ++ (p.kids ++ p.vals.map (· + 1000))) := rfl
 have e1 : pkF p = pkB p ++ [z4f (pkB p)] := rfl
 rw [hf] at hfp
 generalize pkF p = Z at *
 generalize pkB p = Y at *
 generalize z4f Y = X at *
 have main : ∀ H : Int, H = hdF p → zr Try.prog 109 0 [.c (.numss [[H], p.keys, p.kids])] [] 1 (.slc 0) [(0, .arr (.nums .i64 (hdF p :: (p.keys ++ p.kids))))] := fun H hH => by
  subst hH
  exact z7m [hdF p] p.keys p.kids (by simp; omega)
 have m1 := main (2 * (p.keys.length : Int) + 1)
 have m0 := main (2 * (p.keys.length : Int))
 have hd1 : 0 < p.kids.length → hdF p = 2 * (p.keys.length : Int) + 1 := fun q => by unfold hdF; rw [if_pos q]
 have hd0 : p.kids.length = 0 → hdF p = 2 * (p.keys.length : Int) := fun q => by unfold hdF; rw [if_neg (by omega)]; omega
 generalize hdF p = H at *
 refine spi (fn := Try.f38) _ ?_
 conv => whnf
 repeat' first
  |(refine zm ?_ ?_; (focus (first | rfl | exact bne_self_eq_false _)); conv => whnf)
  |(refine zk (fun h => ?_) (fun h => ?_) <;> (try simp only [qA] at h) <;> (try simp only [wA] at h) <;> conv => whnf)
  |(refine zg (by (try simp only [wA, wL]) <;> omega) (by (try simp only [wA, wL]) <;> omega) ?_; conv => whnf)
  |(refine zp (hfp) rfl rfl ?_; conv => whnf)
  |(refine zal [2] [3] (m1 ?_) ?_; (first | assumption | omega | exact (by (try simp only [wA, wN, wL]) <;> omega)); (conv => whnf); refine ⟨rfl, rfl, rfl, (by repeat first | exact trivial | refine ⟨rfl, ?_⟩), ⟨rfl, rfl, rfl, rfl, rfl, rfl⟩, ?_⟩; conv => whnf)
  |(refine zal [2] [3] (m0 ?_) ?_; (first | assumption | omega | exact (by (try simp only [wA, wN, wL]) <;> omega)); (conv => whnf); refine ⟨rfl, rfl, rfl, (by repeat first | exact trivial | refine ⟨rfl, ?_⟩), ⟨rfl, rfl, rfl, rfl, rfl, rfl⟩, ?_⟩; conv => whnf)
 all_goals refine zd0 (fun (k : Nat) (M : List Int) => k ≤ p.vals.length ∧ M = H :: (p.keys ++ (p.kids ++ (p.vals.take k).map (· + 1000)))) (fun k M => ⟨46, 1, [(4, .slc 0), (29, .c (.nums .i64 p.vals)), (30, .c (.int .i64 p.vals.length)), (31, .c (.int .i64 k))], [(0, .arr (.nums .i64 M))]⟩) (fun k _ => p.vals.length - k) 0 (H :: (p.keys ++ p.kids)) ⟨Nat.zero_le _, by simp⟩ (fun _ _ => Nat.zero_le _) (z5 [] [3]) (fun k M hk => ?_)
 all_goals obtain ⟨hk, hM⟩ := hk
 all_goals have hl := congrArg List.length hM
 all_goals simp only [List.length_cons, List.length_append, List.length_map, List.length_take] at hl
 all_goals have hx := z4x (P := fun x => -1000 ≤ x ∧ x ≤ 1000) hv (by decide) k
 all_goals by_cases hk2 : k < p.vals.length
 ·have hn := z5i hk2 (· + 1000)
  conv => whnf
  repeat' first
   |(refine zn ?_ ?_; (focus ((try simp only [qA]) <;> (try simp only [wA]) <;> omega)); conv => whnf)
   |(refine za (by (try simp only [wA, wL]) <;> omega) ?_; conv => whnf)
   |(refine zg (by (try simp only [wA, wL]) <;> omega) (by (try simp only [wA, wL]) <;> omega) ?_; conv => whnf)
  exact ⟨⟨(k + 1, M ++ [p.vals.getD k 0 + 1000]), by omega, by rw [hM, hn]; simp⟩, (z5 [] [0]), by dsimp only; omega⟩
 ·rw [List.take_of_length_le (by omega), ← e0] at hM
  subst hM
  conv => whnf
  repeat' first
   |(refine zm ?_ ?_; (focus ((try simp only [qA]) <;> (try simp only [wA]) <;> omega)); conv => whnf)
   |(refine za (by (try simp only [wA, wL]) <;> omega) ?_; conv => whnf)
   |(refine zbo (hck) rfl rfl rfl ?_; conv => whnf)
  rw [e1]
  exact (zu [] [0])
 ·have hn := z5i hk2 (· + 1000)
  conv => whnf
  repeat' first
   |(refine zn ?_ ?_; (focus ((try simp only [qA]) <;> (try simp only [wA]) <;> omega)); conv => whnf)
   |(refine za (by (try simp only [wA, wL]) <;> omega) ?_; conv => whnf)
   |(refine zg (by (try simp only [wA, wL]) <;> omega) (by (try simp only [wA, wL]) <;> omega) ?_; conv => whnf)
  exact ⟨⟨(k + 1, M ++ [p.vals.getD k 0 + 1000]), by omega, by rw [hM, hn]; simp⟩, (z5 [] [0]), by dsimp only; omega⟩
 ·rw [List.take_of_length_le (by omega), ← e0] at hM
  subst hM
  conv => whnf
  repeat' first
   |(refine zm ?_ ?_; (focus ((try simp only [qA]) <;> (try simp only [wA]) <;> omega)); conv => whnf)
   |(refine za (by (try simp only [wA, wL]) <;> omega) ?_; conv => whnf)
   |(refine zbo (hck) rfl rfl rfl ?_; conv => whnf)
  rw [e1]
  exact (zu [] [0])
theorem z8z (p : Pg) (hp : pgB p) (hf : zin p = false) : zr Try.prog 38 0 [pgV p] [] 0 .nil [] := by
 have hfp := z4q p hp
 rw [hf] at hfp
 refine spi (fn := Try.f38) _ ?_
 conv => whnf
 repeat' first
  |(refine zn ?_ ?_; (focus (first | rfl | exact beq_self_eq_true _)); conv => whnf)
  |(refine zp (hfp) rfl rfl ?_; conv => whnf)
 exact (zu [] [])
theorem sPackPage'_v (p : Pg) (hf : zin p = true) : zr Try.prog 112 0 [pgV p] [] 1 (.slc 0) [(0, .arr (.nums .i64 (pkF p)))] := by
 obtain ⟨h1, h2⟩ := ztf hf
 have hck := z5r (pkB p) (z5e hf)
 have hv := (z5v hf).2.2
 have ht := z8d
 have hff := z78
 have e0 : pkB p = hdF p :: (p.keys ++ (p.kids ++ p.vals.map (· + 1000))) := rfl
 have e1 : pkF p = pkB p ++ [z4f (pkB p)] := rfl
 generalize pkF p = Z at *
 generalize pkB p = Y at *
 generalize z4f Y = X at *
 have hd1 : 0 < p.kids.length → hdF p = 2 * (p.keys.length : Int) + 1 := fun q => by unfold hdF; rw [if_pos q]
 have hd0 : p.kids.length = 0 → hdF p = 2 * (p.keys.length : Int) + 0 := fun q => by unfold hdF; rw [if_neg (by omega)]
 generalize hdF p = H at *
 refine spi (fn := Try.f112) _ ?_
 conv => whnf
 repeat' first
  |(refine za (by kernel_rfl) ?_; conv => whnf)
  |(refine za (by (try simp only [wA, wL]) <;> omega) ?_; conv => whnf)
  |(refine zk (fun h => ?_) (fun h => ?_) <;> (try simp only [qA] at h) <;> (try simp only [wA] at h) <;> conv => whnf)
  |(refine zg (by (try simp only [wA, wL]) <;> omega) (by (try simp only [wA, wL]) <;> omega) ?_; conv => whnf)
  |(refine zw (ht) rfl rfl ?_; conv => whnf)
  |(refine zw (hff) rfl rfl ?_; conv => whnf)
  |(refine zo ?_; conv => whnf)
  |(refine ze ?_; conv => whnf)
 ·have hd := (hd1 (by omega)).symm
  refine zd0 (fun (k : Nat) (M : List Int) => k ≤ p.vals.length ∧ M = H :: (p.keys ++ (p.kids ++ (p.vals.take k).map (· + 1000)))) (fun k M => ⟨44, 2, [(1, .ptr 0 0 0 0), (3, .slc 1), (4, .c (.int .i64 k))], [(0, .box [.c (.nums .i64 p.keys), .c (.nums .i64 p.kids), .c (.nums .i64 p.vals)] [] []), (1, .arr (.nums .i64 M))]⟩) (fun k _ => p.vals.length - k) 0 (([2 * (p.keys.length : Int) + 1] ++ p.keys) ++ p.kids) ⟨Nat.zero_le _, by rw [hd]; simp⟩ (fun _ _ => Nat.zero_le _) (z5 [] [0, 11]) (fun k M hk => ?_)
  obtain ⟨hk, hM⟩ := hk
  have hl := congrArg List.length hM
  simp only [List.length_cons, List.length_append, List.length_map, List.length_take] at hl
  have hx := z4x (P := fun x => -1000 ≤ x ∧ x ≤ 1000) hv (by decide) k
  by_cases hk2 : k < p.vals.length
  ·have hn := z5i hk2 (· + 1000)
   conv => whnf
   repeat' first
    |(refine zn ?_ ?_; (focus ((try simp only [qA]) <;> (try simp only [wA]) <;> omega)); conv => whnf)
    |(refine za (by (try simp only [wA, wL]) <;> omega) ?_; conv => whnf)
    |(refine zg (by (try simp only [wA, wL]) <;> omega) (by (try simp only [wA, wL]) <;> omega) ?_; conv => whnf)
   exact ⟨⟨(k + 1, M ++ [p.vals.getD k 0 + 1000]), by omega, by rw [hM, hn]; simp⟩, (z5 [] [0, 1]), by dsimp only; omega⟩
  ·rw [List.take_of_length_le (by omega), ← e0] at hM
   subst hM
   conv => whnf
   repeat' first
    |(refine zm ?_ ?_; (focus ((try simp only [qA]) <;> (try simp only [wA]) <;> omega)); conv => whnf)
    |(refine za (by (try simp only [wA, wL]) <;> omega) ?_; conv => whnf)
    |(refine zbo (hck) rfl rfl rfl ?_; conv => whnf)
   rw [e1]
   exact (zu [] [1])
 ·have hd := (hd0 (by omega)).symm
  refine zd0 (fun (k : Nat) (M : List Int) => k ≤ p.vals.length ∧ M = H :: (p.keys ++ (p.kids ++ (p.vals.take k).map (· + 1000)))) (fun k M => ⟨44, 2, [(1, .ptr 0 0 0 0), (3, .slc 1), (4, .c (.int .i64 k))], [(0, .box [.c (.nums .i64 p.keys), .c (.nums .i64 p.kids), .c (.nums .i64 p.vals)] [] []), (1, .arr (.nums .i64 M))]⟩) (fun k _ => p.vals.length - k) 0 (([2 * (p.keys.length : Int) + 0] ++ p.keys) ++ p.kids) ⟨Nat.zero_le _, by rw [hd]; simp⟩ (fun _ _ => Nat.zero_le _) (z5 [] [0, 11]) (fun k M hk => ?_)
  obtain ⟨hk, hM⟩ := hk
  have hl := congrArg List.length hM
  simp only [List.length_cons, List.length_append, List.length_map, List.length_take] at hl
  have hx := z4x (P := fun x => -1000 ≤ x ∧ x ≤ 1000) hv (by decide) k
  by_cases hk2 : k < p.vals.length
  ·have hn := z5i hk2 (· + 1000)
   conv => whnf
   repeat' first
    |(refine zn ?_ ?_; (focus ((try simp only [qA]) <;> (try simp only [wA]) <;> omega)); conv => whnf)
    |(refine za (by (try simp only [wA, wL]) <;> omega) ?_; conv => whnf)
    |(refine zg (by (try simp only [wA, wL]) <;> omega) (by (try simp only [wA, wL]) <;> omega) ?_; conv => whnf)
   exact ⟨⟨(k + 1, M ++ [p.vals.getD k 0 + 1000]), by omega, by rw [hM, hn]; simp⟩, (z5 [] [0, 1]), by dsimp only; omega⟩
  ·rw [List.take_of_length_le (by omega), ← e0] at hM
   subst hM
   conv => whnf
   repeat' first
    |(refine zm ?_ ?_; (focus ((try simp only [qA]) <;> (try simp only [wA]) <;> omega)); conv => whnf)
    |(refine za (by (try simp only [wA, wL]) <;> omega) ?_; conv => whnf)
    |(refine zbo (hck) rfl rfl rfl ?_; conv => whnf)
   rw [e1]
   exact (zu [] [1])
theorem z6p (p : Pg) (hf : zin p = true) : zr Try.prog 40 0 [pgV p] [] 1 (.slc 0) [(0, .arr (.nums .i64 (pkF p)))] := by
 obtain ⟨h1, h2⟩ := ztf hf
 have hfp := z43 p ⟨by omega, by omega, by omega⟩
 have hpp := sPackPage'_v p hf
 rw [hf] at hfp
 refine spi (fn := Try.f40) _ ?_
 conv => whnf
 repeat' first
  |(refine zm ?_ ?_; (focus (first | rfl | exact bne_self_eq_false _)); conv => whnf)
  |(refine zp (hfp) rfl rfl ?_; conv => whnf)
  |(refine z8 (hpp) rfl ?_; conv => whnf)
 exact (zu [] [1])
theorem z6b (p : Pg) (hp : pgB p) (hf : zin p = false) : zr Try.prog 40 0 [pgV p] [] 0 .nil [] := by
 have hfp := z43 p hp
 rw [hf] at hfp
 refine spi (fn := Try.f40) _ ?_
 conv => whnf
 repeat' first
  |(refine zn ?_ ?_; (focus (first | rfl | exact beq_self_eq_true _)); conv => whnf)
  |(refine zp (hfp) rfl rfl ?_; conv => whnf)
 exact (zu [] [])
theorem z8f {p : Pg} (h : zin p = true) : nmB (pkF p) := by
 have hb := z5e h
 have hc := z5w (pkB p)
 obtain ⟨h1, h2⟩ := ztf h
 refine ⟨by unfold pkF pkB; simp; omega, fun i => ?_⟩
 unfold pkF
 rcases Nat.lt_trichotomy i (pkB p).length with c | c | c
 ·rw [z6n c]; exact hb.2 i
 ·rw [List.getD_eq_getElem?_getD, List.getElem?_append_right (by omega), c, Nat.sub_self]
  show -1048576 ≤ z4f (pkB p) ∧ z4f (pkB p) ≤ 1048576
  omega
 ·rw [List.getD_eq_getElem?_getD, List.getElem?_eq_none (by rw [List.length_append]; simp; omega)]
  decide
end Go.VL
