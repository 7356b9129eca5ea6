/- V-logic: TrSa -/
import Derived.Test.YtbpbgjkingjdcaaVTrFb
import Derived.Test.YtbpbgjkingjdcaaVTrHc
import Derived.Test.YtbpbgjkingjdcaaVTrJ
import Derived.Test.YtbpbgjkingjdcaaVPE
namespace Go.VL
open Go.Proofs
set_option maxRecDepth 10000
set_option linter.unusedSimpArgs false
set_option linter.unusedVariables false
def spK (root : Int) (ps : List Pg) (key : Int) : Nat := zea ps key (htF root ps) root
theorem z4y {root key : Int} {ps : List Pg} (hv : vTree root ps = true) (h : ((psF root ps).map Pr.key).contains key = true) : spK root ps key = 0 := by
 obtain ⟨d, F⟩ := z40 (key := key) hv
 unfold spK
 rw [F.ht]
 have := F.has
 rw [h, zdi F.vl, List.contains_iff_mem] at this
 exact z28 this
theorem z4z {root key : Int} {ps : List Pg} (hv : vTree root ps = true) (h : ((psF root ps).map Pr.key).contains key = false) : spK root ps key = tcF ps (ptG root key ps) := by
 obtain ⟨d, F⟩ := z40 (key := key) hv
 unfold spK ptG
 rw [F.ht]
 have := F.has
 rw [h, zdi F.vl] at this
 exact z25 fun q => by rw [List.contains_iff_mem.2 q] at this; cases this
theorem z4w (root key : Int) (ps : List Pg) (hp : pB ps) (hv : vTree root ps = true) (h0 : 0 ≤ key) (h9 : key ≤ 99) : zr Try.prog 57 0 [trV root ps, .c (.int .i64 key)] [] 0 (.c (.int .i64 (spK root ps key))) [] := by
 have hvt := zbi root ps hp
 have hik := z2a key
 have hgk := zom root key ps hp hv
 have hpt := zdn (zjo root key ps hp hv) rfl
 change zr _ _ _ _ _ _ (.c (.nums .i64 (ptG root key ps))) _ at hpt
 obtain ⟨hok, w1, w3⟩ := zic (key := key) hv
 have hi := z4y (key := key) hv
 have ht := z4z (key := key) hv
 have hsm := znz hv
 rw [hv] at hvt
 rw [decide_eq_true ⟨h0, h9⟩] at hik
 unfold gkV at hgk
 generalize ptG root key ps = W at *
 generalize ((psF root ps).map Pr.key).contains key = B at *
 generalize zei (psF root ps) key = VV at *
 generalize spK root ps key = N at *
 cases B with
 |true =>
  have := hi rfl
  subst this
  refine spi (fn := Try.f57) _ ?_
  conv => whnf
  repeat' first
   |(refine zn ?_ ?_; (focus (first | rfl | exact beq_self_eq_true _)); conv => whnf)
   |(refine zm ?_ ?_; (focus (first | rfl | exact bne_self_eq_false _)); conv => whnf)
   |refine zi ?_
   |(refine zp (hvt) rfl rfl ?_; conv => whnf)
   |(refine zp (hik) rfl rfl ?_; conv => whnf)
   |(refine zp (hgk) rfl rfl ?_; conv => whnf)
  rfl
 |false =>
  have hN := ht rfl
  refine spi (fn := Try.f57) _ ?_
  conv => whnf
  repeat' first
   |(refine zm ?_ ?_; (focus (first | rfl | exact bne_self_eq_false _)); conv => whnf)
   |(refine zp (hvt) rfl rfl ?_; conv => whnf)
   |(refine zp (hik) rfl rfl ?_; conv => whnf)
   |(refine zp (hgk) rfl rfl ?_; conv => whnf)
   |(refine zp (hpt) rfl rfl ?_; conv => whnf)
  refine zau (fun z : Nat => z ≤ W.length ∧ ∀ k, k < z → (zb ps (W.getD (W.length - 1 - k) 0)).keys.length = 4) (fun z => ⟨51, 1, [(2, .ptr 0 0 0 0), (7, .c (.nums .i64 W)), (8, .c (.int .i64 z))], [(0, .box [.c (.int .i64 root), .c (.pgs ps)] [] [])]⟩) (fun z => W.length - z) 0 ⟨Nat.zero_le _, fun k hk => absurd hk (Nat.not_lt_zero _)⟩ (fun _ => Nat.zero_le _) (z5 [] [0]) (fun z hz => ?_)
  obtain ⟨hzl, hz⟩ := hz
  by_cases c : z < W.length
  ·obtain ⟨o1, o2⟩ := hok (W.length - 1 - z) (by omega)
   have hs := (hsm (W.getD (W.length - 1 - z) 0)).1
   have e : W.length - 1 - z = ((W.length : Int) - 1 - (z : Int)).toNat := by omega
   have hq := zyu (ps := ps) hzl hz
   rw [e] at o1 o2 hs hq
   dsimp only [zb] at hs hq
   conv => whnf
   repeat' first
    |(refine za (by kernel_rfl) ?_; conv => whnf)
    |(refine zn ?_ ?_; (focus ((try simp only [qA]) <;> (try simp only [wA]) <;> omega)); conv => whnf)
    |(refine za (by (try simp only [wA, wL]) <;> omega) ?_; conv => whnf)
    |(refine zk (fun h => ?_) (fun h => ?_) <;> (try simp only [qA] at h) <;> (try simp only [wA] at h) <;> conv => whnf)
    |refine zi ?_
    |(refine zg (by (try simp only [wA, wL]) <;> omega) (by (try simp only [wA, wL]) <;> omega) ?_; conv => whnf)
    |(refine ze ?_; conv => whnf)
   ·refine ⟨⟨z + 1, by omega, fun k hk => ?_⟩, (z5 [] [0]), by dsimp only; omega⟩
    rcases Nat.lt_or_ge k z with q | q
    ·exact hz k q
    ·obtain rfl : k = z := by omega
     rw [e]
     dsimp only [zb]
     omega
   ·rw [hN, ← hq (fun _ q => by omega)]
  ·have hq := zyu (ps := ps) hzl hz (fun q => absurd q c)
   rw [← hq] at hN
   subst hN
   conv => whnf
   repeat' first
    |(refine za (by kernel_rfl) ?_; conv => whnf)
    |(refine zm ?_ ?_; (focus ((try simp only [qA]) <;> (try simp only [wA]) <;> omega)); conv => whnf)
    |refine zi ?_
    |(refine ze ?_; conv => whnf)
   rfl
theorem z4v (root key : Int) (ps : List Pg) (hp : pB ps) (h : vTree root ps = false ∨ key < 0 ∨ 99 < key) : zr Try.prog 57 0 [trV root ps, .c (.int .i64 key)] [] 0 (.c (.int .i64 (-1))) [] := by
 have hvt := zbi root ps hp
 have hik := z2a key
 generalize vTree root ps = X at *
 cases X with
 |false =>
  refine spi (fn := Try.f57) _ ?_
  conv => whnf
  repeat' first
   |(refine zn ?_ ?_; (focus (first | rfl | exact beq_self_eq_true _)); conv => whnf)
   |refine zi ?_
   |(refine zp (hvt) rfl rfl ?_; conv => whnf)
  all_goals rfl
 |true =>
  have hv : key < 0 ∨ 99 < key := h.resolve_left (by decide)
  rw [decide_eq_false (by omega)] at hik
  refine spi (fn := Try.f57) _ ?_
  conv => whnf
  repeat' first
   |(refine zn ?_ ?_; (focus (first | rfl | exact beq_self_eq_true _)); conv => whnf)
   |(refine zm ?_ ?_; (focus (first | rfl | exact bne_self_eq_false _)); conv => whnf)
   |refine zi ?_
   |(refine zp (hvt) rfl rfl ?_; conv => whnf)
   |(refine zp (hik) rfl rfl ?_; conv => whnf)
  all_goals rfl
theorem z4x (root key : Int) (ps : List Pg) (hp : pB ps) (hv : vTree root ps = true) (h0 : 0 ≤ key) (h9 : key ≤ 99) : zr Try.prog 59 0 [trV root ps, .c (.int .i64 key)] [] 0 (.c (.int .i64 (spK root ps key))) [] := by
 have hvt := zay root ps hp
 have hir := zgy key 0 99
 have V := za0 hv
 have hpu := zq2 root ps ⟨key, 0⟩ hp (by have := V.l16; omega) (htF root ps) (by have := V.h3; omega) V.v0 (by dsimp only; omega) h0 h9
 have hP := zvr (x := ⟨key, 0⟩) V.v0 (by dsimp only; omega) h0 h9
 have l16 := V.l16
 have hle := hP.le
 have hlen := hP.len
 have hroot := hP.root
 change zea ps key (htF root ps) root ≤ _ at hle
 have h3 := V.h3
 unfold spK
 dsimp only at hlen hroot
 generalize zea ps key (htF root ps) root = N at *
 generalize zer root ps (htF root ps) ⟨key, 0⟩ = R at *
 obtain ⟨r, qs⟩ := R
 rw [hv] at hvt
 rw [decide_eq_true ⟨h0, h9⟩] at hir
 clear hP V
 dsimp only at hlen hroot hpu
 have hqb : qs.length ≤ ps.length + N + 1 := by rw [hlen]; split <;> omega
 refine spi (fn := Try.f59) _ ?_
 conv => whnf
 repeat' first
  |(refine za (by kernel_rfl) ?_; conv => whnf)
  |(refine zm ?_ ?_; (focus (first | rfl | exact bne_self_eq_false _)); conv => whnf)
  |(refine zk (fun h => ?_) (fun h => ?_) <;> (try simp only [qA] at h) <;> (try simp only [wA] at h) <;> conv => whnf)
  |refine zi ?_
  |(refine zg (by (try simp only [wA, wL]) <;> omega) (by (try simp only [wA, wL]) <;> omega) ?_; conv => whnf)
  |(refine zp (hvt) rfl rfl ?_; conv => whnf)
  |(refine zp (hir) rfl rfl ?_; conv => whnf)
  |(refine zbe (hpu) rfl rfl rfl rfl ?_; conv => whnf)
  |(refine zw (zov) rfl rfl ?_; conv => whnf)
  |(refine zw (zor) rfl rfl ?_; conv => whnf)
  |(refine ze ?_; conv => whnf)
 ·have := hroot.1 h
  rw [if_pos this] at hlen
  show (qs.length : Int) - ps.length - 1 = (N : Int)
  omega
 ·have : ¬ N = htF root ps := fun q => hroot.2 q h
  rw [if_neg this] at hlen
  show (qs.length : Int) - ps.length - 0 = (N : Int)
  omega
theorem z4u (root key : Int) (ps : List Pg) (hp : pB ps) (h : vTree root ps = false ∨ key < 0 ∨ 99 < key) : zr Try.prog 59 0 [trV root ps, .c (.int .i64 key)] [] 0 (.c (.int .i64 (-1))) [] := by
 have hvt := zay root ps hp
 have hir := zgy key 0 99
 generalize vTree root ps = X at *
 cases X with
 |false =>
  refine spi (fn := Try.f59) _ ?_
  conv => whnf
  repeat' first
   |(refine zn ?_ ?_; (focus (first | rfl | exact beq_self_eq_true _)); conv => whnf)
   |refine zi ?_
   |(refine zp (hvt) rfl rfl ?_; conv => whnf)
  all_goals rfl
 |true =>
  have hv : key < 0 ∨ 99 < key := h.resolve_left (by decide)
  rw [decide_eq_false (by omega)] at hir
  refine spi (fn := Try.f59) _ ?_
  conv => whnf
  repeat' first
   |(refine zn ?_ ?_; (focus (first | rfl | exact beq_self_eq_true _)); conv => whnf)
   |(refine zm ?_ ?_; (focus (first | rfl | exact bne_self_eq_false _)); conv => whnf)
   |refine zi ?_
   |(refine zp (hvt) rfl rfl ?_; conv => whnf)
   |(refine zp (hir) rfl rfl ?_; conv => whnf)
  all_goals rfl
end Go.VL
