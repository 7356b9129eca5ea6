/- V-logic: TrLk -/
import Derived.Test.YtbpbgjkingjdcaaVTrSa
import Derived.Test.YtbpbgjkingjdcaaVTrZb
namespace Go.VL
open Go.Proofs
set_option maxRecDepth 10000
set_option linter.unusedSimpArgs false
set_option linter.unusedVariables false
theorem FnSplitsFor_v (code : List Int) (hl0 : code.length ≤ 9223372036854775807) (hb : ∀ x ∈ code, 0 ≤ x ∧ x ≤ 255) : zr Try.prog 10 0 [.c (.nums .u8 code)] [] 0 (.c (.bool true)) [] := by
 refine spi (fn := Try.f10) _ ?_
 conv => whnf
 repeat' first | (refine zk (fun h => ?_) (fun h => ?_) <;> (try simp only [qA] at h) <;> (try simp only [wA] at h) <;> conv => whnf) | refine zc ?_
 ·rfl
 refine zbw [] [] (z1w code (by omega) (zie hb)) ⟨rfl, rfl, rfl, (by repeat first | exact trivial | refine ⟨rfl, ?_⟩), ⟨rfl, rfl, rfl⟩, ?_⟩
 rintro m res hout ⟨root, ps, key, hp, hps, hkb, rfl, rfl, rfl⟩
 refine ⟨⟨rfl, rfl, rfl⟩, ?_⟩
 conv => whnf
 cases gv : vTree root ps with
 |false =>
  have h1 := z4v root key ps hp (.inl gv)
  have h2 := z4u root key ps hp (.inl gv)
  have h3 := zzm root key ps hp gv
  repeat' first
   |(refine zn ?_ ?_; (focus (first | rfl | exact beq_self_eq_true _)); conv => whnf)
   |(refine zm ?_ ?_; (focus (first | rfl | exact bne_self_eq_false _)); conv => whnf)
   |refine zh ?_
   |(refine zp (h1) rfl rfl ?_; conv => whnf)
   |(refine zp (h2) rfl rfl ?_; conv => whnf)
   |(refine zp (h3) rfl rfl ?_; conv => whnf)
  all_goals rfl
 |true =>
  have h3 := zdn (zjo root key ps hp gv) rfl
  change zr _ _ _ _ _ _ (.c (.nums .i64 (ptG root key ps))) _ at h3
  by_cases g : key < 0 ∨ 99 < key
  ·have h1 := z4v root key ps hp (.inr g)
   have h2 := z4u root key ps hp (.inr g)
   repeat' first
    |(refine zn ?_ ?_; (focus (first | rfl | exact beq_self_eq_true _)); conv => whnf)
    |(refine zm ?_ ?_; (focus (first | rfl | exact bne_self_eq_false _)); conv => whnf)
    |refine zh ?_
    |(refine zp (h1) rfl rfl ?_; conv => whnf)
    |(refine zp (h2) rfl rfl ?_; conv => whnf)
    |(refine zp (h3) rfl rfl ?_; conv => whnf)
   all_goals rfl
  ·have k0 : 0 ≤ key ∧ key ≤ 99 := by omega
   have h1 := z4w root key ps hp gv k0.1 k0.2
   have h2 := z4x root key ps hp gv k0.1 k0.2
   obtain ⟨hok, w1, w3⟩ := zic (key := key) gv
   obtain ⟨o1, o2⟩ := hok ((ptG root key ps).length - 1) (by omega)
   have hs4 := (znz gv ((ptG root key ps).getD ((ptG root key ps).length - 1) 0)).1
   have hin : ((zb ps ((ptG root key ps).getD ((ptG root key ps).length - 1) 0)).keys.contains key = true → spK root ps key = 0) ∧ ((zb ps ((ptG root key ps).getD ((ptG root key ps).length - 1) 0)).keys.contains key = false → spK root ps key = tcF ps (ptG root key ps)) := by
    obtain ⟨d, F⟩ := z40 (key := key) gv
    have e : (ptG root key ps).getD ((ptG root key ps).length - 1) 0 = lfF ps key (d + 1) root := by
     unfold ptG; rw [F.ht, F.len, Nat.add_sub_cancel, F.last]
    have hh := F.has
    rw [zdi F.vl] at hh
    rw [e, hh]
    exact ⟨z4y gv, z4z gv⟩
   have htc := z1j (ps := ps) (l := ptG root key ps)
   have htl := zzf (ps := ps) (l := ptG root key ps)
   generalize spK root ps key = N at *
   generalize tcF ps (ptG root key ps) = T0 at *
   generalize ptG root key ps = W at *
   have hN0 : N ≤ W.length := by
    cases q : (zb ps (W.getD (W.length - 1) 0)).keys.contains key with
    |true => rw [hin.1 q]; exact Nat.zero_le _
    |false => rw [hin.2 q]; exact htl
   have hNf : (zb ps (W.getD (W.length - 1) 0)).keys.contains key = false → (N = 0 ↔ (zb ps (W.getD (W.length - 1) 0)).keys.length < 4) := fun q => by
    rw [hin.2 q]
    constructor
    ·intro q0
     have := htc.2 (by omega)
     rw [q0, Nat.sub_zero] at this
     omega
    ·intro q0
     rcases Nat.eq_zero_or_pos T0 with z | z
     ·exact z
     ·have := htc.1 0 z
      rw [Nat.sub_zero] at this
      omega
   have hN1 := hin.1
   have hii := znn (zb ps (W.getD (W.length - 1) 0)).keys key (by omega)
   have eW : W.length - 1 = ((W.length : Int) - 1).toNat := by omega
   clear htc htl hin
   rw [eW] at o1 o2 hs4 hN1 hNf hii
   generalize hB : (zb ps (W.getD ((W.length : Int) - 1).toNat 0)).keys.contains key = B at *
   dsimp only [zb] at hs4 hNf hii
   cases B with
   |true =>
    have := hN1 rfl
    subst this
    repeat' first
     |(refine zn ?_ ?_; (focus (first | rfl | exact beq_self_eq_true _)); conv => whnf)
     |(refine zm ?_ ?_; (focus (first | rfl | exact bne_self_eq_false _)); conv => whnf)
     |(refine zm ?_ ?_; (focus ((try simp only [qA]) <;> (try simp only [wA]) <;> omega)); conv => whnf)
     |(refine za (by (try simp only [wA, wL]) <;> omega) ?_; conv => whnf)
     |(refine zk (fun h => ?_) (fun h => ?_) <;> (try simp only [qA] at h) <;> (try simp only [wA] at h) <;> conv => whnf)
     |refine zh ?_
     |(refine zg (by (try simp only [wA, wL]) <;> omega) (by (try simp only [wA, wL]) <;> omega) ?_; conv => whnf)
     |(refine zp (h1) rfl rfl ?_; conv => whnf)
     |(refine zp (h2) rfl rfl ?_; conv => whnf)
     |(refine zp (h3) rfl rfl ?_; conv => whnf)
     |(refine zp (hii) rfl rfl ?_; conv => whnf)
    all_goals rfl
   |false =>
    have hNf := hNf rfl
    by_cases z : N = 0
    ·have q := hNf.1 z
     subst z
     repeat' first
      |(refine zn ?_ ?_; (focus (first | rfl | exact beq_self_eq_true _)); conv => whnf)
      |(refine zm ?_ ?_; (focus (first | rfl | exact bne_self_eq_false _)); conv => whnf)
      |(refine zn ?_ ?_; (focus ((try simp only [qA]) <;> (try simp only [wA]) <;> omega)); conv => whnf)
      |(refine zm ?_ ?_; (focus ((try simp only [qA]) <;> (try simp only [wA]) <;> omega)); conv => whnf)
      |(refine za (by (try simp only [wA, wL]) <;> omega) ?_; conv => whnf)
      |refine zh ?_
      |(refine zg (by (try simp only [wA, wL]) <;> omega) (by (try simp only [wA, wL]) <;> omega) ?_; conv => whnf)
      |(refine zp (h1) rfl rfl ?_; conv => whnf)
      |(refine zp (h2) rfl rfl ?_; conv => whnf)
      |(refine zp (h3) rfl rfl ?_; conv => whnf)
     all_goals rfl
    ·have q : ¬ (ps.getD (W.getD ((W.length : Int) - 1).toNat 0).toNat ⟨[], [], []⟩).keys.length < 4 := fun q => z (hNf.2 q)
     have zz : ((N : Int) == 0) = false := by rw [beq_eq_false_iff_ne]; omega
     repeat' first
      |(refine zm ?_ ?_; (focus (first | rfl | exact bne_self_eq_false _)); conv => whnf)
      |(refine zn ?_ ?_; (focus ((try simp only [qA]) <;> (try simp only [wA]) <;> omega)); conv => whnf)
      |(refine zm ?_ ?_; (focus ((try simp only [qA]) <;> (try simp only [wA]) <;> omega)); conv => whnf)
      |(refine za (by (try simp only [wA, wL]) <;> omega) ?_; conv => whnf)
      |refine zh ?_
      |(refine zg (by (try simp only [wA, wL]) <;> omega) (by (try simp only [wA, wL]) <;> omega) ?_; conv => whnf)
      |(refine zp (h1) rfl rfl ?_; conv => whnf)
      |(refine zp (h2) rfl rfl ?_; conv => whnf)
      |(refine zp (h3) rfl rfl ?_; conv => whnf)
      |(refine zp (hii) rfl rfl ?_; conv => whnf)
     all_goals exact decide_eq_true (show (N : Int) ≤ (W.length : Int) by omega)
end Go.VL
