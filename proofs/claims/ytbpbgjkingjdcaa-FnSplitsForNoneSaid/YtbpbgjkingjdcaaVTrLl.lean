/- V-logic: TrLl -/
import Derived.Test.YtbpbgjkingjdcaaVTrSa
import Derived.Test.YtbpbgjkingjdcaaVTrZb
namespace Go.VL
open Go.Proofs
set_option maxRecDepth 10000
set_option linter.unusedSimpArgs false
set_option linter.unusedVariables false
theorem FnSplitsForNone_v (code : List Int) (hl0 : code.length ≤ 9223372036854775807) (hb : ∀ x ∈ code, 0 ≤ x ∧ x ≤ 255) : zr Try.prog 16 0 [.c (.nums .u8 code)] [] 0 (.c (.bool true)) [] := by
 refine spi (fn := Try.f16) _ ?_
 conv => whnf
 repeat' first | (refine zk (fun h => ?_) (fun h => ?_) <;> (try simp only [qA] at h) <;> (try simp only [wA] at h) <;> conv => whnf) | refine zc ?_
 ·rfl
 refine zbw [] [] (z1w code (by omega) (zie hb)) ⟨rfl, rfl, rfl, (by repeat first | exact trivial | refine ⟨rfl, ?_⟩), ⟨rfl, rfl, rfl⟩, ?_⟩
 rintro m res hout ⟨root, ps, key, hp, hps, hkb, rfl, rfl, rfl⟩
 refine ⟨⟨rfl, rfl, rfl⟩, ?_⟩
 conv => whnf
 by_cases g : vTree root ps = false ∨ key < 0 ∨ 99 < key
 ·have h1 := z4v root key ps hp g
  have h2 := z4u root key ps hp g
  repeat' first
   |(refine zn ?_ ?_; (focus (first | rfl | exact beq_self_eq_true _)); conv => whnf)
   |(refine zm ?_ ?_; (focus (first | rfl | exact bne_self_eq_false _)); conv => whnf)
   |refine zh ?_
   |(refine zp (h1) rfl rfl ?_; conv => whnf)
   |(refine zp (h2) rfl rfl ?_; conv => whnf)
  all_goals rfl
 ·have gv : vTree root ps = true := by
   cases q : vTree root ps with
   |true => rfl
   |false => exact (g (.inl q)).elim
  have k0 : 0 ≤ key ∧ key ≤ 99 := by
   have : ¬ (key < 0 ∨ 99 < key) := fun q => g (.inr q)
   omega
  have h1 := z4w root key ps hp gv k0.1 k0.2
  have h2 := z4x root key ps hp gv k0.1 k0.2
  have h3 := zih root ps hp gv
  have hlen := (zdx gv).len
  have hko := zmx (psF root ps) (by omega)
  obtain ⟨hok, w1, w3⟩ := zic (key := key) gv
  have hN : spK root ps key ≤ 3 := by
   cases q : ((psF root ps).map Pr.key).contains key with
   |true => rw [z4y gv q]; omega
   |false => rw [z4z gv q]; exact Nat.le_trans zzf w3
  have hrow := zaa.row (za0 gv).fit.2.2.2.2
  change RowOk (psF root ps) 0 99 at hrow
  have h4 : ∀ k, k ∈ (psF root ps).map Pr.key → zr Try.prog 57 0 [trV root ps, .c (.int .i64 k)] [] 0 (.c (.int .i64 0)) [] := fun k hk => by
   obtain ⟨y, hy, rfl⟩ := List.mem_map.1 hk
   have := z4w root y.key ps hp gv (hrow.rng y hy).1 (hrow.rng y hy).2
   rwa [z4y gv (List.contains_iff_mem.2 hk)] at this
  have hkl : ((psF root ps).map Pr.key).length ≤ 100 := by rw [List.length_map]; exact hlen
  clear hrow hok
  generalize (psF root ps).map Pr.key = K at *
  generalize psF root ps = L at *
  generalize spK root ps key = N at *
  repeat' first
   |(refine zm ?_ ?_; (focus (first | rfl | exact bne_self_eq_false _)); conv => whnf)
   |(refine zp (h1) rfl rfl ?_; conv => whnf)
   |(refine zp (h2) rfl rfl ?_; conv => whnf)
   |(refine z8 (h3) rfl ?_; conv => whnf)
   |(refine zbe (hko) rfl rfl rfl rfl ?_; conv => whnf)
  refine zau (fun i : Nat => i ≤ K.length) (fun i => ⟨51, 2, [(3, .ptr 0 0 0 0), (5, .c (.int .i64 N)), (6, .slc 1), (7, .c (.int .i64 i))], [(0, .box [.c (.int .i64 root), .c (.pgs ps)] [] []), (1, .arr (.nums .i64 K))]⟩) (fun i => K.length - i) 0 (Nat.zero_le _) (fun _ => Nat.zero_le _) (z5 [] [0, 2]) (fun i hi => ?_)
  by_cases c : i < K.length
  ·have h4 := h4 _ (zaq 0 c)
   conv => whnf
   repeat' first
    |(refine za (by kernel_rfl) ?_; conv => whnf)
    |(refine zm ?_ ?_; (focus (first | rfl | exact bne_self_eq_false _)); conv => whnf)
    |(refine zn ?_ ?_; (focus ((try simp only [qA]) <;> (try simp only [wA]) <;> omega)); conv => whnf)
    |(refine za (by (try simp only [wA, wL]) <;> omega) ?_; conv => whnf)
    |(refine zg (by (try simp only [wA, wL]) <;> omega) (by (try simp only [wA, wL]) <;> omega) ?_; conv => whnf)
    |(refine zw (h4) rfl rfl ?_; conv => whnf)
    |(refine ze ?_; conv => whnf)
   refine ⟨⟨i + 1, ?_⟩, (z5 [] [0, 1]), by dsimp only; omega⟩; (try dsimp only)
   omega
  ·conv => whnf
   repeat' first | (refine zm ?_ ?_; (focus ((try simp only [qA]) <;> (try simp only [wA]) <;> omega)); conv => whnf) | refine zh ?_
   exact decide_eq_true (by omega)
end Go.VL
