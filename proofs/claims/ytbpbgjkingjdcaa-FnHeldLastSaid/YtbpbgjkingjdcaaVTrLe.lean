/- V-logic: TrLe -/
import Derived.Test.YtbpbgjkingjdcaaVTrLd
namespace Go.VL
open Go.Proofs
set_option maxRecDepth 10000
set_option linter.unusedSimpArgs false
set_option linter.unusedVariables false
theorem FnHeldLast_v (code : List Int) (hl0 : code.length ≤ 9223372036854775807) (hb : ∀ x ∈ code, 0 ≤ x ∧ x ≤ 255) : zr Try.prog 12 0 [.c (.nums .u8 code)] [] 0 (.c (.bool true)) [] := by
 refine spi (fn := Try.f12) _ ?_
 conv => whnf
 repeat' first | (refine zk (fun h => ?_) (fun h => ?_) <;> (try simp only [qA] at h) <;> (try simp only [wA] at h) <;> conv => whnf) | refine zc ?_
 ·rfl
 refine zbw [] [] (zqv code (by omega) (zie hb)) ⟨rfl, rfl, rfl, (by repeat first | exact trivial | refine ⟨rfl, ?_⟩), ⟨rfl, rfl, rfl⟩, ?_⟩
 rintro m res hout ⟨root, ps, key, kind, hp, hps, hkb, hkd, rfl, rfl, rfl⟩
 refine ⟨⟨rfl, rfl, rfl⟩, ?_⟩
 conv => whnf
 by_cases g : vTree root ps = false ∨ kind < 0 ∨ 2 < kind
 ·have h1 := zuy root key kind ps hp g
  have h2 := zs3 root key kind ps hp g
  have h3 := zdr root key kind ps hp g
  repeat' first
   |(refine zn ?_ ?_; (focus (first | rfl | exact beq_self_eq_true _)); conv => whnf)
   |(refine zm ?_ ?_; (focus (first | rfl | exact bne_self_eq_false _)); conv => whnf)
   |refine zh ?_
   |(refine zp (h1) rfl rfl ?_; conv => whnf)
   |(refine zp (h2) rfl rfl ?_; conv => whnf)
   |(refine zp (h3) rfl rfl ?_; conv => whnf)
   |(refine zp (zmf) rfl rfl ?_; conv => whnf)
  all_goals rfl
 ·have gv : vTree root ps = true := by
   cases q : vTree root ps with
   |true => rfl
   |false => exact (g (.inl q)).elim
  have k0 : 0 ≤ kind ∧ kind ≤ 2 := by
   have : ¬ (kind < 0 ∨ 2 < kind) := fun q => g (.inr q)
   omega
  have h1 := zpq root key kind ps hp gv k0.1 k0.2
  have h2 := zdn (zu5 root key kind ps hp gv k0.1 k0.2) rfl
  have h3 := zdn (zfb root key kind ps hp gv k0.1 k0.2) rfl
  have h4 := zpq root key 0 ps hp gv (by omega) (by omega)
  have h5 := zdn (zjo root key ps hp gv) rfl
  obtain ⟨hok, w1, w3⟩ := zic (key := key) gv
  change zr _ _ _ _ _ _ (.c (.nums .i64 (ptG root key ps))) _ at h5
  generalize ptG root key ps = W at *
  rw [ztd, show W.length - 1 + 1 = W.length by omega, List.take_length] at h4
  generalize sfF root ps kind = sf at *
  have hll := zfh sf W
  have hla := zjm sf W (i := W.length - 1) (by omega)
  have hle := zmr sf W (W.length - 1)
  generalize hlF sf W (W.length - 1) = N at *
  generalize lpF sf W = L at *
  have he := zbh N (by omega)
  have he2 := zbh (W.drop (W.length - 1)) (by rw [List.length_drop]; omega)
  have e1 : W.length - 1 = ((L.length : Int) - 1).toNat := by omega
  have e2 : W.length - 1 = ((W.length : Int) - 1).toNat := by omega
  rw [← hla, e1] at he h1 h2
  rw [e2] at he2 h4
  clear hla hle hok e1 e2
  repeat' first
   |(refine za (by kernel_rfl) ?_; conv => whnf)
   |(refine zn ?_ ?_; (focus (first | rfl | exact beq_self_eq_true _)); conv => whnf)
   |(refine zm ?_ ?_; (focus (first | rfl | exact bne_self_eq_false _)); conv => whnf)
   |(refine zm ?_ ?_; (focus ((try simp only [qA]) <;> (try simp only [wA]) <;> omega)); conv => whnf)
   |(refine za (by (try simp only [wA, wL]) <;> omega) ?_; conv => whnf)
   |refine zc ?_
   |(refine zg (by (try simp only [wA, wL]) <;> omega) (by (try simp only [wA, wL]) <;> omega) ?_; conv => whnf)
   |(refine zp (h1) rfl rfl ?_; conv => whnf)
   |(refine zp (h2) rfl rfl ?_; conv => whnf)
   |(refine zp (h3) rfl rfl ?_; conv => whnf)
   |(refine zp (h5) rfl rfl ?_; conv => whnf)
   |(refine zp (he) rfl rfl ?_; conv => whnf)
   |(refine zw (he) rfl rfl ?_; conv => whnf)
   |(refine zw (h4) rfl rfl ?_; conv => whnf)
   |(refine zw (he2) rfl rfl ?_; conv => whnf)
   |(refine ze ?_; conv => whnf)
  all_goals rfl
end Go.VL
