/- V-logic: TrLb -/
import Derived.Test.YtbpbgjkingjdcaaVTrZb
import Derived.Test.YtbpbgjkingjdcaaVTrFb
namespace Go.VL
open Go.Proofs
set_option maxRecDepth 10000
set_option linter.unusedSimpArgs false
set_option linter.unusedVariables false
theorem FnGetKey_v (code : List Int) (hl0 : code.length ≤ 9223372036854775807) (hb : ∀ x ∈ code, 0 ≤ x ∧ x ≤ 255) : Spec Try.prog 17 0 [.c (.nums .u8 code)] [] 0 (.c (.bool true)) [] := by
 refine spi (fn := Try.f17) _ ?_
 conv => whnf
 repeat' first | (refine vif_i (fun h => ?_) (fun h => ?_) <;> (try simp only [qA] at h) <;> (try simp only [wA] at h) <;> conv => whnf) | refine vend_tt ?_
 ·rfl
 refine vcall_x [] [] (DrawGetKey_x code (by omega) (codeOk hb)) ⟨rfl, rfl, rfl, (by repeat first | exact trivial | refine ⟨rfl, ?_⟩), ⟨rfl, rfl, rfl⟩, ?_⟩
 rintro m res hout ⟨root, ps, key, hp, hps, hkb, rfl, rfl, rfl⟩
 refine ⟨⟨rfl, rfl, rfl⟩, ?_⟩
 conv => whnf
 have hvt := ValidTree_v root ps hp
 cases g : vTree root ps with
 |false =>
  have h1 := GetKey_no root key ps hp g
  have h2 := sGetKey_no root key ps hp g
  rw [g] at hvt
  repeat' first
   |(refine vif_t ?_ ?_; (focus (first | rfl | exact beq_self_eq_true _)); conv => whnf)
   |(refine vif_f ?_ ?_; (focus (first | rfl | exact bne_self_eq_false _)); conv => whnf)
   |refine vend_b ?_
   |(refine vcall_p (h1) rfl rfl ?_; conv => whnf)
   |(refine vcall_p (h2) rfl rfl ?_; conv => whnf)
   |(refine vcall_p (hvt) rfl rfl ?_; conv => whnf)
  all_goals rfl
 |true =>
  have h1 := GetKey_v root key ps hp g
  have h2 := sGetKey_v root key ps hp g
  have h3 := PairsOf_v root ps hp g
  have hlen := (treeF g).len
  have hko := lkeysOf_v (psF root ps) (by omega)
  have hi2 := lisIn_v ((psF root ps).map Pr.key) key (by rw [List.length_map]; omega)
  have hval : ((psF root ps).map Pr.key).contains key = false → valF (psF root ps) key = 0 := fun h => valF_no (fun q => by rw [List.contains_iff_mem.2 q] at h; cases h)
  rw [g] at hvt
  unfold gkV at h1 h2
  generalize valF (psF root ps) key = VV at *
  generalize hBB : ((psF root ps).map Pr.key).contains key = BB at *
  generalize (psF root ps).map Pr.key = KS at *
  generalize psF root ps = L at *
  cases BB with
  |true =>
   repeat' first
    |(refine vif_t ?_ ?_; (focus (first | rfl | exact beq_self_eq_true _)); conv => whnf)
    |(refine vif_f ?_ ?_; (focus (first | rfl | exact bne_self_eq_false _)); conv => whnf)
    |refine vend_tt ?_
    |(refine vcall_p (h1) rfl rfl ?_; conv => whnf)
    |(refine vcall_p (h2) rfl rfl ?_; conv => whnf)
    |(refine vcall_p (hvt) rfl rfl ?_; conv => whnf)
    |(refine vcall_a (h3) rfl ?_; conv => whnf)
    |(refine vcall_n (hko) rfl rfl rfl rfl ?_; conv => whnf)
    |(refine vcall_l (hi2) rfl rfl rfl ?_; conv => whnf)
   all_goals first | rfl | (exfalso; simp at h)
  |false =>
   have := hval rfl
   subst this
   repeat' first
    |(refine vif_t ?_ ?_; (focus (first | rfl | exact beq_self_eq_true _)); conv => whnf)
    |(refine vif_f ?_ ?_; (focus (first | rfl | exact bne_self_eq_false _)); conv => whnf)
    |refine vend_b ?_
    |(refine vcall_p (h1) rfl rfl ?_; conv => whnf)
    |(refine vcall_p (h2) rfl rfl ?_; conv => whnf)
    |(refine vcall_p (hvt) rfl rfl ?_; conv => whnf)
    |(refine vcall_a (h3) rfl ?_; conv => whnf)
    |(refine vcall_n (hko) rfl rfl rfl rfl ?_; conv => whnf)
    |(refine vcall_l (hi2) rfl rfl rfl ?_; conv => whnf)
   all_goals first | rfl | (exfalso; simp at h)
end Go.VL
