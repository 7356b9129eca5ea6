/- V-logic: TrLi -/
import Derived.Test.YtbpbgjkingjdcaaVTrZb
import Derived.Test.YtbpbgjkingjdcaaVTrFb
namespace Go.VL
open Go.Proofs
set_option maxRecDepth 10000
set_option linter.unusedSimpArgs false
set_option linter.unusedVariables false
theorem FnPairsOf_v (code : List Int) (hl0 : code.length ≤ 9223372036854775807) (hb : ∀ x ∈ code, 0 ≤ x ∧ x ≤ 255) : zr Try.prog 11 0 [.c (.nums .u8 code)] [] 0 (.c (.bool true)) [] := by
 refine spi (fn := Try.f11) _ ?_
 conv => whnf
 repeat' first | (refine zk (fun h => ?_) (fun h => ?_) <;> (try simp only [qA] at h) <;> (try simp only [wA] at h) <;> conv => whnf) | refine zc ?_
 ·rfl
 refine zbw [] [] (zsb code (by omega) (zie hb)) ⟨rfl, rfl, rfl, (by repeat first | exact trivial | refine ⟨rfl, ?_⟩), ⟨rfl, rfl, rfl⟩, ?_⟩
 rintro m res hout ⟨root, ps, hp, hps, rfl, rfl, rfl⟩
 refine ⟨⟨rfl, rfl, rfl⟩, ?_⟩
 conv => whnf
 have hvt := zbi root ps hp
 cases g : vTree root ps with
 |false =>
  have h1 := zws root ps hp g
  have h2 := zuu root ps hp g
  rw [g] at hvt
  repeat' first
   |(refine zn ?_ ?_; (focus (first | rfl | exact beq_self_eq_true _)); conv => whnf)
   |(refine zm ?_ ?_; (focus (first | rfl | exact bne_self_eq_false _)); conv => whnf)
   |refine zh ?_
   |(refine zp (h1) rfl rfl ?_; conv => whnf)
   |(refine zp (h2) rfl rfl ?_; conv => whnf)
   |(refine zp (hvt) rfl rfl ?_; conv => whnf)
   |(refine zp (zqt) rfl rfl ?_; conv => whnf)
  all_goals rfl
 |true =>
  have h1 := zih root ps hp g
  have h2 := zx2 root ps hp g
  have h3 := fun key => zom root key ps hp g
  have hlen := (zdx g).len
  have hrow := zaa.row (za0 g).fit.2.2.2.2
  change RowOk (psF root ps) 0 99 at hrow
  have hvk : za2 ((psF root ps).map Pr.key) = true := zde.2 ⟨hrow.asc, fun k hk => by obtain ⟨y, hy, rfl⟩ := List.mem_map.1 hk; exact hrow.rng y hy⟩
  have hval := fun (y : Pr) (hy : y ∈ psF root ps) => zhx hrow.asc hy
  have hin := fun (y : Pr) (hy : y ∈ psF root ps) => List.contains_iff_mem.2 (List.mem_map.2 ⟨y, hy, rfl⟩ : y.key ∈ (psF root ps).map Pr.key)
  have he := zhp (psF root ps) (by omega)
  have hko := zmx (psF root ps) (by omega)
  have hvk2 := zfj ((psF root ps).map Pr.key) (by rw [List.length_map]; omega)
  rw [hvk] at hvk2
  rw [g] at hvt
  unfold gkV at h3
  clear hrow hvk
  generalize psF root ps = L at *
  repeat' first
   |(refine zm ?_ ?_; (focus (first | rfl | exact bne_self_eq_false _)); conv => whnf)
   |(refine z8 (h1) rfl ?_; conv => whnf)
   |(refine z8 (h2) rfl ?_; conv => whnf)
   |(refine zbo (he) rfl rfl rfl ?_; conv => whnf)
   |(refine zp (hvt) rfl rfl ?_; conv => whnf)
  refine zau (fun i : Nat => i ≤ L.length) (fun i => ⟨59, 2, [(3, .ptr 0 0 0 0), (4, .slc 1), (5, .c (.int .i64 i))], [(0, .box [.c (.int .i64 root), .c (.pgs ps)] [] []), (1, .arr (.prs L))]⟩) (fun i => L.length - i) 0 (Nat.zero_le _) (fun _ => Nat.zero_le _) (z5 [] [0, 1]) (fun i hi => ?_)
  by_cases c : i < L.length
  ·have hm := zaq ⟨0, 0⟩ c
   have h3 := h3 (L.getD i ⟨0, 0⟩).key
   rw [hval _ hm, hin _ hm] at h3
   conv => whnf
   repeat' first
    |(refine za (by kernel_rfl) ?_; conv => whnf)
    |(refine zn ?_ ?_; (focus (first | rfl | exact beq_self_eq_true _)); conv => whnf)
    |(refine zm ?_ ?_; (focus (first | rfl | exact bne_self_eq_false _)); conv => whnf)
    |(refine zn ?_ ?_; (focus ((try simp only [qA]) <;> (try simp only [wA]) <;> omega)); conv => whnf)
    |(refine za (by (try simp only [wA, wL]) <;> omega) ?_; conv => whnf)
    |(refine zg (by (try simp only [wA, wL]) <;> omega) (by (try simp only [wA, wL]) <;> omega) ?_; conv => whnf)
    |(refine zw (h3) rfl rfl ?_; conv => whnf)
    |(refine ze ?_; conv => whnf)
   refine ⟨⟨i + 1, ?_⟩, (z5 [] [0, 1]), by dsimp only; omega⟩; (try dsimp only)
   omega
  ·conv => whnf
   repeat' first
    |(refine zm ?_ ?_; (focus ((try simp only [qA]) <;> (try simp only [wA]) <;> omega)); conv => whnf)
    |refine zh ?_
    |(refine zbe (hko) rfl rfl rfl rfl ?_; conv => whnf)
    |(refine zbo (hvk2) rfl rfl rfl ?_; conv => whnf)
   all_goals rfl
end Go.VL
