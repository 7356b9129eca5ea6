/- V-logic: TrLf -/
import Derived.Test.YtbpbgjkingjdcaaVTrLd
namespace Go.VL
open Go.Proofs
set_option maxRecDepth 10000
set_option linter.unusedSimpArgs false
set_option linter.unusedVariables false
theorem FnLatchPath_v (code : List Int) (hl0 : code.length ≤ 9223372036854775807) (hb : ∀ x ∈ code, 0 ≤ x ∧ x ≤ 255) : zr Try.prog 13 0 [.c (.nums .u8 code)] [] 0 (.c (.bool true)) [] := by
 refine spi (fn := Try.f13) _ ?_
 conv => whnf
 repeat' first | (refine zk (fun h => ?_) (fun h => ?_) <;> (try simp only [qA] at h) <;> (try simp only [wA] at h) <;> conv => whnf) | refine zc ?_
 ·rfl
 refine zbw [] [] (zfq code (by omega) (zie hb)) ⟨rfl, rfl, rfl, (by repeat first | exact trivial | refine ⟨rfl, ?_⟩), ⟨rfl, rfl, rfl⟩, ?_⟩
 rintro m res hout ⟨root, ps, key, kind, hp, hps, hkb, hkd, rfl, rfl, rfl⟩
 refine ⟨⟨rfl, rfl, rfl⟩, ?_⟩
 conv => whnf
 by_cases g : vTree root ps = false ∨ kind < 0 ∨ 2 < kind
 ·have h1 := zdr root key kind ps hp g
  have h2 := zgo root key kind ps hp g
  repeat' first
   |(refine zn ?_ ?_; (focus (first | rfl | exact beq_self_eq_true _)); conv => whnf)
   |(refine zm ?_ ?_; (focus (first | rfl | exact bne_self_eq_false _)); conv => whnf)
   |refine zh ?_
   |(refine zp (h1) rfl rfl ?_; conv => whnf)
   |(refine zp (h2) rfl rfl ?_; conv => whnf)
   |(refine zp (zf7) rfl rfl ?_; conv => whnf)
  all_goals rfl
 ·have gv : vTree root ps = true := by
   cases q : vTree root ps with
   |true => rfl
   |false => exact (g (.inl q)).elim
  have k0 : 0 ≤ kind ∧ kind ≤ 2 := by
   have : ¬ (kind < 0 ∨ 2 < kind) := fun q => g (.inr q)
   omega
  have h1 := zdn (zfb root key kind ps hp gv k0.1 k0.2) rfl
  have h2 := zdn (zjk root key kind ps hp gv k0.1 k0.2) rfl
  have h5 := zdn (zjo root key ps hp gv) rfl
  obtain ⟨hok, w1, w3⟩ := zic (key := key) gv
  change zr _ _ _ _ _ _ (.c (.nums .i64 (ptG root key ps))) _ at h5
  generalize ptG root key ps = W at *
  generalize sfF root ps kind = sf at *
  have hll := zfh sf W
  have hla := fun i (hi : i < W.length) => zjm sf W hi
  have hle := fun i => zmr sf W i
  have he := zfm (lpF sf W) (by omega) (fun i => by
   by_cases c : i < W.length
   ·rw [hla i c]; exact Nat.le_trans (hle i) (by omega)
   ·rw [List.getD_eq_getElem?_getD, List.getElem?_eq_none (by omega)]; exact Nat.zero_le _)
  generalize lpF sf W = L at *
  repeat' first
   |(refine zm ?_ ?_; (focus (first | rfl | exact bne_self_eq_false _)); conv => whnf)
   |(refine zm ?_ ?_; (focus ((try simp only [qA]) <;> (try simp only [wA]) <;> omega)); conv => whnf)
   |(refine zp (h1) rfl rfl ?_; conv => whnf)
   |(refine zp (h2) rfl rfl ?_; conv => whnf)
   |(refine zp (h5) rfl rfl ?_; conv => whnf)
   |(refine zp (he) rfl rfl ?_; conv => whnf)
  refine zau (fun i : Nat => i ≤ W.length) (fun i => ⟨90, 1, [(6, .c (.numss L)), (7, .c (.nums .i64 W)), (8, .c (.int .i64 i))], [(0, .box [.c (.int .i64 root), .c (.pgs ps)] [] [])]⟩) (fun i => W.length - i) 0 (Nat.zero_le _) (fun _ => Nat.zero_le _) (z5 [] [0]) (fun i hi => ?_)
  by_cases c : i < W.length
  ·have hn := zqy (sf := sf) (path := W) c
   have hls := zkr (sf := sf) (path := W) i
   have hd : hlF sf W i = (W.take (i + 1)).drop (lsF sf W i) := rfl
   have hi2 := hla i c
   have hle := hle i
   rw [← hi2] at hn hd hle
   have he2 := zbh (L.getD i []) (by omega)
   have e1 : lsF sf W i = ((i : Int) + 1 - ((L.getD i []).length : Int)).toNat := by omega
   have e2 : i + 1 = ((i : Int) + 1).toNat := by omega
   have he3 : zr Try.prog 39 0 [.c (.nums .i64 (L.getD i [])), .c (.nums .i64 ((W.take (i + 1)).drop (lsF sf W i)))] [] 0 (.c (.bool true)) [] := by rw [← hd]; exact he2
   rw [e1, e2] at he3
   conv => whnf
   repeat' first
    |(refine za (by kernel_rfl) ?_; conv => whnf)
    |(refine zn ?_ ?_; (focus (first | rfl | exact beq_self_eq_true _)); conv => whnf)
    |(refine zn ?_ ?_; (focus ((try simp only [qA]) <;> (try simp only [wA]) <;> omega)); conv => whnf)
    |(refine zm ?_ ?_; (focus ((try simp only [qA]) <;> (try simp only [wA]) <;> omega)); conv => whnf)
    |(refine za (by (try simp only [wA, wL]) <;> omega) ?_; conv => whnf)
    |(refine zg (by (try simp only [wA, wL]) <;> omega) (by (try simp only [wA, wL]) <;> omega) ?_; conv => whnf)
    |(refine zw (he3) rfl rfl ?_; conv => whnf)
    |(refine ze ?_; conv => whnf)
   refine ⟨⟨i + 1, ?_⟩, (z5 [] [0]), by dsimp only; omega⟩; (try dsimp only)
   omega
  ·conv => whnf
   repeat' first | (refine zm ?_ ?_; (focus ((try simp only [qA]) <;> (try simp only [wA]) <;> omega)); conv => whnf) | refine zh ?_
   rw [beq_iff_eq]
   show (L.length : Int) = W.length
   omega
end Go.VL
