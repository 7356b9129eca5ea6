/- V-logic: TrLh -/
import Derived.Test.YtbpbgjkingjdcaaVTrLd
namespace Go.VL
open Go.Proofs
set_option maxRecDepth 10000
set_option linter.unusedSimpArgs false
set_option linter.unusedVariables false
theorem FnLatchPathSafe_v (code : List Int) (hl0 : code.length ≤ 9223372036854775807) (hb : ∀ x ∈ code, 0 ≤ x ∧ x ≤ 255) : zr Try.prog 15 0 [.c (.nums .u8 code)] [] 0 (.c (.bool true)) [] := by
 refine spi (fn := Try.f15) _ ?_
 conv => whnf
 repeat' first | (refine zk (fun h => ?_) (fun h => ?_) <;> (try simp only [qA] at h) <;> (try simp only [wA] at h) <;> conv => whnf) | refine zc ?_
 ·rfl
 refine zbw [] [] (zfq code (by omega) (zie hb)) ⟨rfl, rfl, rfl, (by repeat first | exact trivial | refine ⟨rfl, ?_⟩), ⟨rfl, rfl, rfl⟩, ?_⟩
 rintro m res hout ⟨root, ps, key, kind, hp, hps, hkb, hkd, rfl, rfl, rfl⟩
 refine ⟨⟨rfl, rfl, rfl⟩, ?_⟩
 conv => whnf
 by_cases g : vTree root ps = false ∨ kind < 0 ∨ 2 < kind
 ·have h1 := zdr root key kind ps hp g
  have h2 := zgo root key kind ps hp g
  repeat' first
   |(refine zn ?_ ?_; (focus (first | rfl | exact beq_self_eq_true _)); conv => whnf)
   |(refine zm ?_ ?_; (focus (first | rfl | exact bne_self_eq_false _)); conv => whnf)
   |refine zh ?_
   |(refine zp (h1) rfl rfl ?_; conv => whnf)
   |(refine zp (h2) rfl rfl ?_; conv => whnf)
   |(refine zp (zf7) rfl rfl ?_; conv => whnf)
  all_goals rfl
 ·have gv : vTree root ps = true := by
   cases q : vTree root ps with
   |true => rfl
   |false => exact (g (.inl q)).elim
  have k0 : 0 ≤ kind ∧ kind ≤ 2 := by
   have : ¬ (kind < 0 ∨ 2 < kind) := fun q => g (.inr q)
   omega
  have h1 := zdn (zfb root key kind ps hp gv k0.1 k0.2) rfl
  have h2 := zdn (zjk root key kind ps hp gv k0.1 k0.2) rfl
  obtain ⟨hok, w1, w3⟩ := zic (key := key) gv
  have w0 : (ptG root key ps).getD 0 0 = root := by
   unfold ptG
   obtain ⟨d, hd⟩ : ∃ d, htF root ps = d + 1 := ⟨htF root ps - 1, by have := (za0 gv).h1; omega⟩
   rw [hd]; exact zfy
  generalize ptG root key ps = W at *
  have hsf := fun i (hi : i < W.length) => zug root (W.getD i 0) kind ps hp gv (hok i hi).1 (hok i hi).2 k0.1 k0.2
  generalize sfF root ps kind = sf at *
  have hll := zfh sf W
  have hla := fun i (hi : i < W.length) => zjm sf W hi
  have hle := fun i => zmr sf W i
  have he := zfm (lpF sf W) (by omega) (fun i => by
   by_cases c : i < W.length
   ·rw [hla i c]; exact Nat.le_trans (hle i) (by omega)
   ·rw [List.getD_eq_getElem?_getD, List.getElem?_eq_none (by omega)]; exact Nat.zero_le _)
  generalize lpF sf W = L at *
  repeat' first
   |(refine zm ?_ ?_; (focus (first | rfl | exact bne_self_eq_false _)); conv => whnf)
   |(refine zm ?_ ?_; (focus ((try simp only [qA]) <;> (try simp only [wA]) <;> omega)); conv => whnf)
   |(refine zp (h1) rfl rfl ?_; conv => whnf)
   |(refine zp (h2) rfl rfl ?_; conv => whnf)
   |(refine zp (he) rfl rfl ?_; conv => whnf)
  refine zau (fun i : Nat => i ≤ W.length) (fun i => ⟨98, 1, [(3, .ptr 0 0 0 0), (5, .c (.int .i64 kind)), (6, .c (.numss L)), (7, .c (.int .i64 i))], [(0, .box [.c (.int .i64 root), .c (.pgs ps)] [] [])]⟩) (fun i => W.length - i) 0 (Nat.zero_le _) (fun _ => Nat.zero_le _) (z5 [] [0]) (fun i hi => ?_)
  by_cases c : i < W.length
  ·have hn := zqy (sf := sf) (path := W) c
   have hls := zkr (sf := sf) (path := W) i
   have haf := zrc (sf := sf) (path := W) i
   have hsa := ztw (sf := sf) (path := W) i
   have hat := fun k hk => z3p (sf := sf) (path := W) (k := k) c hk
   have hi2 := hla i c
   rw [← hi2] at hn hat
   generalize hM : L.getD i [] = M at *
   generalize lsF sf W i = S at *
   conv => whnf
   repeat' (refine zn ?_ ?_; (focus ((try simp only [qA]) <;> (try simp only [wA]) <;> omega)); conv => whnf)
   refine zau (fun k : Nat => k ≤ M.length) (fun k => ⟨98, 1, [(3, .ptr 0 0 0 0), (5, .c (.int .i64 kind)), (6, .c (.numss L)), (7, .c (.int .i64 i)), (8, .c (.int .i64 k))], [(0, .box [.c (.int .i64 root), .c (.pgs ps)] [] [])]⟩) (fun k => M.length - k) 0 (Nat.zero_le _) (fun _ => Nat.zero_le _) (z5 [] [0]) (fun k hk => ?_)
   have hM' : L.getD ((i : Int)).toNat [] = M := hM
   by_cases ck : k < M.length
   ·have hs := hsf (S + k) (by omega)
    have hat := hat k ck
    rw [← hat] at hs
    have hv0 : 0 < k → sf (M.getD k 0) = false := fun q => by rw [hat]; exact haf _ (by omega) (by omega)
    have hv1 : k = 0 → M.getD k 0 = root ∨ sf (M.getD k 0) = true := fun q => by
     subst q
     rcases hsa with q | q
     ·left; rw [hat, q]; exact w0
     ·right; rw [hat]; exact q
    have hML := congrArg List.length hM
    rw [← hM] at hs hv0 hv1 ck
    generalize hSF : sf ((L.getD i []).getD k 0) = SF at *
    by_cases k00 : 0 < k
    ·have := hv0 k00
     subst this
     conv => whnf
     repeat' first
      |(refine za (by kernel_rfl) ?_; conv => whnf)
      |(refine zm ?_ ?_; (focus (first | rfl | exact bne_self_eq_false _)); conv => whnf)
      |(refine zn ?_ ?_; (focus ((try simp only [qA]) <;> (try simp only [wA]) <;> omega)); conv => whnf)
      |(refine zm ?_ ?_; (focus ((try simp only [qA]) <;> (try simp only [wA]) <;> omega)); conv => whnf)
      |(refine za (by (try simp only [wA, wL]) <;> omega) ?_; conv => whnf)
      |(refine zg (by (try simp only [wA, wL]) <;> omega) (by (try simp only [wA, wL]) <;> omega) ?_; conv => whnf)
      |(refine zw (hs) rfl rfl ?_; conv => whnf)
      |(refine ze ?_; conv => whnf)
     refine ⟨⟨k + 1, ?_⟩, (z5 [] [0]), by dsimp only; omega⟩; (try dsimp only)
     rw [← hM]; omega
    ·obtain rfl : k = 0 := by omega
     rcases hv1 rfl with q | q
     ·cases SF with
      |true =>
       conv => whnf
       repeat' first
        |(refine za (by kernel_rfl) ?_; conv => whnf)
        |(refine zn ?_ ?_; (focus (first | rfl | exact beq_self_eq_true _)); conv => whnf)
        |(refine zm ?_ ?_; (focus (first | rfl | exact bne_self_eq_false _)); conv => whnf)
        |(refine zn ?_ ?_; (focus ((try simp only [qA]) <;> (try simp only [wA]) <;> omega)); conv => whnf)
        |(refine za (by (try simp only [wA, wL]) <;> omega) ?_; conv => whnf)
        |(refine zg (by (try simp only [wA, wL]) <;> omega) (by (try simp only [wA, wL]) <;> omega) ?_; conv => whnf)
        |(refine zw (hs) rfl rfl ?_; conv => whnf)
        |(refine ze ?_; conv => whnf)
       refine ⟨⟨0 + 1, ?_⟩, (z5 [] [0]), by dsimp only; omega⟩; (try dsimp only)
       rw [← hM]; omega
      |false =>
       conv => whnf
       repeat' first
        |(refine za (by kernel_rfl) ?_; conv => whnf)
        |(refine zn ?_ ?_; (focus (first | rfl | exact beq_self_eq_true _)); conv => whnf)
        |(refine zm ?_ ?_; (focus (first | rfl | exact bne_self_eq_false _)); conv => whnf)
        |(refine zn ?_ ?_; (focus ((try simp only [qA]) <;> (try simp only [wA]) <;> omega)); conv => whnf)
        |(refine zm ?_ ?_; (focus ((try simp only [qA]) <;> (try simp only [wA]) <;> omega)); conv => whnf)
        |(refine za (by (try simp only [wA, wL]) <;> omega) ?_; conv => whnf)
        |(refine zg (by (try simp only [wA, wL]) <;> omega) (by (try simp only [wA, wL]) <;> omega) ?_; conv => whnf)
        |(refine zw (hs) rfl rfl ?_; conv => whnf)
        |(refine ze ?_; conv => whnf)
       refine ⟨⟨0 + 1, ?_⟩, (z5 [] [0]), by dsimp only; omega⟩; (try dsimp only)
       rw [← hM]; omega
     ·subst q
      conv => whnf
      repeat' first
       |(refine za (by kernel_rfl) ?_; conv => whnf)
       |(refine zn ?_ ?_; (focus (first | rfl | exact beq_self_eq_true _)); conv => whnf)
       |(refine zm ?_ ?_; (focus (first | rfl | exact bne_self_eq_false _)); conv => whnf)
       |(refine zn ?_ ?_; (focus ((try simp only [qA]) <;> (try simp only [wA]) <;> omega)); conv => whnf)
       |(refine za (by (try simp only [wA, wL]) <;> omega) ?_; conv => whnf)
       |(refine zg (by (try simp only [wA, wL]) <;> omega) (by (try simp only [wA, wL]) <;> omega) ?_; conv => whnf)
       |(refine zw (hs) rfl rfl ?_; conv => whnf)
       |(refine ze ?_; conv => whnf)
      refine ⟨⟨0 + 1, ?_⟩, (z5 [] [0]), by dsimp only; omega⟩; (try dsimp only)
      rw [← hM]; omega
   ·rw [← hM] at ck
    conv => whnf
    repeat' first
     |(refine zm ?_ ?_; (focus ((try simp only [qA]) <;> (try simp only [wA]) <;> omega)); conv => whnf)
     |(refine za (by (try simp only [wA, wL]) <;> omega) ?_; conv => whnf)
     |(refine zg (by (try simp only [wA, wL]) <;> omega) (by (try simp only [wA, wL]) <;> omega) ?_; conv => whnf)
    refine ⟨⟨i + 1, ?_⟩, (z5 [] [0]), by dsimp only; omega⟩; (try dsimp only)
    omega
  ·conv => whnf
   repeat' first | (refine zm ?_ ?_; (focus ((try simp only [qA]) <;> (try simp only [wA]) <;> omega)); conv => whnf) | refine zc ?_
   rfl
end Go.VL
