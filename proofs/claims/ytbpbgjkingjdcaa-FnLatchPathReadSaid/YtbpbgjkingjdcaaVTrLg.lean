/- V-logic: TrLg -/
import Derived.Test.YtbpbgjkingjdcaaVTrLd
namespace Go.VL
open Go.Proofs
set_option maxRecDepth 10000
set_option linter.unusedSimpArgs false
set_option linter.unusedVariables false
theorem FnLatchPathRead_v (code : List Int) (hl0 : code.length ≤ 9223372036854775807) (hb : ∀ x ∈ code, 0 ≤ x ∧ x ≤ 255) : zr Try.prog 14 0 [.c (.nums .u8 code)] [] 0 (.c (.bool true)) [] := by
 refine spi (fn := Try.f14) _ ?_
 conv => whnf
 repeat' first | (refine zk (fun h => ?_) (fun h => ?_) <;> (try simp only [qA] at h) <;> (try simp only [wA] at h) <;> conv => whnf) | refine zc ?_
 ·rfl
 refine zbw [] [] (zfq code (by omega) (zie hb)) ⟨rfl, rfl, rfl, (by repeat first | exact trivial | refine ⟨rfl, ?_⟩), ⟨rfl, rfl, rfl⟩, ?_⟩
 rintro m res hout ⟨root, ps, key, kind, hp, hps, hkb, hkd, rfl, rfl, rfl⟩
 refine ⟨⟨rfl, rfl, rfl⟩, ?_⟩
 conv => whnf
 cases gv : vTree root ps with
 |false =>
  have h1 := zdr root key kind ps hp (.inl gv)
  have h2 := zgo root key kind ps hp (.inl gv)
  have h3 := zdr root key 0 ps hp (.inl gv)
  repeat' first
   |(refine zn ?_ ?_; (focus (first | rfl | exact beq_self_eq_true _)); conv => whnf)
   |(refine zm ?_ ?_; (focus (first | rfl | exact bne_self_eq_false _)); conv => whnf)
   |refine zh ?_
   |(refine zp (h1) rfl rfl ?_; conv => whnf)
   |(refine zp (h2) rfl rfl ?_; conv => whnf)
   |(refine zp (h3) rfl rfl ?_; conv => whnf)
   |(refine zp (zf7) rfl rfl ?_; conv => whnf)
  all_goals rfl
 |true =>
  have h3 := zdn (zfb root key 0 ps hp gv (by omega) (by omega)) rfl
  by_cases g : kind < 0 ∨ 2 < kind
  ·have h1 := zdr root key kind ps hp (.inr g)
   have h2 := zgo root key kind ps hp (.inr g)
   repeat' first
    |(refine zn ?_ ?_; (focus (first | rfl | exact beq_self_eq_true _)); conv => whnf)
    |(refine zm ?_ ?_; (focus (first | rfl | exact bne_self_eq_false _)); conv => whnf)
    |refine zh ?_
    |(refine zp (h1) rfl rfl ?_; conv => whnf)
    |(refine zp (h2) rfl rfl ?_; conv => whnf)
    |(refine zp (h3) rfl rfl ?_; conv => whnf)
    |(refine zp (zf7) rfl rfl ?_; conv => whnf)
   all_goals rfl
  ·have k0 : 0 ≤ kind ∧ kind ≤ 2 := by omega
   have h1 := zdn (zfb root key kind ps hp gv k0.1 k0.2) rfl
   have h2 := zdn (zjk root key kind ps hp gv k0.1 k0.2) rfl
   obtain ⟨hok, w1, w3⟩ := zic (key := key) gv
   have w0 : (ptG root key ps).getD 0 0 = root := by
    unfold ptG
    obtain ⟨d, hd⟩ : ∃ d, htF root ps = d + 1 := ⟨htF root ps - 1, by have := (za0 gv).h1; omega⟩
    rw [hd]; exact zfy
   generalize ptG root key ps = W at *
   have hr := fun i (hi : i < W.length) => (zjm (sfF root ps 0) W hi).trans (ztd i)
   have hz := (zjm (sfF root ps kind) W (i := 0) (by omega)).trans (zui (by omega))
   rw [w0] at hz
   have hl1 := zfh (sfF root ps kind) W
   have hl2 := zfh (sfF root ps 0) W
   have he := zfm (lpF (sfF root ps kind) W) (by omega) (fun i => by
    by_cases c : i < W.length
    ·rw [zjm _ W c]; exact Nat.le_trans (zmr _ W i) (by omega)
    ·rw [List.getD_eq_getElem?_getD, List.getElem?_eq_none (by omega)]; exact Nat.zero_le _)
   generalize lpF (sfF root ps kind) W = L at *
   generalize lpF (sfF root ps 0) W = R at *
   have hz1 : (L.getD 0 []).length = 1 := by rw [hz]; rfl
   have hz2 : (L.getD 0 []).getD 0 0 = root := by rw [hz]; rfl
   repeat' first
    |(refine zm ?_ ?_; (focus (first | rfl | exact bne_self_eq_false _)); conv => whnf)
    |(refine zm ?_ ?_; (focus ((try simp only [qA]) <;> (try simp only [wA]) <;> omega)); conv => whnf)
    |(refine zp (h1) rfl rfl ?_; conv => whnf)
    |(refine zp (h2) rfl rfl ?_; conv => whnf)
    |(refine zp (h3) rfl rfl ?_; conv => whnf)
    |(refine zp (he) rfl rfl ?_; conv => whnf)
   refine zau (fun i : Nat => i ≤ W.length) (fun i => ⟨77, 1, [(3, .ptr 0 0 0 0), (6, .c (.numss L)), (7, .c (.numss R)), (8, .c (.int .i64 i))], [(0, .box [.c (.int .i64 root), .c (.pgs ps)] [] [])]⟩) (fun i => W.length - i) 0 (Nat.zero_le _) (fun _ => Nat.zero_le _) (z5 [] [0]) (fun i hi => ?_)
   by_cases c : i < W.length
   ·have hi2 := congrArg List.length (hr i c)
    rw [List.length_drop, List.length_take] at hi2
    conv => whnf
    repeat' first
     |(refine zn ?_ ?_; (focus ((try simp only [qA]) <;> (try simp only [wA]) <;> omega)); conv => whnf)
     |(refine zm ?_ ?_; (focus ((try simp only [qA]) <;> (try simp only [wA]) <;> omega)); conv => whnf)
     |(refine za (by (try simp only [wA, wL]) <;> omega) ?_; conv => whnf)
     |(refine zg (by (try simp only [wA, wL]) <;> omega) (by (try simp only [wA, wL]) <;> omega) ?_; conv => whnf)
    refine ⟨⟨i + 1, ?_⟩, (z5 [] [0]), by dsimp only; omega⟩; (try dsimp only)
    omega
   ·conv => whnf
    repeat' first
     |(refine za (by kernel_rfl) ?_; conv => whnf)
     |(refine zn ?_ ?_; (focus ((try simp only [qA]) <;> (try simp only [wA]) <;> omega)); conv => whnf)
     |(refine zm ?_ ?_; (focus ((try simp only [qA]) <;> (try simp only [wA]) <;> omega)); conv => whnf)
     |(refine za (by (try simp only [wA, wL]) <;> omega) ?_; conv => whnf)
     |(refine zk (fun h => ?_) (fun h => ?_) <;> (try simp only [qA] at h) <;> (try simp only [wA] at h) <;> conv => whnf)
     |refine zc ?_
     |refine zd ?_
     |(refine ze ?_; conv => whnf)
    all_goals first
     |rfl
     |exact absurd hz2 (by assumption)
     |(rw [q5]; exact hz2)
     |(exfalso; have := hz2; simp_all)
end Go.VL
