/- V-logic: TrLm -/
import Derived.Test.YtbpbgjkingjdcaaVTrSa
import Derived.Test.YtbpbgjkingjdcaaVTrZb
namespace Go.VL
open Go.Proofs
set_option maxRecDepth 10000
set_option linter.unusedSimpArgs false
set_option linter.unusedVariables false
theorem FnSplitsForPath_v (code : List Int) (hl0 : code.length ≤ 9223372036854775807) (hb : ∀ x ∈ code, 0 ≤ x ∧ x ≤ 255) : zr Try.prog 8 0 [.c (.nums .u8 code)] [] 0 (.c (.bool true)) [] := by
 refine spi (fn := Try.f8) _ ?_
 conv => whnf
 repeat' first | (refine zk (fun h => ?_) (fun h => ?_) <;> (try simp only [qA] at h) <;> (try simp only [wA] at h) <;> conv => whnf) | refine zc ?_
 ·rfl
 refine zbw [] [] (z1w code (by omega) (zie hb)) ⟨rfl, rfl, rfl, (by repeat first | exact trivial | refine ⟨rfl, ?_⟩), ⟨rfl, rfl, rfl⟩, ?_⟩
 rintro m res hout ⟨root, ps, key, hp, hps, hkb, rfl, rfl, rfl⟩
 refine ⟨⟨rfl, rfl, rfl⟩, ?_⟩
 conv => whnf
 cases gv : vTree root ps with
 |false =>
  have h1 := z4v root key ps hp (.inl gv)
  have h2 := z4u root key ps hp (.inl gv)
  have h3 := zzm root key ps hp gv
  have h4 := zra root key ps hp gv
  repeat' first
   |(refine zn ?_ ?_; (focus (first | rfl | exact beq_self_eq_true _)); conv => whnf)
   |(refine zm ?_ ?_; (focus (first | rfl | exact bne_self_eq_false _)); conv => whnf)
   |refine zh ?_
   |(refine zp (h1) rfl rfl ?_; conv => whnf)
   |(refine zp (h2) rfl rfl ?_; conv => whnf)
   |(refine zp (h3) rfl rfl ?_; conv => whnf)
   |(refine zp (h4) rfl rfl ?_; conv => whnf)
  all_goals rfl
 |true =>
  have h3 := zdn (zjo root key ps hp gv) rfl
  change zr _ _ _ _ _ _ (.c (.nums .i64 (ptG root key ps))) _ at h3
  have h4 := zom root key ps hp gv
  unfold gkV at h4
  by_cases g : key < 0 ∨ 99 < key
  ·have h1 := z4v root key ps hp (.inr g)
   have h2 := z4u root key ps hp (.inr g)
   generalize ((psF root ps).map Pr.key).contains key = B at *
   repeat' first
    |(refine zn ?_ ?_; (focus (first | rfl | exact beq_self_eq_true _)); conv => whnf)
    |(refine zm ?_ ?_; (focus (first | rfl | exact bne_self_eq_false _)); conv => whnf)
    |refine zh ?_
    |(refine zp (h1) rfl rfl ?_; conv => whnf)
    |(refine zp (h2) rfl rfl ?_; conv => whnf)
    |(refine zp (h3) rfl rfl ?_; conv => whnf)
    |(refine zp (h4) rfl rfl ?_; conv => whnf)
   all_goals rfl
  ·have k0 : 0 ≤ key ∧ key ≤ 99 := by omega
   have h1 := z4w root key ps hp gv k0.1 k0.2
   have h2 := z4x root key ps hp gv k0.1 k0.2
   obtain ⟨hok, w1, w3⟩ := zic (key := key) gv
   have ht := z4z (key := key) gv
   have hs4 := fun a => (znz gv a).1
   have htc := z1j (ps := ps) (l := ptG root key ps)
   have htl := zzf (ps := ps) (l := ptG root key ps)
   generalize zei (psF root ps) key = VV at *
   generalize ((psF root ps).map Pr.key).contains key = B at *
   generalize spK root ps key = N at *
   generalize ptG root key ps = W at *
   cases B with
   |true =>
    repeat' first
     |(refine zn ?_ ?_; (focus (first | rfl | exact beq_self_eq_true _)); conv => whnf)
     |(refine zm ?_ ?_; (focus (first | rfl | exact bne_self_eq_false _)); conv => whnf)
     |refine zh ?_
     |(refine zp (h1) rfl rfl ?_; conv => whnf)
     |(refine zp (h2) rfl rfl ?_; conv => whnf)
     |(refine zp (h3) rfl rfl ?_; conv => whnf)
     |(refine zp (h4) rfl rfl ?_; conv => whnf)
    all_goals exact beq_self_eq_true _
   |false =>
    have := ht rfl
    rw [← this] at htc htl
    repeat' first
     |(refine zm ?_ ?_; (focus (first | rfl | exact bne_self_eq_false _)); conv => whnf)
     |(refine zm ?_ ?_; (focus ((try simp only [qA]) <;> (try simp only [wA]) <;> omega)); conv => whnf)
     |(refine zp (h1) rfl rfl ?_; conv => whnf)
     |(refine zp (h2) rfl rfl ?_; conv => whnf)
     |(refine zp (h3) rfl rfl ?_; conv => whnf)
     |(refine zp (h4) rfl rfl ?_; conv => whnf)
    refine zau (fun i : Nat => i ≤ W.length) (fun i => ⟨108, 1, [(3, .ptr 0 0 0 0), (5, .c (.int .i64 N)), (6, .c (.nums .i64 W)), (9, .c (.int .i64 i))], [(0, .box [.c (.int .i64 root), .c (.pgs ps)] [] [])]⟩) (fun i => W.length - i) 0 (Nat.zero_le _) (fun _ => Nat.zero_le _) (z5 [] [0]) (fun i hi => ?_)
    by_cases c : i < W.length
    ·obtain ⟨o1, o2⟩ := hok i c
     have f1 : W.length - N ≤ i → (zb ps (W.getD i 0)).keys.length = 4 := fun q => by
      have := htc.1 (W.length - 1 - i) (by omega)
      rwa [show W.length - 1 - (W.length - 1 - i) = i by omega] at this
     have f2 : i + N + 1 = W.length → (zb ps (W.getD i 0)).keys.length ≠ 4 := fun q => by
      have := htc.2 (by omega)
      rwa [show W.length - 1 - N = i by omega] at this
     have hs := hs4 (W.getD i 0)
     dsimp only [zb] at f1 f2 hs
     conv => whnf
     repeat' first
      |(refine za (by kernel_rfl) ?_; conv => whnf)
      |(refine zn ?_ ?_; (focus ((try simp only [qA]) <;> (try simp only [wA]) <;> omega)); conv => whnf)
      |(refine zm ?_ ?_; (focus ((try simp only [qA]) <;> (try simp only [wA]) <;> omega)); conv => whnf)
      |(refine za (by (try simp only [wA, wL]) <;> omega) ?_; conv => whnf)
      |(refine zk (fun h => ?_) (fun h => ?_) <;> (try simp only [qA] at h) <;> (try simp only [wA] at h) <;> conv => whnf)
      |(refine zg (by (try simp only [wA, wL]) <;> omega) (by (try simp only [wA, wL]) <;> omega) ?_; conv => whnf)
      |(refine ze ?_; conv => whnf)
     all_goals first
      |(refine ⟨⟨i + 1, ?_⟩, (z5 [] [0]), by dsimp only; omega⟩; (try dsimp only); omega)
      |(exfalso; omega)
    ·conv => whnf
     repeat' first | (refine zm ?_ ?_; (focus ((try simp only [qA]) <;> (try simp only [wA]) <;> omega)); conv => whnf) | refine zc ?_
     all_goals rfl
end Go.VL
