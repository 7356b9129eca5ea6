/- V-logic: TrVa -/
import Derived.Test.YtbpbgjkingjdcaaVTrV
namespace Go.VL
open Go.Proofs
set_option maxRecDepth 10000
set_option linter.unusedSimpArgs false
set_option linter.unusedVariables false
theorem zlk (root : Int) (ps : List Pg) (hp : pB ps) : zr Try.prog 123 0 [trV root ps] [] 0 (.c (.nums .i64 (tkF root ps))) [] := by
 have hv := zay root ps hp
 unfold tkF
 by_cases h : vTree root ps = true
 ·have F := zdx h
  rw [if_pos h]
  rw [h] at hv
  have hpo := F.po
  have hko := zdt (psF root ps) (by have := F.len; omega)
  clear F h
  generalize psF root ps = L at *
  generalize L.map Pr.key = K at *
  refine spi (fn := Try.f123) _ ?_
  conv => whnf
  repeat' first
   |(refine zm ?_ ?_; (focus ((try simp only [qA]) <;> (try simp only [wA]) <;> omega)); conv => whnf)
   |(refine zp (hv) rfl rfl ?_; conv => whnf)
   |(refine z8 (hpo) rfl ?_; conv => whnf)
   |(refine zbe (hko) rfl rfl rfl rfl ?_; conv => whnf)
  (refine zbg [2] [] ?_; (conv => whnf); exact ⟨rfl, by repeat first | exact trivial | refine ⟨rfl, ?_⟩, rfl, rfl, rfl, rfl, rfl, rfl⟩)
 ·rw [if_neg h]
  have h : vTree root ps = false := by simpa using h
  rw [h] at hv
  refine spi (fn := Try.f123) _ ?_
  conv => whnf
  repeat' first | (refine zn ?_ ?_; (focus ((try simp only [qA]) <;> (try simp only [wA]) <;> omega)); conv => whnf) | (refine zp (hv) rfl rfl ?_; conv => whnf)
  (refine zbg [1] [] ?_; (conv => whnf); exact ⟨rfl, by repeat first | exact trivial | refine ⟨rfl, ?_⟩, rfl, rfl, rfl, rfl, rfl, rfl⟩)
theorem zww (root : Int) (ps : List Pg) : (tkF root ps).length ≤ 1000 ∧ ∀ x ∈ tkF root ps, 0 ≤ x ∧ x ≤ 99 := by
 unfold tkF
 split
 ·rename_i h
  have F := zdx h
  have hr := zaa.row (za0 h).fit.2.2.2.2
  refine ⟨by rw [List.length_map]; have := F.len; omega, fun x hx => ?_⟩
  obtain ⟨y, hy, rfl⟩ := List.mem_map.1 hx
  exact hr.rng y hy
 ·exact ⟨Nat.zero_le _, fun x hx => by cases hx⟩
theorem zxx {code : List Int} (hc : CodeOk code) {p : Int} (h0 : 0 ≤ p) (h1 : p ≤ 1000000) {K : List Int} (hb : ∀ x ∈ K, 0 ≤ x ∧ x ≤ 99) : -1 ≤ knV code p K ∧ knV code p K ≤ 100 := by
 have g0 := z1v hc (q := p) h0 (by omega)
 have g1 := z1v hc (q := p + 1) (by omega) (by omega)
 have a := znu (xs := K) (lo := 0) (hi := 99) hb (by decide) (by decide) (zah code (p + 1) K.length).toNat
 have b := znu (xs := [0, 0, 1, -1]) (lo := -1) (hi := 1) (by decide) (by decide) (by decide) (zah code (p + 1 + 1) 4).toNat
 unfold knV
 repeat' split
 all_goals omega
def ztv (m : Nat) (res : V) (hout : List (Nat × O)) : Prop :=
 ∃ (root : Int) (ps : List Pg) (key : Int), pB ps ∧ ps.length ≤ 16 ∧ (-1 ≤ key ∧ key ≤ 100) ∧ m = 0 ∧ res = .tup [trV root ps, .c (.int .i64 key)] ∧ hout = []
theorem zmy (code : List Int) (hl : code.length ≤ 1048576) (hc : CodeOk (code.take 2000)) : zce Try.prog 51 0 [.c (.nums .u8 code)] [] ztv := by
 refine spx (fn := Try.f51) _ ?_
 conv => whnf
 repeat' (refine zal [] [1] (zff code hl) ⟨rfl, rfl, rfl, (by repeat first | exact trivial | refine ⟨rfl, ?_⟩), ⟨rfl, rfl, rfl, rfl, rfl, rfl⟩, ?_⟩; conv => whnf)
 refine zbw [] [1] (zgw (code.take 2000) hc 0 (by omega) (by omega)) ⟨rfl, rfl, rfl, (by repeat first | exact trivial | refine ⟨rfl, ?_⟩), ⟨rfl, rfl, rfl⟩, ?_⟩
 rintro m res hout ⟨root, ps, p, hp, hps, p0, p1, rfl, rfl, rfl⟩
 refine ⟨⟨rfl, rfl, rfl⟩, ?_⟩
 have htk := zlk root ps hp
 have hb := zww root ps
 generalize tkF root ps = K at *
 have hkn := zmp (code.take 2000) hc p (by omega) (by omega) K hb.1 hb.2
 have hkb := zxx hc (p := p) (by omega) (by omega) hb.2
 generalize knV (code.take 2000) p K = key at *
 generalize knP (code.take 2000) p K = p' at *
 conv => whnf
 repeat' first
  |(refine za (by kernel_rfl) ?_; conv => whnf)
  |(refine zw (htk) rfl rfl ?_; conv => whnf)
  |(refine zbr 1 hkn rfl rfl rfl rfl rfl rfl rfl rfl rfl ?_; conv => whnf)
  |(refine ze ?_; conv => whnf)
 refine za1 0 (.tup [trV root ps, .c (.int .i64 key)]) [] ⟨root, ps, key, hp, hps, hkb, rfl, rfl, rfl⟩ rfl ?_
 exact (zu [] [])
theorem zie {code : List Int} (hb : ∀ x ∈ code, 0 ≤ x ∧ x ≤ 255) : CodeOk (code.take 2000) := ⟨by rw [List.length_take]; omega, fun i => by
 by_cases c : i < (code.take 2000).length
 ·exact hb _ (List.mem_of_mem_take (zaq 0 c))
 ·rw [List.getD_eq_getElem?_getD, List.getElem?_eq_none (by omega)]; exact ⟨Int.le_refl 0, (by decide : (0 : Int) ≤ 255)⟩⟩
end Go.VL
