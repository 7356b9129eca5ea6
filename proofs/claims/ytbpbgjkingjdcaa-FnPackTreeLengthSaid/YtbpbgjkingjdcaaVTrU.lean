/- V-logic: TrU -/
import Derived.Test.YtbpbgjkingjdcaaVTrS
namespace Go.VL
open Go.Proofs
set_option maxRecDepth 10000
set_option linter.unusedSimpArgs false
set_option linter.unusedVariables false
def tkF (root : Int) (ps : List Pg) : List Int := if vTree root ps = true then (psF root ps).map Pr.key else []
theorem z3y (root : Int) (ps : List Pg) (hp : pB ps) : zr Try.prog 123 0 [trV root ps] [] 1 (.slc 0) [(0, .arr (.nums .i64 (tkF root ps)))] := by
 have hv := zay root ps hp
 unfold tkF
 by_cases h : vTree root ps = true
 ·have F := zdx h
  rw [if_pos h]
  rw [h] at hv
  have hpo := F.po
  have hko := zdt (psF root ps) (by have := F.len; omega)
  clear F h
  generalize psF root ps = L at *
  generalize L.map Pr.key = K at *
  refine spi (fn := Try.f123) _ ?_
  conv => whnf
  repeat' first
   |(refine zm ?_ ?_; (focus ((try simp only [qA]) <;> (try simp only [wA]) <;> omega)); conv => whnf)
   |(refine zp (hv) rfl rfl ?_; conv => whnf)
   |(refine z8 (hpo) rfl ?_; conv => whnf)
   |(refine zbe (hko) rfl rfl rfl rfl ?_; conv => whnf)
  exact (zu [] [2])
 ·rw [if_neg h]
  have h : vTree root ps = false := by simpa using h
  rw [h] at hv
  refine spi (fn := Try.f123) _ ?_
  conv => whnf
  repeat' first | (refine zn ?_ ?_; (focus ((try simp only [qA]) <;> (try simp only [wA]) <;> omega)); conv => whnf) | (refine zp (hv) rfl rfl ?_; conv => whnf)
  exact (zu [] [1])
def knG (code : List Int) (q : Int) : Int := ([zah code q 100, zah code (q + 1) 100, 0, 99, 100, -1] : List Int).getD (zah code (q + 1 + 1) 6).toNat 0
def knV (code : List Int) (p : Int) (K : List Int) : Int :=
 if (K.length : Int) > 0 then (if zah code p 3 > 0 then K.getD (zah code (p + 1) K.length).toNat 0 + ([0, 0, 1, -1] : List Int).getD (zah code (p + 1 + 1) 4).toNat 0 else knG code (p + 1)) else knG code p
def knP (code : List Int) (p : Int) (K : List Int) : Int :=
 if (K.length : Int) > 0 then (if zah code p 3 > 0 then p + 1 + 1 + 1 else p + 1 + 1 + 1 + 1) else p + 1 + 1 + 1
theorem knP_b (code : List Int) (p : Int) (K : List Int) : p ≤ knP code p K ∧ knP code p K ≤ p + 4 := by
 unfold knP; split <;> (try split) <;> omega
theorem znu {xs : List Int} {lo hi : Int} (h : ∀ x ∈ xs, lo ≤ x ∧ x ≤ hi) (h0 : lo ≤ 0) (h1 : 0 ≤ hi) (t : Nat) : lo ≤ xs.getD t 0 ∧ xs.getD t 0 ≤ hi := by
 by_cases c : t < xs.length
 ·exact h _ (zaq 0 c)
 ·rw [List.getD_eq_getElem?_getD, List.getElem?_eq_none (by omega)]; exact ⟨h0, h1⟩
theorem z1v {code : List Int} (hc : CodeOk code) {q : Int} (h0 : 0 ≤ q) (h1 : q ≤ 1000010) : -1 ≤ knG code q ∧ knG code q ≤ 100 := by
 have c1 := zdl hc (p := q) (n := 100) (by omega) (by omega)
 have c2 := zdl hc (p := q + 1) (n := 100) (by omega) (by omega)
 unfold knG
 exact znu (lo := -1) (hi := 100) (by intro x hx; simp only [List.mem_cons, List.not_mem_nil, or_false] at hx; omega) (by decide) (by decide) _
theorem zmp (code : List Int) (hc : CodeOk code) (p : Int) (h0 : 0 ≤ p) (h1 : p ≤ 1000000) (K : List Int) (hK : K.length ≤ 1000) (hb : ∀ x ∈ K, 0 ≤ x ∧ x ≤ 99) : zr Try.prog 122 1 [.ptr 0 0 0 0, .c (.nums .i64 K)] [(0, .box [.c (.nums .u8 code), .c (.int .i64 p)] [] [])] 1 (.c (.int .i64 (knV code p K))) [(0, .box [.c (.nums .u8 code), .c (.int .i64 (knP code p K))] [] [])] := by
 have hp1 := zcs code hc p 3 (by omega) (by omega) (by omega)
 have hp2 := zcs code hc (p + 1) K.length (by omega) (by omega) (by omega)
 have b2 := zdl hc (p := p + 1) (n := (K.length : Int)) (by omega) (by omega)
 have ho := zjy code hc (p + 1 + 1) [0, 0, 1, -1] (by omega) (by omega) (by simp) (by simp)
 have bo := znu (xs := [0, 0, 1, -1]) (lo := -1) (hi := 1) (by decide) (by decide) (by decide) (zah code (p + 1 + 1) ([0, 0, 1, -1] : List Int).length).toNat
 obtain ⟨E, hE⟩ : ∃ E, ([0, 0, 1, -1] : List Int).getD (zah code (p + 1 + 1) ([0, 0, 1, -1] : List Int).length).toNat 0 = E := ⟨_, rfl⟩
 obtain ⟨D, hD⟩ : ∃ D, zah code (p + 1) K.length = D := ⟨_, rfl⟩
 rw [hE] at ho bo
 rw [hD] at hp2 b2
 have hd := znu (xs := K) (lo := 0) (hi := 99) hb (by decide) (by decide) D.toNat
 have e1 : knV code p K = if (K.length : Int) > 0 then (if zah code p 3 > 0 then K.getD D.toNat 0 + E else knG code (p + 1)) else knG code p := by
  unfold knV; rw [← hD, ← hE]; rfl
 rw [e1]
 unfold knP
 generalize zah code p 3 = Z at *
 refine spi (fn := Try.f122) _ ?_
 conv => whnf
 repeat' first
  |(refine za (by kernel_rfl) ?_; conv => whnf)
  |(refine za (by (try simp only [wA, wL]) <;> omega) ?_; conv => whnf)
  |(refine zk (fun h => ?_) (fun h => ?_) <;> (try simp only [qA] at h) <;> (try simp only [wA] at h) <;> conv => whnf)
  |(refine zg (by (try simp only [wA, wL]) <;> omega) (by (try simp only [wA, wL]) <;> omega) ?_; conv => whnf)
  |(refine zal [] [0] (hp1) ⟨rfl, rfl, rfl, (by repeat first | exact trivial | refine ⟨rfl, ?_⟩), ⟨rfl, rfl, rfl, rfl, rfl, rfl⟩, ?_⟩; conv => whnf)
  |(refine zbr 0 hp2 rfl rfl rfl rfl rfl rfl rfl rfl rfl ?_; conv => whnf)
  |(refine zbr 0 ho rfl rfl rfl rfl rfl rfl rfl rfl rfl ?_; conv => whnf)
  |(refine ze ?_; conv => whnf)
 ·(repeat first | rw [if_pos (by assumption)] | rw [if_neg (by assumption)] | rw [if_neg (by rw [Bool.not_eq_true]; assumption)] | rw [if_neg (by rw [Bool.not_eq_false]; assumption)] | rw [if_pos (by omega)] | rw [if_neg (by omega)])
  exact (zu [] [0])
 ·have a1 := zcs code hc (p + 1) 100 (by omega) (by omega) (by omega)
  have a2 := zcs code hc (p + 1 + 1) 100 (by omega) (by omega) (by omega)
  have e2 : knG code (p + 1) = ([zah code (p + 1) 100, zah code (p + 1 + 1) 100, 0, 99, 100, -1] : List Int).getD (zah code (p + 1 + 1 + 1) ([zah code (p + 1) 100, zah code (p + 1 + 1) 100, 0, 99, 100, -1] : List Int).length).toNat 0 := rfl
  obtain ⟨A, hA⟩ : ∃ A, zah code (p + 1) 100 = A := ⟨_, rfl⟩
  obtain ⟨B, hB⟩ : ∃ B, zah code (p + 1 + 1) 100 = B := ⟨_, rfl⟩
  rw [hA] at a1 e2
  rw [hB] at a2 e2
  have a3 := zjy code hc (p + 1 + 1 + 1) [A, B, 0, 99, 100, -1] (by omega) (by omega) (by simp) (by simp)
  rw [← e2] at a3
  clear e2
  repeat' first
   |(refine zal [] [0] (a1) ⟨rfl, rfl, rfl, ⟨rfl, trivial⟩, ⟨rfl, rfl, rfl, rfl, rfl, rfl⟩, ?_⟩; conv => whnf)
   |(refine zal [] [0] (a2) ⟨rfl, rfl, rfl, ⟨rfl, trivial⟩, ⟨rfl, rfl, rfl, rfl, rfl, rfl⟩, ?_⟩; conv => whnf)
   |(refine zal [1] [0] (a3) ?_; (conv => whnf); refine ⟨rfl, rfl, rfl, (by repeat first | exact trivial | refine ⟨rfl, ?_⟩), ⟨rfl, rfl, rfl, rfl, rfl, rfl⟩, ?_⟩; conv => whnf)
  (repeat first | rw [if_pos (by assumption)] | rw [if_neg (by assumption)] | rw [if_neg (by rw [Bool.not_eq_true]; assumption)] | rw [if_neg (by rw [Bool.not_eq_false]; assumption)] | rw [if_pos (by omega)] | rw [if_neg (by omega)])
  exact (zu [] [0])
 ·have a1 := zcs code hc (p) 100 (by omega) (by omega) (by omega)
  have a2 := zcs code hc (p + 1) 100 (by omega) (by omega) (by omega)
  have e2 : knG code (p) = ([zah code (p) 100, zah code (p + 1) 100, 0, 99, 100, -1] : List Int).getD (zah code (p + 1 + 1) ([zah code (p) 100, zah code (p + 1) 100, 0, 99, 100, -1] : List Int).length).toNat 0 := rfl
  obtain ⟨A, hA⟩ : ∃ A, zah code (p) 100 = A := ⟨_, rfl⟩
  obtain ⟨B, hB⟩ : ∃ B, zah code (p + 1) 100 = B := ⟨_, rfl⟩
  rw [hA] at a1 e2
  rw [hB] at a2 e2
  have a3 := zjy code hc (p + 1 + 1) [A, B, 0, 99, 100, -1] (by omega) (by omega) (by simp) (by simp)
  rw [← e2] at a3
  clear e2
  repeat' first
   |(refine zal [] [0] (a1) ⟨rfl, rfl, rfl, ⟨rfl, trivial⟩, ⟨rfl, rfl, rfl, rfl, rfl, rfl⟩, ?_⟩; conv => whnf)
   |(refine zal [] [0] (a2) ⟨rfl, rfl, rfl, ⟨rfl, trivial⟩, ⟨rfl, rfl, rfl, rfl, rfl, rfl⟩, ?_⟩; conv => whnf)
   |(refine zal [1] [0] (a3) ?_; (conv => whnf); refine ⟨rfl, rfl, rfl, (by repeat first | exact trivial | refine ⟨rfl, ?_⟩), ⟨rfl, rfl, rfl, rfl, rfl, rfl⟩, ?_⟩; conv => whnf)
  (repeat first | rw [if_pos (by assumption)] | rw [if_neg (by assumption)] | rw [if_neg (by rw [Bool.not_eq_true]; assumption)] | rw [if_neg (by rw [Bool.not_eq_false]; assumption)] | rw [if_pos (by omega)] | rw [if_neg (by omega)])
  exact (zu [] [0])
end Go.VL
