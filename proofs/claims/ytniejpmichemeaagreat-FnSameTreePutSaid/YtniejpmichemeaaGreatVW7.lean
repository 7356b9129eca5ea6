/- V-logic: TrZa TrZb TrPd TrPe TrDp TrYc PT27 TrYd TrYe TrXa TrXe -/
import Derived.Test.YtniejpmichemeaaGreatVT2
import Derived.Test.YtniejpmichemeaaGreatVEF
import Derived.Test.YtniejpmichemeaaGreatVMA
import Derived.Test.YtniejpmichemeaaGreatVT7
import Derived.Test.YtniejpmichemeaaGreatVW6
import Derived.Test.YtniejpmichemeaaGreatVEG
import Derived.Test.YtniejpmichemeaaGreatVW1
import Derived.Test.YtniejpmichemeaaGreatVW5
namespace Go.VL
open Go.Proofs
set_option maxRecDepth 10000
set_option linter.unusedSimpArgs false
set_option linter.unusedVariables false
theorem zw2 {α : Type} [DecidableEq α] (d : α) {xs ys : List α} (hl : xs.length = ys.length) (h : ∀ i, i < xs.length → xs.getD i d = ys.getD i d) : xs = ys := by
 apply List.ext_getElem hl
 intro i h1 h2
 have := h i h1
 rwa [List.getD_eq_getElem?_getD, List.getD_eq_getElem?_getD, List.getElem?_eq_getElem h1, List.getElem?_eq_getElem h2] at this
theorem zn3 (xs ys : List Int) (h1 : xs.length ≤ 4294967296) (h2 : ys.length ≤ 4294967296) : zr Tryz.prog 42 0 [.c (.nums .i64 xs), .c (.nums .i64 ys)] [] 0 (.c (.bool (decide (xs = ys)))) [] := by
 obtain ⟨X, hX⟩ : ∃ X, decide (xs = ys) = X := ⟨_, rfl⟩
 rw [hX]
 by_cases hl : xs.length = ys.length
 ·skip
  refine spi (fn := Tryz.f42) _ ?_
  conv => whnf
  repeat' (refine zm ?_ ?_; (focus ((try simp only [qA]) <;> (try simp only [wA]) <;> omega)); conv => whnf)
  refine zau (fun i : Nat => ∀ k, k < i → xs.getD k 0 = ys.getD k 0) (fun i => ⟨26, 0, [(0, .c (.nums .i64 xs)), (1, .c (.nums .i64 ys)), (5, .c (.int .i64 i))], []⟩) (fun i => xs.length - i) 0 (fun k hk => absurd hk (Nat.not_lt_zero _)) (fun _ => Nat.zero_le _) zbn (fun i hi => ?_)
  conv => whnf
  repeat' first
   |(refine za (by kernel_rfl) ?_; conv => whnf)
   |(refine za (by (try simp only [wA, wL]) <;> omega) ?_; conv => whnf)
   |(refine zk (fun h => ?_) (fun h => ?_) <;> (try simp only [qA] at h) <;> (try simp only [wA] at h) <;> conv => whnf)
   |refine zc ?_
   |refine zd ?_
   |(refine zg (by (try simp only [wA, wL]) <;> omega) (by (try simp only [wA, wL]) <;> omega) ?_; conv => whnf)
   |(refine ze ?_; conv => whnf)
  ·rw [← hX]
   exact decide_eq_false fun q => h (by rw [q])
  ·refine ⟨⟨i + 1, fun k hk => ?_⟩, zbn, by dsimp only; omega⟩
   rcases Nat.lt_or_ge k i with c | c
   ·exact hi k c
   ·obtain rfl : k = i := by omega
    exact h
  ·rw [← hX]
   exact decide_eq_true (zw2 0 hl fun k hk => hi k (by omega))
 ·have : X = false := by
   rw [← hX]
   exact decide_eq_false fun q => hl (by rw [q])
  rw [this]
  refine spi (fn := Tryz.f42) _ ?_
  conv => whnf
  repeat' first | (refine zn ?_ ?_; (focus ((try simp only [qA]) <;> (try simp only [wA]) <;> omega)); conv => whnf) | refine zd ?_
  all_goals rfl
theorem zbh (xs : List Int) (h : xs.length ≤ 4294967296) : zr Tryz.prog 42 0 [.c (.nums .i64 xs), .c (.nums .i64 xs)] [] 0 (.c (.bool true)) [] := by
 have := zn3 xs xs h h
 rwa [decide_eq_true rfl] at this
end Go.VL
namespace Go.VL
open Go.Proofs
set_option maxRecDepth 10000
set_option linter.unusedSimpArgs false
set_option linter.unusedVariables false
theorem zj2 (ps : List Pg) (hp : pB ps) : zr Tryz.prog 100 0 [.c (.pgs ps), .c (.pgs ps)] [] 0 (.c (.bool true)) [] := by
 have k4 := hp.len
 refine spi (fn := Tryz.f100) _ ?_
 conv => whnf
 repeat' (refine zm ?_ ?_; (focus ((try simp only [qA]) <;> (try simp only [wA]) <;> omega)); conv => whnf)
 refine zau (fun i : Nat => i ≤ ps.length) (fun i => ⟨57, 0, [(0, .c (.pgs ps)), (1, .c (.pgs ps)), (5, .c (.int .i64 i))], []⟩) (fun i => ps.length - i) 0 (Nat.zero_le _) (fun _ => Nat.zero_le _) zbn (fun i hi => ?_)
 have k1 := zbh _ (hp.keys i)
 have k2 := zbh _ (hp.kids i)
 have k3 := zbh _ (hp.vals i)
 dsimp only [zb, Int.toNat_natCast] at k1 k2 k3
 conv => whnf
 repeat' first
  |(refine za (by kernel_rfl) ?_; conv => whnf)
  |(refine zn ?_ ?_; (focus ((try simp only [qA]) <;> (try simp only [wA]) <;> omega)); conv => whnf)
  |(refine za (by (try simp only [wA, wL]) <;> omega) ?_; conv => whnf)
  |(refine zk (fun h => ?_) (fun h => ?_) <;> (try simp only [qA] at h) <;> (try simp only [wA] at h) <;> conv => whnf)
  |refine zc ?_
  |(refine zg (by (try simp only [wA, wL]) <;> omega) (by (try simp only [wA, wL]) <;> omega) ?_; conv => whnf)
  |(refine zw (k1) rfl rfl ?_; conv => whnf)
  |(refine zw (k2) rfl rfl ?_; conv => whnf)
  |(refine zw (k3) rfl rfl ?_; conv => whnf)
  |(refine ze ?_; conv => whnf)
 ·refine ⟨⟨i + 1, ?_⟩, zbn, by dsimp only; omega⟩; (try dsimp only)
  omega
 ·rfl
theorem zqk : zr Tryz.prog 100 0 [.nil, .nil] [] 0 (.c (.bool true)) [] :=
 zkb (args := [.c (.pgs []), .c (.pgs [])]) ⟨.inr ⟨rfl, _, rfl, rfl, rfl⟩, .inr ⟨rfl, _, rfl, rfl, rfl⟩, trivial⟩ (zj2 [] ⟨by decide, by intro i; simp [zb], by intro i; simp [zb], by intro i; simp [zb]⟩)
theorem z2b (root : Int) (ps : List Pg) (hp : pB ps) : zr Tryz.prog 45 0 [trV root ps, trV root ps] [] 0 (.c (.bool true)) [] := by
 refine spi (fn := Tryz.f45) _ ?_
 conv => whnf
 repeat' first
  |(refine zn ?_ ?_; (focus ((try simp only [qA]) <;> (try simp only [wA]) <;> omega)); conv => whnf)
  |refine zh ?_
  |(refine zp (zj2 _ hp) rfl rfl ?_; conv => whnf)
 all_goals rfl
theorem z3a : zr Tryz.prog 45 0 [.agg [.c (.int .i64 0), .nil], .agg [.c (.int .i64 0), .nil]] [] 0 (.c (.bool true)) [] := by
 refine spi (fn := Tryz.f45) _ ?_
 conv => whnf
 repeat' first | (refine zn ?_ ?_; (focus ((try simp only [qA]) <;> (try simp only [wA]) <;> omega)); conv => whnf) | refine zh ?_ | (refine zp (zqk) rfl rfl ?_; conv => whnf)
 all_goals rfl
end Go.VL
namespace Go.VL
open Go.Proofs
set_option maxRecDepth 10000
set_option linter.unusedSimpArgs false
set_option linter.unusedVariables false
end Go.VL
namespace Go.VL
open Go.Proofs
set_option maxRecDepth 10000
set_option linter.unusedSimpArgs false
set_option linter.unusedVariables false
end Go.VL
namespace Go.VL
open Go.Proofs
set_option maxRecDepth 10000
set_option linter.unusedSimpArgs false
set_option linter.unusedVariables false
def svL (code : List Int) (p : Int) : List Int := [zah code p 100, 0 - zah code (p + 1) 100, 0, 1000, -1000, zah code (p + 1 + 1) 100, zah code (p + 1 + 1 + 1) 100, 1001, zah code (p + 1 + 1 + 1 + 1) 100]
def svF (code : List Int) (p : Int) : Int :=
 (svL code p).getD (zah code (p + 1 + 1 + 1 + 1 + 1) (svL code p).length).toNat 0
theorem svF_b {code : List Int} (hc : CodeOk code) {p : Int} (h0 : 0 ≤ p) (h1 : p ≤ 1000000) : -1000 ≤ svF code p ∧ svF code p ≤ 1001 := by
 have b1 := zdl hc (p := p) (n := 100) h0 (by omega)
 have b2 := zdl hc (p := p + 1) (n := 100) (by omega) (by omega)
 have b3 := zdl hc (p := p + 1 + 1) (n := 100) (by omega) (by omega)
 have b4 := zdl hc (p := p + 1 + 1 + 1) (n := 100) (by omega) (by omega)
 have b5 := zdl hc (p := p + 1 + 1 + 1 + 1) (n := 100) (by omega) (by omega)
 have c1 := b1.2 (by omega)
 have c2 := b2.2 (by omega)
 have c3 := b3.2 (by omega)
 have c4 := b4.2 (by omega)
 have c5 := b5.2 (by omega)
 unfold svF
 refine znu (lo := -1000) (hi := 1001) ?_ (by decide) (by decide) _
 intro x hx
 unfold svL at hx
 simp only [List.mem_cons, List.not_mem_nil, or_false] at hx
 rcases hx with rfl | rfl | rfl | rfl | rfl | rfl | rfl | rfl | rfl <;> omega
theorem z60 (code : List Int) (hc : CodeOk code) (p : Int) (h0 : 0 ≤ p) (h1 : p ≤ 1000000) : zr Tryz.prog 115 1 [.ptr 0 0 0 0] [(0, .box [.c (.nums .u8 code), .c (.int .i64 p)] [] [])] 1 (.c (.int .i64 (svF code p))) [(0, .box [.c (.nums .u8 code), .c (.int .i64 (p + 1 + 1 + 1 + 1 + 1 + 1))] [] [])] := by
 have b2 := zdl hc (p := p + 1) (n := 100) (by omega) (by omega)
 have c2 := b2.2 (by omega)
 refine spi (fn := Tryz.f115) _ ?_
 conv => whnf
 repeat' first
  |(refine zg (by (try simp only [wA, wL]) <;> omega) (by (try simp only [wA, wL]) <;> omega) ?_; conv => whnf)
  |(refine zal [] [0] (zcs code hc _ _ ?_ ?_ ?_) ⟨rfl, rfl, rfl, (by repeat first | exact trivial | refine ⟨rfl, ?_⟩), ⟨rfl, rfl, rfl, rfl, rfl, rfl⟩, ?_⟩; (iterate 3 (focus omega)); conv => whnf)
  |(refine zal [1] [0] (zjy code hc (p + 1 + 1 + 1 + 1 + 1) (svL code p) (by omega) (by omega) (by unfold svL; simp) (by unfold svL; simp)) ?_; (conv => whnf); refine ⟨rfl, rfl, rfl, (by repeat first | exact trivial | refine ⟨rfl, ?_⟩), ⟨rfl, rfl, rfl, rfl, rfl, rfl⟩, ?_⟩; conv => whnf)
 exact (zu [] [0])
def z9x (m : Nat) (res : V) (hout : List (Nat × O)) : Prop :=
 ∃ (root : Int) (ps : List Pg) (x : Pr), pB ps ∧ ps.length ≤ 16 ∧ -1 ≤ x.key ∧ x.key ≤ 100 ∧ -1000 ≤ x.value ∧ x.value ≤ 1001 ∧ m = 0 ∧ res = .tup [trV root ps, prV x] ∧ hout = []
theorem z9n (code : List Int) (hl : code.length ≤ 1048576) (hc : CodeOk (code.take 2000)) : zce Tryz.prog 52 0 [.c (.nums .u8 code)] [] z9x := by
 refine spx (fn := Tryz.f52) _ ?_
 conv => whnf
 repeat' (refine zal [] [2] (zff code hl) ⟨rfl, rfl, rfl, (by repeat first | exact trivial | refine ⟨rfl, ?_⟩), ⟨rfl, rfl, rfl, rfl, rfl, rfl⟩, ?_⟩; conv => whnf)
 refine zbw [] [2] (zgw (code.take 2000) hc 0 (by omega) (by omega)) ⟨rfl, rfl, rfl, (by repeat first | exact trivial | refine ⟨rfl, ?_⟩), ⟨rfl, rfl, rfl⟩, ?_⟩
 rintro m res hout ⟨root, ps, p, hp, hps, p0, p1, rfl, rfl, rfl⟩
 refine ⟨⟨rfl, rfl, rfl⟩, ?_⟩
 have htk := zlk root ps hp
 have hb := zww root ps
 generalize tkF root ps = K at *
 have hkn := zmp (code.take 2000) hc p (by omega) (by omega) K hb.1 hb.2
 have hkb := zxx hc (p := p) (by omega) (by omega) hb.2
 have hpb := knP_b (code.take 2000) p K
 generalize knV (code.take 2000) p K = key at *
 generalize knP (code.take 2000) p K = p' at *
 have hsv := z60 (code.take 2000) hc p' (by omega) (by omega)
 have hsb := svF_b hc (p := p') (by omega) (by omega)
 generalize svF (code.take 2000) p' = v at *
 conv => whnf
 repeat' first
  |(refine za (by kernel_rfl) ?_; conv => whnf)
  |(refine zp (htk) rfl rfl ?_; conv => whnf)
  |(refine zal [] [2] (hkn) ⟨rfl, rfl, rfl, (by repeat first | exact trivial | refine ⟨rfl, ?_⟩), ⟨rfl, rfl, rfl, rfl, rfl, rfl⟩, ?_⟩; conv => whnf)
  |(refine zbr 2 hsv rfl rfl rfl rfl rfl rfl rfl rfl rfl ?_; conv => whnf)
  |(refine ze ?_; conv => whnf)
 exact za1 0 (.tup [trV root ps, prV ⟨key, v⟩]) [] ⟨root, ps, ⟨key, v⟩, hp, hps, hkb.1, hkb.2, hsb.1, hsb.2, rfl, rfl, rfl⟩ rfl (zu [] [])
end Go.VL
namespace Go.VL
open Go.Proofs
set_option maxRecDepth 10000
set_option linter.unusedSimpArgs false
set_option linter.unusedVariables false
end Go.VL
namespace Go.VL
set_option linter.unusedVariables false
set_option linter.unusedSimpArgs false
end Go.VL
namespace Go.VL
open Go.Proofs
set_option maxRecDepth 10000
set_option linter.unusedSimpArgs false
set_option linter.unusedVariables false
end Go.VL
namespace Go.VL
open Go.Proofs
set_option maxRecDepth 10000
set_option linter.unusedSimpArgs false
set_option linter.unusedVariables false
theorem z8w (xs ys : List Pr) (b : Bool) (hb : b = true ↔ xs = ys) (hl : xs.length ≤ 4294967296) (hm : ys.length ≤ 4294967296) : zr Tryz.prog 110 0 [.c (.prs xs), .c (.prs ys)] [] 0 (.c (.bool b)) [] := by
 have hb2 : ¬ xs = ys → b = false := fun q => by
  cases b with
  |false => rfl
  |true => exact (q (hb.1 rfl)).elim
 refine spi (fn := Tryz.f110) _ ?_
 conv => whnf
 repeat' first | (refine zk (fun h => ?_) (fun h => ?_) <;> (try simp only [qA] at h) <;> (try simp only [wA] at h) <;> conv => whnf) | refine zd ?_
 ·exact hb2 (fun q => by subst q; omega)
 refine zau (fun k : Nat => k ≤ xs.length ∧ xs.take k = ys.take k) (fun k => ⟨26, 0, [(0, .c (.prs xs)), (1, .c (.prs ys)), (12, .c (.int .i64 xs.length)), (13, .c (.int .i64 k))], []⟩) (fun k => xs.length - k) 0 ⟨Nat.zero_le _, rfl⟩ (fun _ => Nat.zero_le _) zbn (fun k hk => ?_)
 obtain ⟨hk, he⟩ := hk
 conv => whnf
 repeat' first
  |(refine za (by kernel_rfl) ?_; conv => whnf)
  |(refine za (by (try simp only [wA, wL]) <;> omega) ?_; conv => whnf)
  |(refine zk (fun h => ?_) (fun h => ?_) <;> (try simp only [qA] at h) <;> (try simp only [wA] at h) <;> conv => whnf)
  |refine zc ?_
  |refine zd ?_
  |(refine zg (by (try simp only [wA, wL]) <;> omega) (by (try simp only [wA, wL]) <;> omega) ?_; conv => whnf)
  |(refine ze ?_; conv => whnf)
 ·refine hb2 fun q => ?_
  subst q
  rw [beq_self_eq_true, beq_self_eq_true] at h
  cases h
 ·rw [Bool.and_eq_true, beq_iff_eq, beq_iff_eq] at h
  have e : xs.getD k ⟨0, 0⟩ = ys.getD k ⟨0, 0⟩ := by
   revert h
   generalize xs.getD k ⟨0, 0⟩ = a
   generalize ys.getD k ⟨0, 0⟩ = b
   rintro ⟨h1, h2⟩
   cases a; cases b; cases h1; cases h2; rfl
  exact ⟨⟨k + 1, by omega, by rw [zat ⟨0, 0⟩ (by omega), zat ⟨0, 0⟩ (by omega), he, e]⟩, zbn, by dsimp only; omega⟩
 ·rw [List.take_of_length_le (by omega), List.take_of_length_le (by omega)] at he
  exact hb.2 he
theorem z95 (r1 q1 : Int) (r2 q2 : List Pg) (hp : pB r2) (hq : pB q2) (g1 : vTree r1 r2 = true) (g2 : vTree q1 q2 = true) (b : Bool) (hb : b = true ↔ psF r1 r2 = psF q1 q2) : zr Tryz.prog 51 0 [trV r1 r2, trV q1 q2] [] 0 (.c (.bool b)) [] := by
 have v1 := zbi r1 r2 hp
 have v2 := zbi q1 q2 hq
 rw [g1] at v1
 rw [g2] at v2
 have p1 := zdn (zih r1 r2 hp g1) rfl
 have p2 := zdn (zih q1 q2 hq g2) rfl
 change zr _ _ _ _ _ _ (.c (.prs (psF r1 r2))) _ at p1
 change zr _ _ _ _ _ _ (.c (.prs (psF q1 q2))) _ at p2
 have he := z8w (psF r1 r2) (psF q1 q2) b hb (by have := (zdx g1).len; omega) (by have := (zdx g2).len; omega)
 cases b with
 |false =>
  refine spi (fn := Tryz.f51) _ ?_
  conv => whnf
  repeat' first
   |(refine za (by kernel_rfl) ?_; conv => whnf)
   |(refine zn ?_ ?_; (focus (first | rfl | exact beq_self_eq_true _)); conv => whnf)
   |(refine zm ?_ ?_; (focus (first | rfl | exact bne_self_eq_false _)); conv => whnf)
   |refine zd ?_
   |(refine zw (v1) rfl rfl ?_; conv => whnf)
   |(refine zw (v2) rfl rfl ?_; conv => whnf)
   |(refine zw (p1) rfl rfl ?_; conv => whnf)
   |(refine zw (p2) rfl rfl ?_; conv => whnf)
   |(refine zw (he) rfl rfl ?_; conv => whnf)
   |(refine ze ?_; conv => whnf)
  all_goals rfl
 |true =>
  refine spi (fn := Tryz.f51) _ ?_
  conv => whnf
  repeat' first
   |(refine za (by kernel_rfl) ?_; conv => whnf)
   |(refine zn ?_ ?_; (focus (first | rfl | exact beq_self_eq_true _)); conv => whnf)
   |refine zc ?_
   |(refine zw (v1) rfl rfl ?_; conv => whnf)
   |(refine zw (v2) rfl rfl ?_; conv => whnf)
   |(refine zw (p1) rfl rfl ?_; conv => whnf)
   |(refine zw (p2) rfl rfl ?_; conv => whnf)
   |(refine zw (he) rfl rfl ?_; conv => whnf)
   |(refine ze ?_; conv => whnf)
  all_goals rfl
end Go.VL
namespace Go.VL
open Go.Proofs
set_option maxRecDepth 10000
set_option linter.unusedSimpArgs false
set_option linter.unusedVariables false
end Go.VL
namespace Go.VL
open Go.Proofs
set_option maxRecDepth 10000
set_option linter.unusedSimpArgs false
set_option linter.unusedVariables false
theorem FnSameTreePut_v (code : List Int) (hl0 : code.length ≤ 9223372036854775807) (hb : ∀ x ∈ code, 0 ≤ x ∧ x ≤ 255) : zr Tryz.prog 15 0 [.c (.nums .u8 code)] [] 0 (.c (.bool true)) [] := by
 refine spi (fn := Tryz.f15) _ ?_
 conv => whnf
 repeat' first | (refine zk (fun h => ?_) (fun h => ?_) <;> (try simp only [qA] at h) <;> (try simp only [wA] at h) <;> conv => whnf) | refine zc ?_
 ·rfl
 refine zbw [] [] (z9n code (by omega) (zie hb)) ⟨rfl, rfl, rfl, (by repeat first | exact trivial | refine ⟨rfl, ?_⟩), ⟨rfl, rfl, rfl⟩, ?_⟩
 rintro m res hout ⟨root, ps, x, hp, hps, k0, k1, w0, w1, rfl, rfl, rfl⟩
 refine ⟨⟨rfl, rfl, rfl⟩, ?_⟩
 have h1 := z8q root ps x hp
 have h2 := z7z root ps x hp
 cases g : zqc root ps x with
 |none =>
  rw [g] at h1 h2
  change zr _ _ _ _ _ _ (.tup [ztV, .ff]) _ at h1 h2
  have h3 := z3a
  conv => whnf
  repeat' first
   |(refine zn ?_ ?_; (focus (first | rfl | exact beq_self_eq_true _)); conv => whnf)
   |(refine zm ?_ ?_; (focus (first | rfl | exact bne_self_eq_false _)); conv => whnf)
   |refine zh ?_
   |(refine zp (h1) rfl rfl ?_; conv => whnf)
   |(refine zp (h2) rfl rfl ?_; conv => whnf)
   |(refine zp (h3) rfl rfl ?_; conv => whnf)
  all_goals rfl
 |some r =>
  rw [g] at h1 h2
  obtain ⟨r1, r2⟩ := r
  change zr _ _ _ _ _ _ (.tup [trV r1 r2, .tt]) _ at h1 h2
  have F := z4h g
  have hq : pB r2 := (zdx F.vt).pb
  have h3 := z2b r1 r2 hq
  have hasc : Asc ((psF root ps).map Pr.key) := (zaa.row (za0 F.v0).fit.2.2.2.2).asc
  have hprs := F.prs
  dsimp only at hprs
  have h4 := zom root x.key ps hp F.v0
  unfold gkV at h4
  have hmv := mem_val hasc (x := x)
  have hfx := insP_fix hasc (x := x)
  rw [← hprs] at hfx
  have hck : ((psF root ps).map Pr.key).contains x.key = true ↔ x.key ∈ (psF root ps).map Pr.key := List.contains_iff_mem
  have hS := fun b hb => z95 r1 root r2 ps hq hp F.vt F.v0 b hb
  cases c : ((psF root ps).map Pr.key).contains x.key with
  |false =>
   have h5 := hS false ⟨fun q => (by cases q), fun q => by have := hck.2 (hmv.1 (hfx.1 q)).1; rw [c] at this; cases this⟩
   rw [c] at h4
   conv => whnf
   repeat' first
    |(refine zm ?_ ?_; (focus (first | rfl | exact bne_self_eq_false _)); conv => whnf)
    |refine zh ?_
    |(refine zp (h1) rfl rfl ?_; conv => whnf)
    |(refine zp (h2) rfl rfl ?_; conv => whnf)
    |(refine zp (h3) rfl rfl ?_; conv => whnf)
    |(refine zp (h4) rfl rfl ?_; conv => whnf)
    |(refine zp (h5) rfl rfl ?_; conv => whnf)
   all_goals first | rfl | (exfalso; omega)
  |true =>
   rw [c] at h4
   by_cases e : zei (psF root ps) x.key = x.value
   ·have h5 := hS true ⟨fun _ => hfx.2 (hmv.2 ⟨hck.1 c, e⟩), fun _ => rfl⟩
    conv => whnf
    repeat' first
     |(refine zn ?_ ?_; (focus (first | rfl | exact beq_self_eq_true _)); conv => whnf)
     |(refine zm ?_ ?_; (focus (first | rfl | exact bne_self_eq_false _)); conv => whnf)
     |refine zh ?_
     |(refine zp (h1) rfl rfl ?_; conv => whnf)
     |(refine zp (h2) rfl rfl ?_; conv => whnf)
     |(refine zp (h3) rfl rfl ?_; conv => whnf)
     |(refine zp (h4) rfl rfl ?_; conv => whnf)
     |(refine zp (h5) rfl rfl ?_; conv => whnf)
    rw [e, beq_self_eq_true]; rfl
   ·have h5 := hS false ⟨fun q => (by cases q), fun q => (e (hmv.1 (hfx.1 q)).2).elim⟩
    conv => whnf
    repeat' first
     |(refine zn ?_ ?_; (focus (first | rfl | exact beq_self_eq_true _)); conv => whnf)
     |(refine zm ?_ ?_; (focus (first | rfl | exact bne_self_eq_false _)); conv => whnf)
     |refine zh ?_
     |(refine zp (h1) rfl rfl ?_; conv => whnf)
     |(refine zp (h2) rfl rfl ?_; conv => whnf)
     |(refine zp (h3) rfl rfl ?_; conv => whnf)
     |(refine zp (h4) rfl rfl ?_; conv => whnf)
     |(refine zp (h5) rfl rfl ?_; conv => whnf)
    rw [beq_eq_false_iff_ne.2 e]; rfl
end Go.VL
