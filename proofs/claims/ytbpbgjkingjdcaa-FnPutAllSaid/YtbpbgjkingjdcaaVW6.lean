/- V-logic: TrZa TrZb TrPd TrPe TrDp PT27 TrYd TrLt -/
import Derived.Test.YtbpbgjkingjdcaaVT2
import Derived.Test.YtbpbgjkingjdcaaVEF
import Derived.Test.YtbpbgjkingjdcaaVMA
import Derived.Test.YtbpbgjkingjdcaaVT7
import Derived.Test.YtbpbgjkingjdcaaVW5
import Derived.Test.YtbpbgjkingjdcaaVEG
import Derived.Test.YtbpbgjkingjdcaaVW1
import Derived.Test.YtbpbgjkingjdcaaVW4
namespace Go.VL
open Go.Proofs
set_option maxRecDepth 10000
set_option linter.unusedSimpArgs false
set_option linter.unusedVariables false
theorem zw2 {α : Type} [DecidableEq α] (d : α) {xs ys : List α} (hl : xs.length = ys.length) (h : ∀ i, i < xs.length → xs.getD i d = ys.getD i d) : xs = ys := by
 apply List.ext_getElem hl
 intro i h1 h2
 have := h i h1
 rwa [List.getD_eq_getElem?_getD, List.getD_eq_getElem?_getD, List.getElem?_eq_getElem h1, List.getElem?_eq_getElem h2] at this
theorem zn3 (xs ys : List Int) (h1 : xs.length ≤ 4294967296) (h2 : ys.length ≤ 4294967296) : zr Try.prog 39 0 [.c (.nums .i64 xs), .c (.nums .i64 ys)] [] 0 (.c (.bool (decide (xs = ys)))) [] := by
 obtain ⟨X, hX⟩ : ∃ X, decide (xs = ys) = X := ⟨_, rfl⟩
 rw [hX]
 by_cases hl : xs.length = ys.length
 ·skip
  refine spi (fn := Try.f39) _ ?_
  conv => whnf
  repeat' (refine zm ?_ ?_; (focus ((try simp only [qA]) <;> (try simp only [wA]) <;> omega)); conv => whnf)
  refine zau (fun i : Nat => ∀ k, k < i → xs.getD k 0 = ys.getD k 0) (fun i => ⟨26, 0, [(0, .c (.nums .i64 xs)), (1, .c (.nums .i64 ys)), (5, .c (.int .i64 i))], []⟩) (fun i => xs.length - i) 0 (fun k hk => absurd hk (Nat.not_lt_zero _)) (fun _ => Nat.zero_le _) zbn (fun i hi => ?_)
  conv => whnf
  repeat' first
   |(refine za (by kernel_rfl) ?_; conv => whnf)
   |(refine za (by (try simp only [wA, wL]) <;> omega) ?_; conv => whnf)
   |(refine zk (fun h => ?_) (fun h => ?_) <;> (try simp only [qA] at h) <;> (try simp only [wA] at h) <;> conv => whnf)
   |refine zc ?_
   |refine zd ?_
   |(refine zg (by (try simp only [wA, wL]) <;> omega) (by (try simp only [wA, wL]) <;> omega) ?_; conv => whnf)
   |(refine ze ?_; conv => whnf)
  ·rw [← hX]
   exact decide_eq_false fun q => h (by rw [q])
  ·refine ⟨⟨i + 1, fun k hk => ?_⟩, zbn, by dsimp only; omega⟩
   rcases Nat.lt_or_ge k i with c | c
   ·exact hi k c
   ·obtain rfl : k = i := by omega
    exact h
  ·rw [← hX]
   exact decide_eq_true (zw2 0 hl fun k hk => hi k (by omega))
 ·have : X = false := by
   rw [← hX]
   exact decide_eq_false fun q => hl (by rw [q])
  rw [this]
  refine spi (fn := Try.f39) _ ?_
  conv => whnf
  repeat' first | (refine zn ?_ ?_; (focus ((try simp only [qA]) <;> (try simp only [wA]) <;> omega)); conv => whnf) | refine zd ?_
  all_goals rfl
theorem zbh (xs : List Int) (h : xs.length ≤ 4294967296) : zr Try.prog 39 0 [.c (.nums .i64 xs), .c (.nums .i64 xs)] [] 0 (.c (.bool true)) [] := by
 have := zn3 xs xs h h
 rwa [decide_eq_true rfl] at this
end Go.VL
namespace Go.VL
open Go.Proofs
set_option maxRecDepth 10000
set_option linter.unusedSimpArgs false
set_option linter.unusedVariables false
theorem zj2 (ps : List Pg) (hp : pB ps) : zr Try.prog 118 0 [.c (.pgs ps), .c (.pgs ps)] [] 0 (.c (.bool true)) [] := by
 have k4 := hp.len
 refine spi (fn := Try.f118) _ ?_
 conv => whnf
 repeat' (refine zm ?_ ?_; (focus ((try simp only [qA]) <;> (try simp only [wA]) <;> omega)); conv => whnf)
 refine zau (fun i : Nat => i ≤ ps.length) (fun i => ⟨57, 0, [(0, .c (.pgs ps)), (1, .c (.pgs ps)), (5, .c (.int .i64 i))], []⟩) (fun i => ps.length - i) 0 (Nat.zero_le _) (fun _ => Nat.zero_le _) zbn (fun i hi => ?_)
 have k1 := zbh _ (hp.keys i)
 have k2 := zbh _ (hp.kids i)
 have k3 := zbh _ (hp.vals i)
 dsimp only [zb, Int.toNat_natCast] at k1 k2 k3
 conv => whnf
 repeat' first
  |(refine za (by kernel_rfl) ?_; conv => whnf)
  |(refine zn ?_ ?_; (focus ((try simp only [qA]) <;> (try simp only [wA]) <;> omega)); conv => whnf)
  |(refine za (by (try simp only [wA, wL]) <;> omega) ?_; conv => whnf)
  |(refine zk (fun h => ?_) (fun h => ?_) <;> (try simp only [qA] at h) <;> (try simp only [wA] at h) <;> conv => whnf)
  |refine zc ?_
  |(refine zg (by (try simp only [wA, wL]) <;> omega) (by (try simp only [wA, wL]) <;> omega) ?_; conv => whnf)
  |(refine zw (k1) rfl rfl ?_; conv => whnf)
  |(refine zw (k2) rfl rfl ?_; conv => whnf)
  |(refine zw (k3) rfl rfl ?_; conv => whnf)
  |(refine ze ?_; conv => whnf)
 ·refine ⟨⟨i + 1, ?_⟩, zbn, by dsimp only; omega⟩; (try dsimp only)
  omega
 ·rfl
theorem zqk : zr Try.prog 118 0 [.nil, .nil] [] 0 (.c (.bool true)) [] :=
 zkb (args := [.c (.pgs []), .c (.pgs [])]) ⟨.inr ⟨rfl, _, rfl, rfl, rfl⟩, .inr ⟨rfl, _, rfl, rfl, rfl⟩, trivial⟩ (zj2 [] ⟨by decide, by intro i; simp [zb], by intro i; simp [zb], by intro i; simp [zb]⟩)
theorem z2b (root : Int) (ps : List Pg) (hp : pB ps) : zr Try.prog 45 0 [trV root ps, trV root ps] [] 0 (.c (.bool true)) [] := by
 refine spi (fn := Try.f45) _ ?_
 conv => whnf
 repeat' first
  |(refine zn ?_ ?_; (focus ((try simp only [qA]) <;> (try simp only [wA]) <;> omega)); conv => whnf)
  |refine zh ?_
  |(refine zp (zj2 _ hp) rfl rfl ?_; conv => whnf)
 all_goals rfl
theorem z3a : zr Try.prog 45 0 [.agg [.c (.int .i64 0), .nil], .agg [.c (.int .i64 0), .nil]] [] 0 (.c (.bool true)) [] := by
 refine spi (fn := Try.f45) _ ?_
 conv => whnf
 repeat' first | (refine zn ?_ ?_; (focus ((try simp only [qA]) <;> (try simp only [wA]) <;> omega)); conv => whnf) | refine zh ?_ | (refine zp (zqk) rfl rfl ?_; conv => whnf)
 all_goals rfl
end Go.VL
namespace Go.VL
open Go.Proofs
set_option maxRecDepth 10000
set_option linter.unusedSimpArgs false
set_option linter.unusedVariables false
end Go.VL
namespace Go.VL
open Go.Proofs
set_option maxRecDepth 10000
set_option linter.unusedSimpArgs false
set_option linter.unusedVariables false
end Go.VL
namespace Go.VL
open Go.Proofs
set_option maxRecDepth 10000
set_option linter.unusedSimpArgs false
set_option linter.unusedVariables false
def prB (l : List Pr) : Prop := ∀ x ∈ l, -1 ≤ x.key ∧ x.key ≤ 100 ∧ -1000 ≤ x.value ∧ x.value ≤ 1001
theorem yax (code : List Int) (hl : code.length ≤ 1048576) (hc : CodeOk (code.take 2000)) : zce Try.prog 95 0 [.c (.nums .u8 code)] [] (fun m res hout => ∃ (root : Int) (ps : List Pg) (l : List Pr), pB ps ∧ ps.length ≤ 16 ∧ prB l ∧ l.length ≤ 25 ∧ m = 0 ∧ res = .tup [trV root ps, .c (.prs l)] ∧ hout = []) := by
 refine spx (fn := Try.f95) _ ?_
 conv => whnf
 repeat' (refine zal [] [1] (zff code hl) ⟨rfl, rfl, rfl, (by repeat first | exact trivial | refine ⟨rfl, ?_⟩), ⟨rfl, rfl, rfl, rfl, rfl, rfl⟩, ?_⟩; conv => whnf)
 refine zbw [] [1] (zgw (code.take 2000) hc 0 (by omega) (by omega)) ⟨rfl, rfl, rfl, (by repeat first | exact trivial | refine ⟨rfl, ?_⟩), ⟨rfl, rfl, rfl⟩, ?_⟩
 rintro m res hout ⟨root, ps, p, hp, hps, p0, p1, rfl, rfl, rfl⟩
 refine ⟨⟨rfl, rfl, rfl⟩, ?_⟩
 have ho1 := zjy (code.take 2000) hc p [3, 6, 1, 12, 0, 25] (by omega) (by omega) (by simp) (by simp)
 have b1 := znu (xs := [3, 6, 1, 12, 0, 25]) (lo := 0) (hi := 25) (by decide) (by decide) (by decide) (zah (code.take 2000) p ([3, 6, 1, 12, 0, 25] : List Int).length).toNat
 generalize ([3, 6, 1, 12, 0, 25] : List Int).getD (zah (code.take 2000) p ([3, 6, 1, 12, 0, 25] : List Int).length).toNat 0 = N at *
 generalize code.take 2000 = cd at *
 conv => whnf
 repeat' (refine zal [4] [1] ho1 ?_; (conv => whnf); refine ⟨rfl, rfl, rfl, (by repeat first | exact trivial | refine ⟨rfl, ?_⟩), ⟨rfl, rfl, rfl, rfl, rfl, rfl⟩, ?_⟩; conv => whnf)
 refine zk5 (fun (l : List Pr) (q z : Int) => prB l ∧ l.length + z.toNat ≤ 25 ∧ 0 ≤ q ∧ q + 2 * z ≤ 100000 ∧ 0 ≤ z) (fun l q z => ⟨30, 4, [(0, .c (.nums .u8 code)), (2, .ptr 0 0 0 0), (4, .ptr 1 0 0 0), (5, .ptr 2 0 0 0), (6, .slc 3), (7, .c (.int .i64 z))], [(0, .box [.c (.int .i64 0), .nil] [] []), (1, .box [.c (.nums .u8 cd), .c (.int .i64 q)] [] []), (2, .box [.c (.int .i64 root), .c (.pgs ps)] [] []), (3, .arr (.prs l))]⟩) (fun l q z => z.toNat) [] (p + 1) N ⟨(fun x hx => by cases hx), by simp; omega, by omega, by omega, b1.1⟩ (fun _ _ _ => Nat.zero_le _) (z5 [] [0, 1, 2, 3]) (fun l q z hi => ?_)
 obtain ⟨i1, i2, i3, i4, i5⟩ := hi
 have c1 := zdl hc (p := q) (n := 100) (by omega) (by omega)
 have c2 := zdl hc (p := q + 1) (n := 100) (by omega) (by omega)
 have c3 := c1.2 (by omega)
 have c4 := c2.2 (by omega)
 conv => whnf
 repeat' first
  |(refine za (by (try simp only [wA, wL]) <;> omega) ?_; conv => whnf)
  |(refine zk (fun h => ?_) (fun h => ?_) <;> (try simp only [qA] at h) <;> (try simp only [wA] at h) <;> conv => whnf)
  |(refine zg (by (try simp only [wA, wL]) <;> omega) (by (try simp only [wA, wL]) <;> omega) ?_; conv => whnf)
  |(refine zal [] [1] (zcs cd hc _ _ ?_ ?_ ?_) ⟨rfl, rfl, rfl, (by repeat first | exact trivial | refine ⟨rfl, ?_⟩), ⟨rfl, rfl, rfl, rfl, rfl, rfl⟩, ?_⟩; (iterate 3 (focus omega)); conv => whnf)
 ·refine ⟨⟨(l ++ ([] ++ [⟨zah cd q 100, zah cd (q + 1) 100⟩]), q + 1 + 1, z - 1), ?_⟩, (z5 [] [0, 1, 2, 3]), by dsimp only; omega⟩; (try dsimp only)
  refine ⟨fun x hx => ?_, by simp; omega, by omega, by omega, by omega⟩
  rw [List.nil_append, List.mem_append, List.mem_singleton] at hx
  rcases hx with hx | rfl
  ·exact i1 x hx
  ·dsimp only; omega
 ·exact za1 0 (.tup [trV root ps, .c (.prs l)]) [] ⟨root, ps, l, hp, hps, i1, by omega, rfl, rfl, rfl⟩ rfl (zu [3] [])
end Go.VL
namespace Go.VL
set_option linter.unusedVariables false
set_option linter.unusedSimpArgs false
def ya1 : Int × List Pg → List Pr → Option (Int × List Pg)
 |s, [] => some s
 |s, x :: t => match zqc s.1 s.2 x with
  |none => none
  |some r => ya1 r t
theorem ya6 {s : Int × List Pg} {ys : List Pr} : ∀ {xs : List Pr} {s : Int × List Pg}, ya1 s (xs ++ ys) = match ya1 s xs with
  |none => none
  |some r => ya1 r ys
 |[], _ => rfl
 |x :: t, s => by
  show (match zqc s.1 s.2 x with
   |none => none
   |some r => ya1 r (t ++ ys)) = match (match zqc s.1 s.2 x with
   |none => none
   |some r => ya1 r t) with
   |none => none
   |some r => ya1 r ys
  cases zqc s.1 s.2 x with
  |none => rfl
  |some r => exact ya6 (s := s)
theorem ya4 {s : Int × List Pg} {xs : List Pr} {i : Nat} (hi : i < xs.length) {r : Int × List Pg} (h : ya1 s (xs.take i) = some r) : ya1 s (xs.take (i + 1)) = zqc r.1 r.2 (xs.getD i ⟨0, 0⟩) := by
 rw [zat ⟨0, 0⟩ hi, ya6 (s := s), h]
 show (match zqc r.1 r.2 (xs.getD i ⟨0, 0⟩) with
   |none => none
   |some r => some r) = _
 cases zqc r.1 r.2 (xs.getD i ⟨0, 0⟩) <;> rfl
theorem ya7 {s : Int × List Pg} {xs : List Pr} {i : Nat} (h : ya1 s (xs.take i) = none) : ya1 s xs = none := by
 rw [← List.take_append_drop i xs, ya6 (s := s), h]
theorem ya3 {xs : List Pr} : ∀ {s r : Int × List Pg}, vTree s.1 s.2 = true → ya1 s xs = some r → vTree r.1 r.2 = true := by
 induction xs with
 |nil => intro s r hv h; cases h; exact hv
 |cons x t ih =>
  intro s r hv h
  have h : (match zqc s.1 s.2 x with
   |none => none
   |some r => ya1 r t) = some r := h
  cases g : zqc s.1 s.2 x with
  |none => rw [g] at h; cases h
  |some q => rw [g] at h; exact ih (z4h g).vt h
def ya0 (root : Int) (ps : List Pg) (xs : List Pr) : Option (Int × List Pg) := if vTree root ps = true ∧ xs.length ≤ 24 then ya1 (root, ps) xs else none
theorem ya2 {root : Int} {ps : List Pg} {xs : List Pr} {r : Int × List Pg} (h : ya0 root ps xs = some r) : vTree root ps = true ∧ xs.length ≤ 24 ∧ ya1 (root, ps) xs = some r := by
 unfold ya0 at h
 split at h
 ·rename_i c; exact ⟨c.1, c.2, h⟩
 ·cases h
end Go.VL
namespace Go.VL
open Go.Proofs
set_option maxRecDepth 10000
set_option linter.unusedSimpArgs false
set_option linter.unusedVariables false
theorem ya5 (root : Int) (ps : List Pg) (xs : List Pr) (hp : pB ps) (hl : xs.length ≤ 1000) : zr Try.prog 46 0 [trV root ps, .c (.prs xs)] [] 0 (.tup (unR (ya0 root ps xs))) [] := by
 have hvt := zbi root ps hp
 cases g : vTree root ps with
 |false =>
  have e : ya0 root ps xs = none := by unfold ya0; rw [if_neg (by rw [g]; simp)]
  rw [g] at hvt
  rw [e]
  refine spi (fn := Try.f46) _ ?_
  conv => whnf
  repeat' first
   |(refine zn ?_ ?_; (focus (first | rfl | exact beq_self_eq_true _)); conv => whnf)
   |(refine zp (hvt) rfl rfl ?_; conv => whnf)
  exact (zu [] [])
 |true =>
  rw [g] at hvt
  by_cases c : xs.length ≤ 24
  ·have e : ya0 root ps xs = ya1 (root, ps) xs := by unfold ya0; rw [if_pos ⟨g, c⟩]
   have l16 := (za0 g).l16
   have hct := zdn (yaa root ps hp (by omega)) rfl
   change zr _ _ _ _ _ _ (.agg [.c (.int .i64 root), .c (.pgs ps)]) _ at hct
   rw [e]
   obtain ⟨R, hR⟩ : ∃ R, ya1 (root, ps) xs = R := ⟨_, rfl⟩
   rw [hR]
   refine spi (fn := Try.f46) _ ?_
   conv => whnf
   repeat' first
    |(refine zm ?_ ?_; (focus (first | rfl | exact bne_self_eq_false _)); conv => whnf)
    |(refine zm ?_ ?_; (focus ((try simp only [qA]) <;> (try simp only [wA]) <;> omega)); conv => whnf)
    |(refine zp (hvt) rfl rfl ?_; conv => whnf)
    |(refine zp (hct) rfl rfl ?_; conv => whnf)
   refine zd0 (fun (i : Nat) (s : Int × List Pg) => i ≤ xs.length ∧ ya1 (root, ps) (xs.take i) = some s) (fun i s => ⟨40, 3, [(4, .ptr 1 0 0 0), (6, .ptr 2 0 0 0), (22, .c (.prs xs)), (23, .c (.int .i64 xs.length)), (24, .c (.int .i64 i))], [(0, .box [.c (.int .i64 root), .c (.pgs ps)] [] []), (1, .box [.c (.int .i64 0), .nil] [] []), (2, .box [.c (.int .i64 s.1), .c (.pgs s.2)] [] [])]⟩) (fun i _ => xs.length - i) 0 (root, ps) ⟨Nat.zero_le _, rfl⟩ (fun _ _ => Nat.zero_le _) (z5 [] [0, 1, 2]) (fun i s hi => ?_)
   obtain ⟨hi, hs⟩ := hi
   obtain ⟨s1, s2⟩ := s
   have sv := ya3 g hs
   dsimp only at sv
   have hsp := (zdx sv).pb
   by_cases hlt : i < xs.length
   ·have hpk := z9x s1 s2 (xs.getD i ⟨0, 0⟩) hsp
    have hsn := ya4 hlt hs
    dsimp only at hsn
    cases gi : zqc s1 s2 (xs.getD i ⟨0, 0⟩) with
    |none =>
     rw [gi] at hpk hsn
     rw [ya7 hsn] at hR
     subst hR
     change zr _ _ _ _ _ _ (.tup [ztV, .ff]) _ at hpk
     conv => whnf
     repeat' first
      |(refine zn ?_ ?_; (focus ((try simp only [qA]) <;> (try simp only [wA]) <;> omega)); conv => whnf)
      |(refine za (by (try simp only [wA, wL]) <;> omega) ?_; conv => whnf)
      |(refine zp (hpk) rfl rfl ?_; conv => whnf)
     exact (zu [] [])
    |some q =>
     obtain ⟨q1, q2⟩ := q
     rw [gi] at hpk hsn
     change zr _ _ _ _ _ _ (.tup [trV q1 q2, .tt]) _ at hpk
     conv => whnf
     repeat' first
      |(refine zn ?_ ?_; (focus ((try simp only [qA]) <;> (try simp only [wA]) <;> omega)); conv => whnf)
      |(refine za (by (try simp only [wA, wL]) <;> omega) ?_; conv => whnf)
      |(refine zg (by (try simp only [wA, wL]) <;> omega) (by (try simp only [wA, wL]) <;> omega) ?_; conv => whnf)
      |(refine zp (hpk) rfl rfl ?_; conv => whnf)
     refine ⟨⟨(i + 1, (q1, q2)), ?_⟩, (z5 [] [0, 1, 2]), by dsimp only; omega⟩; (try dsimp only)
     exact ⟨by omega, hsn⟩
   ·rw [List.take_of_length_le (by omega), hR] at hs
    subst hs
    conv => whnf
    repeat' (refine zm ?_ ?_; (focus ((try simp only [qA]) <;> (try simp only [wA]) <;> omega)); conv => whnf)
    exact (zu [] [])
  ·have e : ya0 root ps xs = none := by unfold ya0; rw [if_neg (fun q => c q.2)]
   rw [e]
   refine spi (fn := Try.f46) _ ?_
   conv => whnf
   repeat' first
    |(refine zm ?_ ?_; (focus (first | rfl | exact bne_self_eq_false _)); conv => whnf)
    |(refine zn ?_ ?_; (focus ((try simp only [qA]) <;> (try simp only [wA]) <;> omega)); conv => whnf)
    |(refine zp (hvt) rfl rfl ?_; conv => whnf)
   exact (zu [] [])
theorem ybf (root : Int) (ps : List Pg) (xs : List Pr) (hp : pB ps) (hl : xs.length ≤ 1000) : zr Try.prog 96 0 [trV root ps, .c (.prs xs)] [] 0 (.tup (unR (ya0 root ps xs))) [] := by
 have hvt := zay root ps hp
 cases g : vTree root ps with
 |false =>
  have e : ya0 root ps xs = none := by unfold ya0; rw [if_neg (by rw [g]; simp)]
  rw [g] at hvt
  rw [e]
  refine spi (fn := Try.f96) _ ?_
  conv => whnf
  repeat' first
   |(refine zn ?_ ?_; (focus (first | rfl | exact beq_self_eq_true _)); conv => whnf)
   |(refine zp (hvt) rfl rfl ?_; conv => whnf)
  exact (zu [] [])
 |true =>
  rw [g] at hvt
  by_cases c : xs.length ≤ 24
  ·have e : ya0 root ps xs = ya1 (root, ps) xs := by unfold ya0; rw [if_pos ⟨g, c⟩]
   rw [e]
   obtain ⟨R, hR⟩ : ∃ R, ya1 (root, ps) xs = R := ⟨_, rfl⟩
   rw [hR]
   refine spi (fn := Try.f96) _ ?_
   conv => whnf
   repeat' first
    |(refine zm ?_ ?_; (focus (first | rfl | exact bne_self_eq_false _)); conv => whnf)
    |(refine zm ?_ ?_; (focus ((try simp only [qA]) <;> (try simp only [wA]) <;> omega)); conv => whnf)
    |(refine zp (hvt) rfl rfl ?_; conv => whnf)
   refine zd0 (fun (i : Nat) (s : Int × List Pg) => i ≤ xs.length ∧ ya1 (root, ps) (xs.take i) = some s) (fun i s => ⟨39, 2, [(1, .c (.prs xs)), (2, .ptr 0 0 0 0), (4, .ptr 1 0 0 0), (6, .c (.int .i64 i))], [(0, .box [.c (.int .i64 s.1), .c (.pgs s.2)] [] []), (1, .box [.c (.int .i64 0), .nil] [] [])]⟩) (fun i _ => xs.length - i) 0 (root, ps) ⟨Nat.zero_le _, rfl⟩ (fun _ _ => Nat.zero_le _) (z5 [] [0, 1]) (fun i s hi => ?_)
   obtain ⟨hi, hs⟩ := hi
   obtain ⟨s1, s2⟩ := s
   have sv := ya3 g hs
   dsimp only at sv
   have hsp := (zdx sv).pb
   by_cases hlt : i < xs.length
   ·have hpk := z91 s1 s2 (xs.getD i ⟨0, 0⟩) hsp
    have hsn := ya4 hlt hs
    dsimp only at hsn
    cases gi : zqc s1 s2 (xs.getD i ⟨0, 0⟩) with
    |none =>
     rw [gi] at hpk hsn
     rw [ya7 hsn] at hR
     subst hR
     change zr _ _ _ _ _ _ (.tup [ztV, .ff]) _ at hpk
     conv => whnf
     repeat' first
      |(refine za (by kernel_rfl) ?_; conv => whnf)
      |(refine zn ?_ ?_; (focus ((try simp only [qA]) <;> (try simp only [wA]) <;> omega)); conv => whnf)
      |(refine za (by (try simp only [wA, wL]) <;> omega) ?_; conv => whnf)
      |(refine zw (hpk) rfl rfl ?_; conv => whnf)
      |(refine ze ?_; conv => whnf)
     exact (zu [] [])
    |some q =>
     obtain ⟨q1, q2⟩ := q
     rw [gi] at hpk hsn
     change zr _ _ _ _ _ _ (.tup [trV q1 q2, .tt]) _ at hpk
     conv => whnf
     repeat' first
      |(refine za (by kernel_rfl) ?_; conv => whnf)
      |(refine zn ?_ ?_; (focus ((try simp only [qA]) <;> (try simp only [wA]) <;> omega)); conv => whnf)
      |(refine za (by (try simp only [wA, wL]) <;> omega) ?_; conv => whnf)
      |(refine zg (by (try simp only [wA, wL]) <;> omega) (by (try simp only [wA, wL]) <;> omega) ?_; conv => whnf)
      |(refine zw (hpk) rfl rfl ?_; conv => whnf)
      |(refine ze ?_; conv => whnf)
     refine ⟨⟨(i + 1, (q1, q2)), ?_⟩, (z5 [] [0, 1]), by dsimp only; omega⟩; (try dsimp only)
     exact ⟨by omega, hsn⟩
   ·rw [List.take_of_length_le (by omega), hR] at hs
    subst hs
    have hct := zdn (zp1 s1 s2 hsp) rfl
    change zr _ _ _ _ _ _ (.agg [.c (.int .i64 s1), .c (.pgs s2)]) _ at hct
    conv => whnf
    repeat' first | (refine zm ?_ ?_; (focus ((try simp only [qA]) <;> (try simp only [wA]) <;> omega)); conv => whnf) | (refine zp (hct) rfl rfl ?_; conv => whnf)
    exact (zu [] [])
  ·have e : ya0 root ps xs = none := by unfold ya0; rw [if_neg (fun q => c q.2)]
   rw [e]
   refine spi (fn := Try.f96) _ ?_
   conv => whnf
   repeat' first
    |(refine zm ?_ ?_; (focus (first | rfl | exact bne_self_eq_false _)); conv => whnf)
    |(refine zn ?_ ?_; (focus ((try simp only [qA]) <;> (try simp only [wA]) <;> omega)); conv => whnf)
    |(refine zp (hvt) rfl rfl ?_; conv => whnf)
   exact (zu [] [])
end Go.VL
namespace Go.VL
open Go.Proofs
set_option maxRecDepth 10000
set_option linter.unusedSimpArgs false
set_option linter.unusedVariables false
theorem ybc {root : Int} {ps : List Pg} {xs : List Pr} {r : Int × List Pg} (h : ya0 root ps xs = some r) (hx : xs.length ≠ 0) : ∃ s, ya0 root ps (xs.take (xs.length - 1)) = some s ∧ zqc s.1 s.2 (xs.getD (xs.length - 1) ⟨0, 0⟩) = some r := by
 obtain ⟨h1, h2, h3⟩ := ya2 h
 have e : ya0 root ps (xs.take (xs.length - 1)) = ya1 (root, ps) (xs.take (xs.length - 1)) := by unfold ya0; rw [if_pos ⟨h1, by rw [List.length_take]; omega⟩]
 rw [e]
 cases g : ya1 (root, ps) (xs.take (xs.length - 1)) with
 |none => rw [ya7 g] at h3; cases h3
 |some s =>
  refine ⟨s, rfl, ?_⟩
  rw [← ya4 (by omega) g, show xs.length - 1 + 1 = xs.length by omega, List.take_of_length_le (Nat.le_refl _)]
  exact h3
theorem FnPutAll_v (code : List Int) (hl0 : code.length ≤ 9223372036854775807) (hb : ∀ x ∈ code, 0 ≤ x ∧ x ≤ 255) : zr Try.prog 29 0 [.c (.nums .u8 code)] [] 0 (.c (.bool true)) [] := by
 refine spi (fn := Try.f29) _ ?_
 conv => whnf
 repeat' first | (refine zk (fun h => ?_) (fun h => ?_) <;> (try simp only [qA] at h) <;> (try simp only [wA] at h) <;> conv => whnf) | refine zc ?_
 ·rfl
 refine zbw [] [] (yax code (by omega) (zie hb)) ⟨rfl, rfl, rfl, (by repeat first | exact trivial | refine ⟨rfl, ?_⟩), ⟨rfl, rfl, rfl⟩, ?_⟩
 rintro m res hout ⟨root, ps, l, hp, hps, hlb, hll, rfl, rfl, rfl⟩
 refine ⟨⟨rfl, rfl, rfl⟩, ?_⟩
 have h1 := ya5 root ps l hp (by omega)
 have h2 := ybf root ps l hp (by omega)
 cases g : ya0 root ps l with
 |none =>
  rw [g] at h1 h2
  change zr _ _ _ _ _ _ (.tup [ztV, .ff]) _ at h1 h2
  have h3 := z3a
  conv => whnf
  repeat' first
   |(refine zn ?_ ?_; (focus (first | rfl | exact beq_self_eq_true _)); conv => whnf)
   |(refine zm ?_ ?_; (focus (first | rfl | exact bne_self_eq_false _)); conv => whnf)
   |refine zh ?_
   |(refine zp (h1) rfl rfl ?_; conv => whnf)
   |(refine zp (h2) rfl rfl ?_; conv => whnf)
   |(refine zp (h3) rfl rfl ?_; conv => whnf)
  all_goals rfl
 |some r =>
  rw [g] at h1 h2
  obtain ⟨r1, r2⟩ := r
  change zr _ _ _ _ _ _ (.tup [trV r1 r2, .tt]) _ at h1 h2
  have hq : pB r2 := (zdx (ya3 (ya2 g).1 (ya2 g).2.2)).pb
  have h3 := z2b r1 r2 hq
  by_cases c : l.length = 0
  ·conv => whnf
   repeat' first
    |(refine zn ?_ ?_; (focus (first | rfl | exact beq_self_eq_true _)); conv => whnf)
    |(refine zm ?_ ?_; (focus (first | rfl | exact bne_self_eq_false _)); conv => whnf)
    |(refine zn ?_ ?_; (focus ((try simp only [qA]) <;> (try simp only [wA]) <;> omega)); conv => whnf)
    |refine zh ?_
    |(refine zp (h1) rfl rfl ?_; conv => whnf)
    |(refine zp (h2) rfl rfl ?_; conv => whnf)
    |(refine zp (h3) rfl rfl ?_; conv => whnf)
   all_goals rfl
  ·obtain ⟨s, g2, g3⟩ := ybc g c
   obtain ⟨s1, s2⟩ := s
   have hq2 : pB s2 := (zdx (ya3 (ya2 g2).1 (ya2 g2).2.2)).pb
   have h4 := ya5 root ps (l.take (l.length - 1)) hp (by rw [List.length_take]; omega)
   have h5 := z9x s1 s2 (l.getD (l.length - 1) ⟨0, 0⟩) hq2
   rw [g2] at h4
   dsimp only at g3
   rw [g3] at h5
   change zr _ _ _ _ _ _ (.tup [trV s1 s2, .tt]) _ at h4
   change zr _ _ _ _ _ _ (.tup [trV r1 r2, .tt]) _ at h5
   have e : ((l.length : Int) - 1).toNat = l.length - 1 := by omega
   rw [← e] at h4 h5
   conv => whnf
   repeat' first
    |(refine za (by kernel_rfl) ?_; conv => whnf)
    |(refine zm ?_ ?_; (focus (first | rfl | exact bne_self_eq_false _)); conv => whnf)
    |(refine zm ?_ ?_; (focus ((try simp only [qA]) <;> (try simp only [wA]) <;> omega)); conv => whnf)
    |(refine za (by (try simp only [wA, wL]) <;> omega) ?_; conv => whnf)
    |refine zh ?_
    |(refine zg (by (try simp only [wA, wL]) <;> omega) (by (try simp only [wA, wL]) <;> omega) ?_; conv => whnf)
    |(refine zp (h1) rfl rfl ?_; conv => whnf)
    |(refine zp (h2) rfl rfl ?_; conv => whnf)
    |(refine zp (h3) rfl rfl ?_; conv => whnf)
    |(refine zw (h4) rfl rfl ?_; conv => whnf)
    |(refine zw (h5) rfl rfl ?_; conv => whnf)
    |(refine ze ?_; conv => whnf)
   all_goals rfl
end Go.VL
