/- V-logic: TrZa TrZb TrPd TrPe TrDp TrYc PT27 TrYd TrYe TrXa TrXf -/
import Derived.Test.YtniejpmichemeaaGreatVT2
import Derived.Test.YtniejpmichemeaaGreatVEF
import Derived.Test.YtniejpmichemeaaGreatVMA
import Derived.Test.YtniejpmichemeaaGreatVT7
import Derived.Test.YtniejpmichemeaaGreatVW6
import Derived.Test.YtniejpmichemeaaGreatVEG
import Derived.Test.YtniejpmichemeaaGreatVW1
import Derived.Test.YtniejpmichemeaaGreatVW5
namespace Go.VL
open Go.Proofs
set_option maxRecDepth 10000
set_option linter.unusedSimpArgs false
set_option linter.unusedVariables false
theorem zw2 {α : Type} [DecidableEq α] (d : α) {xs ys : List α} (hl : xs.length = ys.length) (h : ∀ i, i < xs.length → xs.getD i d = ys.getD i d) : xs = ys := by
 apply List.ext_getElem hl
 intro i h1 h2
 have := h i h1
 rwa [List.getD_eq_getElem?_getD, List.getD_eq_getElem?_getD, List.getElem?_eq_getElem h1, List.getElem?_eq_getElem h2] at this
theorem zn3 (xs ys : List Int) (h1 : xs.length ≤ 4294967296) (h2 : ys.length ≤ 4294967296) : zr Tryz.prog 42 0 [.c (.nums .i64 xs), .c (.nums .i64 ys)] [] 0 (.c (.bool (decide (xs = ys)))) [] := by
 obtain ⟨X, hX⟩ : ∃ X, decide (xs = ys) = X := ⟨_, rfl⟩
 rw [hX]
 by_cases hl : xs.length = ys.length
 ·skip
  refine spi (fn := Tryz.f42) _ ?_
  conv => whnf
  repeat' (refine zm ?_ ?_; (focus ((try simp only [qA]) <;> (try simp only [wA]) <;> omega)); conv => whnf)
  refine zau (fun i : Nat => ∀ k, k < i → xs.getD k 0 = ys.getD k 0) (fun i => ⟨26, 0, [(0, .c (.nums .i64 xs)), (1, .c (.nums .i64 ys)), (5, .c (.int .i64 i))], []⟩) (fun i => xs.length - i) 0 (fun k hk => absurd hk (Nat.not_lt_zero _)) (fun _ => Nat.zero_le _) zbn (fun i hi => ?_)
  conv => whnf
  repeat' first
   |(refine za (by kernel_rfl) ?_; conv => whnf)
   |(refine za (by (try simp only [wA, wL]) <;> omega) ?_; conv => whnf)
   |(refine zk (fun h => ?_) (fun h => ?_) <;> (try simp only [qA] at h) <;> (try simp only [wA] at h) <;> conv => whnf)
   |refine zc ?_
   |refine zd ?_
   |(refine zg (by (try simp only [wA, wL]) <;> omega) (by (try simp only [wA, wL]) <;> omega) ?_; conv => whnf)
   |(refine ze ?_; conv => whnf)
  ·rw [← hX]
   exact decide_eq_false fun q => h (by rw [q])
  ·refine ⟨⟨i + 1, fun k hk => ?_⟩, zbn, by dsimp only; omega⟩
   rcases Nat.lt_or_ge k i with c | c
   ·exact hi k c
   ·obtain rfl : k = i := by omega
    exact h
  ·rw [← hX]
   exact decide_eq_true (zw2 0 hl fun k hk => hi k (by omega))
 ·have : X = false := by
   rw [← hX]
   exact decide_eq_false fun q => hl (by rw [q])
  rw [this]
  refine spi (fn := Tryz.f42) _ ?_
  conv => whnf
  repeat' first | (refine zn ?_ ?_; (focus ((try simp only [qA]) <;> (try simp only [wA]) <;> omega)); conv => whnf) | refine zd ?_
  all_goals rfl
theorem zbh (xs : List Int) (h : xs.length ≤ 4294967296) : zr Tryz.prog 42 0 [.c (.nums .i64 xs), .c (.nums .i64 xs)] [] 0 (.c (.bool true)) [] := by
 have := zn3 xs xs h h
 rwa [decide_eq_true rfl] at this
end Go.VL
namespace Go.VL
open Go.Proofs
set_option maxRecDepth 10000
set_option linter.unusedSimpArgs false
set_option linter.unusedVariables false
theorem zhp (xs : List Pr) (h : xs.length ≤ 4294967296) : zr Tryz.prog 55 0 [.c (.prs xs), .c (.prs xs)] [] 0 (.c (.bool true)) [] := by
 refine spi (fn := Tryz.f55) _ ?_
 conv => whnf
 repeat' (refine zm ?_ ?_; (focus ((try simp only [qA]) <;> (try simp only [wA]) <;> omega)); conv => whnf)
 refine zau (fun i : Nat => i ≤ xs.length) (fun i => ⟨26, 0, [(0, .c (.prs xs)), (1, .c (.prs xs)), (5, .c (.int .i64 i))], []⟩) (fun i => xs.length - i) 0 (Nat.zero_le _) (fun _ => Nat.zero_le _) zbn (fun i hi => ?_)
 conv => whnf
 repeat' first
  |(refine za (by kernel_rfl) ?_; conv => whnf)
  |(refine za (by (try simp only [wA, wL]) <;> omega) ?_; conv => whnf)
  |(refine zk (fun h => ?_) (fun h => ?_) <;> (try simp only [qA] at h) <;> (try simp only [wA] at h) <;> conv => whnf)
  |refine zc ?_
  |refine zd ?_
  |(refine zg (by (try simp only [wA, wL]) <;> omega) (by (try simp only [wA, wL]) <;> omega) ?_; conv => whnf)
  |(refine ze ?_; conv => whnf)
 ·exfalso; simp at h
 ·refine ⟨⟨i + 1, ?_⟩, zbn, by dsimp only; omega⟩; (try dsimp only)
  omega
 ·rfl
theorem zj2 (ps : List Pg) (hp : pB ps) : zr Tryz.prog 100 0 [.c (.pgs ps), .c (.pgs ps)] [] 0 (.c (.bool true)) [] := by
 have k4 := hp.len
 refine spi (fn := Tryz.f100) _ ?_
 conv => whnf
 repeat' (refine zm ?_ ?_; (focus ((try simp only [qA]) <;> (try simp only [wA]) <;> omega)); conv => whnf)
 refine zau (fun i : Nat => i ≤ ps.length) (fun i => ⟨57, 0, [(0, .c (.pgs ps)), (1, .c (.pgs ps)), (5, .c (.int .i64 i))], []⟩) (fun i => ps.length - i) 0 (Nat.zero_le _) (fun _ => Nat.zero_le _) zbn (fun i hi => ?_)
 have k1 := zbh _ (hp.keys i)
 have k2 := zbh _ (hp.kids i)
 have k3 := zbh _ (hp.vals i)
 dsimp only [zb, Int.toNat_natCast] at k1 k2 k3
 conv => whnf
 repeat' first
  |(refine za (by kernel_rfl) ?_; conv => whnf)
  |(refine zn ?_ ?_; (focus ((try simp only [qA]) <;> (try simp only [wA]) <;> omega)); conv => whnf)
  |(refine za (by (try simp only [wA, wL]) <;> omega) ?_; conv => whnf)
  |(refine zk (fun h => ?_) (fun h => ?_) <;> (try simp only [qA] at h) <;> (try simp only [wA] at h) <;> conv => whnf)
  |refine zc ?_
  |(refine zg (by (try simp only [wA, wL]) <;> omega) (by (try simp only [wA, wL]) <;> omega) ?_; conv => whnf)
  |(refine zw (k1) rfl rfl ?_; conv => whnf)
  |(refine zw (k2) rfl rfl ?_; conv => whnf)
  |(refine zw (k3) rfl rfl ?_; conv => whnf)
  |(refine ze ?_; conv => whnf)
 ·refine ⟨⟨i + 1, ?_⟩, zbn, by dsimp only; omega⟩; (try dsimp only)
  omega
 ·rfl
theorem zqk : zr Tryz.prog 100 0 [.nil, .nil] [] 0 (.c (.bool true)) [] :=
 zkb (args := [.c (.pgs []), .c (.pgs [])]) ⟨.inr ⟨rfl, _, rfl, rfl, rfl⟩, .inr ⟨rfl, _, rfl, rfl, rfl⟩, trivial⟩ (zj2 [] ⟨by decide, by intro i; simp [zb], by intro i; simp [zb], by intro i; simp [zb]⟩)
theorem z2b (root : Int) (ps : List Pg) (hp : pB ps) : zr Tryz.prog 45 0 [trV root ps, trV root ps] [] 0 (.c (.bool true)) [] := by
 refine spi (fn := Tryz.f45) _ ?_
 conv => whnf
 repeat' first
  |(refine zn ?_ ?_; (focus ((try simp only [qA]) <;> (try simp only [wA]) <;> omega)); conv => whnf)
  |refine zh ?_
  |(refine zp (zj2 _ hp) rfl rfl ?_; conv => whnf)
 all_goals rfl
theorem z3a : zr Tryz.prog 45 0 [.agg [.c (.int .i64 0), .nil], .agg [.c (.int .i64 0), .nil]] [] 0 (.c (.bool true)) [] := by
 refine spi (fn := Tryz.f45) _ ?_
 conv => whnf
 repeat' first | (refine zn ?_ ?_; (focus ((try simp only [qA]) <;> (try simp only [wA]) <;> omega)); conv => whnf) | refine zh ?_ | (refine zp (zqk) rfl rfl ?_; conv => whnf)
 all_goals rfl
end Go.VL
namespace Go.VL
open Go.Proofs
set_option maxRecDepth 10000
set_option linter.unusedSimpArgs false
set_option linter.unusedVariables false
end Go.VL
namespace Go.VL
open Go.Proofs
set_option maxRecDepth 10000
set_option linter.unusedSimpArgs false
set_option linter.unusedVariables false
end Go.VL
namespace Go.VL
open Go.Proofs
set_option maxRecDepth 10000
set_option linter.unusedSimpArgs false
set_option linter.unusedVariables false
def prB (l : List Pr) : Prop := ∀ x ∈ l, -1 ≤ x.key ∧ x.key ≤ 100 ∧ -1000 ≤ x.value ∧ x.value ≤ 1001
theorem z9m (code : List Int) (hl : code.length ≤ 1048576) (hc : CodeOk (code.take 2000)) : zce Tryz.prog 68 0 [.c (.nums .u8 code)] [] (fun m res hout => ∃ (root : Int) (ps : List Pg) (l : List Pr), pB ps ∧ ps.length ≤ 16 ∧ prB l ∧ l.length ≤ 25 ∧ m = 0 ∧ res = .tup [trV root ps, .c (.prs l)] ∧ hout = []) := by
 refine spx (fn := Tryz.f68) _ ?_
 conv => whnf
 repeat' (refine zal [] [1] (zff code hl) ⟨rfl, rfl, rfl, (by repeat first | exact trivial | refine ⟨rfl, ?_⟩), ⟨rfl, rfl, rfl, rfl, rfl, rfl⟩, ?_⟩; conv => whnf)
 refine zbw [] [1] (zgw (code.take 2000) hc 0 (by omega) (by omega)) ⟨rfl, rfl, rfl, (by repeat first | exact trivial | refine ⟨rfl, ?_⟩), ⟨rfl, rfl, rfl⟩, ?_⟩
 rintro m res hout ⟨root, ps, p, hp, hps, p0, p1, rfl, rfl, rfl⟩
 refine ⟨⟨rfl, rfl, rfl⟩, ?_⟩
 have ho1 := zjy (code.take 2000) hc p [3, 6, 1, 12, 0, 25] (by omega) (by omega) (by simp) (by simp)
 have b1 := znu (xs := [3, 6, 1, 12, 0, 25]) (lo := 0) (hi := 25) (by decide) (by decide) (by decide) (zah (code.take 2000) p ([3, 6, 1, 12, 0, 25] : List Int).length).toNat
 generalize ([3, 6, 1, 12, 0, 25] : List Int).getD (zah (code.take 2000) p ([3, 6, 1, 12, 0, 25] : List Int).length).toNat 0 = N at *
 generalize code.take 2000 = cd at *
 conv => whnf
 repeat' (refine zal [4] [1] ho1 ?_; (conv => whnf); refine ⟨rfl, rfl, rfl, (by repeat first | exact trivial | refine ⟨rfl, ?_⟩), ⟨rfl, rfl, rfl, rfl, rfl, rfl⟩, ?_⟩; conv => whnf)
 refine zk5 (fun (l : List Pr) (q z : Int) => prB l ∧ l.length + z.toNat ≤ 25 ∧ 0 ≤ q ∧ q + 2 * z ≤ 100000 ∧ 0 ≤ z) (fun l q z => ⟨30, 4, [(0, .c (.nums .u8 code)), (2, .ptr 0 0 0 0), (4, .ptr 1 0 0 0), (5, .ptr 2 0 0 0), (6, .slc 3), (7, .c (.int .i64 z))], [(0, .box [.c (.int .i64 0), .nil] [] []), (1, .box [.c (.nums .u8 cd), .c (.int .i64 q)] [] []), (2, .box [.c (.int .i64 root), .c (.pgs ps)] [] []), (3, .arr (.prs l))]⟩) (fun l q z => z.toNat) [] (p + 1) N ⟨(fun x hx => by cases hx), by simp; omega, by omega, by omega, b1.1⟩ (fun _ _ _ => Nat.zero_le _) (z5 [] [0, 1, 2, 3]) (fun l q z hi => ?_)
 obtain ⟨i1, i2, i3, i4, i5⟩ := hi
 have c1 := zdl hc (p := q) (n := 100) (by omega) (by omega)
 have c2 := zdl hc (p := q + 1) (n := 100) (by omega) (by omega)
 have c3 := c1.2 (by omega)
 have c4 := c2.2 (by omega)
 conv => whnf
 repeat' first
  |(refine za (by (try simp only [wA, wL]) <;> omega) ?_; conv => whnf)
  |(refine zk (fun h => ?_) (fun h => ?_) <;> (try simp only [qA] at h) <;> (try simp only [wA] at h) <;> conv => whnf)
  |(refine zg (by (try simp only [wA, wL]) <;> omega) (by (try simp only [wA, wL]) <;> omega) ?_; conv => whnf)
  |(refine zal [] [1] (zcs cd hc _ _ ?_ ?_ ?_) ⟨rfl, rfl, rfl, (by repeat first | exact trivial | refine ⟨rfl, ?_⟩), ⟨rfl, rfl, rfl, rfl, rfl, rfl⟩, ?_⟩; (iterate 3 (focus omega)); conv => whnf)
 ·refine ⟨⟨(l ++ ([] ++ [⟨zah cd q 100, zah cd (q + 1) 100⟩]), q + 1 + 1, z - 1), ?_⟩, (z5 [] [0, 1, 2, 3]), by dsimp only; omega⟩; (try dsimp only)
  refine ⟨fun x hx => ?_, by simp; omega, by omega, by omega, by omega⟩
  rw [List.nil_append, List.mem_append, List.mem_singleton] at hx
  rcases hx with hx | rfl
  ·exact i1 x hx
  ·dsimp only; omega
 ·exact za1 0 (.tup [trV root ps, .c (.prs l)]) [] ⟨root, ps, l, hp, hps, i1, by omega, rfl, rfl, rfl⟩ rfl (zu [3] [])
end Go.VL
namespace Go.VL
open Go.Proofs
set_option maxRecDepth 10000
set_option linter.unusedSimpArgs false
set_option linter.unusedVariables false
end Go.VL
namespace Go.VL
set_option linter.unusedVariables false
set_option linter.unusedSimpArgs false
def z4j : Int × List Pg → List Pr → Option (Int × List Pg)
 |s, [] => some s
 |s, x :: t => match zqc s.1 s.2 x with
  |none => none
  |some r => z4j r t
theorem z5k {s : Int × List Pg} {ys : List Pr} : ∀ {xs : List Pr} {s : Int × List Pg}, z4j s (xs ++ ys) = match z4j s xs with
  |none => none
  |some r => z4j r ys
 |[], _ => rfl
 |x :: t, s => by
  show (match zqc s.1 s.2 x with
   |none => none
   |some r => z4j r (t ++ ys)) = match (match zqc s.1 s.2 x with
   |none => none
   |some r => z4j r t) with
   |none => none
   |some r => z4j r ys
  cases zqc s.1 s.2 x with
  |none => rfl
  |some r => exact z5k (s := s)
theorem z6a {s : Int × List Pg} {xs : List Pr} {i : Nat} (hi : i < xs.length) {r : Int × List Pg} (h : z4j s (xs.take i) = some r) : z4j s (xs.take (i + 1)) = zqc r.1 r.2 (xs.getD i ⟨0, 0⟩) := by
 rw [zat ⟨0, 0⟩ hi, z5k (s := s), h]
 show (match zqc r.1 r.2 (xs.getD i ⟨0, 0⟩) with
   |none => none
   |some r => some r) = _
 cases zqc r.1 r.2 (xs.getD i ⟨0, 0⟩) <;> rfl
theorem z66 {s : Int × List Pg} {xs : List Pr} {i : Nat} (h : z4j s (xs.take i) = none) : z4j s xs = none := by
 rw [← List.take_append_drop i xs, z5k (s := s), h]
theorem z7b {xs : List Pr} : ∀ {s r : Int × List Pg}, vTree s.1 s.2 = true → z4j s xs = some r → vTree r.1 r.2 = true := by
 induction xs with
 |nil => intro s r hv h; cases h; exact hv
 |cons x t ih =>
  intro s r hv h
  have h : (match zqc s.1 s.2 x with
   |none => none
   |some r => z4j r t) = some r := h
  cases g : zqc s.1 s.2 x with
  |none => rw [g] at h; cases h
  |some q => rw [g] at h; exact ih (z4h g).vt h
theorem putA_prs {xs : List Pr} : ∀ {s r : Int × List Pg}, z4j s xs = some r → psF r.1 r.2 = xs.foldl zbc (psF s.1 s.2) := by
 induction xs with
 |nil => intro s r h; cases h; rfl
 |cons x t ih =>
  intro s r h
  have h : (match zqc s.1 s.2 x with
   |none => none
   |some r => z4j r t) = some r := h
  cases g : zqc s.1 s.2 x with
  |none => rw [g] at h; cases h
  |some q => rw [g] at h; rw [ih h, (z4h g).prs]; rfl
def z4p (root : Int) (ps : List Pg) (xs : List Pr) : Option (Int × List Pg) := if vTree root ps = true ∧ xs.length ≤ 24 then z4j (root, ps) xs else none
theorem z99 {root : Int} {ps : List Pg} {xs : List Pr} {r : Int × List Pg} (h : z4p root ps xs = some r) : vTree root ps = true ∧ xs.length ≤ 24 ∧ z4j (root, ps) xs = some r := by
 unfold z4p at h
 split at h
 ·rename_i c; exact ⟨c.1, c.2, h⟩
 ·cases h
end Go.VL
namespace Go.VL
open Go.Proofs
set_option maxRecDepth 10000
set_option linter.unusedSimpArgs false
set_option linter.unusedVariables false
theorem PutAll_v (root : Int) (ps : List Pg) (xs : List Pr) (hp : pB ps) (hl : xs.length ≤ 1000) : zr Tryz.prog 69 0 [trV root ps, .c (.prs xs)] [] 0 (.tup (unR (z4p root ps xs))) [] := by
 have hvt := zbi root ps hp
 cases g : vTree root ps with
 |false =>
  have e : z4p root ps xs = none := by unfold z4p; rw [if_neg (by rw [g]; simp)]
  rw [g] at hvt
  rw [e]
  refine spi (fn := Tryz.f69) _ ?_
  conv => whnf
  repeat' first
   |(refine zn ?_ ?_; (focus (first | rfl | exact beq_self_eq_true _)); conv => whnf)
   |(refine zp (hvt) rfl rfl ?_; conv => whnf)
  exact (zu [] [])
 |true =>
  rw [g] at hvt
  by_cases c : xs.length ≤ 24
  ·have e : z4p root ps xs = z4j (root, ps) xs := by unfold z4p; rw [if_pos ⟨g, c⟩]
   have l16 := (za0 g).l16
   have hct := zdn (z5u root ps hp (by omega)) rfl
   change zr _ _ _ _ _ _ (.agg [.c (.int .i64 root), .c (.pgs ps)]) _ at hct
   rw [e]
   obtain ⟨R, hR⟩ : ∃ R, z4j (root, ps) xs = R := ⟨_, rfl⟩
   rw [hR]
   refine spi (fn := Tryz.f69) _ ?_
   conv => whnf
   repeat' first
    |(refine zm ?_ ?_; (focus (first | rfl | exact bne_self_eq_false _)); conv => whnf)
    |(refine zm ?_ ?_; (focus ((try simp only [qA]) <;> (try simp only [wA]) <;> omega)); conv => whnf)
    |(refine zp (hvt) rfl rfl ?_; conv => whnf)
    |(refine zp (hct) rfl rfl ?_; conv => whnf)
   refine zd0 (fun (i : Nat) (s : Int × List Pg) => i ≤ xs.length ∧ z4j (root, ps) (xs.take i) = some s) (fun i s => ⟨40, 3, [(4, .ptr 1 0 0 0), (6, .ptr 2 0 0 0), (22, .c (.prs xs)), (23, .c (.int .i64 xs.length)), (24, .c (.int .i64 i))], [(0, .box [.c (.int .i64 root), .c (.pgs ps)] [] []), (1, .box [.c (.int .i64 0), .nil] [] []), (2, .box [.c (.int .i64 s.1), .c (.pgs s.2)] [] [])]⟩) (fun i _ => xs.length - i) 0 (root, ps) ⟨Nat.zero_le _, rfl⟩ (fun _ _ => Nat.zero_le _) (z5 [] [0, 1, 2]) (fun i s hi => ?_)
   obtain ⟨hi, hs⟩ := hi
   obtain ⟨s1, s2⟩ := s
   have sv := z7b g hs
   dsimp only at sv
   have hsp := (zdx sv).pb
   by_cases hlt : i < xs.length
   ·have hpk := z8q s1 s2 (xs.getD i ⟨0, 0⟩) hsp
    have hsn := z6a hlt hs
    dsimp only at hsn
    cases gi : zqc s1 s2 (xs.getD i ⟨0, 0⟩) with
    |none =>
     rw [gi] at hpk hsn
     rw [z66 hsn] at hR
     subst hR
     change zr _ _ _ _ _ _ (.tup [ztV, .ff]) _ at hpk
     conv => whnf
     repeat' first
      |(refine zn ?_ ?_; (focus ((try simp only [qA]) <;> (try simp only [wA]) <;> omega)); conv => whnf)
      |(refine za (by (try simp only [wA, wL]) <;> omega) ?_; conv => whnf)
      |(refine zp (hpk) rfl rfl ?_; conv => whnf)
     exact (zu [] [])
    |some q =>
     obtain ⟨q1, q2⟩ := q
     rw [gi] at hpk hsn
     change zr _ _ _ _ _ _ (.tup [trV q1 q2, .tt]) _ at hpk
     conv => whnf
     repeat' first
      |(refine zn ?_ ?_; (focus ((try simp only [qA]) <;> (try simp only [wA]) <;> omega)); conv => whnf)
      |(refine za (by (try simp only [wA, wL]) <;> omega) ?_; conv => whnf)
      |(refine zg (by (try simp only [wA, wL]) <;> omega) (by (try simp only [wA, wL]) <;> omega) ?_; conv => whnf)
      |(refine zp (hpk) rfl rfl ?_; conv => whnf)
     refine ⟨⟨(i + 1, (q1, q2)), ?_⟩, (z5 [] [0, 1, 2]), by dsimp only; omega⟩; (try dsimp only)
     exact ⟨by omega, hsn⟩
   ·rw [List.take_of_length_le (by omega), hR] at hs
    subst hs
    conv => whnf
    repeat' (refine zm ?_ ?_; (focus ((try simp only [qA]) <;> (try simp only [wA]) <;> omega)); conv => whnf)
    exact (zu [] [])
  ·have e : z4p root ps xs = none := by unfold z4p; rw [if_neg (fun q => c q.2)]
   rw [e]
   refine spi (fn := Tryz.f69) _ ?_
   conv => whnf
   repeat' first
    |(refine zm ?_ ?_; (focus (first | rfl | exact bne_self_eq_false _)); conv => whnf)
    |(refine zn ?_ ?_; (focus ((try simp only [qA]) <;> (try simp only [wA]) <;> omega)); conv => whnf)
    |(refine zp (hvt) rfl rfl ?_; conv => whnf)
   exact (zu [] [])
theorem yag (root : Int) (ps : List Pg) (xs : List Pr) (hp : pB ps) (hl : xs.length ≤ 1000) : zr Tryz.prog 70 0 [trV root ps, .c (.prs xs)] [] 0 (.tup (unR (z4p root ps xs))) [] := by
 have hvt := zay root ps hp
 cases g : vTree root ps with
 |false =>
  have e : z4p root ps xs = none := by unfold z4p; rw [if_neg (by rw [g]; simp)]
  rw [g] at hvt
  rw [e]
  refine spi (fn := Tryz.f70) _ ?_
  conv => whnf
  repeat' first
   |(refine zn ?_ ?_; (focus (first | rfl | exact beq_self_eq_true _)); conv => whnf)
   |(refine zp (hvt) rfl rfl ?_; conv => whnf)
  exact (zu [] [])
 |true =>
  rw [g] at hvt
  by_cases c : xs.length ≤ 24
  ·have e : z4p root ps xs = z4j (root, ps) xs := by unfold z4p; rw [if_pos ⟨g, c⟩]
   rw [e]
   obtain ⟨R, hR⟩ : ∃ R, z4j (root, ps) xs = R := ⟨_, rfl⟩
   rw [hR]
   refine spi (fn := Tryz.f70) _ ?_
   conv => whnf
   repeat' first
    |(refine zm ?_ ?_; (focus (first | rfl | exact bne_self_eq_false _)); conv => whnf)
    |(refine zm ?_ ?_; (focus ((try simp only [qA]) <;> (try simp only [wA]) <;> omega)); conv => whnf)
    |(refine zp (hvt) rfl rfl ?_; conv => whnf)
   refine zd0 (fun (i : Nat) (s : Int × List Pg) => i ≤ xs.length ∧ z4j (root, ps) (xs.take i) = some s) (fun i s => ⟨39, 2, [(1, .c (.prs xs)), (2, .ptr 0 0 0 0), (4, .ptr 1 0 0 0), (6, .c (.int .i64 i))], [(0, .box [.c (.int .i64 s.1), .c (.pgs s.2)] [] []), (1, .box [.c (.int .i64 0), .nil] [] [])]⟩) (fun i _ => xs.length - i) 0 (root, ps) ⟨Nat.zero_le _, rfl⟩ (fun _ _ => Nat.zero_le _) (z5 [] [0, 1]) (fun i s hi => ?_)
   obtain ⟨hi, hs⟩ := hi
   obtain ⟨s1, s2⟩ := s
   have sv := z7b g hs
   dsimp only at sv
   have hsp := (zdx sv).pb
   by_cases hlt : i < xs.length
   ·have hpk := z7z s1 s2 (xs.getD i ⟨0, 0⟩) hsp
    have hsn := z6a hlt hs
    dsimp only at hsn
    cases gi : zqc s1 s2 (xs.getD i ⟨0, 0⟩) with
    |none =>
     rw [gi] at hpk hsn
     rw [z66 hsn] at hR
     subst hR
     change zr _ _ _ _ _ _ (.tup [ztV, .ff]) _ at hpk
     conv => whnf
     repeat' first
      |(refine za (by kernel_rfl) ?_; conv => whnf)
      |(refine zn ?_ ?_; (focus ((try simp only [qA]) <;> (try simp only [wA]) <;> omega)); conv => whnf)
      |(refine za (by (try simp only [wA, wL]) <;> omega) ?_; conv => whnf)
      |(refine zw (hpk) rfl rfl ?_; conv => whnf)
      |(refine ze ?_; conv => whnf)
     exact (zu [] [])
    |some q =>
     obtain ⟨q1, q2⟩ := q
     rw [gi] at hpk hsn
     change zr _ _ _ _ _ _ (.tup [trV q1 q2, .tt]) _ at hpk
     conv => whnf
     repeat' first
      |(refine za (by kernel_rfl) ?_; conv => whnf)
      |(refine zn ?_ ?_; (focus ((try simp only [qA]) <;> (try simp only [wA]) <;> omega)); conv => whnf)
      |(refine za (by (try simp only [wA, wL]) <;> omega) ?_; conv => whnf)
      |(refine zg (by (try simp only [wA, wL]) <;> omega) (by (try simp only [wA, wL]) <;> omega) ?_; conv => whnf)
      |(refine zw (hpk) rfl rfl ?_; conv => whnf)
      |(refine ze ?_; conv => whnf)
     refine ⟨⟨(i + 1, (q1, q2)), ?_⟩, (z5 [] [0, 1]), by dsimp only; omega⟩; (try dsimp only)
     exact ⟨by omega, hsn⟩
   ·rw [List.take_of_length_le (by omega), hR] at hs
    subst hs
    have hct := zdn (zp1 s1 s2 hsp) rfl
    change zr _ _ _ _ _ _ (.agg [.c (.int .i64 s1), .c (.pgs s2)]) _ at hct
    conv => whnf
    repeat' first | (refine zm ?_ ?_; (focus ((try simp only [qA]) <;> (try simp only [wA]) <;> omega)); conv => whnf) | (refine zp (hct) rfl rfl ?_; conv => whnf)
    exact (zu [] [])
  ·have e : z4p root ps xs = none := by unfold z4p; rw [if_neg (fun q => c q.2)]
   rw [e]
   refine spi (fn := Tryz.f70) _ ?_
   conv => whnf
   repeat' first
    |(refine zm ?_ ?_; (focus (first | rfl | exact bne_self_eq_false _)); conv => whnf)
    |(refine zn ?_ ?_; (focus ((try simp only [qA]) <;> (try simp only [wA]) <;> omega)); conv => whnf)
    |(refine zp (hvt) rfl rfl ?_; conv => whnf)
   exact (zu [] [])
end Go.VL
namespace Go.VL
open Go.Proofs
set_option maxRecDepth 10000
set_option linter.unusedSimpArgs false
set_option linter.unusedVariables false
end Go.VL
namespace Go.VL
open Go.Proofs
set_option maxRecDepth 10000
set_option linter.unusedSimpArgs false
set_option linter.unusedVariables false
theorem with_v (l : List Pr) (x : Pr) (hl : l.length ≤ 1000) : zr Tryz.prog 63 0 [.c (.prs l), prV x] [] 1 (.slc 0) [(0, .arr (.prs (wiF x false l)))] := by
 obtain ⟨W, hW⟩ : ∃ W, wiF x false l = W := ⟨_, rfl⟩
 rw [hW]
 refine spi (fn := Tryz.f63) _ ?_
 conv => whnf
 skip
 refine zk5 (fun (i : Nat) (d : Bool) (M : List Pr) => i ≤ l.length ∧ M.length ≤ 2 * i ∧ M ++ wiF x d (l.drop i) = W) (fun i d M => ⟨53, 2, [(0, .c (.prs l)), (3, .ptr 0 0 0 0), (5, .slc 1), (6, .c (.bool d)), (7, .c (.int .i64 i))], [(0, .box [.c (.int .i64 x.key), .c (.int .i64 x.value)] [] []), (1, .arr (.prs M))]⟩) (fun i _ _ => l.length - i) 0 false [] ⟨Nat.zero_le _, by simp, hW⟩ (fun _ _ _ => Nat.zero_le _) (z5 [] [0, 1]) (fun i d M hi => ?_)
 obtain ⟨hi, hM, he⟩ := hi
 by_cases c : i < l.length
 ·rw [wiF_step c] at he
  cases d with
  |true =>
   by_cases c2 : (l.getD i ⟨0, 0⟩).key = x.key
   ·rw [if_neg (by rw [Bool.not_true, Bool.false_and]; decide), if_neg (fun h => h c2), Bool.true_or, List.nil_append, List.nil_append] at he
    conv => whnf
    repeat' first
     |(refine za (by kernel_rfl) ?_; conv => whnf)
     |(refine zn ?_ ?_; (focus (first | rfl | exact beq_self_eq_true _)); conv => whnf)
     |(refine zn ?_ ?_; (focus ((try simp only [qA]) <;> (try simp only [wA]) <;> omega)); conv => whnf)
     |(refine zm ?_ ?_; (focus ((try simp only [qA]) <;> (try simp only [wA]) <;> omega)); conv => whnf)
     |(refine za (by (try simp only [wA, wL]) <;> omega) ?_; conv => whnf)
     |(refine zg (by (try simp only [wA, wL]) <;> omega) (by (try simp only [wA, wL]) <;> omega) ?_; conv => whnf)
     |(refine ze ?_; conv => whnf)
    refine ⟨⟨(i + 1, true, M), ?_⟩, (z5 [] [0, 1]), by dsimp only; omega⟩; (try dsimp only)
    exact ⟨c, by omega, he⟩
   ·rw [if_neg (by rw [Bool.not_true, Bool.false_and]; decide), if_pos c2, Bool.true_or, List.nil_append, ← List.append_assoc] at he
    conv => whnf
    repeat' first
     |(refine za (by kernel_rfl) ?_; conv => whnf)
     |(refine zn ?_ ?_; (focus (first | rfl | exact beq_self_eq_true _)); conv => whnf)
     |(refine zn ?_ ?_; (focus ((try simp only [qA]) <;> (try simp only [wA]) <;> omega)); conv => whnf)
     |(refine za (by (try simp only [wA, wL]) <;> omega) ?_; conv => whnf)
     |(refine zg (by (try simp only [wA, wL]) <;> omega) (by (try simp only [wA, wL]) <;> omega) ?_; conv => whnf)
     |(refine ze ?_; conv => whnf)
    refine ⟨⟨(i + 1, true, M ++ ([] ++ [l.getD i ⟨0, 0⟩])), ?_⟩, (z5 [] [0, 1]), by dsimp only; omega⟩; (try dsimp only)
    exact ⟨c, by simp; omega, he⟩
  |false =>
   by_cases c3 : x.key ≤ (l.getD i ⟨0, 0⟩).key
   ·by_cases c2 : (l.getD i ⟨0, 0⟩).key = x.key
    ·rw [if_pos (by rw [Bool.not_false, Bool.true_and]; exact decide_eq_true c3), if_neg (fun h => h c2), Bool.false_or, decide_eq_true c3, List.nil_append, ← List.append_assoc] at he
     conv => whnf
     repeat' first
      |(refine za (by kernel_rfl) ?_; conv => whnf)
      |(refine zm ?_ ?_; (focus (first | rfl | exact bne_self_eq_false _)); conv => whnf)
      |(refine zn ?_ ?_; (focus ((try simp only [qA]) <;> (try simp only [wA]) <;> omega)); conv => whnf)
      |(refine zm ?_ ?_; (focus ((try simp only [qA]) <;> (try simp only [wA]) <;> omega)); conv => whnf)
      |(refine za (by (try simp only [wA, wL]) <;> omega) ?_; conv => whnf)
      |(refine zg (by (try simp only [wA, wL]) <;> omega) (by (try simp only [wA, wL]) <;> omega) ?_; conv => whnf)
      |(refine ze ?_; conv => whnf)
     refine ⟨⟨(i + 1, true, M ++ ([] ++ [x])), ?_⟩, (z5 [] [0, 1]), by dsimp only; omega⟩; (try dsimp only)
     exact ⟨c, by simp; omega, he⟩
    ·rw [if_pos (by rw [Bool.not_false, Bool.true_and]; exact decide_eq_true c3), if_pos c2, Bool.false_or, decide_eq_true c3, ← List.append_assoc, ← List.append_assoc] at he
     conv => whnf
     repeat' first
      |(refine za (by kernel_rfl) ?_; conv => whnf)
      |(refine zm ?_ ?_; (focus (first | rfl | exact bne_self_eq_false _)); conv => whnf)
      |(refine zn ?_ ?_; (focus ((try simp only [qA]) <;> (try simp only [wA]) <;> omega)); conv => whnf)
      |(refine za (by (try simp only [wA, wL]) <;> omega) ?_; conv => whnf)
      |(refine zg (by (try simp only [wA, wL]) <;> omega) (by (try simp only [wA, wL]) <;> omega) ?_; conv => whnf)
      |(refine ze ?_; conv => whnf)
     refine ⟨⟨(i + 1, true, M ++ ([] ++ [x]) ++ ([] ++ [l.getD i ⟨0, 0⟩])), ?_⟩, (z5 [] [0, 1]), by dsimp only; omega⟩; (try dsimp only)
     exact ⟨c, by simp; omega, he⟩
   ·have c2 : ¬ (l.getD i ⟨0, 0⟩).key = x.key := by omega
    rw [if_neg (by rw [Bool.not_false, Bool.true_and, decide_eq_false c3]; decide), if_pos c2, Bool.false_or, decide_eq_false c3, List.nil_append, ← List.append_assoc] at he
    conv => whnf
    repeat' first
     |(refine za (by kernel_rfl) ?_; conv => whnf)
     |(refine zm ?_ ?_; (focus (first | rfl | exact bne_self_eq_false _)); conv => whnf)
     |(refine zn ?_ ?_; (focus ((try simp only [qA]) <;> (try simp only [wA]) <;> omega)); conv => whnf)
     |(refine zm ?_ ?_; (focus ((try simp only [qA]) <;> (try simp only [wA]) <;> omega)); conv => whnf)
     |(refine za (by (try simp only [wA, wL]) <;> omega) ?_; conv => whnf)
     |(refine zg (by (try simp only [wA, wL]) <;> omega) (by (try simp only [wA, wL]) <;> omega) ?_; conv => whnf)
     |(refine ze ?_; conv => whnf)
    refine ⟨⟨(i + 1, false, M ++ ([] ++ [l.getD i ⟨0, 0⟩])), ?_⟩, (z5 [] [0, 1]), by dsimp only; omega⟩; (try dsimp only)
    exact ⟨c, by simp; omega, he⟩
 ·obtain rfl : i = l.length := by omega
  rw [List.drop_of_length_le (Nat.le_refl _), wiF] at he
  cases d with
  |true =>
   rw [if_pos rfl, List.append_nil] at he
   subst he
   conv => whnf
   repeat' first
    |(refine zm ?_ ?_; (focus (first | rfl | exact bne_self_eq_false _)); conv => whnf)
    |(refine zm ?_ ?_; (focus ((try simp only [qA]) <;> (try simp only [wA]) <;> omega)); conv => whnf)
   exact (zu [] [1])
  |false =>
   rw [if_neg (by decide)] at he
   subst he
   conv => whnf
   repeat' first
    |(refine zn ?_ ?_; (focus (first | rfl | exact beq_self_eq_true _)); conv => whnf)
    |(refine zm ?_ ?_; (focus ((try simp only [qA]) <;> (try simp only [wA]) <;> omega)); conv => whnf)
    |(refine za (by (try simp only [wA, wL]) <;> omega) ?_; conv => whnf)
   exact (zu [] [1])
end Go.VL
namespace Go.VL
open Go.Proofs
set_option maxRecDepth 10000
set_option linter.unusedSimpArgs false
set_option linter.unusedVariables false
theorem foldl_snocP {xs : List Pr} {i : Nat} (h : i < xs.length) (l : List Pr) : (xs.take (i + 1)).foldl zbc l = zbc ((xs.take i).foldl zbc l) (xs.getD i ⟨0, 0⟩) := by
 rw [zat ⟨0, 0⟩ h, List.foldl_append]; rfl
theorem foldl_ascP : ∀ {xs l : List Pr}, Asc (l.map Pr.key) → Asc ((xs.foldl zbc l).map Pr.key)
 |[], _, h => h
 |x :: t, l, h => foldl_ascP (xs := t) (zso h)
theorem foldl_lenP : ∀ {xs l : List Pr}, Asc (l.map Pr.key) → (xs.foldl zbc l).length ≤ l.length + xs.length
 |[], l, _ => Nat.le_refl _
 |x :: t, l, h => by
  have := foldl_lenP (xs := t) (zso h (x := x))
  have e := zok (x := x) h
  rw [List.foldl_cons, List.length_cons]
  split at e <;> omega
theorem FnPutAllPairs_v (code : List Int) (hl0 : code.length ≤ 9223372036854775807) (hb : ∀ x ∈ code, 0 ≤ x ∧ x ≤ 255) : zr Tryz.prog 16 0 [.c (.nums .u8 code)] [] 0 (.c (.bool true)) [] := by
 refine spi (fn := Tryz.f16) _ ?_
 conv => whnf
 repeat' first | (refine zk (fun h => ?_) (fun h => ?_) <;> (try simp only [qA] at h) <;> (try simp only [wA] at h) <;> conv => whnf) | refine zc ?_
 ·rfl
 refine zbw [] [] (z9m code (by omega) (zie hb)) ⟨rfl, rfl, rfl, (by repeat first | exact trivial | refine ⟨rfl, ?_⟩), ⟨rfl, rfl, rfl⟩, ?_⟩
 rintro m res hout ⟨root, ps, l, hp, hps, hlb, hll, rfl, rfl, rfl⟩
 refine ⟨⟨rfl, rfl, rfl⟩, ?_⟩
 have h1 := PutAll_v root ps l hp (by omega)
 have h2 := yag root ps l hp (by omega)
 cases g : z4p root ps l with
 |none =>
  rw [g] at h1 h2
  change zr _ _ _ _ _ _ (.tup [ztV, .ff]) _ at h1 h2
  have h3 := z3a
  conv => whnf
  repeat' first
   |(refine zn ?_ ?_; (focus (first | rfl | exact beq_self_eq_true _)); conv => whnf)
   |(refine zm ?_ ?_; (focus (first | rfl | exact bne_self_eq_false _)); conv => whnf)
   |refine zh ?_
   |(refine zp (h1) rfl rfl ?_; conv => whnf)
   |(refine zp (h2) rfl rfl ?_; conv => whnf)
   |(refine zp (h3) rfl rfl ?_; conv => whnf)
  all_goals rfl
 |some r =>
  rw [g] at h1 h2
  obtain ⟨r1, r2⟩ := r
  change zr _ _ _ _ _ _ (.tup [trV r1 r2, .tt]) _ at h1 h2
  obtain ⟨gv, gl, gp⟩ := z99 g
  have hvr := z7b gv gp
  have hpr := putA_prs gp
  dsimp only at hvr hpr
  have hq : pB r2 := (zdx hvr).pb
  have h3 := z2b r1 r2 hq
  have h4 := zdn (zih root ps hp gv) rfl
  have h5 := zdn (zih r1 r2 hq hvr) rfl
  change zr _ _ _ _ _ _ (.c (.prs (psF root ps))) _ at h4
  change zr _ _ _ _ _ _ (.c (.prs (psF r1 r2))) _ at h5
  have hl4 := (zdx gv).len
  have hl5 := (zdx hvr).len
  have h6 := zhp (psF r1 r2) (by omega)
  have ha : Asc ((psF root ps).map Pr.key) := (zaa.row (za0 gv).fit.2.2.2.2).asc
  conv => whnf
  repeat' first
   |(refine zm ?_ ?_; (focus (first | rfl | exact bne_self_eq_false _)); conv => whnf)
   |(refine zp (h1) rfl rfl ?_; conv => whnf)
   |(refine zp (h2) rfl rfl ?_; conv => whnf)
   |(refine zp (h3) rfl rfl ?_; conv => whnf)
   |(refine zp (h4) rfl rfl ?_; conv => whnf)
  refine zd0 (fun (i : Nat) (M : List Pr) => i ≤ l.length ∧ M = (l.take i).foldl zbc (psF root ps)) (fun i M => ⟨70, 2, [(4, .c (.prs l)), (5, .ptr 1 0 0 0), (9, .c (.prs M)), (10, .c (.int .i64 i))], [(0, .box [.c (.int .i64 root), .c (.pgs ps)] [] []), (1, .box [.c (.int .i64 r1), .c (.pgs r2)] [] [])]⟩) (fun i _ => l.length - i) 0 (psF root ps) ⟨Nat.zero_le _, rfl⟩ (fun _ _ => Nat.zero_le _) (z5 [] [0, 1]) (fun i M hi => ?_)
  obtain ⟨hi, hM⟩ := hi
  have hMa := foldl_ascP (xs := l.take i) ha
  have hMl := foldl_lenP (xs := l.take i) ha
  rw [← hM] at hMa hMl
  rw [List.length_take] at hMl
  by_cases c : i < l.length
  ·have hw := zdn (with_v M (l.getD i ⟨0, 0⟩) (by omega)) rfl
   change zr _ _ _ _ _ _ (.c (.prs (wiF (l.getD i ⟨0, 0⟩) false M))) _ at hw
   rw [z9f hMa] at hw
   have e := foldl_snocP c (psF root ps)
   rw [← hM] at e
   conv => whnf
   repeat' first
    |(refine zn ?_ ?_; (focus ((try simp only [qA]) <;> (try simp only [wA]) <;> omega)); conv => whnf)
    |(refine za (by (try simp only [wA, wL]) <;> omega) ?_; conv => whnf)
    |(refine zg (by (try simp only [wA, wL]) <;> omega) (by (try simp only [wA, wL]) <;> omega) ?_; conv => whnf)
    |(refine zp (hw) rfl rfl ?_; conv => whnf)
   refine ⟨⟨(i + 1, zbc M (l.getD i ⟨0, 0⟩)), ?_⟩, (z5 [] [0, 1]), by dsimp only; omega⟩; (try dsimp only)
   exact ⟨c, e.symm⟩
  ·rw [List.take_of_length_le (by omega), ← hpr] at hM
   subst hM
   conv => whnf
   repeat' first
    |(refine zm ?_ ?_; (focus ((try simp only [qA]) <;> (try simp only [wA]) <;> omega)); conv => whnf)
    |refine zh ?_
    |(refine zp (h5) rfl rfl ?_; conv => whnf)
    |(refine zp (h6) rfl rfl ?_; conv => whnf)
   all_goals rfl
end Go.VL
