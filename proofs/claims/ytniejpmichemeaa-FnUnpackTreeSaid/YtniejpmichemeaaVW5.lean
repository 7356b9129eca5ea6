/- V-logic: TrZa TrZb TrPf Un TrPg TrLv TrPd TrPe TrPx TrLx -/
import Derived.Test.YtniejpmichemeaaVT2
import Derived.Test.YtniejpmichemeaaVEF
import Derived.Test.YtniejpmichemeaaVMA
import Derived.Test.YtniejpmichemeaaVT7
import Derived.Test.YtniejpmichemeaaVW3
import Derived.Test.YtniejpmichemeaaVPD
import Derived.Test.YtniejpmichemeaaVW4
import Derived.Test.YtniejpmichemeaaVEG
namespace Go.VL
open Go.Proofs
set_option maxRecDepth 10000
set_option linter.unusedSimpArgs false
set_option linter.unusedVariables false
theorem zw2 {α : Type} [DecidableEq α] (d : α) {xs ys : List α} (hl : xs.length = ys.length) (h : ∀ i, i < xs.length → xs.getD i d = ys.getD i d) : xs = ys := by
 apply List.ext_getElem hl
 intro i h1 h2
 have := h i h1
 rwa [List.getD_eq_getElem?_getD, List.getD_eq_getElem?_getD, List.getElem?_eq_getElem h1, List.getElem?_eq_getElem h2] at this
theorem zn3 (xs ys : List Int) (h1 : xs.length ≤ 4294967296) (h2 : ys.length ≤ 4294967296) : zr Try.prog 13 0 [.c (.nums .i64 xs), .c (.nums .i64 ys)] [] 0 (.c (.bool (decide (xs = ys)))) [] := by
 obtain ⟨X, hX⟩ : ∃ X, decide (xs = ys) = X := ⟨_, rfl⟩
 rw [hX]
 by_cases hl : xs.length = ys.length
 ·skip
  refine spi (fn := Try.f13) _ ?_
  conv => whnf
  repeat' (refine zm ?_ ?_; (focus ((try simp only [qA]) <;> (try simp only [wA]) <;> omega)); conv => whnf)
  refine zau (fun i : Nat => ∀ k, k < i → xs.getD k 0 = ys.getD k 0) (fun i => ⟨26, 0, [(0, .c (.nums .i64 xs)), (1, .c (.nums .i64 ys)), (5, .c (.int .i64 i))], []⟩) (fun i => xs.length - i) 0 (fun k hk => absurd hk (Nat.not_lt_zero _)) (fun _ => Nat.zero_le _) zbn (fun i hi => ?_)
  conv => whnf
  repeat' first
   |(refine za (by kernel_rfl) ?_; conv => whnf)
   |(refine za (by (try simp only [wA, wL]) <;> omega) ?_; conv => whnf)
   |(refine zk (fun h => ?_) (fun h => ?_) <;> (try simp only [qA] at h) <;> (try simp only [wA] at h) <;> conv => whnf)
   |refine zc ?_
   |refine zd ?_
   |(refine zg (by (try simp only [wA, wL]) <;> omega) (by (try simp only [wA, wL]) <;> omega) ?_; conv => whnf)
   |(refine ze ?_; conv => whnf)
  ·rw [← hX]
   exact decide_eq_false fun q => h (by rw [q])
  ·refine ⟨⟨i + 1, fun k hk => ?_⟩, zbn, by dsimp only; omega⟩
   rcases Nat.lt_or_ge k i with c | c
   ·exact hi k c
   ·obtain rfl : k = i := by omega
    exact h
  ·rw [← hX]
   exact decide_eq_true (zw2 0 hl fun k hk => hi k (by omega))
 ·have : X = false := by
   rw [← hX]
   exact decide_eq_false fun q => hl (by rw [q])
  rw [this]
  refine spi (fn := Try.f13) _ ?_
  conv => whnf
  repeat' first | (refine zn ?_ ?_; (focus ((try simp only [qA]) <;> (try simp only [wA]) <;> omega)); conv => whnf) | refine zd ?_
  all_goals rfl
theorem zbh (xs : List Int) (h : xs.length ≤ 4294967296) : zr Try.prog 13 0 [.c (.nums .i64 xs), .c (.nums .i64 xs)] [] 0 (.c (.bool true)) [] := by
 have := zn3 xs xs h h
 rwa [decide_eq_true rfl] at this
end Go.VL
namespace Go.VL
open Go.Proofs
set_option maxRecDepth 10000
set_option linter.unusedSimpArgs false
set_option linter.unusedVariables false
theorem zj2 (ps : List Pg) (hp : pB ps) : zr Try.prog 37 0 [.c (.pgs ps), .c (.pgs ps)] [] 0 (.c (.bool true)) [] := by
 have k4 := hp.len
 refine spi (fn := Try.f37) _ ?_
 conv => whnf
 repeat' (refine zm ?_ ?_; (focus ((try simp only [qA]) <;> (try simp only [wA]) <;> omega)); conv => whnf)
 refine zau (fun i : Nat => i ≤ ps.length) (fun i => ⟨57, 0, [(0, .c (.pgs ps)), (1, .c (.pgs ps)), (5, .c (.int .i64 i))], []⟩) (fun i => ps.length - i) 0 (Nat.zero_le _) (fun _ => Nat.zero_le _) zbn (fun i hi => ?_)
 have k1 := zbh _ (hp.keys i)
 have k2 := zbh _ (hp.kids i)
 have k3 := zbh _ (hp.vals i)
 dsimp only [zb, Int.toNat_natCast] at k1 k2 k3
 conv => whnf
 repeat' first
  |(refine za (by kernel_rfl) ?_; conv => whnf)
  |(refine zn ?_ ?_; (focus ((try simp only [qA]) <;> (try simp only [wA]) <;> omega)); conv => whnf)
  |(refine za (by (try simp only [wA, wL]) <;> omega) ?_; conv => whnf)
  |(refine zk (fun h => ?_) (fun h => ?_) <;> (try simp only [qA] at h) <;> (try simp only [wA] at h) <;> conv => whnf)
  |refine zc ?_
  |(refine zg (by (try simp only [wA, wL]) <;> omega) (by (try simp only [wA, wL]) <;> omega) ?_; conv => whnf)
  |(refine zw (k1) rfl rfl ?_; conv => whnf)
  |(refine zw (k2) rfl rfl ?_; conv => whnf)
  |(refine zw (k3) rfl rfl ?_; conv => whnf)
  |(refine ze ?_; conv => whnf)
 ·refine ⟨⟨i + 1, ?_⟩, zbn, by dsimp only; omega⟩; (try dsimp only)
  omega
 ·rfl
theorem zqk : zr Try.prog 37 0 [.nil, .nil] [] 0 (.c (.bool true)) [] :=
 zkb (args := [.c (.pgs []), .c (.pgs [])]) ⟨.inr ⟨rfl, _, rfl, rfl, rfl⟩, .inr ⟨rfl, _, rfl, rfl, rfl⟩, trivial⟩ (zj2 [] ⟨by decide, by intro i; simp [zb], by intro i; simp [zb], by intro i; simp [zb]⟩)
theorem z2b (root : Int) (ps : List Pg) (hp : pB ps) : zr Try.prog 12 0 [trV root ps, trV root ps] [] 0 (.c (.bool true)) [] := by
 refine spi (fn := Try.f12) _ ?_
 conv => whnf
 repeat' first
  |(refine zn ?_ ?_; (focus ((try simp only [qA]) <;> (try simp only [wA]) <;> omega)); conv => whnf)
  |refine zh ?_
  |(refine zp (zj2 _ hp) rfl rfl ?_; conv => whnf)
 all_goals rfl
theorem z3a : zr Try.prog 12 0 [.agg [.c (.int .i64 0), .nil], .agg [.c (.int .i64 0), .nil]] [] 0 (.c (.bool true)) [] := by
 refine spi (fn := Try.f12) _ ?_
 conv => whnf
 repeat' first | (refine zn ?_ ?_; (focus ((try simp only [qA]) <;> (try simp only [wA]) <;> omega)); conv => whnf) | refine zh ?_ | (refine zp (zqk) rfl rfl ?_; conv => whnf)
 all_goals rfl
end Go.VL
namespace Go.VL
open Go.Proofs
set_option maxRecDepth 10000
set_option linter.unusedSimpArgs false
set_option linter.unusedVariables false
theorem flS {ps : List Pg} {k : Nat} (h : k < ps.length) : (ps.take (k + 1)).flatMap pkF = (ps.take k).flatMap pkF ++ pkF (ps.getD k ⟨[], [], []⟩) := by
 rw [zat ⟨[], [], []⟩ h, List.flatMap_append]; simp
theorem z5s {p : Pg} (h : zin p = true) : (pkF p).length ≤ 100 := by
 obtain ⟨z1, z2⟩ := ztf h
 unfold pkF pkB
 simp; omega
theorem z5p {ps : List Pg} (hf : ∀ p ∈ ps, zin p = true) : (ps.flatMap pkF).length ≤ 100 * ps.length := by
 induction ps with
 |nil => exact Nat.zero_le _
 |cons p t ih =>
  rw [List.flatMap_cons, List.length_append, List.length_cons]
  have h1 := ih fun q hq => hf q (List.mem_cons_of_mem _ hq)
  have := z5s (hf p (List.mem_cons_self ..))
  omega
theorem z6u (root : Int) (ps : List Pg) (hl : ps.length ≤ 1000) (hf : ∀ p ∈ ps, zin p = true) : zr Try.prog 29 0 [trV root ps] [] 1 (.slc 0) [(0, .arr (.nums .i64 (zob root ps)))] := by
 unfold zob
 refine spi (fn := Try.f29) _ ?_
 conv => whnf
 skip
 refine zd0 (fun (k : Nat) (M : List Int) => k ≤ ps.length ∧ M = (ps.length : Int) :: root :: (ps.take k).flatMap pkF) (fun k M => ⟨27, 2, [(1, .ptr 0 0 0 0), (3, .slc 1), (4, .c (.int .i64 k))], [(0, .box [.c (.int .i64 root), .c (.pgs ps)] [] []), (1, .arr (.nums .i64 M))]⟩) (fun k _ => ps.length - k) 0 [(ps.length : Int), root] ⟨Nat.zero_le _, rfl⟩ (fun _ _ => Nat.zero_le _) (z5 [] [0, 1]) (fun k M hk => ?_)
 obtain ⟨hk, hM⟩ := hk
 have hml := congrArg List.length hM
 have hfl := z5p (ps := ps.take k) fun p hp => hf p (List.mem_of_mem_take hp)
 rw [List.length_cons, List.length_cons] at hml
 rw [List.length_take] at hfl
 by_cases c : k < ps.length
 ·have hm := zaq ⟨[], [], []⟩ c
  have hp := sPackPage'_v _ (hf _ hm)
  have hS := flS c
  have hpl : (pkF (ps.getD k ⟨[], [], []⟩)).length ≤ 100 := z5s (hf _ hm)
  conv => whnf
  repeat' first
   |(refine zn ?_ ?_; (focus ((try simp only [qA]) <;> (try simp only [wA]) <;> omega)); conv => whnf)
   |(refine za (by (try simp only [wA, wL]) <;> omega) ?_; conv => whnf)
   |(refine zg (by (try simp only [wA, wL]) <;> omega) (by (try simp only [wA, wL]) <;> omega) ?_; conv => whnf)
   |(refine z8 (hp) rfl ?_; conv => whnf)
  exact ⟨⟨(k + 1, M ++ pkF (ps.getD k ⟨[], [], []⟩)), by omega, by rw [hM, hS]; rfl⟩, (z5 [] [0, 1]), by dsimp only; omega⟩
 ·rw [List.take_of_length_le (by omega)] at hM
  subst hM
  conv => whnf
  repeat' (refine zm ?_ ?_; (focus ((try simp only [qA]) <;> (try simp only [wA]) <;> omega)); conv => whnf)
  exact (zu [] [1])
theorem z66 (root : Int) (ps : List Pg) (hp : pB ps) (hv : vTree root ps = true) : zr Try.prog 14 0 [trV root ps] [] 1 (.slc 0) [(0, .arr (.nums .i64 (zob root ps)))] := by
 have hvt := zbi root ps hp
 have hl := (za0 hv).l16
 have hf := zrs hv
 rw [hv] at hvt
 unfold zob
 refine spi (fn := Try.f14) _ ?_
 conv => whnf
 repeat' first
  |(refine zm ?_ ?_; (focus (first | rfl | exact bne_self_eq_false _)); conv => whnf)
  |(refine zp (hvt) rfl rfl ?_; conv => whnf)
 refine zd0 (fun (k : Nat) (M : List Int) => k ≤ ps.length ∧ M = (ps.length : Int) :: root :: (ps.take k).flatMap pkF) (fun k M => ⟨28, 1, [(3, .slc 0), (16, .c (.pgs ps)), (17, .c (.int .i64 ps.length)), (18, .c (.int .i64 k))], [(0, .arr (.nums .i64 M))]⟩) (fun k _ => ps.length - k) 0 [(ps.length : Int), root] ⟨Nat.zero_le _, rfl⟩ (fun _ _ => Nat.zero_le _) (z5 [] [1]) (fun k M hk => ?_)
 obtain ⟨hk, hM⟩ := hk
 have hml := congrArg List.length hM
 have hfl := z5p (ps := ps.take k) fun p hp => hf p (List.mem_of_mem_take hp)
 rw [List.length_cons, List.length_cons] at hml
 rw [List.length_take] at hfl
 by_cases c : k < ps.length
 ·have hm := zaq ⟨[], [], []⟩ c
  have hp := z41 _ (hf _ hm)
  have hS := flS c
  have hpl : (pkF (ps.getD k ⟨[], [], []⟩)).length ≤ 100 := z5s (hf _ hm)
  conv => whnf
  repeat' first
   |(refine zn ?_ ?_; (focus ((try simp only [qA]) <;> (try simp only [wA]) <;> omega)); conv => whnf)
   |(refine za (by (try simp only [wA, wL]) <;> omega) ?_; conv => whnf)
   |(refine zg (by (try simp only [wA, wL]) <;> omega) (by (try simp only [wA, wL]) <;> omega) ?_; conv => whnf)
   |(refine z8 (hp) rfl ?_; conv => whnf)
  exact ⟨⟨(k + 1, M ++ pkF (ps.getD k ⟨[], [], []⟩)), by omega, by rw [hM, hS]; rfl⟩, (z5 [] [0]), by dsimp only; omega⟩
 ·rw [List.take_of_length_le (by omega)] at hM
  subst hM
  conv => whnf
  repeat' (refine zm ?_ ?_; (focus ((try simp only [qA]) <;> (try simp only [wA]) <;> omega)); conv => whnf)
  exact (zu [] [0])
end Go.VL
namespace Go.VL
abbrev ztV : V := .agg [.c (.int .i64 0), .nil]
def unR : Option (Int × List Pg) → List V
 |some (r, ps) => [trV r ps, .tt]
 |none => [ztV, .ff]
end Go.VL
namespace Go.VL
open Go.Proofs
set_option maxRecDepth 10000
set_option linter.unusedSimpArgs false
set_option linter.unusedVariables false
def unE (r : Int) : Option (List Pg × List Int) → Option (Int × List Pg)
 |some (ps, []) => if vTree r ps = true then some (r, ps) else none
 |_ => none
theorem z8i {l : List Int} (g : ¬ (l.length < 2 ∨ ¬ (1 ≤ l.getD 0 0 ∧ l.getD 0 0 ≤ 16))) : unT l = unE (l.getD 1 0) (zkk (l.getD 0 0).toNat (l.drop 2)) := by
 unfold unT
 rw [if_neg g]
 cases zkk (l.getD 0 0).toNat (l.drop 2) with
 |none => rfl
 |some q => obtain ⟨ps, r⟩ := q; cases r <;> rfl
theorem nmD {xs : List Int} {k : Nat} (h : nmB xs) : nmB (xs.drop k) := by
 refine ⟨by have := h.1; rw [List.length_drop]; omega, fun i => ?_⟩
 rw [List.getD_eq_getElem?_getD, List.getElem?_drop, ← List.getD_eq_getElem?_getD]
 exact h.2 _
theorem z51 {n k : Nat} {l r : List Int} {M : List Pg} (hk : k < n) (h : zkk n l = (zkk (n - k) r).map fun q => (M ++ q.1, q.2)) :
  (zow r = true → zkk n l = (zkk (n - (k + 1)) (r.drop (unS r))).map fun q => ((M ++ [unP r]) ++ q.1, q.2)) ∧ (zow r = false → zkk n l = none) := by
 obtain ⟨m, hm⟩ : ∃ m, n - k = m + 1 := ⟨n - k - 1, by omega⟩
 rw [h, hm, show n - (k + 1) = m by omega, zkk]
 constructor
 ·intro q
  rw [if_pos q, Option.map_map]
  congr 1
  funext z
  simp
 ·intro q
  rw [if_neg (by rw [q]; decide)]; rfl
theorem z7u {ps : List Pg} (hl : ps.length ≤ 100) (hf : ∀ p ∈ ps, zin p = true) : pB ps := by
 have key : ∀ i : Int, (zb ps i).keys.length ≤ 4 ∧ (zb ps i).kids.length ≤ 5 ∧ (zb ps i).vals.length ≤ 4 := fun i => by
  by_cases c : i.toNat < ps.length
  ·have := ztf (hf _ (zaq ⟨[], [], []⟩ c))
   show (ps.getD i.toNat _).keys.length ≤ 4 ∧ (ps.getD i.toNat _).kids.length ≤ 5 ∧ (ps.getD i.toNat _).vals.length ≤ 4
   omega
  ·unfold zb
   rw [List.getD_eq_getElem?_getD, List.getElem?_eq_none (by omega)]; simp
 exact ⟨by omega, fun i => by have := key i; omega, fun i => by have := key i; omega, fun i => by have := key i; omega⟩
theorem z6o (l : List Int) (hb : nmB l) : zr Try.prog 10 0 [.c (.nums .i64 l)] [] 0 (.tup (unR (unT l))) [] := by
 have hl := hb.1
 have h0 := hb.2 (Int.toNat 0)
 by_cases g : l.length < 2 ∨ ¬ (1 ≤ l.getD (Int.toNat 0) 0 ∧ l.getD (Int.toNat 0) 0 ≤ 16)
 ·have e : unT l = none := by unfold unT; exact if_pos g
  rw [e]
  refine spi (fn := Try.f10) _ ?_
  conv => whnf
  repeat' first
   |(refine zn ?_ ?_; (focus ((try simp only [qA]) <;> (try simp only [wA]) <;> omega)); conv => whnf)
   |(refine za (by (try simp only [wA, wL]) <;> omega) ?_; conv => whnf)
   |(refine zk (fun h => ?_) (fun h => ?_) <;> (try simp only [qA] at h) <;> (try simp only [wA] at h) <;> conv => whnf)
  all_goals first | exact (zu [] []) | (exfalso; omega)
 ·have e := z8i g
  have g1 : 2 ≤ l.length := by omega
  have g2 : 1 ≤ l.getD (Int.toNat 0) 0 ∧ l.getD (Int.toNat 0) 0 ≤ 16 := by omega
  have hr := hb.2 (Int.toNat 1)
  have hN : zkk (l.getD (Int.toNat 0) 0).toNat (l.drop 2) = (zkk ((l.getD (Int.toNat 0) 0).toNat - 0) (l.drop 2)).map fun q => ([] ++ q.1, q.2) := by
   rw [Nat.sub_zero]
   cases zkk (l.getD (Int.toNat 0) 0).toNat (l.drop 2) <;> rfl
  have hdr := nmD (k := 2) hb
  change unT l = unE (l.getD (Int.toNat 1) 0) (zkk (l.getD (Int.toNat 0) 0).toNat _) at e
  obtain ⟨R, hR⟩ : ∃ R, l.drop 2 = R := ⟨_, rfl⟩
  obtain ⟨n, hn⟩ : ∃ n, (l.getD (Int.toNat 0) 0).toNat = n := ⟨_, rfl⟩
  obtain ⟨U, hU⟩ : ∃ U, unT l = U := ⟨_, rfl⟩
  have hR2 : l.drop (Int.toNat 2) = R := hR
  rw [hR, hn] at hN e
  rw [hR] at hdr
  rw [hU] at e ⊢
  have hz0 : l.getD (Int.toNat 0) 0 = (n : Int) := by omega
  clear g hn hR hU
  refine spi (fn := Try.f10) _ ?_
  conv => whnf
  repeat' first | (refine zm ?_ ?_; (focus ((try simp only [qA]) <;> (try simp only [wA]) <;> omega)); conv => whnf) | (refine za (by (try simp only [wA, wL]) <;> omega) ?_; conv => whnf)
  rw [hR2, hz0]
  refine zk5 (fun (k : Nat) (M : List Pg) (r : List Int) => k ≤ n ∧ M.length = k ∧ (∀ p ∈ M, zin p = true) ∧ nmB r ∧ zkk n R = (zkk (n - k) r).map fun q => (M ++ q.1, q.2)) (fun k M r => match k with
   |0 => ⟨65, 2, [(2, .ptr 0 0 0 0), (4, .ptr 1 0 0 0), (5, .c (.nums .i64 r)), (33, .c (.int .i64 n)), (34, .c (.int .i64 0))], [(0, .box [.c (.int .i64 0), .nil] [] []), (1, .box [.c (.int .i64 (l.getD (Int.toNat 1) 0)), .nil] [] [])]⟩
   |k + 1 => ⟨65, 3, [(2, .ptr 0 0 0 0), (4, .ptr 1 0 0 0), (5, .c (.nums .i64 r)), (33, .c (.int .i64 n)), (34, .c (.int .i64 (k + 1 : Nat)))], [(0, .box [.c (.int .i64 0), .nil] [] []), (1, .box [.c (.int .i64 (l.getD (Int.toNat 1) 0)), .slc 2] [] []), (2, .arr (.pgs M))]⟩) (fun k M r => n - k) 0 [] R ⟨Nat.zero_le _, rfl, (fun p hp => by cases hp), hdr, hN⟩ (fun k _ _ => Nat.zero_le _) (z5 [] [0, 1]) (fun k M r hk => ?_)
  obtain ⟨hk, hMl, hMf, hrb, hun⟩ := hk
  clear hN hdr
  by_cases c : k < n
  ·obtain ⟨s1, s2⟩ := z51 c hun
   cases ho : zow r with
   |false =>
    have e2 := s2 ho
    rw [e2] at e
    change U = none at e
    subst e
    have hup := z57 r hrb ho
    clear hun s1 s2 e2
    cases k with
    |zero =>
     conv => whnf
     repeat' first | (refine zn ?_ ?_; (focus ((try simp only [qA]) <;> (try simp only [wA]) <;> omega)); conv => whnf) | (refine zp (hup) rfl rfl ?_; conv => whnf)
     exact (zu [] [])
    |succ k =>
     conv => whnf
     repeat' first | (refine zn ?_ ?_; (focus ((try simp only [qA]) <;> (try simp only [wA]) <;> omega)); conv => whnf) | (refine zp (hup) rfl rfl ?_; conv => whnf)
     exact (zu [] [])
   |true =>
    have e2 := s1 ho
    have hup := z6r r hrb ho
    have hfp := (zjv.1 ho).2.1
    have hsl := (zjv.1 ho).1.len
    have hrl := hrb.1
    have hrb2 := nmD (k := unS r) hrb
    clear hun s1 s2
    cases k with
    |zero =>
     have e3 : M = [] := List.eq_nil_of_length_eq_zero hMl
     subst e3
     conv => whnf
     repeat' first
      |(refine zn ?_ ?_; (focus ((try simp only [qA]) <;> (try simp only [wA]) <;> omega)); conv => whnf)
      |(refine za (by (try simp only [wA, wL]) <;> omega) ?_; conv => whnf)
      |(refine zg (by (try simp only [wA, wL]) <;> omega) (by (try simp only [wA, wL]) <;> omega) ?_; conv => whnf)
      |(refine zp (hup) rfl rfl ?_; conv => whnf)
      |(refine zo ?_; conv => whnf)
     refine ⟨⟨(1, [] ++ ([] ++ [unP r]), r.drop (unS r)), ?_⟩, (z5 [] [0, 1, 4]), by dsimp only; omega⟩; (try dsimp only)
     exact ⟨c, rfl, fun p hp => by rw [List.mem_singleton.1 hp]; exact hfp, hrb2, e2⟩
    |succ k =>
     conv => whnf
     repeat' first
      |(refine zn ?_ ?_; (focus ((try simp only [qA]) <;> (try simp only [wA]) <;> omega)); conv => whnf)
      |(refine za (by (try simp only [wA, wL]) <;> omega) ?_; conv => whnf)
      |(refine zg (by (try simp only [wA, wL]) <;> omega) (by (try simp only [wA, wL]) <;> omega) ?_; conv => whnf)
      |(refine zp (hup) rfl rfl ?_; conv => whnf)
      |(refine zo ?_; conv => whnf)
     refine ⟨⟨(k + 1 + 1, M ++ ([] ++ [unP r]), r.drop (unS r)), ?_⟩, (z5 [] [0, 1, 2]), by dsimp only; omega⟩; (try dsimp only)
     refine ⟨c, by simp; omega, fun p hp => ?_, hrb2, e2⟩
     rcases List.mem_append.1 hp with hp | hp
     ·exact hMf p hp
     ·rw [List.mem_singleton.1 hp]; exact hfp
  ·obtain rfl : k = n := by omega
   rw [Nat.sub_self] at hun
   change zkk k R = some (M ++ [], r) at hun
   rw [List.append_nil] at hun
   rw [hun] at e
   have hpM := z7u (ps := M) (by omega) hMf
   have hvt := zbi (l.getD (Int.toNat 1) 0) M hpM
   clear hun
   have hrl := hrb.1
   cases k with
   |zero => exfalso; omega
   |succ k =>
    cases r with
    |nil =>
     change U = if vTree (l.getD (Int.toNat 1) 0) M = true then some (l.getD (Int.toNat 1) 0, M) else none at e
     subst e
     generalize vTree (l.getD (Int.toNat 1) 0) M = b at *
     cases b with
     |false =>
      conv => whnf
      repeat' first
       |(refine zn ?_ ?_; (focus (first | rfl | exact beq_self_eq_true _)); conv => whnf)
       |(refine zm ?_ ?_; (focus (first | rfl | exact bne_self_eq_false _)); conv => whnf)
       |(refine zm ?_ ?_; (focus ((try simp only [qA]) <;> (try simp only [wA]) <;> omega)); conv => whnf)
       |(refine zbo (hvt) rfl rfl rfl ?_; conv => whnf)
      exact (zu [] [])
     |true =>
      conv => whnf
      repeat' first
       |(refine zm ?_ ?_; (focus (first | rfl | exact bne_self_eq_false _)); conv => whnf)
       |(refine zm ?_ ?_; (focus ((try simp only [qA]) <;> (try simp only [wA]) <;> omega)); conv => whnf)
       |(refine zbo (hvt) rfl rfl rfl ?_; conv => whnf)
      exact (zu [2] [])
    |cons z t =>
     change U = none at e
     subst e
     have hlen : 0 < ((z :: t).length : Int) := by simp
     generalize z :: t = r at *
     conv => whnf
     repeat' first | (refine zn ?_ ?_; (focus ((try simp only [qA]) <;> (try simp only [wA]) <;> omega)); conv => whnf) | (refine zm ?_ ?_; (focus ((try simp only [qA]) <;> (try simp only [wA]) <;> omega)); conv => whnf)
     exact (zu [] [])
theorem z8w {l : List Int} {a b : Nat} : (l.drop a).drop b = l.drop (a + b) := by rw [List.drop_drop]
theorem z58 (l : List Int) (hb : nmB l) : zr Try.prog 11 0 [.c (.nums .i64 l)] [] 0 (.tup (unR (unT l))) [] := by
 have hl := hb.1
 have h0 := hb.2 (Int.toNat 0)
 by_cases g : l.length < 2 ∨ ¬ (1 ≤ l.getD (Int.toNat 0) 0 ∧ l.getD (Int.toNat 0) 0 ≤ 16)
 ·have e : unT l = none := by unfold unT; exact if_pos g
  rw [e]
  refine spi (fn := Try.f11) _ ?_
  conv => whnf
  repeat' first
   |(refine zn ?_ ?_; (focus ((try simp only [qA]) <;> (try simp only [wA]) <;> omega)); conv => whnf)
   |(refine za (by (try simp only [wA, wL]) <;> omega) ?_; conv => whnf)
   |(refine zk (fun h => ?_) (fun h => ?_) <;> (try simp only [qA] at h) <;> (try simp only [wA] at h) <;> conv => whnf)
   |(refine zp (zgy _ _ _) rfl rfl ?_; conv => whnf)
  all_goals first | exact (zu [] []) | (exfalso; omega)
 ·have e := z8i g
  have g1 : 2 ≤ l.length := by omega
  have g2 : 1 ≤ l.getD (Int.toNat 0) 0 ∧ l.getD (Int.toNat 0) 0 ≤ 16 := by omega
  have hr := hb.2 (Int.toNat 1)
  have hN : zkk (l.getD (Int.toNat 0) 0).toNat (l.drop 2) = (zkk ((l.getD (Int.toNat 0) 0).toNat - 0) (l.drop 2)).map fun q => ([] ++ q.1, q.2) := by
   rw [Nat.sub_zero]
   cases zkk (l.getD (Int.toNat 0) 0).toNat (l.drop 2) <;> rfl
  change unT l = unE (l.getD (Int.toNat 1) 0) (zkk (l.getD (Int.toNat 0) 0).toNat _) at e
  obtain ⟨n, hn⟩ : ∃ n, (l.getD (Int.toNat 0) 0).toNat = n := ⟨_, rfl⟩
  obtain ⟨U, hU⟩ : ∃ U, unT l = U := ⟨_, rfl⟩
  rw [hn] at hN e
  rw [hU] at e ⊢
  have hz0 : l.getD (Int.toNat 0) 0 = (n : Int) := by omega
  clear g hn hU
  refine spi (fn := Try.f11) _ ?_
  conv => whnf
  repeat' first
   |(refine zm ?_ ?_; (focus ((try simp only [qA]) <;> (try simp only [wA]) <;> omega)); conv => whnf)
   |(refine za (by (try simp only [wA, wL]) <;> omega) ?_; conv => whnf)
   |(refine zp (zgy _ _ _) rfl rfl ?_; conv => whnf)
   |(refine zo ?_; conv => whnf)
  refine zk5 (fun (k : Nat) (M : List Pg) (z : Nat) => k ≤ n ∧ M.length = k ∧ (∀ p ∈ M, zin p = true) ∧ z ≤ l.length ∧ zkk n (l.drop 2) = (zkk (n - k) (l.drop z)).map fun q => (M ++ q.1, q.2)) (fun k M z => ⟨62, 3, [(0, .c (.nums .i64 l)), (2, .ptr 0 0 0 0), (4, .ptr 2 0 0 0), (5, .c (.int .i64 z)), (6, .c (.int .i64 k))], [(0, .box [.c (.int .i64 0), .nil] [] []), (1, .arr (.pgs M)), (2, .box [.c (.int .i64 (l.getD (Int.toNat 1) 0)), .slc 1] [] [])]⟩) (fun k M z => n - k) 0 [] 2 ⟨Nat.zero_le _, rfl, (fun p hp => by cases hp), g1, hN⟩ (fun k _ _ => Nat.zero_le _) (z5 [] [0, 1, 2]) (fun k M z hk => ?_)
  obtain ⟨hk, hMl, hMf, hz, hun⟩ := hk
  clear hN
  have hrb := nmD (k := z) hb
  have hlD : (l.drop z).length = l.length - z := List.length_drop
  by_cases c : k < n
  ·obtain ⟨s1, s2⟩ := z51 c hun
   have hup := z54 (l.drop z) hrb
   cases ho : zow (l.drop z) with
   |false =>
    have e2 := s2 ho
    rw [e2] at e
    change U = none at e
    subst e
    rw [ho, if_neg (by decide)] at hup
    clear hun s1 s2 e2
    conv => whnf
    repeat' first
     |(refine zn ?_ ?_; (focus (first | rfl | exact beq_self_eq_true _)); conv => whnf)
     |(refine zn ?_ ?_; (focus ((try simp only [qA]) <;> (try simp only [wA]) <;> omega)); conv => whnf)
     |(refine za (by (try simp only [wA, wL]) <;> omega) ?_; conv => whnf)
     |(refine zp (hup) rfl rfl ?_; conv => whnf)
    exact (zu [] [])
   |true =>
    have e2 := s1 ho
    have hfp := (zjv.1 ho).2.1
    have hsl := (zjv.1 ho).1.len
    have hsp := zqh (l.drop z)
    rw [z8w] at e2
    rw [ho, if_pos rfl] at hup
    clear hun s1 s2
    conv => whnf
    repeat' first
     |(refine zn ?_ ?_; (focus ((try simp only [qA]) <;> (try simp only [wA]) <;> omega)); conv => whnf)
     |(refine zm ?_ ?_; (focus ((try simp only [qA]) <;> (try simp only [wA]) <;> omega)); conv => whnf)
     |(refine za (by (try simp only [wA, wL]) <;> omega) ?_; conv => whnf)
     |(refine zg (by (try simp only [wA, wL]) <;> omega) (by (try simp only [wA, wL]) <;> omega) ?_; conv => whnf)
     |(refine zp (hup) rfl rfl ?_; conv => whnf)
     |(refine zo ?_; conv => whnf)
    refine ⟨⟨(k + 1, M ++ ([] ++ [unP (l.drop z)]), z + unS (l.drop z)), ?_⟩, (z5 [] [0, 1, 2]), by dsimp only; omega⟩; (try dsimp only)
    refine ⟨c, by simp; omega, fun p hp => ?_, by omega, e2⟩
    rcases List.mem_append.1 hp with hp | hp
    ·exact hMf p hp
    ·rw [List.mem_singleton.1 hp]; exact hfp
  ·obtain rfl : k = n := by omega
   rw [Nat.sub_self] at hun
   change zkk k (l.drop 2) = some (M ++ [], l.drop z) at hun
   rw [List.append_nil] at hun
   rw [hun] at e
   have hpM := z7u (ps := M) (by omega) hMf
   have hvt := zay (l.getD (Int.toNat 1) 0) M hpM
   clear hun
   by_cases hzl : z = l.length
   ·rw [List.drop_eq_nil_of_le (by omega)] at e
    change U = if vTree (l.getD (Int.toNat 1) 0) M = true then some (l.getD (Int.toNat 1) 0, M) else none at e
    subst e
    generalize vTree (l.getD (Int.toNat 1) 0) M = b at *
    cases b with
    |false =>
     conv => whnf
     repeat' first
      |(refine zn ?_ ?_; (focus (first | rfl | exact beq_self_eq_true _)); conv => whnf)
      |(refine zm ?_ ?_; (focus ((try simp only [qA]) <;> (try simp only [wA]) <;> omega)); conv => whnf)
      |(refine za (by (try simp only [wA, wL]) <;> omega) ?_; conv => whnf)
      |(refine zbo (hvt) rfl rfl rfl ?_; conv => whnf)
     exact (zu [] [])
    |true =>
     conv => whnf
     repeat' first
      |(refine zm ?_ ?_; (focus (first | rfl | exact bne_self_eq_false _)); conv => whnf)
      |(refine zm ?_ ?_; (focus ((try simp only [qA]) <;> (try simp only [wA]) <;> omega)); conv => whnf)
      |(refine za (by (try simp only [wA, wL]) <;> omega) ?_; conv => whnf)
      |(refine zbo (hvt) rfl rfl rfl ?_; conv => whnf)
     exact (zu [1] [])
   ·obtain ⟨y, t, hyt⟩ : ∃ y t, l.drop z = y :: t := by
     cases hq : l.drop z with
     |nil => rw [hq] at hlD; exfalso; simp only [List.length_nil] at hlD; omega
     |cons y t => exact ⟨y, t, rfl⟩
    rw [hyt] at e
    change U = none at e
    subst e
    conv => whnf
    repeat' first
     |(refine zn ?_ ?_; (focus ((try simp only [qA]) <;> (try simp only [wA]) <;> omega)); conv => whnf)
     |(refine zm ?_ ?_; (focus ((try simp only [qA]) <;> (try simp only [wA]) <;> omega)); conv => whnf)
     |(refine za (by (try simp only [wA, wL]) <;> omega) ?_; conv => whnf)
    exact (zu [] [])
end Go.VL
namespace Go.VL
open Go.Proofs
set_option maxRecDepth 10000
set_option linter.unusedSimpArgs false
set_option linter.unusedVariables false
theorem z8f {xs : List Int} (hl : xs.length ≤ 1048576) (h : ∀ x ∈ xs, -1048576 ≤ x ∧ x ≤ 1048576) : nmB xs := ⟨hl, fun i => z4u (P := fun x => -1048576 ≤ x ∧ x ≤ 1048576) h (by decide) i⟩
theorem z7r {xs : List Int} (h : nmB xs) {x : Int} (hx : x ∈ xs) : -1048576 ≤ x ∧ x ≤ 1048576 := by
 obtain ⟨j, hj⟩ := List.mem_iff_getElem?.1 hx
 have := h.2 j
 rw [List.getD_eq_getElem?_getD, hj] at this
 exact this
theorem z9b {root : Int} {ps : List Pg} (h : vTree root ps = true) : nmB (zob root ps) := by
 have hf := zrs h
 have hfl := z5p hf
 have v := za0 h
 have l16 := v.l16
 have e : (zob root ps).length = (ps.flatMap pkF).length + 2 := rfl
 refine z8f (by omega) fun x hx => ?_
 have hx : x ∈ (ps.length : Int) :: root :: ps.flatMap pkF := hx
 rw [List.mem_cons, List.mem_cons, List.mem_flatMap] at hx
 obtain ⟨p0, p1⟩ := v.v0.pos
 rcases hx with rfl | rfl | ⟨p, hp, hx⟩
 ·omega
 ·omega
 ·exact z7r (z8t (hf p hp)) hx
end Go.VL
namespace Go.VL
open Go.Proofs
set_option maxRecDepth 10000
set_option linter.unusedSimpArgs false
set_option linter.unusedVariables false
end Go.VL
namespace Go.VL
open Go.Proofs
set_option maxRecDepth 10000
set_option linter.unusedSimpArgs false
set_option linter.unusedVariables false
theorem z87 (code : List Int) (hc : CodeOk code) (p n : Int) (h0 : 0 ≤ p) (h1 : p ≤ 1099511627776) (hn : n ≤ 1099511627776) : zce Try.prog 31 1 [.ptr 0 0 0 0, .c (.int .i64 n)] [(0, .box [.c (.nums .u8 code), .c (.int .i64 p)] [] [])] (fun m res hout => ∃ w : Int, 0 ≤ w ∧ (1 ≤ n → w < n) ∧ m = 1 ∧ res = .c (.int .i64 w) ∧ hout = [(0, .box [.c (.nums .u8 code), .c (.int .i64 (p + 1))] [] [])]) := by
 have hb := zdl hc (p := p) (n := n) h0 h1
 exact z5k (zcs code hc p n h0 h1 hn) ⟨_, hb.1, hb.2, rfl, rfl, rfl⟩
theorem nmT {xs : List Int} {k : Nat} (h : nmB xs) : nmB (xs.take k) := by
 refine ⟨by have := h.1; rw [List.length_take]; omega, fun i => z4u (P := fun x => -1048576 ≤ x ∧ x ≤ 1048576) (fun x hx => ?_) (by decide) i⟩
 obtain ⟨j, hj⟩ := List.mem_iff_getElem?.1 (List.mem_of_mem_take hx)
 have := h.2 j
 rw [List.getD_eq_getElem?_getD, hj] at this
 exact this
theorem nmS {xs : List Int} {k : Nat} {v : Int} (h : nmB xs) (hv : -1048576 ≤ v ∧ v ≤ 1048576) : nmB (xs.set k v) := by
 refine ⟨by have := h.1; rw [List.length_set]; omega, fun i => ?_⟩
 by_cases c : k = i ∧ i < xs.length
 ·obtain ⟨rfl, c⟩ := c
  rw [List.getD_eq_getElem?_getD, List.getElem?_set_self c]
  exact hv
 ·by_cases c2 : k = i
  ·subst c2
   rw [List.getD_eq_getElem?_getD, List.getElem?_eq_none (by rw [List.length_set]; omega)]
   decide
  ·rw [List.getD_eq_getElem?_getD, List.getElem?_set_ne c2, ← List.getD_eq_getElem?_getD]
   exact h.2 i
end Go.VL
namespace Go.VL
open Go.Proofs
set_option maxRecDepth 10000
set_option linter.unusedSimpArgs false
set_option linter.unusedVariables false
theorem z81 (code : List Int) (hc : CodeOk code) (p : Int) (h0 : 0 ≤ p) (h1 : p ≤ 1099511627776) : zce Try.prog 32 1 [.ptr 0 0 0 0, .c (.nums .i64 [0, 1, 5, -1, 100])] [(0, .box [.c (.nums .u8 code), .c (.int .i64 p)] [] [])] (fun m res hout => ∃ w : Int, -1 ≤ w ∧ w ≤ 100 ∧ m = 1 ∧ res = .c (.int .i64 w) ∧ hout = [(0, .box [.c (.nums .u8 code), .c (.int .i64 (p + 1))] [] [])]) := by
 have hb := znu (xs := [0, 1, 5, -1, 100]) (lo := -1) (hi := 100) (by decide) (by decide) (by decide) (zah code p ([0, 1, 5, -1, 100] : List Int).length).toNat
 exact z5k (zjy code hc p [0, 1, 5, -1, 100] h0 h1 (by decide) (by decide)) ⟨_, hb.1, hb.2, rfl, rfl, rfl⟩
theorem z5j (code : List Int) (hl : code.length ≤ 1048576) (hc : CodeOk (code.take 2000)) : zce Try.prog 9 0 [.c (.nums .u8 code)] [] (fun m res hout => ∃ l, nmB l ∧ m = 0 ∧ res = .c (.nums .i64 l) ∧ hout = []) := by
 refine spx (fn := Try.f9) _ ?_
 conv => whnf
 repeat' (refine zal [] [0] (zff code hl) ⟨rfl, rfl, rfl, (by repeat first | exact trivial | refine ⟨rfl, ?_⟩), ⟨rfl, rfl, rfl, rfl, rfl, rfl⟩, ?_⟩; conv => whnf)
 refine zbw [] [0, 1] (zxu (code.take 2000) hc 0 (by omega) (by omega)) ⟨rfl, rfl, rfl, (by repeat first | exact trivial | refine ⟨rfl, ?_⟩), ⟨rfl, rfl, rfl⟩, ?_⟩
 rintro m res hout ⟨root, ps, p, r1, p0, p1, rfl, rfl, rfl⟩
 refine ⟨⟨rfl, rfl, rfl⟩, ?_⟩
 generalize code.take 2000 = cd at *
 have v := za0 r1
 have l16 := v.l16
 have hf := zrs r1
 have hfl := z5p hf
 have hnm := z9b r1
 have e : (zob root ps).length = (ps.flatMap pkF).length + 2 := rfl
 have hpk := z6u root ps (by omega) hf
 generalize zob root ps = L at *
 conv => whnf
 repeat' first
  |(refine za (by (try simp only [wA, wL]) <;> omega) ?_; conv => whnf)
  |(refine zk (fun h => ?_) (fun h => ?_) <;> (try simp only [qA] at h) <;> (try simp only [wA] at h) <;> conv => whnf)
  |(refine zal [1] [2] (hpk) ?_; (conv => whnf); refine ⟨rfl, rfl, rfl, (by repeat first | exact trivial | refine ⟨rfl, ?_⟩), ⟨rfl, rfl, rfl, rfl, rfl, rfl⟩, ?_⟩; conv => whnf)
  |(refine zbw [] [0] (z87 cd hc _ _ ?_ ?_ ?_) ⟨rfl, rfl, rfl, (by repeat first | exact trivial | refine ⟨rfl, ?_⟩), ⟨rfl, rfl, rfl⟩, ?_⟩; (iterate 3 (focus (first | omega | (simp only [C.len, w4, w5, w6, w10]; omega)))); rintro m res hout ⟨w, b1, b2, rfl, rfl, rfl⟩; refine ⟨⟨rfl, rfl, rfl⟩, ?_⟩; (try simp only [C.len, w4, w5, w6, w10] at b2); conv => whnf)
  |(refine zbw [3] [0] (z81 cd hc (p + 1 + 1) (by omega) (by omega)) ?_; (conv => whnf); refine ⟨rfl, rfl, rfl, (by repeat first | exact trivial | refine ⟨rfl, ?_⟩), ⟨rfl, rfl, rfl⟩, ?_⟩; rintro m res hout ⟨w, b1, b2, rfl, rfl, rfl⟩; refine ⟨⟨rfl, rfl, rfl⟩, ?_⟩; conv => whnf)
 all_goals first
  |(refine za1 0 (.c (.nums .i64 _)) [] ⟨_, ?_, rfl, rfl, rfl⟩ rfl (zu [] []))
  |(refine za1 0 (.c (.nums .i64 _)) [] ⟨_, ?_, rfl, rfl, rfl⟩ rfl (zu [2] []))
 ·exact nmS hnm (by omega)
 ·refine z8f (by simp; omega) fun x hx => ?_
  rw [List.nil_append, List.mem_append, List.mem_singleton] at hx
  rcases hx with hx | rfl
  ·exact z7r hnm hx
  ·omega
 ·exact nmT hnm
 ·exact hnm
end Go.VL
namespace Go.VL
open Go.Proofs
set_option maxRecDepth 10000
set_option linter.unusedSimpArgs false
set_option linter.unusedVariables false
theorem FnUnpackTree_v (code : List Int) (hl0 : code.length ≤ 9223372036854775807) (hb : ∀ x ∈ code, 0 ≤ x ∧ x ≤ 255) : zr Try.prog 3 0 [.c (.nums .u8 code)] [] 0 (.c (.bool true)) [] := by
 refine spi (fn := Try.f3) _ ?_
 conv => whnf
 repeat' first | (refine zk (fun h => ?_) (fun h => ?_) <;> (try simp only [qA] at h) <;> (try simp only [wA] at h) <;> conv => whnf) | refine zc ?_
 ·rfl
 refine zbw [] [] (z5j code (by omega) (zie hb)) ⟨rfl, rfl, rfl, (by repeat first | exact trivial | refine ⟨rfl, ?_⟩), ⟨rfl, rfl, rfl⟩, ?_⟩
 rintro m res hout ⟨L, hnm, rfl, rfl, rfl⟩
 refine ⟨⟨rfl, rfl, rfl⟩, ?_⟩
 have h1 := z6o L hnm
 have h2 := z58 L hnm
 cases g : unT L with
 |none =>
  rw [g] at h1 h2
  change zr _ _ _ _ _ _ (.tup [ztV, .ff]) _ at h1 h2
  have h3 := z3a
  conv => whnf
  repeat' first
   |(refine zm ?_ ?_; (focus (first | rfl | exact bne_self_eq_false _)); conv => whnf)
   |refine zc ?_
   |(refine zp (h1) rfl rfl ?_; conv => whnf)
   |(refine zp (h2) rfl rfl ?_; conv => whnf)
   |(refine zp (h3) rfl rfl ?_; conv => whnf)
  all_goals rfl
 |some r =>
  obtain ⟨root, ps⟩ := r
  rw [g] at h1 h2
  change zr _ _ _ _ _ _ (.tup [trV root ps, .tt]) _ at h1 h2
  obtain ⟨e, gv, hf⟩ := z8m g
  have hp := (zdx gv).pb
  have h3 := z2b root ps hp
  have h4 := zdn (z66 root ps hp gv) rfl
  change zr _ _ _ _ _ _ (.c (.nums .i64 (zob root ps))) _ at h4
  rw [e] at h4
  have hl := hnm.1
  have h5 := zbh L (by omega)
  have h6 := zbi root ps hp
  rw [gv] at h6
  conv => whnf
  repeat' first
   |(refine zn ?_ ?_; (focus (first | rfl | exact beq_self_eq_true _)); conv => whnf)
   |(refine zm ?_ ?_; (focus (first | rfl | exact bne_self_eq_false _)); conv => whnf)
   |refine zh ?_
   |(refine zp (h1) rfl rfl ?_; conv => whnf)
   |(refine zp (h2) rfl rfl ?_; conv => whnf)
   |(refine zp (h3) rfl rfl ?_; conv => whnf)
   |(refine zp (h4) rfl rfl ?_; conv => whnf)
   |(refine zp (h5) rfl rfl ?_; conv => whnf)
   |(refine zp (h6) rfl rfl ?_; conv => whnf)
  all_goals rfl
end Go.VL
