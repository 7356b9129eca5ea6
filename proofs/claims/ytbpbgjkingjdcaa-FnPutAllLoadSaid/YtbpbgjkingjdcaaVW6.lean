/- V-logic: TrZa TrZb TrPd TrPe TrDp TrEa TrEb PT27 TrYd TrYe TrLu -/
import Derived.Test.YtbpbgjkingjdcaaVT2
import Derived.Test.YtbpbgjkingjdcaaVEF
import Derived.Test.YtbpbgjkingjdcaaVMA
import Derived.Test.YtbpbgjkingjdcaaVT7
import Derived.Test.YtbpbgjkingjdcaaVW5
import Derived.Test.YtbpbgjkingjdcaaVEG
import Derived.Test.YtbpbgjkingjdcaaVW4
import Derived.Test.YtbpbgjkingjdcaaVT6
import Derived.Test.YtbpbgjkingjdcaaVW1
namespace Go.VL
open Go.Proofs
set_option maxRecDepth 10000
set_option linter.unusedSimpArgs false
set_option linter.unusedVariables false
theorem zw2 {α : Type} [DecidableEq α] (d : α) {xs ys : List α} (hl : xs.length = ys.length) (h : ∀ i, i < xs.length → xs.getD i d = ys.getD i d) : xs = ys := by
 apply List.ext_getElem hl
 intro i h1 h2
 have := h i h1
 rwa [List.getD_eq_getElem?_getD, List.getD_eq_getElem?_getD, List.getElem?_eq_getElem h1, List.getElem?_eq_getElem h2] at this
theorem zn3 (xs ys : List Int) (h1 : xs.length ≤ 4294967296) (h2 : ys.length ≤ 4294967296) : zr Try.prog 39 0 [.c (.nums .i64 xs), .c (.nums .i64 ys)] [] 0 (.c (.bool (decide (xs = ys)))) [] := by
 obtain ⟨X, hX⟩ : ∃ X, decide (xs = ys) = X := ⟨_, rfl⟩
 rw [hX]
 by_cases hl : xs.length = ys.length
 ·skip
  refine spi (fn := Try.f39) _ ?_
  conv => whnf
  repeat' (refine zm ?_ ?_; (focus ((try simp only [qA]) <;> (try simp only [wA]) <;> omega)); conv => whnf)
  refine zau (fun i : Nat => ∀ k, k < i → xs.getD k 0 = ys.getD k 0) (fun i => ⟨26, 0, [(0, .c (.nums .i64 xs)), (1, .c (.nums .i64 ys)), (5, .c (.int .i64 i))], []⟩) (fun i => xs.length - i) 0 (fun k hk => absurd hk (Nat.not_lt_zero _)) (fun _ => Nat.zero_le _) zbn (fun i hi => ?_)
  conv => whnf
  repeat' first
   |(refine za (by kernel_rfl) ?_; conv => whnf)
   |(refine za (by (try simp only [wA, wL]) <;> omega) ?_; conv => whnf)
   |(refine zk (fun h => ?_) (fun h => ?_) <;> (try simp only [qA] at h) <;> (try simp only [wA] at h) <;> conv => whnf)
   |refine zc ?_
   |refine zd ?_
   |(refine zg (by (try simp only [wA, wL]) <;> omega) (by (try simp only [wA, wL]) <;> omega) ?_; conv => whnf)
   |(refine ze ?_; conv => whnf)
  ·rw [← hX]
   exact decide_eq_false fun q => h (by rw [q])
  ·refine ⟨⟨i + 1, fun k hk => ?_⟩, zbn, by dsimp only; omega⟩
   rcases Nat.lt_or_ge k i with c | c
   ·exact hi k c
   ·obtain rfl : k = i := by omega
    exact h
  ·rw [← hX]
   exact decide_eq_true (zw2 0 hl fun k hk => hi k (by omega))
 ·have : X = false := by
   rw [← hX]
   exact decide_eq_false fun q => hl (by rw [q])
  rw [this]
  refine spi (fn := Try.f39) _ ?_
  conv => whnf
  repeat' first | (refine zn ?_ ?_; (focus ((try simp only [qA]) <;> (try simp only [wA]) <;> omega)); conv => whnf) | refine zd ?_
  all_goals rfl
theorem zbh (xs : List Int) (h : xs.length ≤ 4294967296) : zr Try.prog 39 0 [.c (.nums .i64 xs), .c (.nums .i64 xs)] [] 0 (.c (.bool true)) [] := by
 have := zn3 xs xs h h
 rwa [decide_eq_true rfl] at this
end Go.VL
namespace Go.VL
open Go.Proofs
set_option maxRecDepth 10000
set_option linter.unusedSimpArgs false
set_option linter.unusedVariables false
theorem zj2 (ps : List Pg) (hp : pB ps) : zr Try.prog 118 0 [.c (.pgs ps), .c (.pgs ps)] [] 0 (.c (.bool true)) [] := by
 have k4 := hp.len
 refine spi (fn := Try.f118) _ ?_
 conv => whnf
 repeat' (refine zm ?_ ?_; (focus ((try simp only [qA]) <;> (try simp only [wA]) <;> omega)); conv => whnf)
 refine zau (fun i : Nat => i ≤ ps.length) (fun i => ⟨57, 0, [(0, .c (.pgs ps)), (1, .c (.pgs ps)), (5, .c (.int .i64 i))], []⟩) (fun i => ps.length - i) 0 (Nat.zero_le _) (fun _ => Nat.zero_le _) zbn (fun i hi => ?_)
 have k1 := zbh _ (hp.keys i)
 have k2 := zbh _ (hp.kids i)
 have k3 := zbh _ (hp.vals i)
 dsimp only [zb, Int.toNat_natCast] at k1 k2 k3
 conv => whnf
 repeat' first
  |(refine za (by kernel_rfl) ?_; conv => whnf)
  |(refine zn ?_ ?_; (focus ((try simp only [qA]) <;> (try simp only [wA]) <;> omega)); conv => whnf)
  |(refine za (by (try simp only [wA, wL]) <;> omega) ?_; conv => whnf)
  |(refine zk (fun h => ?_) (fun h => ?_) <;> (try simp only [qA] at h) <;> (try simp only [wA] at h) <;> conv => whnf)
  |refine zc ?_
  |(refine zg (by (try simp only [wA, wL]) <;> omega) (by (try simp only [wA, wL]) <;> omega) ?_; conv => whnf)
  |(refine zw (k1) rfl rfl ?_; conv => whnf)
  |(refine zw (k2) rfl rfl ?_; conv => whnf)
  |(refine zw (k3) rfl rfl ?_; conv => whnf)
  |(refine ze ?_; conv => whnf)
 ·refine ⟨⟨i + 1, ?_⟩, zbn, by dsimp only; omega⟩; (try dsimp only)
  omega
 ·rfl
theorem zqk : zr Try.prog 118 0 [.nil, .nil] [] 0 (.c (.bool true)) [] :=
 zkb (args := [.c (.pgs []), .c (.pgs [])]) ⟨.inr ⟨rfl, _, rfl, rfl, rfl⟩, .inr ⟨rfl, _, rfl, rfl, rfl⟩, trivial⟩ (zj2 [] ⟨by decide, by intro i; simp [zb], by intro i; simp [zb], by intro i; simp [zb]⟩)
theorem z2b (root : Int) (ps : List Pg) (hp : pB ps) : zr Try.prog 45 0 [trV root ps, trV root ps] [] 0 (.c (.bool true)) [] := by
 refine spi (fn := Try.f45) _ ?_
 conv => whnf
 repeat' first
  |(refine zn ?_ ?_; (focus ((try simp only [qA]) <;> (try simp only [wA]) <;> omega)); conv => whnf)
  |refine zh ?_
  |(refine zp (zj2 _ hp) rfl rfl ?_; conv => whnf)
 all_goals rfl
theorem z3a : zr Try.prog 45 0 [.agg [.c (.int .i64 0), .nil], .agg [.c (.int .i64 0), .nil]] [] 0 (.c (.bool true)) [] := by
 refine spi (fn := Try.f45) _ ?_
 conv => whnf
 repeat' first | (refine zn ?_ ?_; (focus ((try simp only [qA]) <;> (try simp only [wA]) <;> omega)); conv => whnf) | refine zh ?_ | (refine zp (zqk) rfl rfl ?_; conv => whnf)
 all_goals rfl
end Go.VL
namespace Go.VL
open Go.Proofs
set_option maxRecDepth 10000
set_option linter.unusedSimpArgs false
set_option linter.unusedVariables false
end Go.VL
namespace Go.VL
open Go.Proofs
set_option maxRecDepth 10000
set_option linter.unusedSimpArgs false
set_option linter.unusedVariables false
end Go.VL
namespace Go.VL
open Go.Proofs
set_option maxRecDepth 10000
set_option linter.unusedSimpArgs false
set_option linter.unusedVariables false
def prB (l : List Pr) : Prop := ∀ x ∈ l, -1 ≤ x.key ∧ x.key ≤ 100 ∧ -1000 ≤ x.value ∧ x.value ≤ 1001
def yaj (code : List Int) (p0 : Int) (m : Nat) (res : V) (hout : List (Nat × O)) : Prop :=
 ∃ (row : List Pr) (p : Int), RowOk row 0 99 ∧ row.length ≤ 24 ∧ p0 ≤ p ∧ p ≤ p0 + 100 ∧ m = 2 ∧ res = .slc 1 ∧ hout = [(0, .box [.c (.nums .u8 code), .c (.int .i64 p)] [] []), (1, .arr (.prs row))]
theorem yah (code : List Int) (hc : CodeOk code) (p0 : Int) (h0 : 0 ≤ p0) (h1 : p0 ≤ 1000000) : zce Try.prog 169 1 [.ptr 0 0 0 0] [(0, .box [.c (.nums .u8 code), .c (.int .i64 p0)] [] [])] (yaj code p0) := by
 have hn := zjy code hc p0 [6, 9, 13, 4, 20, 24, 1, 0] h0 (by omega) (by simp) (by simp)
 obtain ⟨N, hN⟩ : ∃ N : Int, ([6, 9, 13, 4, 20, 24, 1, 0] : List Int).getD (zah code p0 ([6, 9, 13, 4, 20, 24, 1, 0] : List Int).length).toNat 0 = N := ⟨_, rfl⟩
 have hNb : 0 ≤ N ∧ N ≤ 24 := by
  rw [← hN]
  generalize (zah code p0 _).toNat = t
  match t with
  |0 => decide
  |1 => decide
  |2 => decide
  |3 => decide
  |4 => decide
  |5 => decide
  |6 => decide
  |7 => decide
  |t + 8 => exact ⟨Int.le_refl 0, (by decide : (0 : Int) ≤ 24)⟩
 rw [hN] at hn
 refine spx (fn := Try.f169) _ ?_
 conv => whnf
 repeat' (refine zal [2] [0] (hn) ?_; (conv => whnf); refine ⟨rfl, rfl, rfl, (by repeat first | exact trivial | refine ⟨rfl, ?_⟩), ⟨rfl, rfl, rfl, rfl, rfl, rfl⟩, ?_⟩; conv => whnf)
 refine zk5 (fun (out : List Pr) (p z : Int) => RowOk out 0 99 ∧ out.length ≤ 24 ∧ p0 ≤ p ∧ p + 2 * z ≤ p0 + 60 ∧ 0 ≤ z) (fun out p z => ⟨29, 2, [(0, .ptr 0 0 0 0), (3, .slc 1), (4, .c (.int .i64 z))], [(0, .box [.c (.nums .u8 code), .c (.int .i64 p)] [] []), (1, .arr (.prs out))]⟩) (fun out p z => z.toNat) [] (p0 + 1) N ⟨⟨by simp [Asc], by simp, by simp⟩, by simp, by omega, by omega, hNb.1⟩ (fun _ _ _ => Nat.le_succ 1) (z5 [] [0, 1]) (fun out p z hi => ?_)
 obtain ⟨i1, i2, i3, i4, i5⟩ := hi
 have b1 := zdl hc (p := p) (n := 100) (by omega) (by omega)
 have b2 := zdl hc (p := p + 1) (n := 200) (by omega) (by omega)
 have hp1 := zcs code hc p 100 (by omega) (by omega) (by omega)
 have hp2 := zcs code hc (p + 1) 200 (by omega) (by omega) (by omega)
 generalize zah code p 100 = A at *
 generalize zah code (p + 1) 200 = B at *
 have hput := z1r out ⟨A, B - 100⟩ (by omega)
 have hins := zvq (x := ⟨A, B - 100⟩) i1 (by dsimp only; omega) (by dsimp only; omega) (by dsimp only; omega)
 generalize zbc out ⟨A, B - 100⟩ = out2 at *
 conv => whnf
 repeat' first
  |(refine zk (fun h => ?_) (fun h => ?_) <;> (try simp only [qA] at h) <;> (try simp only [wA] at h) <;> conv => whnf)
  |(refine zg (by (try simp only [wA, wL]) <;> omega) (by (try simp only [wA, wL]) <;> omega) ?_; conv => whnf)
  |(refine zal [] [0] (hp1) ⟨rfl, rfl, rfl, (by repeat first | exact trivial | refine ⟨rfl, ?_⟩), ⟨rfl, rfl, rfl, rfl, rfl, rfl⟩, ?_⟩; conv => whnf)
  |(refine zal [] [0] (hp2) ⟨rfl, rfl, rfl, (by repeat first | exact trivial | refine ⟨rfl, ?_⟩), ⟨rfl, rfl, rfl, rfl, rfl, rfl⟩, ?_⟩; conv => whnf)
  |(refine zbe (hput) rfl rfl rfl rfl ?_; conv => whnf)
 ·refine ⟨⟨(out2, p + 1 + 1, z - 1), ?_⟩, (z5 [] [0, 4]), by dsimp only; omega⟩; (try dsimp only)
  exact ⟨hins, by omega, by omega, by omega, by omega⟩
 ·refine ⟨⟨(out, p + 1 + 1, z - 1), ?_⟩, (z5 [] [0, 1]), by dsimp only; omega⟩; (try dsimp only)
  exact ⟨i1, i2, by omega, by omega, by omega⟩
 ·exact za1 2 (.slc 1) [(0, .box [.c (.nums .u8 code), .c (.int .i64 p)] [] []), (1, .arr (.prs out))] ⟨out, p, i1, i2, i3, by omega, rfl, rfl, rfl⟩ rfl (zu [] [0, 1])
theorem yal (code : List Int) (hc : CodeOk code) : zce Try.prog 115 1 [.ptr 0 0 0 0] [(0, .box [.c (.nums .u8 code), .c (.int .i64 0)] [] [])] (fun m res hout => ∃ (l : List Pr) (p : Int), prB l ∧ l.length ≤ 25 ∧ 0 ≤ p ∧ m = 2 ∧ res = .slc 1 ∧ hout = [(0, .box [.c (.nums .u8 code), .c (.int .i64 p)] [] []), (1, .arr (.prs l))]) := by
 refine spx (fn := Try.f115) _ ?_
 conv => whnf
 skip
 refine zbw [] [0, 1] (yah code hc 0 (by omega) (by omega)) ⟨rfl, rfl, rfl, (by repeat first | exact trivial | refine ⟨rfl, ?_⟩), ⟨rfl, rfl, rfl⟩, ?_⟩
 rintro m res hout ⟨row, p1, r1, r2, r3, r4, rfl, rfl, rfl⟩
 refine ⟨⟨rfl, rfl, rfl⟩, ?_⟩
 have hpi := zcs code hc p1 14 (by omega) (by omega) (by omega)
 have ho1 := zjy code hc (p1 + 1) [99, 0, 100] (by omega) (by omega) (by simp) (by simp)
 have ho2 := zjy code hc (p1 + 1 + 1) [0, 1001] (by omega) (by omega) (by simp) (by simp)
 have b1 := znu (xs := [99, 0, 100]) (lo := 0) (hi := 100) (by decide) (by decide) (by decide) (zah code (p1 + 1) ([99, 0, 100] : List Int).length).toNat
 have b2 := znu (xs := [0, 1001]) (lo := 0) (hi := 1001) (by decide) (by decide) (by decide) (zah code (p1 + 1 + 1) ([0, 1001] : List Int).length).toNat
 generalize zah code p1 14 = w at *
 generalize ([99, 0, 100] : List Int).getD (zah code (p1 + 1) ([99, 0, 100] : List Int).length).toNat 0 = u1 at *
 generalize ([0, 1001] : List Int).getD (zah code (p1 + 1 + 1) ([0, 1001] : List Int).length).toNat 0 = u2 at *
 conv => whnf
 repeat' first
  |(refine za (by (try simp only [wA, wL]) <;> omega) ?_; conv => whnf)
  |(refine zk (fun h => ?_) (fun h => ?_) <;> (try simp only [qA] at h) <;> (try simp only [wA] at h) <;> conv => whnf)
  |(refine zal [] [0] (hpi) ⟨rfl, rfl, rfl, (by repeat first | exact trivial | refine ⟨rfl, ?_⟩), ⟨rfl, rfl, rfl, rfl, rfl, rfl⟩, ?_⟩; conv => whnf)
  |(refine zal [2] [0] ho1 ?_; (conv => whnf); refine ⟨rfl, rfl, rfl, (by repeat first | exact trivial | refine ⟨rfl, ?_⟩), ⟨rfl, rfl, rfl, rfl, rfl, rfl⟩, ?_⟩; conv => whnf)
  |(refine zal [3] [0] ho2 ?_; (conv => whnf); refine ⟨rfl, rfl, rfl, (by repeat first | exact trivial | refine ⟨rfl, ?_⟩), ⟨rfl, rfl, rfl, rfl, rfl, rfl⟩, ?_⟩; conv => whnf)
 ·refine za1 2 (.slc 1) [(0, .box [.c (.nums .u8 code), .c (.int .i64 (p1 + 1 + 1 + 1))] [] []), (1, .arr (.prs (row ++ ([] ++ [⟨u1, u2⟩]))))] ⟨_, _, ?_, ?_, ?_, rfl, rfl, rfl⟩ rfl (zu [] [0, 1])
  ·intro x hx
   rw [List.nil_append, List.mem_append, List.mem_singleton] at hx
   rcases hx with hx | rfl
   ·have := r1.rng x hx; have := r1.vrng x hx; omega
   ·dsimp only; omega
  ·simp; omega
  ·omega
 ·refine za1 2 (.slc 1) [(0, .box [.c (.nums .u8 code), .c (.int .i64 (p1 + 1))] [] []), (1, .arr (.prs row))] ⟨_, _, ?_, ?_, ?_, rfl, rfl, rfl⟩ rfl (zu [] [0, 1])
  ·intro x hx
   have := r1.rng x hx; have := r1.vrng x hx; omega
  ·omega
  ·omega
theorem yar (code : List Int) (hl : code.length ≤ 1048576) (hc : CodeOk (code.take 2000)) : zce Try.prog 43 0 [.c (.nums .u8 code)] [] (fun m res hout => ∃ l : List Pr, prB l ∧ l.length ≤ 25 ∧ m = 0 ∧ res = .c (.prs l) ∧ hout = []) := by
 refine spx (fn := Try.f43) _ ?_
 conv => whnf
 repeat' (refine zal [] [0] (zff code hl) ⟨rfl, rfl, rfl, (by repeat first | exact trivial | refine ⟨rfl, ?_⟩), ⟨rfl, rfl, rfl, rfl, rfl, rfl⟩, ?_⟩; conv => whnf)
 refine zbw [] [0, 1] (yal (code.take 2000) hc) ⟨rfl, rfl, rfl, (by repeat first | exact trivial | refine ⟨rfl, ?_⟩), ⟨rfl, rfl, rfl⟩, ?_⟩
 rintro m res hout ⟨l, p, h1, h2, h3, rfl, rfl, rfl⟩
 refine ⟨⟨rfl, rfl, rfl⟩, ?_⟩
 conv => whnf
 skip
 exact za1 0 (.c (.prs l)) [] ⟨l, h1, h2, rfl, rfl, rfl⟩ rfl (zu [1] [])
end Go.VL
namespace Go.VL
open Go.Proofs
set_option maxRecDepth 10000
set_option linter.unusedSimpArgs false
set_option linter.unusedVariables false
theorem z5s (m : Nat) (hm : m ≤ 24) : zr Try.prog 104 0 [.c (.int .i64 m)] [] 0 (.c (.int .i64 (ldN m))) [] := by
 have e : ((m : Int) + 4 - 1).tdiv 4 = (((m + 3) / 4 : Nat) : Int) := by
  rw [show (m : Int) + 4 - 1 = ((m + 3 : Nat) : Int) by omega]; rfl
 refine spi (fn := Try.f104) _ ?_
 conv => whnf
 repeat' first | (refine za (by (try simp only [wA, wL]) <;> omega) ?_; conv => whnf) | refine zi ?_ | (refine zg (by (try simp only [wA, wL]) <;> omega) (by (try simp only [wA, wL]) <;> omega) ?_; conv => whnf)
 unfold ldN
 rw [e]
 split <;> split <;> omega
abbrev ldB (P : List (List Pr)) : O := .box [.c (.prss P), .slc 1] [] []
theorem z71 (a k : Nat) : (List.range' a k).map Int.ofNat ++ ([] ++ [((a + k : Nat) : Int)]) = (List.range' a (k + 1)).map Int.ofNat := by
 rw [List.range'_concat, List.map_append, Nat.one_mul]; rfl
theorem z6k (P : List (List Pr)) (ps : List Pg) (i j : Nat) (hij : i ≤ j) (hj : j ≤ P.length) (hP : P.length ≤ 100) (hl : ∀ k, (P.getD k []).length ≤ 100) (hps : ps.length ≤ 100) :
  zr Try.prog 105 2 [.ptr 0 0 0 0, .c (.int .i64 i), .c (.int .i64 j)] [(0, ldB P), (1, .arr (.pgs ps))] 2 (.c (.nums .i64 ((List.range' ps.length (j - i)).map Int.ofNat))) [(0, ldB P), (1, .arr (.pgs (ps ++ ((P.take j).drop i).map zae)))] := by
 have hLl : ((P.take j).drop i).length = j - i := by rw [List.length_drop, List.length_take]; omega
 have hLk : ∀ k, (((P.take j).drop i).getD k []).length ≤ 100 := fun k => by
  by_cases c : k < j - i
  ·rw [List.getD_eq_getElem?_getD, List.getElem?_drop, List.getElem?_take_of_lt (by omega), ← List.getD_eq_getElem?_getD]; exact hl _
  ·rw [List.getD_eq_getElem?_getD, List.getElem?_eq_none (by omega)]; exact Nat.zero_le _
 generalize hL : (P.take j).drop i = L at *
 rw [← hLl]
 refine spi (fn := Try.f105) _ ?_
 conv => whnf
 repeat' (refine za (by (try simp only [wA, wL]) <;> omega) ?_; conv => whnf)
 have e1 : (P.take ((j : Int)).toNat).drop ((i : Int)).toNat = L := by rw [Int.toNat_natCast, Int.toNat_natCast]; exact hL
 rw [e1]
 refine zau (fun k : Nat => k ≤ L.length) (fun k => ⟨43, 3, [(0, .ptr 0 0 0 0), (7, .slc 2), (16, .c (.prss L)), (17, .c (.int .i64 L.length)), (18, .c (.int .i64 k))], [(0, ldB P), (1, .arr (.pgs (ps ++ (L.take k).map zae))), (2, .arr (.nums .i64 ((List.range' ps.length k).map Int.ofNat)))]⟩) (fun k => L.length - k) 0 (Nat.zero_le _) (fun _ => Nat.le_succ 2) (zsg [.nl 7 false (.nums .i64 [])] [] [0, 1, 2] ?_) ?_
 ·conv => whnf
  refine ⟨by repeat first | exact trivial | refine ⟨rfl, ?_⟩, ⟨rfl, ?_, rfl, trivial⟩, rfl, rfl, rfl, rfl, rfl, rfl, rfl⟩
  exact congrArg (fun z => some (O.arr (C.pgs z))) (List.append_nil ps).symm
 intro k hk
 by_cases c : k < L.length
 ·have hlf := z7q (L.getD k []) (Nat.le_trans (hLk k) (by decide))
  have hlk := hLk k
  have q1 : (ps ++ (L.take k).map zae).length = ps.length + k := by rw [List.length_append, List.length_map, List.length_take]; omega
  have q2 : (List.range' ps.length k).length = k := List.length_range'
  conv => whnf
  repeat' first
   |(refine za (by kernel_rfl) ?_; conv => whnf)
   |(refine zn ?_ ?_; (focus ((try simp only [qA]) <;> (try simp only [wA]) <;> omega)); conv => whnf)
   |(refine za (by (try simp only [wA, wL]) <;> omega) ?_; conv => whnf)
   |(refine zg (by (try simp only [wA, wL]) <;> omega) (by (try simp only [wA, wL]) <;> omega) ?_; conv => whnf)
   |(refine zlj ?_; conv => whnf)
   |(refine zw (hlf) rfl rfl ?_; conv => whnf)
   |(refine ze ?_; conv => whnf)
  refine ⟨⟨k + 1, ?_⟩, (zbd [] [0, 12, 2] ⟨by repeat first | exact trivial | refine ⟨rfl, ?_⟩, ?_, rfl, rfl, rfl, rfl, rfl, rfl, rfl⟩), by dsimp only; omega⟩; (try dsimp only)
  ·omega
  ·refine ⟨rfl, congrArg (fun z => some (O.arr (C.pgs z))) ?_, congrArg (fun z => some (O.arr (C.nums .i64 z))) ?_, trivial⟩
   ·rw [zat [] c, List.map_append, List.append_assoc]; rfl
   ·rw [← z71]
    show _ ++ ([] ++ [((ps ++ (L.take k).map zae).length : Int)]) = _
    rw [q1]
 ·rw [List.take_of_length_le (by omega), show k = L.length by omega]
  conv => whnf
  repeat' (refine zm ?_ ?_; (focus ((try simp only [qA]) <;> (try simp only [wA]) <;> omega)); conv => whnf)
  (refine zbg [2] [0, 1] ?_; (conv => whnf); exact ⟨rfl, by repeat first | exact trivial | refine ⟨rfl, ?_⟩, rfl, rfl, rfl, rfl, rfl, rfl⟩)
def inK (P : List (List Pr)) (i j : Nat) : List Int := ((P.take j).drop (i + 1)).map fun r => (r.getD 0 ⟨0, 0⟩).key
def inP (P : List (List Pr)) (i j a : Nat) : Pg := ⟨inK P i j, (List.range' a (j - i)).map Int.ofNat, []⟩
theorem z5t (P : List (List Pr)) (ps : List Pg) (i j : Nat) (hij : i < j) (hj : j ≤ P.length) (hP : P.length ≤ 100) (hl : ∀ k, (P.getD k []).length ≤ 100) (h1 : ∀ k, k < P.length → 1 ≤ (P.getD k []).length) (hps : ps.length ≤ 90) :
  zr Try.prog 106 2 [.ptr 0 0 0 0, .c (.int .i64 i), .c (.int .i64 j)] [(0, ldB P), (1, .arr (.pgs ps))] 2 (.c (.int .i64 ps.length)) [(0, ldB P), (1, .arr (.pgs (ps ++ inP P i j (ps.length + 1) :: ((P.take j).drop i).map zae)))] := by
 have hlv := z6k P (ps ++ ([] ++ [⟨[], [], []⟩])) i j (by omega) hj hP hl (by rw [List.length_append]; simp; omega)
 have hel : (ps ++ ([] ++ [(⟨[], [], []⟩ : Pg)])).length = ps.length + 1 := by rw [List.length_append]; rfl
 rw [hel] at hlv
 have hLl : ((P.take j).drop (i + 1)).length = j - (i + 1) := by rw [List.length_drop, List.length_take]; omega
 have hLk : ∀ k, k < j - (i + 1) → 1 ≤ (((P.take j).drop (i + 1)).getD k []).length ∧ (((P.take j).drop (i + 1)).getD k []).length ≤ 100 := fun k c => by
  have e : ((P.take j).drop (i + 1)).getD k [] = P.getD (i + 1 + k) [] := by
   rw [List.getD_eq_getElem?_getD, List.getElem?_drop, List.getElem?_take_of_lt (by omega), ← List.getD_eq_getElem?_getD]
  rw [e]
  exact ⟨h1 _ (by omega), hl _⟩
 have hfin : ∀ D : List Pg, (ps ++ ([] ++ [(⟨[], [], []⟩ : Pg)]) ++ D).set ps.length (inP P i j (ps.length + 1)) = ps ++ inP P i j (ps.length + 1) :: D := fun D => by
  rw [List.append_assoc, List.set_append_right _ _ (Nat.le_refl _), Nat.sub_self]; rfl
 have hin : inP P i j (ps.length + 1) = ⟨((P.take j).drop (i + 1)).map fun r => (r.getD 0 ⟨0, 0⟩).key, (List.range' (ps.length + 1) (j - i)).map Int.ofNat, []⟩ := rfl
 rw [← hfin, hin]
 have hdl : (((P.take j).drop i).map zae).length = j - i := by rw [List.length_map, List.length_drop, List.length_take]; omega
 generalize ((P.take j).drop i).map zae = D at *
 generalize hL : (P.take j).drop (i + 1) = L at *
 refine spi (fn := Try.f106) _ ?_
 conv => whnf
 repeat' first | (refine za (by (try simp only [wA, wL]) <;> omega) ?_; conv => whnf) | (refine zg (by (try simp only [wA, wL]) <;> omega) (by (try simp only [wA, wL]) <;> omega) ?_; conv => whnf) | (refine zo ?_; conv => whnf)
 have e1 : (P.take ((j : Int)).toNat).drop ((i : Int) + 1).toNat = L := by rw [Int.toNat_natCast, zo9]; exact hL
 rw [e1]
 refine zau (fun k : Nat => k ≤ L.length) (fun k => ⟨62, 3, [(0, .ptr 0 0 0 0), (1, .c (.int .i64 i)), (2, .c (.int .i64 j)), (7, .c (.int .i64 ps.length)), (8, .slc 2), (34, .c (.prss L)), (35, .c (.int .i64 L.length)), (36, .c (.int .i64 k))], [(0, ldB P), (1, .arr (.pgs (ps ++ ([] ++ [⟨[], [], []⟩])))), (2, .arr (.nums .i64 ((L.take k).map fun r => (r.getD 0 ⟨0, 0⟩).key)))]⟩) (fun k => L.length - k) 0 (Nat.zero_le _) (fun _ => Nat.le_succ 2) (zsg [.nl 8 false (.nums .i64 [])] [] [0, 1, 3] ?_) ?_
 ·conv => whnf
  exact ⟨by repeat first | exact trivial | refine ⟨rfl, ?_⟩, by repeat first | exact trivial | refine ⟨rfl, ?_⟩, rfl, rfl, rfl, rfl, rfl, rfl, rfl⟩
 intro k hk
 by_cases c : k < L.length
 ·obtain ⟨l1, l2⟩ := hLk k (by omega)
  conv => whnf
  repeat' first
   |(refine zn ?_ ?_; (focus ((try simp only [qA]) <;> (try simp only [wA]) <;> omega)); conv => whnf)
   |(refine za (by (try simp only [wA, wL]) <;> omega) ?_; conv => whnf)
   |(refine zg (by (try simp only [wA, wL]) <;> omega) (by (try simp only [wA, wL]) <;> omega) ?_; conv => whnf)
  refine ⟨⟨k + 1, ?_⟩, (zbd [] [0, 1, 2] ⟨by repeat first | exact trivial | refine ⟨rfl, ?_⟩, ?_, rfl, rfl, rfl, rfl, rfl, rfl, rfl⟩), by dsimp only; omega⟩; (try dsimp only)
  ·omega
  ·refine ⟨rfl, rfl, congrArg (fun z => some (O.arr (C.nums .i64 z))) ?_, trivial⟩
   rw [zat [] c, List.map_append]; rfl
 ·rw [List.take_of_length_le (by omega)]
  conv => whnf
  repeat' first
   |(refine zm ?_ ?_; (focus ((try simp only [qA]) <;> (try simp only [wA]) <;> omega)); conv => whnf)
   |(refine za (by (try simp only [wA, wL]) <;> omega) ?_; conv => whnf)
   |(refine zal [] [0, 1] (hlv) ⟨rfl, rfl, rfl, (by repeat first | exact trivial | refine ⟨rfl, ?_⟩), ⟨rfl, rfl, rfl, rfl, rfl, rfl⟩, ?_⟩; conv => whnf)
  (refine zbg [] [0, 1] ?_; (conv => whnf); exact ⟨rfl, by repeat first | exact trivial | refine ⟨rfl, ?_⟩, rfl, rfl, rfl, rfl, rfl, rfl⟩)
end Go.VL
namespace Go.VL
open Go.Proofs
set_option maxRecDepth 10000
set_option linter.unusedSimpArgs false
set_option linter.unusedVariables false
theorem z7j {α : Type} (f : Nat → α) {n i j : Nat} (h : j ≤ n) : (((List.range n).map f).take j).drop i = (List.range' i (j - i)).map f := by
 rw [← List.map_take, ← List.map_drop, List.take_range, Nat.min_eq_left h, List.range_eq_range', List.drop_range', Nat.zero_add, Nat.mul_one]
theorem z8t (list : List Pr) {n i j a : Nat} (h : j ≤ n) : inP ((List.range n).map (ldP list n)) i j a = ldI list n i j a := by
 unfold inP inK ldI
 rw [z7j _ h, List.map_map, show j - (i + 1) = j - i - 1 by omega]; rfl
theorem z8w (list : List Pr) {n i j : Nat} (h : j ≤ n) : ((((List.range n).map (ldP list n)).take j).drop i).map zae = ldL list n i j := by
 unfold ldL
 rw [z7j _ h, List.map_map]; rfl
theorem z7w {α : Type} (f : Nat → α) (d : α) {n k : Nat} (h : k < n) : ((List.range n).map f).getD k d = f k := by
 rw [List.getD_eq_getElem?_getD, List.getElem?_map, List.getElem?_range h]; rfl
theorem z7t {α : Type} (f : Nat → α) (k : Nat) : (List.range (k + 1)).map f = (List.range k).map f ++ ([] ++ [f k]) := by
 rw [List.range_succ, List.map_append]; rfl
set_option maxHeartbeats 1000000 in
theorem z84 (list : List Pr) (hv : zdb list = true) : zr Try.prog 35 0 [.c (.prs list)] [] 0 (.tup [trV 0 (zf8 list), .tt]) [] := by
 obtain ⟨hr, hl⟩ := zln.1 hv
 have hvr := zw7 list (by omega)
 rw [hv] at hvr
 have hn := zsc hl
 have htab := zzb list.length (by omega)
 have hll := z5s list.length hl
 obtain ⟨n, hnn⟩ : ∃ n, ldN list.length = n := ⟨_, rfl⟩
 rw [hnn] at hn htab hll
 have hPl : ((List.range n).map (ldP list n)).length = n := by simp
 have hPg : ∀ k, k < n → ((List.range n).map (ldP list n)).getD k [] = ldP list n k := fun k hk => z7w _ _ hk
 have hPb : ∀ k, (ldP list n k).length ≤ 24 := fun k => by
  unfold ldP
  rw [List.length_drop, List.length_take]
  generalize list.length * (k + 1) / n = u
  generalize list.length * k / n = w
  omega
 have hPc : ∀ k, (((List.range n).map (ldP list n)).getD k []).length ≤ 100 := fun k => by
  by_cases c : k < n
  ·rw [hPg k c]; exact Nat.le_trans (hPb k) (by decide)
  ·rw [List.getD_eq_getElem?_getD, List.getElem?_eq_none (by simp; omega)]; exact Nat.zero_le _
 have hPp : 2 ≤ n → ∀ k, k < n → 1 ≤ (ldP list n k).length := fun h2 k hk => by
  have := (htab k hk).1 h2
  have hle := zlr (m := list.length) (n := n) (j := k + 1) (by omega) (by omega)
  unfold ldP
  rw [List.length_drop, List.length_take]
  omega
 have hF : zf8 list = if n = 1 then [zae list] else if n ≤ 5 then ldI list n 0 n 1 :: ldL list n 0 n else
   ⟨[ldK list n (n / 2)], [1, ((2 + n / 2 : Nat) : Int)], []⟩ :: ldI list n 0 (n / 2) 2 :: (ldL list n 0 (n / 2) ++ ldI list n (n / 2) n (3 + n / 2) :: ldL list n (n / 2) n) := by
  unfold zf8; rw [hnn]
 have hcut : ∀ k, (list.take ((k + 1) * list.length / n)).drop (k * list.length / n) = ldP list n k := fun k => by
  unfold ldP; rw [Nat.mul_comm (k + 1), Nat.mul_comm k]
 have hidx : ∀ k : Nat, k < n → ∃ A B : Nat, A ≤ B ∧ B ≤ list.length ∧ ((k : Int) * (list.length : Int)).tdiv n = A ∧ (((k : Int) + 1) * (list.length : Int)).tdiv n = B ∧ 0 ≤ (k : Int) * (list.length : Int) ∧ (k : Int) * (list.length : Int) ≤ 1000 ∧ 0 ≤ ((k : Int) + 1) * (list.length : Int) ∧ ((k : Int) + 1) * (list.length : Int) ≤ 1000 ∧ (list.take B).drop A = ldP list n k := fun k hk => by
  have m1 : k * list.length ≤ 1000 := Nat.le_trans (Nat.mul_le_mul (show k ≤ 6 by omega) hl) (by decide)
  have m2 : (k + 1) * list.length ≤ 1000 := Nat.le_trans (Nat.mul_le_mul (show k + 1 ≤ 7 by omega) hl) (by decide)
  have p1 : (k : Int) * (list.length : Int) = ((k * list.length : Nat) : Int) := rfl
  have p2 : ((k : Int) + 1) * (list.length : Int) = (((k + 1) * list.length : Nat) : Int) := rfl
  refine ⟨k * list.length / n, (k + 1) * list.length / n, Nat.div_le_div_right (Nat.mul_le_mul_right _ (by omega)), ?_, rfl, rfl, by rw [p1]; omega, by rw [p1]; omega, by rw [p2]; omega, by rw [p2]; omega, hcut k⟩
  rw [Nat.mul_comm]; exact zlr (by omega) (by omega)
 obtain ⟨F, hFF⟩ : ∃ F, zf8 list = F := ⟨_, rfl⟩
 rw [hFF] at hF ⊢
 obtain ⟨P, hP⟩ : ∃ P, (List.range n).map (ldP list n) = P := ⟨_, rfl⟩
 refine spi (fn := Try.f35) _ ?_
 conv => whnf
 repeat' first
  |(refine zm ?_ ?_; (focus (first | rfl | exact bne_self_eq_false _)); conv => whnf)
  |(refine zp (hvr) rfl rfl ?_; conv => whnf)
  |(refine zp (hll) rfl rfl ?_; conv => whnf)
 refine zau (fun k : Nat => k ≤ n) (fun k => match k with
  |0 => ⟨84, 2, [(0, .c (.prs list)), (2, .ptr 0 0 0 0), (4, .c (.int .i64 n)), (5, .ptr 1 0 0 0), (18, .c (.int .i64 n)), (19, .c (.int .i64 0))], [(0, .box [.c (.int .i64 0), .nil] [] []), (1, .box [.nil, .nil] [] [])]⟩
  |k + 1 => ⟨84, 3, [(0, .c (.prs list)), (2, .ptr 0 0 0 0), (4, .c (.int .i64 n)), (5, .ptr 1 0 0 0), (18, .c (.int .i64 n)), (19, .c (.int .i64 (k + 1 : Nat)))], [(0, .box [.c (.int .i64 0), .nil] [] []), (1, .box [.slc 2, .nil] [] []), (2, .arr (.prss ((List.range (k + 1)).map (ldP list n))))]⟩) (fun k => n - k) 0 (Nat.zero_le _) (fun k => Nat.zero_le _) (z5 [] [0, 1]) (fun k hk => ?_)
 cases k with
 |zero =>
  obtain ⟨A, B, x1, x2, x3, x4, x5, x6, x7, x8, x9⟩ := hidx 0 (by omega)
  have x3 : ((0 : Int) * (list.length : Int)).tdiv n = A := x3
  have x4 : (((0 : Int) + 1) * (list.length : Int)).tdiv n = B := x4
  have x5 : 0 ≤ (0 : Int) * (list.length : Int) := x5
  have x6 : (0 : Int) * (list.length : Int) ≤ 1000 := x6
  have x7 : 0 ≤ ((0 : Int) + 1) * (list.length : Int) := x7
  have x8 : ((0 : Int) + 1) * (list.length : Int) ≤ 1000 := x8
  have x10 : (list.take ((((0 : Int) + 1) * (list.length : Int)).tdiv n).toNat).drop (((0 : Int) * (list.length : Int)).tdiv n).toNat = ldP list n 0 := by rw [x3, x4]; exact x9
  conv => whnf
  repeat' first
   |(refine za (by kernel_rfl) ?_; conv => whnf)
   |(refine zn ?_ ?_; (focus ((try simp only [qA]) <;> (try simp only [wA]) <;> omega)); conv => whnf)
   |(refine za (by (try simp only [wA, wL]) <;> omega) ?_; conv => whnf)
   |(refine zg (by (try simp only [wA, wL]) <;> omega) (by (try simp only [wA, wL]) <;> omega) ?_; conv => whnf)
   |(refine ze ?_; conv => whnf)
  refine ⟨⟨1, by omega⟩, (zbd [] [0, 1, 20] ⟨by repeat first | exact trivial | refine ⟨rfl, ?_⟩, ⟨rfl, rfl, ?_, trivial⟩, rfl, rfl, rfl, rfl, rfl, rfl, rfl⟩), by dsimp only; omega⟩
  exact congrArg (fun z => some (O.arr (C.prss [z]))) x10
 |succ k =>
  by_cases c : k + 1 < n
  ·obtain ⟨A, B, x1, x2, x3, x4, x5, x6, x7, x8, x9⟩ := hidx (k + 1) c
   have hPl2 : (List.range (k + 1)).length = k + 1 := List.length_range
   have x10 : (list.take (((((k + 1 : Nat) : Int) + 1) * (list.length : Int)).tdiv n).toNat).drop ((((k + 1 : Nat) : Int) * (list.length : Int)).tdiv n).toNat = ldP list n (k + 1) := by rw [x3, x4]; exact x9
   conv => whnf
   repeat' first
    |(refine za (by kernel_rfl) ?_; conv => whnf)
    |(refine zn ?_ ?_; (focus ((try simp only [qA]) <;> (try simp only [wA]) <;> omega)); conv => whnf)
    |(refine za (by (try simp only [wA, wL]) <;> omega) ?_; conv => whnf)
    |(refine zg (by (try simp only [wA, wL]) <;> omega) (by (try simp only [wA, wL]) <;> omega) ?_; conv => whnf)
    |(refine zlj ?_; conv => whnf)
    |(refine ze ?_; conv => whnf)
   refine ⟨⟨k + 1 + 1, by omega⟩, (zbd [] [0, 1, 21] ⟨by repeat first | exact trivial | refine ⟨rfl, ?_⟩, ⟨rfl, rfl, ?_, trivial⟩, rfl, rfl, rfl, rfl, rfl, rfl, rfl⟩), by dsimp only; omega⟩
   refine congrArg (fun z => some (O.arr (C.prss z))) ?_
   rw [z7t (ldP list n) (k + 1), ← x10]; rfl
  ·obtain rfl : n = k + 1 := by omega
   conv => whnf
   rw [hP]
   rw [hP] at hPl hPg hPc
   have hinP : ∀ i j a, j ≤ k + 1 → inP P i j a = ldI list (k + 1) i j a := fun i j a h => by rw [← hP]; exact z8t list h
   have hlvs : ∀ i j, j ≤ k + 1 → ((P.take j).drop i).map zae = ldL list (k + 1) i j := fun i j h => by rw [← hP]; exact z8w list h
   have h1' : 2 ≤ k + 1 → ∀ q, q < P.length → 1 ≤ (P.getD q []).length := fun h2 q hq => by rw [hPg q (by omega)]; exact hPp h2 q (by omega)
   clear hcut hidx hP htab
   by_cases c1 : k = 0
   ·subst c1
    rw [if_pos rfl] at hF
    have hlv := z4a (pre := [.c (.prss P)]) rfl rfl rfl rfl (z6k P [] 0 1 (by omega) (by omega) (by omega) hPc (by simp))
    have e1 : ([] : List Pg) ++ ((P.take 1).drop 0).map zae = F := by
     rw [hlvs 0 1 (by omega), hF]
     show [zae (ldP list 1 0)] = [zae list]
     unfold ldP
     simp
    rw [e1] at hlv
    repeat' first
     |(refine zn ?_ ?_; (focus (first | rfl | exact beq_self_eq_true _)); conv => whnf)
     |(refine zm ?_ ?_; (focus (first | rfl | exact bne_self_eq_false _)); conv => whnf)
     |(refine zal [2] [1, 3] (hlv) ?_; (conv => whnf); refine ⟨rfl, rfl, rfl, (by repeat first | exact trivial | refine ⟨rfl, ?_⟩), ⟨rfl, rfl, rfl, rfl, rfl, rfl⟩, ?_⟩; conv => whnf)
    (refine zbg [3] [] ?_; (conv => whnf); exact ⟨rfl, by repeat first | exact trivial | refine ⟨rfl, ?_⟩, rfl, rfl, rfl, rfl, rfl, rfl⟩)
   ·by_cases c5 : k + 1 ≤ 5
    ·rw [if_neg (by omega), if_pos c5] at hF
     have hlv := z4a (pre := [.c (.prss P)]) rfl rfl rfl rfl (z5t P [] 0 (k + 1) (by omega) (by omega) (by omega) hPc (h1' (by omega)) (by simp))
     have e1 : ([] : List Pg) ++ inP P 0 (k + 1) (([] : List Pg).length + 1) :: ((P.take (k + 1)).drop 0).map zae = F := by
      rw [hlvs 0 _ (Nat.le_refl _), hinP 0 _ _ (Nat.le_refl _), hF]; rfl
     rw [e1] at hlv
     repeat' first
      |(refine zn ?_ ?_; (focus ((try simp only [qA]) <;> (try simp only [wA]) <;> omega)); conv => whnf)
      |(refine zm ?_ ?_; (focus ((try simp only [qA]) <;> (try simp only [wA]) <;> omega)); conv => whnf)
      |(refine zal [2] [1, 3] (hlv) ?_; (conv => whnf); refine ⟨rfl, rfl, rfl, (by repeat first | exact trivial | refine ⟨rfl, ?_⟩), ⟨rfl, rfl, rfl, rfl, rfl, rfl⟩, ?_⟩; conv => whnf)
     (refine zbg [3] [] ?_; (conv => whnf); exact ⟨rfl, by repeat first | exact trivial | refine ⟨rfl, ?_⟩, rfl, rfl, rfl, rfl, rfl, rfl⟩)
    ·rw [if_neg (by omega), if_neg c5] at hF
     obtain ⟨h, hh⟩ : ∃ h, (k + 1) / 2 = h := ⟨_, rfl⟩
     rw [hh] at hF
     have hq : ((k + 1 : Nat) : Int).tdiv 2 = (h : Int) := by rw [← hh]; rfl
     have hv1 := z5t P ([] ++ ([] ++ [(⟨[], [], []⟩ : Pg)])) 0 h (by omega) (by omega) (by omega) hPc (h1' (by omega)) (by simp)
     have hv2 := z5t P (([] ++ ([] ++ [(⟨[], [], []⟩ : Pg)])) ++ inP P 0 h (([] ++ ([] ++ [(⟨[], [], []⟩ : Pg)])).length + 1) :: ((P.take h).drop 0).map zae) h (k + 1) (by omega) (by omega) (by omega) hPc (h1' (by omega)) (by
      rw [hlvs 0 h (by omega)]
      simp [znh]; omega)
     rw [hlvs 0 h (by omega), hinP 0 h _ (by omega)] at hv1 hv2
     have hp2 : (([] ++ ([] ++ [(⟨[], [], []⟩ : Pg)])) ++ ldI list (k + 1) 0 h (([] ++ ([] ++ [(⟨[], [], []⟩ : Pg)])).length + 1) :: ldL list (k + 1) 0 h).length = 2 + h := by
      simp [znh]; omega
     rw [hlvs h _ (Nat.le_refl _), hinP h _ _ (Nat.le_refl _), hp2] at hv2
     rw [← hq] at hv1 hv2
     have hPh := hPg h (by omega)
     have hPh1 := h1' (by omega) h (by omega)
     have hPh2 := hPc h
     have e1 : (([] ++ ([] ++ [(⟨[], [], []⟩ : Pg)])) ++ ldI list (k + 1) 0 h (([] ++ ([] ++ [(⟨[], [], []⟩ : Pg)])).length + 1) :: ldL list (k + 1) 0 h ++ ldI list (k + 1) h (k + 1) (2 + h + 1) :: ldL list (k + 1) h (k + 1)).set 0 ⟨[((P.getD h []).getD 0 ⟨0, 0⟩).key], [1, ((2 + h : Nat) : Int)], []⟩ = F := by
      rw [hPh, hF, show 3 + h = 2 + h + 1 by omega]; rfl
     have e2 : P.getD (((k + 1 : Nat) : Int).tdiv 2).toNat [] = P.getD h [] := by rw [hq, Int.toNat_natCast]
     rw [← e2] at e1 hPh1 hPh2
     repeat' first
      |(refine za (by kernel_rfl) ?_; conv => whnf)
      |(refine zm ?_ ?_; (focus ((try simp only [qA]) <;> (try simp only [wA]) <;> omega)); conv => whnf)
      |(refine za (by (try simp only [wA, wL]) <;> omega) ?_; conv => whnf)
      |(refine zg (by (try simp only [wA, wL]) <;> omega) (by (try simp only [wA, wL]) <;> omega) ?_; conv => whnf)
      |(refine zo ?_; conv => whnf)
      |(refine zal [2] [1, 4] (hv1) ?_; (conv => whnf); refine ⟨rfl, rfl, rfl, (by repeat first | exact trivial | refine ⟨rfl, ?_⟩), ⟨rfl, rfl, rfl, rfl, rfl, rfl⟩, ?_⟩; conv => whnf)
      |(refine zal [] [1, 4] (hv2) ⟨rfl, rfl, rfl, (by repeat first | exact trivial | refine ⟨rfl, ?_⟩), ⟨rfl, rfl, rfl, rfl, rfl, rfl⟩, ?_⟩; conv => whnf)
      |(refine ze ?_; conv => whnf)
     subst e1
     (refine zbg [4] [] ?_; (conv => whnf); exact ⟨rfl, by repeat first | exact trivial | refine ⟨rfl, ?_⟩, rfl, rfl, rfl, rfl, rfl, rfl⟩)
end Go.VL
namespace Go.VL
set_option linter.unusedVariables false
set_option linter.unusedSimpArgs false
def ya1 : Int × List Pg → List Pr → Option (Int × List Pg)
 |s, [] => some s
 |s, x :: t => match zqc s.1 s.2 x with
  |none => none
  |some r => ya1 r t
theorem ya6 {s : Int × List Pg} {ys : List Pr} : ∀ {xs : List Pr} {s : Int × List Pg}, ya1 s (xs ++ ys) = match ya1 s xs with
  |none => none
  |some r => ya1 r ys
 |[], _ => rfl
 |x :: t, s => by
  show (match zqc s.1 s.2 x with
   |none => none
   |some r => ya1 r (t ++ ys)) = match (match zqc s.1 s.2 x with
   |none => none
   |some r => ya1 r t) with
   |none => none
   |some r => ya1 r ys
  cases zqc s.1 s.2 x with
  |none => rfl
  |some r => exact ya6 (s := s)
theorem ya4 {s : Int × List Pg} {xs : List Pr} {i : Nat} (hi : i < xs.length) {r : Int × List Pg} (h : ya1 s (xs.take i) = some r) : ya1 s (xs.take (i + 1)) = zqc r.1 r.2 (xs.getD i ⟨0, 0⟩) := by
 rw [zat ⟨0, 0⟩ hi, ya6 (s := s), h]
 show (match zqc r.1 r.2 (xs.getD i ⟨0, 0⟩) with
   |none => none
   |some r => some r) = _
 cases zqc r.1 r.2 (xs.getD i ⟨0, 0⟩) <;> rfl
theorem ya7 {s : Int × List Pg} {xs : List Pr} {i : Nat} (h : ya1 s (xs.take i) = none) : ya1 s xs = none := by
 rw [← List.take_append_drop i xs, ya6 (s := s), h]
theorem ya3 {xs : List Pr} : ∀ {s r : Int × List Pg}, vTree s.1 s.2 = true → ya1 s xs = some r → vTree r.1 r.2 = true := by
 induction xs with
 |nil => intro s r hv h; cases h; exact hv
 |cons x t ih =>
  intro s r hv h
  have h : (match zqc s.1 s.2 x with
   |none => none
   |some r => ya1 r t) = some r := h
  cases g : zqc s.1 s.2 x with
  |none => rw [g] at h; cases h
  |some q => rw [g] at h; exact ih (z4h g).vt h
theorem ybk {xs : List Pr} : ∀ {s r : Int × List Pg}, ya1 s xs = some r → psF r.1 r.2 = xs.foldl zbc (psF s.1 s.2) := by
 induction xs with
 |nil => intro s r h; cases h; rfl
 |cons x t ih =>
  intro s r h
  have h : (match zqc s.1 s.2 x with
   |none => none
   |some r => ya1 r t) = some r := h
  cases g : zqc s.1 s.2 x with
  |none => rw [g] at h; cases h
  |some q => rw [g] at h; rw [ih h, (z4h g).prs]; rfl
def ya0 (root : Int) (ps : List Pg) (xs : List Pr) : Option (Int × List Pg) := if vTree root ps = true ∧ xs.length ≤ 24 then ya1 (root, ps) xs else none
theorem ya2 {root : Int} {ps : List Pg} {xs : List Pr} {r : Int × List Pg} (h : ya0 root ps xs = some r) : vTree root ps = true ∧ xs.length ≤ 24 ∧ ya1 (root, ps) xs = some r := by
 unfold ya0 at h
 split at h
 ·rename_i c; exact ⟨c.1, c.2, h⟩
 ·cases h
end Go.VL
namespace Go.VL
open Go.Proofs
set_option maxRecDepth 10000
set_option linter.unusedSimpArgs false
set_option linter.unusedVariables false
theorem ya5 (root : Int) (ps : List Pg) (xs : List Pr) (hp : pB ps) (hl : xs.length ≤ 1000) : zr Try.prog 46 0 [trV root ps, .c (.prs xs)] [] 0 (.tup (unR (ya0 root ps xs))) [] := by
 have hvt := zbi root ps hp
 cases g : vTree root ps with
 |false =>
  have e : ya0 root ps xs = none := by unfold ya0; rw [if_neg (by rw [g]; simp)]
  rw [g] at hvt
  rw [e]
  refine spi (fn := Try.f46) _ ?_
  conv => whnf
  repeat' first
   |(refine zn ?_ ?_; (focus (first | rfl | exact beq_self_eq_true _)); conv => whnf)
   |(refine zp (hvt) rfl rfl ?_; conv => whnf)
  exact (zu [] [])
 |true =>
  rw [g] at hvt
  by_cases c : xs.length ≤ 24
  ·have e : ya0 root ps xs = ya1 (root, ps) xs := by unfold ya0; rw [if_pos ⟨g, c⟩]
   have l16 := (za0 g).l16
   have hct := zdn (yaa root ps hp (by omega)) rfl
   change zr _ _ _ _ _ _ (.agg [.c (.int .i64 root), .c (.pgs ps)]) _ at hct
   rw [e]
   obtain ⟨R, hR⟩ : ∃ R, ya1 (root, ps) xs = R := ⟨_, rfl⟩
   rw [hR]
   refine spi (fn := Try.f46) _ ?_
   conv => whnf
   repeat' first
    |(refine zm ?_ ?_; (focus (first | rfl | exact bne_self_eq_false _)); conv => whnf)
    |(refine zm ?_ ?_; (focus ((try simp only [qA]) <;> (try simp only [wA]) <;> omega)); conv => whnf)
    |(refine zp (hvt) rfl rfl ?_; conv => whnf)
    |(refine zp (hct) rfl rfl ?_; conv => whnf)
   refine zd0 (fun (i : Nat) (s : Int × List Pg) => i ≤ xs.length ∧ ya1 (root, ps) (xs.take i) = some s) (fun i s => ⟨40, 3, [(4, .ptr 1 0 0 0), (6, .ptr 2 0 0 0), (22, .c (.prs xs)), (23, .c (.int .i64 xs.length)), (24, .c (.int .i64 i))], [(0, .box [.c (.int .i64 root), .c (.pgs ps)] [] []), (1, .box [.c (.int .i64 0), .nil] [] []), (2, .box [.c (.int .i64 s.1), .c (.pgs s.2)] [] [])]⟩) (fun i _ => xs.length - i) 0 (root, ps) ⟨Nat.zero_le _, rfl⟩ (fun _ _ => Nat.zero_le _) (z5 [] [0, 1, 2]) (fun i s hi => ?_)
   obtain ⟨hi, hs⟩ := hi
   obtain ⟨s1, s2⟩ := s
   have sv := ya3 g hs
   dsimp only at sv
   have hsp := (zdx sv).pb
   by_cases hlt : i < xs.length
   ·have hpk := z9x s1 s2 (xs.getD i ⟨0, 0⟩) hsp
    have hsn := ya4 hlt hs
    dsimp only at hsn
    cases gi : zqc s1 s2 (xs.getD i ⟨0, 0⟩) with
    |none =>
     rw [gi] at hpk hsn
     rw [ya7 hsn] at hR
     subst hR
     change zr _ _ _ _ _ _ (.tup [ztV, .ff]) _ at hpk
     conv => whnf
     repeat' first
      |(refine zn ?_ ?_; (focus ((try simp only [qA]) <;> (try simp only [wA]) <;> omega)); conv => whnf)
      |(refine za (by (try simp only [wA, wL]) <;> omega) ?_; conv => whnf)
      |(refine zp (hpk) rfl rfl ?_; conv => whnf)
     exact (zu [] [])
    |some q =>
     obtain ⟨q1, q2⟩ := q
     rw [gi] at hpk hsn
     change zr _ _ _ _ _ _ (.tup [trV q1 q2, .tt]) _ at hpk
     conv => whnf
     repeat' first
      |(refine zn ?_ ?_; (focus ((try simp only [qA]) <;> (try simp only [wA]) <;> omega)); conv => whnf)
      |(refine za (by (try simp only [wA, wL]) <;> omega) ?_; conv => whnf)
      |(refine zg (by (try simp only [wA, wL]) <;> omega) (by (try simp only [wA, wL]) <;> omega) ?_; conv => whnf)
      |(refine zp (hpk) rfl rfl ?_; conv => whnf)
     refine ⟨⟨(i + 1, (q1, q2)), ?_⟩, (z5 [] [0, 1, 2]), by dsimp only; omega⟩; (try dsimp only)
     exact ⟨by omega, hsn⟩
   ·rw [List.take_of_length_le (by omega), hR] at hs
    subst hs
    conv => whnf
    repeat' (refine zm ?_ ?_; (focus ((try simp only [qA]) <;> (try simp only [wA]) <;> omega)); conv => whnf)
    exact (zu [] [])
  ·have e : ya0 root ps xs = none := by unfold ya0; rw [if_neg (fun q => c q.2)]
   rw [e]
   refine spi (fn := Try.f46) _ ?_
   conv => whnf
   repeat' first
    |(refine zm ?_ ?_; (focus (first | rfl | exact bne_self_eq_false _)); conv => whnf)
    |(refine zn ?_ ?_; (focus ((try simp only [qA]) <;> (try simp only [wA]) <;> omega)); conv => whnf)
    |(refine zp (hvt) rfl rfl ?_; conv => whnf)
   exact (zu [] [])
end Go.VL
namespace Go.VL
open Go.Proofs
set_option maxRecDepth 10000
set_option linter.unusedSimpArgs false
set_option linter.unusedVariables false
theorem ybh (xs ys : List Pr) (b : Bool) (hb : b = true ↔ xs = ys) (hl : xs.length ≤ 4294967296) (hm : ys.length ≤ 4294967296) : zr Try.prog 120 0 [.c (.prs xs), .c (.prs ys)] [] 0 (.c (.bool b)) [] := by
 have hb2 : ¬ xs = ys → b = false := fun q => by
  cases b with
  |false => rfl
  |true => exact (q (hb.1 rfl)).elim
 refine spi (fn := Try.f120) _ ?_
 conv => whnf
 repeat' first | (refine zk (fun h => ?_) (fun h => ?_) <;> (try simp only [qA] at h) <;> (try simp only [wA] at h) <;> conv => whnf) | refine zd ?_
 ·exact hb2 (fun q => by subst q; omega)
 refine zau (fun k : Nat => k ≤ xs.length ∧ xs.take k = ys.take k) (fun k => ⟨26, 0, [(0, .c (.prs xs)), (1, .c (.prs ys)), (12, .c (.int .i64 xs.length)), (13, .c (.int .i64 k))], []⟩) (fun k => xs.length - k) 0 ⟨Nat.zero_le _, rfl⟩ (fun _ => Nat.zero_le _) zbn (fun k hk => ?_)
 obtain ⟨hk, he⟩ := hk
 conv => whnf
 repeat' first
  |(refine za (by kernel_rfl) ?_; conv => whnf)
  |(refine za (by (try simp only [wA, wL]) <;> omega) ?_; conv => whnf)
  |(refine zk (fun h => ?_) (fun h => ?_) <;> (try simp only [qA] at h) <;> (try simp only [wA] at h) <;> conv => whnf)
  |refine zc ?_
  |refine zd ?_
  |(refine zg (by (try simp only [wA, wL]) <;> omega) (by (try simp only [wA, wL]) <;> omega) ?_; conv => whnf)
  |(refine ze ?_; conv => whnf)
 ·refine hb2 fun q => ?_
  subst q
  rw [beq_self_eq_true, beq_self_eq_true] at h
  cases h
 ·rw [Bool.and_eq_true, beq_iff_eq, beq_iff_eq] at h
  have e : xs.getD k ⟨0, 0⟩ = ys.getD k ⟨0, 0⟩ := by
   revert h
   generalize xs.getD k ⟨0, 0⟩ = a
   generalize ys.getD k ⟨0, 0⟩ = b
   rintro ⟨h1, h2⟩
   cases a; cases b; cases h1; cases h2; rfl
  exact ⟨⟨k + 1, by omega, by rw [zat ⟨0, 0⟩ (by omega), zat ⟨0, 0⟩ (by omega), he, e]⟩, zbn, by dsimp only; omega⟩
 ·rw [List.take_of_length_le (by omega), List.take_of_length_le (by omega)] at he
  exact hb.2 he
theorem ybd (r1 q1 : Int) (r2 q2 : List Pg) (hp : pB r2) (hq : pB q2) (g1 : vTree r1 r2 = true) (g2 : vTree q1 q2 = true) (b : Bool) (hb : b = true ↔ psF r1 r2 = psF q1 q2) : zr Try.prog 47 0 [trV r1 r2, trV q1 q2] [] 0 (.c (.bool b)) [] := by
 have v1 := zbi r1 r2 hp
 have v2 := zbi q1 q2 hq
 rw [g1] at v1
 rw [g2] at v2
 have p1 := zdn (zih r1 r2 hp g1) rfl
 have p2 := zdn (zih q1 q2 hq g2) rfl
 change zr _ _ _ _ _ _ (.c (.prs (psF r1 r2))) _ at p1
 change zr _ _ _ _ _ _ (.c (.prs (psF q1 q2))) _ at p2
 have he := ybh (psF r1 r2) (psF q1 q2) b hb (by have := (zdx g1).len; omega) (by have := (zdx g2).len; omega)
 cases b with
 |false =>
  refine spi (fn := Try.f47) _ ?_
  conv => whnf
  repeat' first
   |(refine za (by kernel_rfl) ?_; conv => whnf)
   |(refine zn ?_ ?_; (focus (first | rfl | exact beq_self_eq_true _)); conv => whnf)
   |(refine zm ?_ ?_; (focus (first | rfl | exact bne_self_eq_false _)); conv => whnf)
   |refine zd ?_
   |(refine zw (v1) rfl rfl ?_; conv => whnf)
   |(refine zw (v2) rfl rfl ?_; conv => whnf)
   |(refine zw (p1) rfl rfl ?_; conv => whnf)
   |(refine zw (p2) rfl rfl ?_; conv => whnf)
   |(refine zw (he) rfl rfl ?_; conv => whnf)
   |(refine ze ?_; conv => whnf)
  all_goals rfl
 |true =>
  refine spi (fn := Try.f47) _ ?_
  conv => whnf
  repeat' first
   |(refine za (by kernel_rfl) ?_; conv => whnf)
   |(refine zn ?_ ?_; (focus (first | rfl | exact beq_self_eq_true _)); conv => whnf)
   |refine zc ?_
   |(refine zw (v1) rfl rfl ?_; conv => whnf)
   |(refine zw (v2) rfl rfl ?_; conv => whnf)
   |(refine zw (p1) rfl rfl ?_; conv => whnf)
   |(refine zw (p2) rfl rfl ?_; conv => whnf)
   |(refine zw (he) rfl rfl ?_; conv => whnf)
   |(refine ze ?_; conv => whnf)
  all_goals rfl
end Go.VL
namespace Go.VL
open Go.Proofs
set_option maxRecDepth 10000
set_option linter.unusedSimpArgs false
set_option linter.unusedVariables false
theorem ybg {list : List Pr} (h : RowOk list 0 99) (hl : list.length ≤ 24) : psF 0 (zf8 list) = list := by
 obtain ⟨h1, h2⟩ := z2p h hl
 exact (h1.psF (z2h h hl)).2.trans h2
theorem ya9 (l : List Pr) (hl : l.length ≤ 1000) (hv : zdb l = false) : zr Try.prog 35 0 [.c (.prs l)] [] 0 (.tup [ztV, .ff]) [] := by
 have hvr := zw7 l (by omega)
 rw [hv] at hvr
 refine spi (fn := Try.f35) _ ?_
 conv => whnf
 repeat' first
  |(refine zn ?_ ?_; (focus (first | rfl | exact beq_self_eq_true _)); conv => whnf)
  |(refine zp (hvr) rfl rfl ?_; conv => whnf)
 exact (zu [] [])
theorem ya8 (l : List Pr) (hl : l.length ≤ 1000) (hv : zdb l = false) : zr Try.prog 44 0 [.c (.prs l)] [] 0 (.tup [ztV, .ff]) [] := by
 have hvr := zhe l (by omega)
 rw [hv] at hvr
 refine spi (fn := Try.f44) _ ?_
 conv => whnf
 repeat' first
  |(refine zn ?_ ?_; (focus (first | rfl | exact beq_self_eq_true _)); conv => whnf)
  |(refine zp (hvr) rfl rfl ?_; conv => whnf)
 exact (zu [] [])
theorem yba (l : List Pr) (hv : zdb l = true) : zr Try.prog 44 0 [.c (.prs l)] [] 0 (.tup [trV 0 (zf8 l), .tt]) [] := by
 obtain ⟨hr, hl⟩ := zln.1 hv
 have hvr := zhe l (by omega)
 rw [hv] at hvr
 have h1 := zdn (z3f l hl hr) rfl
 change zr _ _ _ _ _ _ (.agg [.c (.int .i64 0), .c (.pgs (zf8 l))]) _ at h1
 refine spi (fn := Try.f44) _ ?_
 conv => whnf
 repeat' first
  |(refine zm ?_ ?_; (focus (first | rfl | exact bne_self_eq_false _)); conv => whnf)
  |(refine zp (hvr) rfl rfl ?_; conv => whnf)
  |(refine zp (h1) rfl rfl ?_; conv => whnf)
 exact (zu [] [])
theorem ybl : vTree 0 [⟨[], [], []⟩] = true ∧ psF 0 [⟨[], [], []⟩] = [] := by decide
theorem em_pB : pB [⟨[], [], []⟩] := (zdx ybl.1).pb
theorem FnPutAllLoad_v (code : List Int) (hl0 : code.length ≤ 9223372036854775807) (hb : ∀ x ∈ code, 0 ≤ x ∧ x ≤ 255) : zr Try.prog 5 0 [.c (.nums .u8 code)] [] 0 (.c (.bool true)) [] := by
 refine spi (fn := Try.f5) _ ?_
 conv => whnf
 repeat' first | (refine zk (fun h => ?_) (fun h => ?_) <;> (try simp only [qA] at h) <;> (try simp only [wA] at h) <;> conv => whnf) | refine zc ?_
 ·rfl
 refine zbw [] [] (yar code (by omega) (zie hb)) ⟨rfl, rfl, rfl, (by repeat first | exact trivial | refine ⟨rfl, ?_⟩), ⟨rfl, rfl, rfl⟩, ?_⟩
 rintro m res hout ⟨l, hlb, hll, rfl, rfl, rfl⟩
 refine ⟨⟨rfl, rfl, rfl⟩, ?_⟩
 cases gv : zdb l with
 |false =>
  have h1 := ya9 l (by omega) gv
  have h2 := ya8 l (by omega) gv
  have h3 := z3a
  conv => whnf
  repeat' first
   |(refine zn ?_ ?_; (focus (first | rfl | exact beq_self_eq_true _)); conv => whnf)
   |(refine zm ?_ ?_; (focus (first | rfl | exact bne_self_eq_false _)); conv => whnf)
   |refine zh ?_
   |(refine zp (h1) rfl rfl ?_; conv => whnf)
   |(refine zp (h2) rfl rfl ?_; conv => whnf)
   |(refine zp (h3) rfl rfl ?_; conv => whnf)
  all_goals rfl
 |true =>
  obtain ⟨hr, hl⟩ := zln.1 gv
  have h1 := z84 l gv
  have h2 := yba l gv
  have hvt := z2h hr hl
  have hps := ybg hr hl
  have hq := (zdx hvt).pb
  have h3 := z2b 0 (zf8 l) hq
  have h4 := ya5 0 [⟨[], [], []⟩] l em_pB (by omega)
  cases g : ya0 0 [⟨[], [], []⟩] l with
  |none =>
   rw [g] at h4
   change zr _ _ _ _ _ _ (.tup [ztV, .ff]) _ at h4
   conv => whnf
   repeat' first
    |(refine zm ?_ ?_; (focus (first | rfl | exact bne_self_eq_false _)); conv => whnf)
    |refine zc ?_
    |(refine zp (h1) rfl rfl ?_; conv => whnf)
    |(refine zp (h2) rfl rfl ?_; conv => whnf)
    |(refine zp (h3) rfl rfl ?_; conv => whnf)
    |(refine zal [2] [] (h4) ?_; (conv => whnf); refine ⟨rfl, rfl, rfl, (by repeat first | exact trivial | refine ⟨rfl, ?_⟩), ⟨rfl, rfl, rfl, rfl, rfl, rfl⟩, ?_⟩; conv => whnf)
    |(refine zo ?_; conv => whnf)
   all_goals rfl
  |some r =>
   rw [g] at h4
   obtain ⟨r1, r2⟩ := r
   change zr _ _ _ _ _ _ (.tup [trV r1 r2, .tt]) _ at h4
   have hg := ya2 g
   have hvr := ya3 hg.1 hg.2.2
   have hpr := ybk hg.2.2
   dsimp only at hvr hpr
   rw [ybl.2, z63 (by rw [List.nil_append]; exact hr.asc), List.nil_append] at hpr
   have h5 := ybd r1 0 r2 (zf8 l) (zdx hvr).pb hq hvr hvt true ⟨fun _ => by rw [hpr, hps], fun _ => rfl⟩
   conv => whnf
   repeat' first
    |(refine zm ?_ ?_; (focus (first | rfl | exact bne_self_eq_false _)); conv => whnf)
    |refine zh ?_
    |(refine zp (h1) rfl rfl ?_; conv => whnf)
    |(refine zp (h2) rfl rfl ?_; conv => whnf)
    |(refine zp (h3) rfl rfl ?_; conv => whnf)
    |(refine zal [2] [] (h4) ?_; (conv => whnf); refine ⟨rfl, rfl, rfl, (by repeat first | exact trivial | refine ⟨rfl, ?_⟩), ⟨rfl, rfl, rfl, rfl, rfl, rfl⟩, ?_⟩; conv => whnf)
    |(refine zp (h5) rfl rfl ?_; conv => whnf)
    |(refine zo ?_; conv => whnf)
   all_goals rfl
end Go.VL
