/- V-logic: TrEa -/
import Derived.Test.YtbpbgjkingjdcaaVTrFa
import Derived.Test.YtbpbgjkingjdcaaVRnil
import Derived.Test.YtbpbgjkingjdcaaVTrP
namespace Go.VL
open Go.Proofs
set_option maxRecDepth 10000
set_option linter.unusedSimpArgs false
set_option linter.unusedVariables false
theorem z4e (m : Nat) (hm : m ≤ 24) : zr Try.prog 104 0 [.c (.int .i64 m)] [] 0 (.c (.int .i64 (ldN m))) [] := by
 have e : ((m : Int) + 4 - 1).tdiv 4 = (((m + 3) / 4 : Nat) : Int) := by
  rw [show (m : Int) + 4 - 1 = ((m + 3 : Nat) : Int) by omega]; rfl
 refine spi (fn := Try.f104) _ ?_
 conv => whnf
 repeat' first | (refine za (by (try simp only [wA, wL]) <;> omega) ?_; conv => whnf) | refine zi ?_ | (refine zg (by (try simp only [wA, wL]) <;> omega) (by (try simp only [wA, wL]) <;> omega) ?_; conv => whnf)
 unfold ldN
 rw [e]
 split <;> split <;> omega
abbrev ldB (P : List (List Pr)) : O := .box [.c (.prss P), .slc 1] [] []
theorem z4i (a k : Nat) : (List.range' a k).map Int.ofNat ++ ([] ++ [((a + k : Nat) : Int)]) = (List.range' a (k + 1)).map Int.ofNat := by
 rw [List.range'_concat, List.map_append, Nat.one_mul]; rfl
theorem z4j (P : List (List Pr)) (ps : List Pg) (i j : Nat) (hij : i ≤ j) (hj : j ≤ P.length) (hP : P.length ≤ 100) (hl : ∀ k, (P.getD k []).length ≤ 100) (hps : ps.length ≤ 100) :
  zr Try.prog 105 2 [.ptr 0 0 0 0, .c (.int .i64 i), .c (.int .i64 j)] [(0, ldB P), (1, .arr (.pgs ps))] 2 (.c (.nums .i64 ((List.range' ps.length (j - i)).map Int.ofNat))) [(0, ldB P), (1, .arr (.pgs (ps ++ ((P.take j).drop i).map zae)))] := by
 have hLl : ((P.take j).drop i).length = j - i := by rw [List.length_drop, List.length_take]; omega
 have hLk : ∀ k, (((P.take j).drop i).getD k []).length ≤ 100 := fun k => by
  by_cases c : k < j - i
  ·rw [List.getD_eq_getElem?_getD, List.getElem?_drop, List.getElem?_take_of_lt (by omega), ← List.getD_eq_getElem?_getD]; exact hl _
  ·rw [List.getD_eq_getElem?_getD, List.getElem?_eq_none (by omega)]; exact Nat.zero_le _
 generalize hL : (P.take j).drop i = L at *
 rw [← hLl]
 refine spi (fn := Try.f105) _ ?_
 conv => whnf
 repeat' (refine za (by (try simp only [wA, wL]) <;> omega) ?_; conv => whnf)
 have e1 : (P.take ((j : Int)).toNat).drop ((i : Int)).toNat = L := by rw [Int.toNat_natCast, Int.toNat_natCast]; exact hL
 rw [e1]
 refine zau (fun k : Nat => k ≤ L.length) (fun k => ⟨43, 3, [(0, .ptr 0 0 0 0), (7, .slc 2), (16, .c (.prss L)), (17, .c (.int .i64 L.length)), (18, .c (.int .i64 k))], [(0, ldB P), (1, .arr (.pgs (ps ++ (L.take k).map zae))), (2, .arr (.nums .i64 ((List.range' ps.length k).map Int.ofNat)))]⟩) (fun k => L.length - k) 0 (Nat.zero_le _) (fun _ => Nat.le_succ 2) (zsg [.nl 7 false (.nums .i64 [])] [] [0, 1, 2] ?_) ?_
 ·conv => whnf
  refine ⟨by repeat first | exact trivial | refine ⟨rfl, ?_⟩, ⟨rfl, ?_, rfl, trivial⟩, rfl, rfl, rfl, rfl, rfl, rfl, rfl⟩
  exact congrArg (fun z => some (O.arr (C.pgs z))) (List.append_nil ps).symm
 intro k hk
 by_cases c : k < L.length
 ·have hlf := z4h (L.getD k []) (Nat.le_trans (hLk k) (by decide))
  have hlk := hLk k
  have q1 : (ps ++ (L.take k).map zae).length = ps.length + k := by rw [List.length_append, List.length_map, List.length_take]; omega
  have q2 : (List.range' ps.length k).length = k := List.length_range'
  conv => whnf
  repeat' first
   |(refine za (by kernel_rfl) ?_; conv => whnf)
   |(refine zn ?_ ?_; (focus ((try simp only [qA]) <;> (try simp only [wA]) <;> omega)); conv => whnf)
   |(refine za (by (try simp only [wA, wL]) <;> omega) ?_; conv => whnf)
   |(refine zg (by (try simp only [wA, wL]) <;> omega) (by (try simp only [wA, wL]) <;> omega) ?_; conv => whnf)
   |(refine zlj ?_; conv => whnf)
   |(refine zw (hlf) rfl rfl ?_; conv => whnf)
   |(refine ze ?_; conv => whnf)
  refine ⟨⟨k + 1, ?_⟩, (zbd [] [0, 12, 2] ⟨by repeat first | exact trivial | refine ⟨rfl, ?_⟩, ?_, rfl, rfl, rfl, rfl, rfl, rfl, rfl⟩), by dsimp only; omega⟩; (try dsimp only)
  ·omega
  ·refine ⟨rfl, congrArg (fun z => some (O.arr (C.pgs z))) ?_, congrArg (fun z => some (O.arr (C.nums .i64 z))) ?_, trivial⟩
   ·rw [zat [] c, List.map_append, List.append_assoc]; rfl
   ·rw [← z4i]
    show _ ++ ([] ++ [((ps ++ (L.take k).map zae).length : Int)]) = _
    rw [q1]
 ·rw [List.take_of_length_le (by omega), show k = L.length by omega]
  conv => whnf
  repeat' (refine zm ?_ ?_; (focus ((try simp only [qA]) <;> (try simp only [wA]) <;> omega)); conv => whnf)
  (refine zbg [2] [0, 1] ?_; (conv => whnf); exact ⟨rfl, by repeat first | exact trivial | refine ⟨rfl, ?_⟩, rfl, rfl, rfl, rfl, rfl, rfl⟩)
def inK (P : List (List Pr)) (i j : Nat) : List Int := ((P.take j).drop (i + 1)).map fun r => (r.getD 0 ⟨0, 0⟩).key
def inP (P : List (List Pr)) (i j a : Nat) : Pg := ⟨inK P i j, (List.range' a (j - i)).map Int.ofNat, []⟩
theorem z4l (P : List (List Pr)) (ps : List Pg) (i j : Nat) (hij : i < j) (hj : j ≤ P.length) (hP : P.length ≤ 100) (hl : ∀ k, (P.getD k []).length ≤ 100) (h1 : ∀ k, k < P.length → 1 ≤ (P.getD k []).length) (hps : ps.length ≤ 90) :
  zr Try.prog 106 2 [.ptr 0 0 0 0, .c (.int .i64 i), .c (.int .i64 j)] [(0, ldB P), (1, .arr (.pgs ps))] 2 (.c (.int .i64 ps.length)) [(0, ldB P), (1, .arr (.pgs (ps ++ inP P i j (ps.length + 1) :: ((P.take j).drop i).map zae)))] := by
 have hlv := z4j P (ps ++ ([] ++ [⟨[], [], []⟩])) i j (by omega) hj hP hl (by rw [List.length_append]; simp; omega)
 have hel : (ps ++ ([] ++ [(⟨[], [], []⟩ : Pg)])).length = ps.length + 1 := by rw [List.length_append]; rfl
 rw [hel] at hlv
 have hLl : ((P.take j).drop (i + 1)).length = j - (i + 1) := by rw [List.length_drop, List.length_take]; omega
 have hLk : ∀ k, k < j - (i + 1) → 1 ≤ (((P.take j).drop (i + 1)).getD k []).length ∧ (((P.take j).drop (i + 1)).getD k []).length ≤ 100 := fun k c => by
  have e : ((P.take j).drop (i + 1)).getD k [] = P.getD (i + 1 + k) [] := by
   rw [List.getD_eq_getElem?_getD, List.getElem?_drop, List.getElem?_take_of_lt (by omega), ← List.getD_eq_getElem?_getD]
  rw [e]
  exact ⟨h1 _ (by omega), hl _⟩
 have hfin : ∀ D : List Pg, (ps ++ ([] ++ [(⟨[], [], []⟩ : Pg)]) ++ D).set ps.length (inP P i j (ps.length + 1)) = ps ++ inP P i j (ps.length + 1) :: D := fun D => by
  rw [List.append_assoc, List.set_append_right _ _ (Nat.le_refl _), Nat.sub_self]; rfl
 have hin : inP P i j (ps.length + 1) = ⟨((P.take j).drop (i + 1)).map fun r => (r.getD 0 ⟨0, 0⟩).key, (List.range' (ps.length + 1) (j - i)).map Int.ofNat, []⟩ := rfl
 rw [← hfin, hin]
 have hdl : (((P.take j).drop i).map zae).length = j - i := by rw [List.length_map, List.length_drop, List.length_take]; omega
 generalize ((P.take j).drop i).map zae = D at *
 generalize hL : (P.take j).drop (i + 1) = L at *
 refine spi (fn := Try.f106) _ ?_
 conv => whnf
 repeat' first | (refine za (by (try simp only [wA, wL]) <;> omega) ?_; conv => whnf) | (refine zg (by (try simp only [wA, wL]) <;> omega) (by (try simp only [wA, wL]) <;> omega) ?_; conv => whnf) | (refine zo ?_; conv => whnf)
 have e1 : (P.take ((j : Int)).toNat).drop ((i : Int) + 1).toNat = L := by rw [Int.toNat_natCast, zo9]; exact hL
 rw [e1]
 refine zau (fun k : Nat => k ≤ L.length) (fun k => ⟨62, 3, [(0, .ptr 0 0 0 0), (1, .c (.int .i64 i)), (2, .c (.int .i64 j)), (7, .c (.int .i64 ps.length)), (8, .slc 2), (34, .c (.prss L)), (35, .c (.int .i64 L.length)), (36, .c (.int .i64 k))], [(0, ldB P), (1, .arr (.pgs (ps ++ ([] ++ [⟨[], [], []⟩])))), (2, .arr (.nums .i64 ((L.take k).map fun r => (r.getD 0 ⟨0, 0⟩).key)))]⟩) (fun k => L.length - k) 0 (Nat.zero_le _) (fun _ => Nat.le_succ 2) (zsg [.nl 8 false (.nums .i64 [])] [] [0, 1, 3] ?_) ?_
 ·conv => whnf
  exact ⟨by repeat first | exact trivial | refine ⟨rfl, ?_⟩, by repeat first | exact trivial | refine ⟨rfl, ?_⟩, rfl, rfl, rfl, rfl, rfl, rfl, rfl⟩
 intro k hk
 by_cases c : k < L.length
 ·obtain ⟨l1, l2⟩ := hLk k (by omega)
  conv => whnf
  repeat' first
   |(refine zn ?_ ?_; (focus ((try simp only [qA]) <;> (try simp only [wA]) <;> omega)); conv => whnf)
   |(refine za (by (try simp only [wA, wL]) <;> omega) ?_; conv => whnf)
   |(refine zg (by (try simp only [wA, wL]) <;> omega) (by (try simp only [wA, wL]) <;> omega) ?_; conv => whnf)
  refine ⟨⟨k + 1, ?_⟩, (zbd [] [0, 1, 2] ⟨by repeat first | exact trivial | refine ⟨rfl, ?_⟩, ?_, rfl, rfl, rfl, rfl, rfl, rfl, rfl⟩), by dsimp only; omega⟩; (try dsimp only)
  ·omega
  ·refine ⟨rfl, rfl, congrArg (fun z => some (O.arr (C.nums .i64 z))) ?_, trivial⟩
   rw [zat [] c, List.map_append]; rfl
 ·rw [List.take_of_length_le (by omega)]
  conv => whnf
  repeat' first
   |(refine zm ?_ ?_; (focus ((try simp only [qA]) <;> (try simp only [wA]) <;> omega)); conv => whnf)
   |(refine za (by (try simp only [wA, wL]) <;> omega) ?_; conv => whnf)
   |(refine zal [] [0, 1] (hlv) ⟨rfl, rfl, rfl, (by repeat first | exact trivial | refine ⟨rfl, ?_⟩), ⟨rfl, rfl, rfl, rfl, rfl, rfl⟩, ?_⟩; conv => whnf)
  (refine zbg [] [0, 1] ?_; (conv => whnf); exact ⟨rfl, by repeat first | exact trivial | refine ⟨rfl, ?_⟩, rfl, rfl, rfl, rfl, rfl, rfl⟩)
end Go.VL
