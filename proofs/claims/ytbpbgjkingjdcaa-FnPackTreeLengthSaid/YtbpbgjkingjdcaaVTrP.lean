/- V-logic: TrP -/
import Derived.Test.YtbpbgjkingjdcaaVPD
import Derived.Test.YtbpbgjkingjdcaaVTrH
namespace Go.VL
open Go.Proofs
set_option maxRecDepth 10000
set_option linter.unusedSimpArgs false
set_option linter.unusedVariables false
theorem z2n (m n i : Nat) (hm : m ≤ 1000) (hn : 1 ≤ n) (hn2 : n ≤ 1000) (hi : i < n) : zr Try.prog 171 0 [.c (.int .i64 m), .c (.int .i64 n), .c (.int .i64 i)] [] 0 (.c (.int .i64 ((m * (i + 1) / n : Nat) - (m * i / n : Nat) : Int))) [] := by
 have e1 : ((m : Int) * ((i : Int) + 1)).tdiv n = ((m * (i + 1) / n : Nat) : Int) := rfl
 have e2 : ((m : Int) * (i : Int)).tdiv n = ((m * i / n : Nat) : Int) := rfl
 have p1 : (m : Int) * ((i : Int) + 1) = ((m * (i + 1) : Nat) : Int) := rfl
 have p2 : (m : Int) * (i : Int) = ((m * i : Nat) : Int) := rfl
 have b1 : m * (i + 1) ≤ 1000 * 1000 := Nat.mul_le_mul hm (by omega)
 have b2 : m * i ≤ 1000 * 1000 := Nat.mul_le_mul hm (by omega)
 have d1 := Nat.div_le_self (m * (i + 1)) n
 have d2 := Nat.div_le_self (m * i) n
 obtain ⟨A, hA⟩ : ∃ A, m * (i + 1) / n = A := ⟨_, rfl⟩
 obtain ⟨B, hB⟩ : ∃ B, m * i / n = B := ⟨_, rfl⟩
 rw [hA] at e1 d1
 rw [hB] at e2 d2
 rw [hA, hB]
 generalize hX : m * (i + 1) = X at *
 generalize hY : m * i = Y at *
 clear hA hB hX hY
 refine spi (fn := Try.f171) _ ?_
 conv => whnf
 repeat' first
  |(refine za (by kernel_rfl) ?_; conv => whnf)
  |(refine za (by (try simp only [wA, wL]) <;> omega) ?_; conv => whnf)
  |refine zi ?_
  |(refine zg (by (try simp only [wA, wL]) <;> omega) (by (try simp only [wA, wL]) <;> omega) ?_; conv => whnf)
  |(refine ze ?_; conv => whnf)
 rw [e1, e2]
theorem z0n (list : List Pr) (n i j : Nat) (h : i ≤ j) : ldL list n i j ++ [zae (ldP list n j)] = ldL list n i (j + 1) := by
 unfold ldL
 rw [show j + 1 - i = (j - i) + 1 by omega, List.range'_concat, List.map_append, show i + 1 * (j - i) = j by omega]; rfl
theorem znh (list : List Pr) (n i j : Nat) : (ldL list n i j).length = j - i := by
 unfold ldL; simp
theorem z3n (list : List Pr) (n i j k : Nat) (d : Pg) (h : k < j - i) : (ldL list n i j).getD k d = zae (ldP list n (i + k)) := by
 unfold ldL
 rw [List.getD_eq_getElem?_getD, List.getElem?_map, List.getElem?_range' h]; simp
theorem z4d (list : List Pr) (n i a : Nat) : ldI list n i (i + 1) a = ⟨[], [(a : Int)], []⟩ := by
 unfold ldI
 rw [show i + 1 - i = 1 by omega]; rfl
theorem zhs (list : List Pr) (n i j a : Nat) (h : i < j) : ldI list n i (j + 1) a = ⟨(ldI list n i j a).keys ++ [ldK list n j], (ldI list n i j a).kids ++ [((a + (j - i) : Nat) : Int)], []⟩ := by
 unfold ldI
 rw [show j + 1 - i - 1 = (j - i - 1) + 1 by omega, show j + 1 - i = (j - i) + 1 by omega, List.range'_concat, List.range'_concat, List.map_append, List.map_append, show i + 1 + 1 * (j - i - 1) = j by omega, Nat.one_mul]; rfl
theorem zqb (list : List Pr) (n i j a : Nat) : (ldI list n i j a).keys.length = j - i - 1 ∧ (ldI list n i j a).kids.length = j - i := by
 unfold ldI; simp
theorem zzq (list : List Pr) (n k : Nat) : (zae (ldP list n k)).keys.getD 0 0 = ldK list n k := by
 unfold ldK zae
 cases ldP list n k <;> rfl
theorem zvw (list : List Pr) (n k : Nat) (hk : k < n) (h : list.length * k / n + 2 ≤ list.length * (k + 1) / n) : 0 < (zae (ldP list n k)).keys.length ∧ (zae (ldP list n k)).keys.length ≤ list.length := by
 have := zlr (m := list.length) (n := n) (j := k + 1) (by omega) (by omega)
 unfold zae ldP
 simp only [List.length_map, List.length_drop, List.length_take]
 generalize list.length * (k + 1) / n = A at *
 generalize list.length * k / n = B at *
 omega
theorem z3f (list : List Pr) (hl : list.length ≤ 24) (hv : RowOk list 0 99) : zr Try.prog 117 0 [.c (.prs list)] [] 1 (.agg [.c (.int .i64 0), .slc 0]) [(0, .arr (.pgs (zf8 list)))] := by
 have hn := zsc hl
 have htab := zzb list.length (by omega)
 obtain ⟨n, hnn⟩ : ∃ n, ldN list.length = n := ⟨_, rfl⟩
 have hmx : (if ((((C.prs list).len : Int) + 4 - 1).tdiv 4 > 1) then (((C.prs list).len : Int) + 4 - 1).tdiv 4 else 1) = (n : Int) := by
  show (if ((list.length : Int) + 4 - 1).tdiv 4 > 1 then ((list.length : Int) + 4 - 1).tdiv 4 else 1) = (n : Int)
  rw [← hnn, Int.tdiv_eq_ediv_of_nonneg (by omega)]
  unfold ldN
  split <;> split <;> omega
 rw [hnn] at hn htab
 have hq : 0 ≤ ((list.length : Int) + 4 - 1).tdiv 4 ∧ ((list.length : Int) + 4 - 1).tdiv 4 ≤ 24 := by rw [Int.tdiv_eq_ediv_of_nonneg (by omega)]; omega
 obtain ⟨Z, hZ⟩ : ∃ Z, zf8 list = Z := ⟨_, rfl⟩
 rw [hZ]
 unfold zf8 at hZ
 rw [hnn] at hZ
 clear hnn
 have hd : ∀ i, i ≤ n → list.length * i / n ≤ list.length := fun i hi => zlr hi hn.1
 have hs : ∀ i, i < n → list.length * i / n ≤ list.length * (i + 1) / n ∧ list.length * (i + 1) / n ≤ list.length * i / n + 4 := fun i hi => ⟨Nat.div_le_div_right (Nat.mul_le_mul_left _ (by omega)), (htab i hi).2⟩
 have hsh := fun i hi => z2n list.length n i (by omega) hn.1 (by omega) hi
 refine spi (fn := Try.f117) _ ?_
 conv => whnf
 repeat' first | (refine za (by (try simp only [wA, wL]) <;> omega) ?_; conv => whnf) | (refine zg (by (try simp only [wA, wL]) <;> omega) (by (try simp only [wA, wL]) <;> omega) ?_; conv => whnf) | (refine zo ?_; conv => whnf)
 rw [hmx]
 refine zau (fun i : Nat => i ≤ n) (fun i => ⟨184, 2, [(0, .c (.prs list)), (2, .ptr 0 0 0 0), (3, .c (.int .i64 n)), (4, .slc 1), (5, .c (.int .i64 (list.length * i / n : Nat))), (6, .c (.int .i64 i))], [(0, .box [.c (.int .i64 0), .nil] [] []), (1, .arr (.pgs (ldL list n 0 i)))]⟩) (fun i => n - i) 0 (Nat.zero_le _) (fun _ => Nat.zero_le _) (zbd [] [0, 1] ⟨⟨rfl, rfl, rfl, rfl, congrArg (fun z => V.c (C.int .i64 z)) ?_, rfl, trivial⟩, by repeat first | exact trivial | refine ⟨rfl, ?_⟩, rfl, rfl, rfl, rfl, rfl, rfl, rfl⟩) (fun i hi => ?_)
 ·simp
 by_cases hin : i < n
 ·have hs' := hs i hin
  have hd' := hd (i + 1) hin
  have hsh' := hsh i hin
  obtain ⟨A, hA⟩ : ∃ A, list.length * (i + 1) / n = A := ⟨_, rfl⟩
  obtain ⟨B, hB⟩ : ∃ B, list.length * i / n = B := ⟨_, rfl⟩
  rw [hA, hB] at hs' hsh'
  rw [hA] at hd'
  rw [hB]
  have hAB : ((B : Int) + ((A : Int) - (B : Int))).toNat = A := by omega
  conv => whnf
  have hll := znh list n 0 i
  repeat' first
   |(refine zn ?_ ?_; (focus ((try simp only [qA]) <;> (try simp only [wA]) <;> omega)); conv => whnf)
   |(refine za (by (try simp only [wA, wL]) <;> omega) ?_; conv => whnf)
   |(refine zg (by (try simp only [wA, wL]) <;> omega) (by (try simp only [wA, wL]) <;> omega) ?_; conv => whnf)
   |(refine zp (hsh') rfl rfl ?_; conv => whnf)
   |(refine zp (zfz _ ?_) rfl rfl ?_; (first | assumption | omega | exact (by (try simp only [wA, wN, wL]) <;> omega)); conv => whnf)
   |(refine zo ?_; conv => whnf)
  refine ⟨⟨i + 1, by omega⟩, (zbd [] [0, 1] ⟨⟨rfl, rfl, rfl, rfl, congrArg (fun z => V.c (C.int .i64 z)) ?_, rfl, trivial⟩, ⟨rfl, congrArg (fun z => some (O.arr (C.pgs z))) ?_, trivial⟩, rfl, rfl, rfl, rfl, rfl, rfl, rfl⟩), by dsimp only; omega⟩
  ·rw [hA]; omega
  ·rw [hAB, ← z0n list n 0 i (by omega)]
   show _ = _ ++ [zae (List.drop (list.length * i / n) (List.take (list.length * (i + 1) / n) list))]
   rw [hA, hB]; rfl
 ·have hie : i = n := by omega
  subst hie
  clear hsh hs hd
  have hll := znh list i 0 i
  have hat := fun k (h : k < i) => z3n list i 0 i k ⟨[], [], []⟩ (by omega)
  have hk1 := fun k (h : k < i) => htab k h
  by_cases h1 : i = 1
  ·subst h1
   rw [if_pos rfl] at hZ
   have e : ldL list 1 0 1 = Z := by
    rw [← hZ]
    show [zae (ldP list 1 0)] = _
    unfold ldP; simp
   rw [e]
   conv => whnf
   repeat' first | (refine zn ?_ ?_; (focus ((try simp only [qA]) <;> (try simp only [wA]) <;> omega)); conv => whnf) | (refine zm ?_ ?_; (focus ((try simp only [qA]) <;> (try simp only [wA]) <;> omega)); conv => whnf)
   exact (zu [] [1])
  ·rw [if_neg h1] at hZ
   have hL3 : i = 6 → (ldL list i 0 i).take 3 = ldL list i 0 3 ∧ (ldL list i 0 i).drop 3 = ldL list i 3 6 := fun h => by subst h; exact ⟨rfl, rfl⟩
   generalize ldL list i 0 i = L at *
   by_cases h5 : i ≤ 5
   ·rw [if_pos h5] at hZ
    have hpos : ∀ k, k < i → 0 < (L.getD k ⟨[], [], []⟩).keys.length ∧ (L.getD k ⟨[], [], []⟩).keys.length ≤ list.length ∧ (L.getD k ⟨[], [], []⟩).keys.getD 0 0 = ldK list i k := fun k hk => by
     rw [hat k hk, Nat.zero_add]
     have := zvw list i k hk ((hk1 k hk).1 (by omega))
     exact ⟨this.1, this.2, zzq list i k⟩
    have hwl := fun k => zqb list i 0 k 1
    clear hk1 htab hat
    conv => whnf
    repeat' first | (refine zn ?_ ?_; (focus ((try simp only [qA]) <;> (try simp only [wA]) <;> omega)); conv => whnf) | (refine zm ?_ ?_; (focus ((try simp only [qA]) <;> (try simp only [wA]) <;> omega)); conv => whnf)
    refine zau (fun j : Nat => j ≤ i) (fun j => ⟨184, 5, [(2, .ptr 0 0 0 0), (3, .c (.int .i64 i)), (4, .slc 1), (8, .ptr 4 0 0 0), (9, .c (.int .i64 j))], [(0, .box [.c (.int .i64 0), .nil] [] []), (1, .arr (.pgs L)), (2, .arr (.nums .i64 (ldI list i 0 j 1).keys)), (3, .arr (.nums .i64 (ldI list i 0 j 1).kids)), (4, .box [.slc 2, .slc 3] [] [])]⟩) (fun j => i - j) 0 (Nat.zero_le _) (fun _ => Nat.zero_le _) (z5 [] [0, 1, 2, 3, 4]) (fun j hj => ?_)
    obtain ⟨w1, w2⟩ := hwl j
    by_cases hji : j < i
    ·obtain ⟨p1, p2, p3⟩ := hpos j hji
     by_cases hj0 : j = 0
     ·subst hj0
      conv => whnf
      repeat' first
       |(refine zn ?_ ?_; (focus ((try simp only [qA]) <;> (try simp only [wA]) <;> omega)); conv => whnf)
       |(refine zm ?_ ?_; (focus ((try simp only [qA]) <;> (try simp only [wA]) <;> omega)); conv => whnf)
       |(refine za (by (try simp only [wA, wL]) <;> omega) ?_; conv => whnf)
       |(refine zg (by (try simp only [wA, wL]) <;> omega) (by (try simp only [wA, wL]) <;> omega) ?_; conv => whnf)
      refine ⟨⟨0 + 1, ?_⟩, (zbd [] [0, 1, 2, 3, 4] ⟨by repeat first | exact trivial | refine ⟨rfl, ?_⟩, ?_, rfl, rfl, rfl, rfl, rfl, rfl, rfl⟩), by dsimp only; omega⟩; (try dsimp only)
      ·omega
      ·exact ⟨rfl, rfl, rfl, rfl, rfl, trivial⟩
     ·conv => whnf
      repeat' first
       |(refine za (by kernel_rfl) ?_; conv => whnf)
       |(refine zn ?_ ?_; (focus ((try simp only [qA]) <;> (try simp only [wA]) <;> omega)); conv => whnf)
       |(refine za (by (try simp only [wA, wL]) <;> omega) ?_; conv => whnf)
       |(refine zg (by (try simp only [wA, wL]) <;> omega) (by (try simp only [wA, wL]) <;> omega) ?_; conv => whnf)
       |(refine zo ?_; conv => whnf)
       |(refine ze ?_; conv => whnf)
      refine ⟨⟨j + 1, ?_⟩, (zbd [] [0, 1, 2, 3, 4] ⟨by repeat first | exact trivial | refine ⟨rfl, ?_⟩, ?_, rfl, rfl, rfl, rfl, rfl, rfl, rfl⟩), by dsimp only; omega⟩; (try dsimp only)
      ·omega
      ·refine ⟨rfl, rfl, congrArg (fun z => some (O.arr (C.nums .i64 z))) ?_, congrArg (fun z => some (O.arr (C.nums .i64 z))) ?_, rfl, trivial⟩
       ·rw [zhs list i 0 j 1 (by omega)]
        show _ ++ [(L.getD j ⟨[], [], []⟩).keys.getD 0 0] = _ ++ [_]
        rw [p3]
       ·rw [zhs list i 0 j 1 (by omega)]
        show _ ++ [((j : Nat) : Int) + 1] = _ ++ [_]
        rw [show ((1 + (j - 0) : Nat) : Int) = (j : Int) + 1 by omega]
    ·have : j = i := by omega
     subst this
     conv => whnf
     repeat' first
      |(refine zm ?_ ?_; (focus ((try simp only [qA]) <;> (try simp only [wA]) <;> omega)); conv => whnf)
      |(refine za (by (try simp only [wA, wL]) <;> omega) ?_; conv => whnf)
      |(refine zal [2, 3] [] (zb6 (ldI list j 0 j 1)) ?_; (conv => whnf); refine ⟨rfl, rfl, rfl, (by repeat first | exact trivial | refine ⟨rfl, ?_⟩), ⟨rfl, rfl, rfl, rfl, rfl, rfl⟩, ?_⟩; conv => whnf)
      |(refine zo ?_; conv => whnf)
     subst hZ
     exact (zu [] [5])
   ·have h6 : i = 6 := by omega
    subst h6
    rw [if_neg (by decide)] at hZ
    have hpos : ∀ k, k < 6 → 0 < (L.getD k ⟨[], [], []⟩).keys.length ∧ (L.getD k ⟨[], [], []⟩).keys.length ≤ list.length ∧ (L.getD k ⟨[], [], []⟩).keys.getD 0 0 = ldK list 6 k := fun k hk => by
     rw [hat k hk, Nat.zero_add]
     have := zvw list 6 k hk ((hk1 k hk).1 (by omega))
     exact ⟨this.1, this.2, zzq list 6 k⟩
    have hwl := fun k => zqb list 6 0 k 2
    have hwr := fun k => zqb list 6 3 k 6
    clear hk1 htab hat
    have hh : ((6 : Nat) : Int).tdiv 2 = 3 := rfl
    conv => whnf
    repeat' first
     |(refine zm ?_ ?_; (focus ((try simp only [qA]) <;> (try simp only [wA]) <;> omega)); conv => whnf)
     |(refine za (by (try simp only [wA, wL]) <;> omega) ?_; conv => whnf)
     |(refine zg (by (try simp only [wA, wL]) <;> omega) (by (try simp only [wA, wL]) <;> omega) ?_; conv => whnf)
    refine zk5 (fun (k a b : Nat) => k ≤ 6 ∧ (k < 3 → a = k ∧ b = 3) ∧ (3 ≤ k → a = 3 ∧ b = k)) (fun k a b => ⟨184, 8, [(2, .ptr 0 0 0 0), (3, .c (.int .i64 6)), (4, .slc 1), (10, .c (.int .i64 3)), (11, .ptr 4 0 0 0), (12, .ptr 7 0 0 0), (13, .c (.int .i64 k))], [(0, .box [.c (.int .i64 0), .nil] [] []), (1, .arr (.pgs L)), (2, .arr (.nums .i64 (ldI list 6 0 a 2).keys)), (3, .arr (.nums .i64 (ldI list 6 0 a 2).kids)), (4, .box [.slc 2, .slc 3] [] []), (5, .arr (.nums .i64 (ldI list 6 3 b 6).keys)), (6, .arr (.nums .i64 (ldI list 6 3 b 6).kids)), (7, .box [.slc 5, .slc 6] [] [])]⟩) (fun k a b => 6 - k) 0 0 3 ⟨by omega, fun _ => ⟨rfl, rfl⟩, fun h => by omega⟩ (fun _ _ _ => Nat.zero_le _) (z5 [] [0, 1, 2, 3, 4, 5, 6, 7]) (fun k a b hj => ?_)
    obtain ⟨hk6, hka, hkb⟩ := hj
    obtain ⟨w1, w2⟩ := hwl a
    obtain ⟨x1, x2⟩ := hwr b
    by_cases hk3 : k < 3
    ·obtain ⟨p1, p2, p3⟩ := hpos k (by omega)
     obtain ⟨rfl, rfl⟩ := hka hk3
     by_cases hk0 : a = 0
     ·subst hk0
      conv => whnf
      repeat' first
       |(refine zn ?_ ?_; (focus ((try simp only [qA]) <;> (try simp only [wA]) <;> omega)); conv => whnf)
       |(refine zm ?_ ?_; (focus ((try simp only [qA]) <;> (try simp only [wA]) <;> omega)); conv => whnf)
       |(refine za (by (try simp only [wA, wL]) <;> omega) ?_; conv => whnf)
       |(refine zg (by (try simp only [wA, wL]) <;> omega) (by (try simp only [wA, wL]) <;> omega) ?_; conv => whnf)
      refine ⟨⟨(0 + 1, 0 + 1, 3), ?_⟩, (zbd [] [0, 1, 2, 3, 4, 5, 6, 7] ⟨by repeat first | exact trivial | refine ⟨rfl, ?_⟩, ?_, rfl, rfl, rfl, rfl, rfl, rfl, rfl⟩), by dsimp only; omega⟩; (try dsimp only)
      ·omega
      ·exact ⟨rfl, rfl, rfl, rfl, rfl, rfl, rfl, rfl, trivial⟩
     ·conv => whnf
      repeat' first
       |(refine za (by kernel_rfl) ?_; conv => whnf)
       |(refine zn ?_ ?_; (focus ((try simp only [qA]) <;> (try simp only [wA]) <;> omega)); conv => whnf)
       |(refine zm ?_ ?_; (focus ((try simp only [qA]) <;> (try simp only [wA]) <;> omega)); conv => whnf)
       |(refine za (by (try simp only [wA, wL]) <;> omega) ?_; conv => whnf)
       |(refine zg (by (try simp only [wA, wL]) <;> omega) (by (try simp only [wA, wL]) <;> omega) ?_; conv => whnf)
       |(refine zo ?_; conv => whnf)
       |(refine ze ?_; conv => whnf)
      refine ⟨⟨(a + 1, a + 1, 3), ?_⟩, (zbd [] [0, 1, 2, 3, 4, 5, 6, 7] ⟨by repeat first | exact trivial | refine ⟨rfl, ?_⟩, ?_, rfl, rfl, rfl, rfl, rfl, rfl, rfl⟩), by dsimp only; omega⟩; (try dsimp only)
      ·omega
      ·refine ⟨rfl, rfl, congrArg (fun z => some (O.arr (C.nums .i64 z))) ?_, congrArg (fun z => some (O.arr (C.nums .i64 z))) ?_, rfl, rfl, rfl, rfl, trivial⟩
       ·rw [zhs list 6 0 a 2 (by omega)]
        show _ ++ [(L.getD a ⟨[], [], []⟩).keys.getD 0 0] = _ ++ [_]
        rw [p3]
       ·rw [zhs list 6 0 a 2 (by omega)]
        show _ ++ [2 + ((a : Nat) : Int)] = _ ++ [_]
        rw [show ((2 + (a - 0) : Nat) : Int) = 2 + (a : Int) by omega]
    ·obtain ⟨rfl, rfl⟩ := hkb (by omega)
     by_cases hk6' : b < 6
     ·obtain ⟨p1, p2, p3⟩ := hpos b (by omega)
      by_cases hk0 : b = 3
      ·subst hk0
       conv => whnf
       repeat' first
        |(refine zn ?_ ?_; (focus ((try simp only [qA]) <;> (try simp only [wA]) <;> omega)); conv => whnf)
        |(refine zm ?_ ?_; (focus ((try simp only [qA]) <;> (try simp only [wA]) <;> omega)); conv => whnf)
        |(refine za (by (try simp only [wA, wL]) <;> omega) ?_; conv => whnf)
        |(refine zg (by (try simp only [wA, wL]) <;> omega) (by (try simp only [wA, wL]) <;> omega) ?_; conv => whnf)
       refine ⟨⟨(3 + 1, 3, 3 + 1), ?_⟩, (zbd [] [0, 1, 2, 3, 4, 5, 6, 7] ⟨by repeat first | exact trivial | refine ⟨rfl, ?_⟩, ?_, rfl, rfl, rfl, rfl, rfl, rfl, rfl⟩), by dsimp only; omega⟩; (try dsimp only)
       ·omega
       ·exact ⟨rfl, rfl, rfl, rfl, rfl, rfl, rfl, rfl, trivial⟩
      ·conv => whnf
       repeat' first
        |(refine za (by kernel_rfl) ?_; conv => whnf)
        |(refine zn ?_ ?_; (focus ((try simp only [qA]) <;> (try simp only [wA]) <;> omega)); conv => whnf)
        |(refine zm ?_ ?_; (focus ((try simp only [qA]) <;> (try simp only [wA]) <;> omega)); conv => whnf)
        |(refine za (by (try simp only [wA, wL]) <;> omega) ?_; conv => whnf)
        |(refine zg (by (try simp only [wA, wL]) <;> omega) (by (try simp only [wA, wL]) <;> omega) ?_; conv => whnf)
        |(refine zo ?_; conv => whnf)
        |(refine ze ?_; conv => whnf)
       refine ⟨⟨(b + 1, 3, b + 1), ?_⟩, (zbd [] [0, 1, 2, 3, 4, 5, 6, 7] ⟨by repeat first | exact trivial | refine ⟨rfl, ?_⟩, ?_, rfl, rfl, rfl, rfl, rfl, rfl, rfl⟩), by dsimp only; omega⟩; (try dsimp only)
       ·omega
       ·refine ⟨rfl, rfl, rfl, rfl, rfl, congrArg (fun z => some (O.arr (C.nums .i64 z))) ?_, congrArg (fun z => some (O.arr (C.nums .i64 z))) ?_, rfl, trivial⟩
        ·rw [zhs list 6 3 b 6 (by omega)]
         show _ ++ [(L.getD b ⟨[], [], []⟩).keys.getD 0 0] = _ ++ [_]
         rw [p3]
        ·rw [zhs list 6 3 b 6 (by omega)]
         show _ ++ [3 + ((b : Nat) : Int)] = _ ++ [_]
         rw [show ((6 + (b - 3) : Nat) : Int) = 3 + (b : Int) by omega]
     ·have : b = 6 := by omega
      subst this
      obtain ⟨p1, p2, p3⟩ := hpos 3 (by omega)
      obtain ⟨t1, t2⟩ := hL3 rfl
      have p1' : 0 < (L.getD (Int.toNat 3) ⟨[], [], []⟩).keys.length := p1
      have p3' : (L.getD (Int.toNat 3) ⟨[], [], []⟩).keys.getD (Int.toNat 0) 0 = ldK list 6 3 := p3
      conv => whnf
      repeat' first
       |(refine zm ?_ ?_; (focus ((try simp only [qA]) <;> (try simp only [wA]) <;> omega)); conv => whnf)
       |(refine za (by (try simp only [wA, wL]) <;> omega) ?_; conv => whnf)
       |(refine zg (by (try simp only [wA, wL]) <;> omega) (by (try simp only [wA, wL]) <;> omega) ?_; conv => whnf)
       |((refine ze9 [.fz [8, 9, 2, 3, 5, 6, 1]] ?_; (conv => whnf); fail_if_success (guard_target =~ False)); conv => whnf)
       |(refine zw (zb6 ⟨_, _, []⟩) rfl rfl ?_; conv => whnf)
      refine zlj ?_
      conv => whnf
      repeat' first
       |(refine za (by kernel_rfl) ?_; conv => whnf)
       |(refine za (by (try simp only [wA, wL]) <;> omega) ?_; conv => whnf)
       |(refine zp (zb6 ⟨_, _, []⟩) rfl rfl ?_; conv => whnf)
       |(refine zo ?_; conv => whnf)
      refine zbg [] [15] ⟨rfl, ⟨congrArg (fun z => some (O.arr (C.pgs z))) ?_, trivial⟩, rfl, rfl, rfl, rfl, rfl, rfl⟩
      rw [← hZ, show ldL list 6 0 (6 / 2) = L.take 3 from t1.symm, show ldL list 6 (6 / 2) 6 = L.drop 3 from t2.symm, show ldK list 6 (6 / 2) = _ from p3'.symm]
      simp only [List.nil_append, List.append_assoc, List.cons_append, List.singleton_append]
      rfl
end Go.VL
