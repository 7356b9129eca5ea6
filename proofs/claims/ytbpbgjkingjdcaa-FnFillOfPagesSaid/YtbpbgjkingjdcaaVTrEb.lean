/- V-logic: TrEb -/
import Derived.Test.YtbpbgjkingjdcaaVTrEa
import Derived.Test.YtbpbgjkingjdcaaVTrS
namespace Go.VL
open Go.Proofs
set_option maxRecDepth 10000
set_option linter.unusedSimpArgs false
set_option linter.unusedVariables false
theorem z4f {α : Type} (f : Nat → α) {n i j : Nat} (h : j ≤ n) : (((List.range n).map f).take j).drop i = (List.range' i (j - i)).map f := by
 rw [← List.map_take, ← List.map_drop, List.take_range, Nat.min_eq_left h, List.range_eq_range', List.drop_range', Nat.zero_add, Nat.mul_one]
theorem z4n (list : List Pr) {n i j a : Nat} (h : j ≤ n) : inP ((List.range n).map (ldP list n)) i j a = ldI list n i j a := by
 unfold inP inK ldI
 rw [z4f _ h, List.map_map, show j - (i + 1) = j - i - 1 by omega]; rfl
theorem z4o (list : List Pr) {n i j : Nat} (h : j ≤ n) : ((((List.range n).map (ldP list n)).take j).drop i).map zae = ldL list n i j := by
 unfold ldL
 rw [z4f _ h, List.map_map]; rfl
theorem z4g {α : Type} (f : Nat → α) (d : α) {n k : Nat} (h : k < n) : ((List.range n).map f).getD k d = f k := by
 rw [List.getD_eq_getElem?_getD, List.getElem?_map, List.getElem?_range h]; rfl
theorem z4m {α : Type} (f : Nat → α) (k : Nat) : (List.range (k + 1)).map f = (List.range k).map f ++ ([] ++ [f k]) := by
 rw [List.range_succ, List.map_append]; rfl
set_option maxHeartbeats 1000000 in
theorem z4k (list : List Pr) (hv : zdb list = true) : zr Try.prog 35 0 [.c (.prs list)] [] 0 (.tup [trV 0 (zf8 list), .tt]) [] := by
 obtain ⟨hr, hl⟩ := zln.1 hv
 have hvr := zw7 list (by omega)
 rw [hv] at hvr
 have hn := zsc hl
 have htab := zzb list.length (by omega)
 have hll := z4e list.length hl
 obtain ⟨n, hnn⟩ : ∃ n, ldN list.length = n := ⟨_, rfl⟩
 rw [hnn] at hn htab hll
 have hPl : ((List.range n).map (ldP list n)).length = n := by simp
 have hPg : ∀ k, k < n → ((List.range n).map (ldP list n)).getD k [] = ldP list n k := fun k hk => z4g _ _ hk
 have hPb : ∀ k, (ldP list n k).length ≤ 24 := fun k => by
  unfold ldP
  rw [List.length_drop, List.length_take]
  generalize list.length * (k + 1) / n = u
  generalize list.length * k / n = w
  omega
 have hPc : ∀ k, (((List.range n).map (ldP list n)).getD k []).length ≤ 100 := fun k => by
  by_cases c : k < n
  ·rw [hPg k c]; exact Nat.le_trans (hPb k) (by decide)
  ·rw [List.getD_eq_getElem?_getD, List.getElem?_eq_none (by simp; omega)]; exact Nat.zero_le _
 have hPp : 2 ≤ n → ∀ k, k < n → 1 ≤ (ldP list n k).length := fun h2 k hk => by
  have := (htab k hk).1 h2
  have hle := zlr (m := list.length) (n := n) (j := k + 1) (by omega) (by omega)
  unfold ldP
  rw [List.length_drop, List.length_take]
  omega
 have hF : zf8 list = if n = 1 then [zae list] else if n ≤ 5 then ldI list n 0 n 1 :: ldL list n 0 n else
   ⟨[ldK list n (n / 2)], [1, ((2 + n / 2 : Nat) : Int)], []⟩ :: ldI list n 0 (n / 2) 2 :: (ldL list n 0 (n / 2) ++ ldI list n (n / 2) n (3 + n / 2) :: ldL list n (n / 2) n) := by
  unfold zf8; rw [hnn]
 have hcut : ∀ k, (list.take ((k + 1) * list.length / n)).drop (k * list.length / n) = ldP list n k := fun k => by
  unfold ldP; rw [Nat.mul_comm (k + 1), Nat.mul_comm k]
 have hidx : ∀ k : Nat, k < n → ∃ A B : Nat, A ≤ B ∧ B ≤ list.length ∧ ((k : Int) * (list.length : Int)).tdiv n = A ∧ (((k : Int) + 1) * (list.length : Int)).tdiv n = B ∧ 0 ≤ (k : Int) * (list.length : Int) ∧ (k : Int) * (list.length : Int) ≤ 1000 ∧ 0 ≤ ((k : Int) + 1) * (list.length : Int) ∧ ((k : Int) + 1) * (list.length : Int) ≤ 1000 ∧ (list.take B).drop A = ldP list n k := fun k hk => by
  have m1 : k * list.length ≤ 1000 := Nat.le_trans (Nat.mul_le_mul (show k ≤ 6 by omega) hl) (by decide)
  have m2 : (k + 1) * list.length ≤ 1000 := Nat.le_trans (Nat.mul_le_mul (show k + 1 ≤ 7 by omega) hl) (by decide)
  have p1 : (k : Int) * (list.length : Int) = ((k * list.length : Nat) : Int) := rfl
  have p2 : ((k : Int) + 1) * (list.length : Int) = (((k + 1) * list.length : Nat) : Int) := rfl
  refine ⟨k * list.length / n, (k + 1) * list.length / n, Nat.div_le_div_right (Nat.mul_le_mul_right _ (by omega)), ?_, rfl, rfl, by rw [p1]; omega, by rw [p1]; omega, by rw [p2]; omega, by rw [p2]; omega, hcut k⟩
  rw [Nat.mul_comm]; exact zlr (by omega) (by omega)
 obtain ⟨F, hFF⟩ : ∃ F, zf8 list = F := ⟨_, rfl⟩
 rw [hFF] at hF ⊢
 obtain ⟨P, hP⟩ : ∃ P, (List.range n).map (ldP list n) = P := ⟨_, rfl⟩
 refine spi (fn := Try.f35) _ ?_
 conv => whnf
 repeat' first
  |(refine zm ?_ ?_; (focus (first | rfl | exact bne_self_eq_false _)); conv => whnf)
  |(refine zp (hvr) rfl rfl ?_; conv => whnf)
  |(refine zp (hll) rfl rfl ?_; conv => whnf)
 refine zau (fun k : Nat => k ≤ n) (fun k => match k with
  |0 => ⟨84, 2, [(0, .c (.prs list)), (2, .ptr 0 0 0 0), (4, .c (.int .i64 n)), (5, .ptr 1 0 0 0), (18, .c (.int .i64 n)), (19, .c (.int .i64 0))], [(0, .box [.c (.int .i64 0), .nil] [] []), (1, .box [.nil, .nil] [] [])]⟩
  |k + 1 => ⟨84, 3, [(0, .c (.prs list)), (2, .ptr 0 0 0 0), (4, .c (.int .i64 n)), (5, .ptr 1 0 0 0), (18, .c (.int .i64 n)), (19, .c (.int .i64 (k + 1 : Nat)))], [(0, .box [.c (.int .i64 0), .nil] [] []), (1, .box [.slc 2, .nil] [] []), (2, .arr (.prss ((List.range (k + 1)).map (ldP list n))))]⟩) (fun k => n - k) 0 (Nat.zero_le _) (fun k => Nat.zero_le _) (z5 [] [0, 1]) (fun k hk => ?_)
 cases k with
 |zero =>
  obtain ⟨A, B, x1, x2, x3, x4, x5, x6, x7, x8, x9⟩ := hidx 0 (by omega)
  have x3 : ((0 : Int) * (list.length : Int)).tdiv n = A := x3
  have x4 : (((0 : Int) + 1) * (list.length : Int)).tdiv n = B := x4
  have x5 : 0 ≤ (0 : Int) * (list.length : Int) := x5
  have x6 : (0 : Int) * (list.length : Int) ≤ 1000 := x6
  have x7 : 0 ≤ ((0 : Int) + 1) * (list.length : Int) := x7
  have x8 : ((0 : Int) + 1) * (list.length : Int) ≤ 1000 := x8
  have x10 : (list.take ((((0 : Int) + 1) * (list.length : Int)).tdiv n).toNat).drop (((0 : Int) * (list.length : Int)).tdiv n).toNat = ldP list n 0 := by rw [x3, x4]; exact x9
  conv => whnf
  repeat' first
   |(refine za (by kernel_rfl) ?_; conv => whnf)
   |(refine zn ?_ ?_; (focus ((try simp only [qA]) <;> (try simp only [wA]) <;> omega)); conv => whnf)
   |(refine za (by (try simp only [wA, wL]) <;> omega) ?_; conv => whnf)
   |(refine zg (by (try simp only [wA, wL]) <;> omega) (by (try simp only [wA, wL]) <;> omega) ?_; conv => whnf)
   |(refine ze ?_; conv => whnf)
  refine ⟨⟨1, by omega⟩, (zbd [] [0, 1, 20] ⟨by repeat first | exact trivial | refine ⟨rfl, ?_⟩, ⟨rfl, rfl, ?_, trivial⟩, rfl, rfl, rfl, rfl, rfl, rfl, rfl⟩), by dsimp only; omega⟩
  exact congrArg (fun z => some (O.arr (C.prss [z]))) x10
 |succ k =>
  by_cases c : k + 1 < n
  ·obtain ⟨A, B, x1, x2, x3, x4, x5, x6, x7, x8, x9⟩ := hidx (k + 1) c
   have hPl2 : (List.range (k + 1)).length = k + 1 := List.length_range
   have x10 : (list.take (((((k + 1 : Nat) : Int) + 1) * (list.length : Int)).tdiv n).toNat).drop ((((k + 1 : Nat) : Int) * (list.length : Int)).tdiv n).toNat = ldP list n (k + 1) := by rw [x3, x4]; exact x9
   conv => whnf
   repeat' first
    |(refine za (by kernel_rfl) ?_; conv => whnf)
    |(refine zn ?_ ?_; (focus ((try simp only [qA]) <;> (try simp only [wA]) <;> omega)); conv => whnf)
    |(refine za (by (try simp only [wA, wL]) <;> omega) ?_; conv => whnf)
    |(refine zg (by (try simp only [wA, wL]) <;> omega) (by (try simp only [wA, wL]) <;> omega) ?_; conv => whnf)
    |(refine zlj ?_; conv => whnf)
    |(refine ze ?_; conv => whnf)
   refine ⟨⟨k + 1 + 1, by omega⟩, (zbd [] [0, 1, 21] ⟨by repeat first | exact trivial | refine ⟨rfl, ?_⟩, ⟨rfl, rfl, ?_, trivial⟩, rfl, rfl, rfl, rfl, rfl, rfl, rfl⟩), by dsimp only; omega⟩
   refine congrArg (fun z => some (O.arr (C.prss z))) ?_
   rw [z4m (ldP list n) (k + 1), ← x10]; rfl
  ·obtain rfl : n = k + 1 := by omega
   conv => whnf
   rw [hP]
   rw [hP] at hPl hPg hPc
   have hinP : ∀ i j a, j ≤ k + 1 → inP P i j a = ldI list (k + 1) i j a := fun i j a h => by rw [← hP]; exact z4n list h
   have hlvs : ∀ i j, j ≤ k + 1 → ((P.take j).drop i).map zae = ldL list (k + 1) i j := fun i j h => by rw [← hP]; exact z4o list h
   have h1' : 2 ≤ k + 1 → ∀ q, q < P.length → 1 ≤ (P.getD q []).length := fun h2 q hq => by rw [hPg q (by omega)]; exact hPp h2 q (by omega)
   clear hcut hidx hP htab
   by_cases c1 : k = 0
   ·subst c1
    rw [if_pos rfl] at hF
    have hlv := z4a (pre := [.c (.prss P)]) rfl rfl rfl rfl (z4j P [] 0 1 (by omega) (by omega) (by omega) hPc (by simp))
    have e1 : ([] : List Pg) ++ ((P.take 1).drop 0).map zae = F := by
     rw [hlvs 0 1 (by omega), hF]
     show [zae (ldP list 1 0)] = [zae list]
     unfold ldP
     simp
    rw [e1] at hlv
    repeat' first
     |(refine zn ?_ ?_; (focus (first | rfl | exact beq_self_eq_true _)); conv => whnf)
     |(refine zm ?_ ?_; (focus (first | rfl | exact bne_self_eq_false _)); conv => whnf)
     |(refine zal [2] [1, 3] (hlv) ?_; (conv => whnf); refine ⟨rfl, rfl, rfl, (by repeat first | exact trivial | refine ⟨rfl, ?_⟩), ⟨rfl, rfl, rfl, rfl, rfl, rfl⟩, ?_⟩; conv => whnf)
    (refine zbg [3] [] ?_; (conv => whnf); exact ⟨rfl, by repeat first | exact trivial | refine ⟨rfl, ?_⟩, rfl, rfl, rfl, rfl, rfl, rfl⟩)
   ·by_cases c5 : k + 1 ≤ 5
    ·rw [if_neg (by omega), if_pos c5] at hF
     have hlv := z4a (pre := [.c (.prss P)]) rfl rfl rfl rfl (z4l P [] 0 (k + 1) (by omega) (by omega) (by omega) hPc (h1' (by omega)) (by simp))
     have e1 : ([] : List Pg) ++ inP P 0 (k + 1) (([] : List Pg).length + 1) :: ((P.take (k + 1)).drop 0).map zae = F := by
      rw [hlvs 0 _ (Nat.le_refl _), hinP 0 _ _ (Nat.le_refl _), hF]; rfl
     rw [e1] at hlv
     repeat' first
      |(refine zn ?_ ?_; (focus ((try simp only [qA]) <;> (try simp only [wA]) <;> omega)); conv => whnf)
      |(refine zm ?_ ?_; (focus ((try simp only [qA]) <;> (try simp only [wA]) <;> omega)); conv => whnf)
      |(refine zal [2] [1, 3] (hlv) ?_; (conv => whnf); refine ⟨rfl, rfl, rfl, (by repeat first | exact trivial | refine ⟨rfl, ?_⟩), ⟨rfl, rfl, rfl, rfl, rfl, rfl⟩, ?_⟩; conv => whnf)
     (refine zbg [3] [] ?_; (conv => whnf); exact ⟨rfl, by repeat first | exact trivial | refine ⟨rfl, ?_⟩, rfl, rfl, rfl, rfl, rfl, rfl⟩)
    ·rw [if_neg (by omega), if_neg c5] at hF
     obtain ⟨h, hh⟩ : ∃ h, (k + 1) / 2 = h := ⟨_, rfl⟩
     rw [hh] at hF
     have hq : ((k + 1 : Nat) : Int).tdiv 2 = (h : Int) := by rw [← hh]; rfl
     have hv1 := z4l P ([] ++ ([] ++ [(⟨[], [], []⟩ : Pg)])) 0 h (by omega) (by omega) (by omega) hPc (h1' (by omega)) (by simp)
     have hv2 := z4l P (([] ++ ([] ++ [(⟨[], [], []⟩ : Pg)])) ++ inP P 0 h (([] ++ ([] ++ [(⟨[], [], []⟩ : Pg)])).length + 1) :: ((P.take h).drop 0).map zae) h (k + 1) (by omega) (by omega) (by omega) hPc (h1' (by omega)) (by
      rw [hlvs 0 h (by omega)]
      simp [znh]; omega)
     rw [hlvs 0 h (by omega), hinP 0 h _ (by omega)] at hv1 hv2
     have hp2 : (([] ++ ([] ++ [(⟨[], [], []⟩ : Pg)])) ++ ldI list (k + 1) 0 h (([] ++ ([] ++ [(⟨[], [], []⟩ : Pg)])).length + 1) :: ldL list (k + 1) 0 h).length = 2 + h := by
      simp [znh]; omega
     rw [hlvs h _ (Nat.le_refl _), hinP h _ _ (Nat.le_refl _), hp2] at hv2
     rw [← hq] at hv1 hv2
     have hPh := hPg h (by omega)
     have hPh1 := h1' (by omega) h (by omega)
     have hPh2 := hPc h
     have e1 : (([] ++ ([] ++ [(⟨[], [], []⟩ : Pg)])) ++ ldI list (k + 1) 0 h (([] ++ ([] ++ [(⟨[], [], []⟩ : Pg)])).length + 1) :: ldL list (k + 1) 0 h ++ ldI list (k + 1) h (k + 1) (2 + h + 1) :: ldL list (k + 1) h (k + 1)).set 0 ⟨[((P.getD h []).getD 0 ⟨0, 0⟩).key], [1, ((2 + h : Nat) : Int)], []⟩ = F := by
      rw [hPh, hF, show 3 + h = 2 + h + 1 by omega]; rfl
     have e2 : P.getD (((k + 1 : Nat) : Int).tdiv 2).toNat [] = P.getD h [] := by rw [hq, Int.toNat_natCast]
     rw [← e2] at e1 hPh1 hPh2
     repeat' first
      |(refine za (by kernel_rfl) ?_; conv => whnf)
      |(refine zm ?_ ?_; (focus ((try simp only [qA]) <;> (try simp only [wA]) <;> omega)); conv => whnf)
      |(refine za (by (try simp only [wA, wL]) <;> omega) ?_; conv => whnf)
      |(refine zg (by (try simp only [wA, wL]) <;> omega) (by (try simp only [wA, wL]) <;> omega) ?_; conv => whnf)
      |(refine zo ?_; conv => whnf)
      |(refine zal [2] [1, 4] (hv1) ?_; (conv => whnf); refine ⟨rfl, rfl, rfl, (by repeat first | exact trivial | refine ⟨rfl, ?_⟩), ⟨rfl, rfl, rfl, rfl, rfl, rfl⟩, ?_⟩; conv => whnf)
      |(refine zal [] [1, 4] (hv2) ⟨rfl, rfl, rfl, (by repeat first | exact trivial | refine ⟨rfl, ?_⟩), ⟨rfl, rfl, rfl, rfl, rfl, rfl⟩, ?_⟩; conv => whnf)
      |(refine ze ?_; conv => whnf)
     subst e1
     (refine zbg [4] [] ?_; (conv => whnf); exact ⟨rfl, by repeat first | exact trivial | refine ⟨rfl, ?_⟩, rfl, rfl, rfl, rfl, rfl, rfl⟩)
end Go.VL
