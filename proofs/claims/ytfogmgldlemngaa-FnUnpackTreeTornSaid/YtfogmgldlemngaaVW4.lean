/- V-logic: TrPb TrPc -/
import Derived.Test.YtfogmgldlemngaaVEG
import Derived.Test.YtfogmgldlemngaaVW3
namespace Go.VL
open Go.Proofs
set_option maxRecDepth 10000
set_option linter.unusedSimpArgs false
set_option linter.unusedVariables false
abbrev zpV : V := .agg [.nil, .nil, .nil]
theorem yhv (l : List Int) (hb : nmB l) (h : ¬ UnH l) : zr Try.prog 15 0 [.c (.nums .i64 l)] [] 0 (.tup [zpV, .c (.int .i64 0), .ff]) [] := by
  obtain ⟨hl, hb⟩ := hb
  have hx := hb (Int.toNat 0)
  have hS : unS l = 2 * ((l.getD (Int.toNat 0) 0).toNat / 2) + 2 + (l.getD (Int.toNat 0) 0).toNat % 2 := rfl
  have hd : 0 ≤ l.getD (Int.toNat 0) 0 → (l.getD (Int.toNat 0) 0).tdiv 2 = l.getD (Int.toNat 0) 0 / 2 := fun q => Int.tdiv_eq_ediv_of_nonneg q
  have hm : 0 ≤ l.getD (Int.toNat 0) 0 → (l.getD (Int.toNat 0) 0).tmod 2 = l.getD (Int.toNat 0) 0 % 2 := fun q => Int.tmod_eq_emod_of_nonneg q
  have h : 0 ≤ l.getD (Int.toNat 0) 0 → l.getD (Int.toNat 0) 0 ≤ 9 → l.length < unS l := fun a b => Nat.lt_of_not_le fun c => h ⟨a, b, c⟩
  generalize unS l = S at *
  refine spi (fn := Try.f15) _ ?_
  conv => whnf
  repeat' first
    | (refine zn ?_ ?_; (focus ((try simp only [qA]) <;> (try simp only [wA]) <;> omega)); conv => whnf)
    | (refine za (by (try simp only [wA, wL]) <;> omega) ?_; conv => whnf)
    | (refine zk (fun h => ?_) (fun h => ?_) <;> (try simp only [qA] at h) <;> (try simp only [wA] at h) <;> conv => whnf)
    | (refine zg (by (try simp only [wA, wL]) <;> omega) (by (try simp only [wA, wL]) <;> omega) ?_; conv => whnf)
  all_goals first | exact (zu [] []) | (exfalso; have := h (by omega) (by omega); omega)
theorem yhp (l : List Int) (hb : nmB l) (hh : UnH l) (hi : (l.getD 0 0).toNat % 2 = 1) : zr Try.prog 15 0 [.c (.nums .i64 l)] [] 0 (.tup (if zow l then [.agg [.c (.nums .i64 (unP l).keys), .c (.nums .i64 (unP l).kids), .nil], .c (.int .i64 (unS l)), .tt] else [zpV, .c (.int .i64 0), .ff])) [] := by
  obtain ⟨hl, hb⟩ := hb
  have hx := hb (Int.toNat 0)
  have hS : unS l = 2 * ((l.getD (Int.toNat 0) 0).toNat / 2) + 2 + (l.getD (Int.toNat 0) 0).toNat % 2 := rfl
  have hN : unN l = (l.getD (Int.toNat 0) 0).toNat / 2 := rfl
  have q : 0 ≤ l.getD (Int.toNat 0) 0 := hh.h0
  have hd : (l.getD (Int.toNat 0) 0).tdiv 2 = l.getD (Int.toNat 0) 0 / 2 := Int.tdiv_eq_ediv_of_nonneg q
  have hm : (l.getD (Int.toNat 0) 0).tmod 2 = l.getD (Int.toNat 0) 0 % 2 := Int.tmod_eq_emod_of_nonneg q
  have q9 : l.getD (Int.toNat 0) 0 ≤ 9 := hh.h9
  have hi2 : (l.getD (Int.toNat 0) 0).toNat % 2 = 1 := hi
  have hlen := hh.len
  have eK : List.drop (Int.toNat 1) (List.take (1 + (l.getD (Int.toNat 0) 0).tdiv 2).toNat l) = (unP l).keys := by
    unfold unP
    rw [if_pos hi, show (1 + (l.getD (Int.toNat 0) 0).tdiv 2).toNat = unN l + 1 by omega]; rfl
  have eR : List.drop (1 + (l.getD (Int.toNat 0) 0).tdiv 2).toNat (List.take (2 * (l.getD (Int.toNat 0) 0).tdiv 2 + 2 + (l.getD (Int.toNat 0) 0).tmod 2 - 1).toNat l) = (unP l).kids := by
    unfold unP
    rw [if_pos hi, show (1 + (l.getD (Int.toNat 0) 0).tdiv 2).toNat = unN l + 1 by omega, show (2 * (l.getD (Int.toNat 0) 0).tdiv 2 + 2 + (l.getD (Int.toNat 0) 0).tmod 2 - 1).toNat = unS l - 1 by omega]
  have eV : (unP l).vals = [] := by unfold unP; rw [if_pos hi]
  have eS : 2 * (l.getD (Int.toNat 0) 0).tdiv 2 + 2 + (l.getD (Int.toNat 0) 0).tmod 2 = (unS l : Int) := by omega
  have kl : (unP l).keys.length ≤ 10 := by rw [← eK, List.length_drop, List.length_take]; omega
  have cl : (unP l).kids.length ≤ 10 := by rw [← eR, List.length_drop, List.length_take]; omega
  have hcK := zvt (unP l).keys (by omega)
  have hcR := zvt (unP l).kids (by omega)
  have hfp := yhl (unP l) ⟨by omega, by omega, by rw [eV]; exact Nat.zero_le _⟩
  have hpp := yhm (unP l)
  have hsame := zwb hh
  have hok := zjv (l := l)
  have hpl : zin (unP l) = true → (pkF (unP l)).length ≤ 100 := fun q => by
    obtain ⟨z1, z2⟩ := ztf q
    unfold pkF pkB
    simp; omega
  have heq : zin (unP l) = true → zr Try.prog 32 0 [.c (.nums .i64 (pkF (unP l))), .c (.nums .i64 (l.take (unS l)))] [] 0 (.c (.bool (decide (pkF (unP l) = l.take (unS l))))) [] := fun q => yh0 _ _ (by have := hpl q; omega) (by rw [List.length_take]; omega)
  have eP : pgV (unP l) = .agg [.c (.nums .i64 (unP l).keys), .c (.nums .i64 (unP l).kids), .c (.nums .i64 (unP l).vals)] := rfl
  rw [eP, eV] at hfp hpp
  have nl : NLs [.c (.nums .i64 (unP l).keys), .c (.nums .i64 (unP l).kids), .nil] [.c (.nums .i64 (unP l).keys), .c (.nums .i64 (unP l).kids), .c (.nums .i64 [])] := ⟨.refl _, .refl _, .n0, trivial⟩
  replace hfp := z6f (args' := [.agg [.c (.nums .i64 (unP l).keys), .c (.nums .i64 (unP l).kids), .nil]]) (.one (.ag nl)) hfp
  replace hpp := fun q => z6f (args' := [.agg [.c (.nums .i64 (unP l).keys), .c (.nums .i64 (unP l).kids), .nil]]) (.one (.ag nl)) (hpp q)
  clear eP hb hN
  generalize pkF (unP l) = Z at *
  generalize l.getD (unS l - 1) 0 = A1 at *
  generalize z47 (l.take (unS l - 1)) = A2 at *
  generalize zow l = OK at *
  generalize zin (unP l) = FT at *
  generalize (unP l).keys = K at *
  generalize (unP l).kids = R at *
  generalize unS l = S at *
  refine spi (fn := Try.f15) _ ?_
  conv => whnf
  repeat' first
    | (refine zm ?_ ?_; (focus ((try simp only [qA]) <;> (try simp only [wA]) <;> omega)); conv => whnf)
    | (refine za (by (try simp only [wA, wL]) <;> omega) ?_; conv => whnf)
    | (refine zg (by (try simp only [wA, wL]) <;> omega) (by (try simp only [wA, wL]) <;> omega) ?_; conv => whnf)
  rw [eK, eR, eS]
  conv => whnf
  cases FT with
  | false =>
    have : OK = false := by rw [Bool.eq_false_iff]; exact fun q => by have := (hok.1 q).2.1; cases this
    subst this
    repeat' first
      | (refine za (by kernel_rfl) ?_; conv => whnf)
      | (refine zm ?_ ?_; (focus (first | rfl | exact bne_self_eq_false _)); conv => whnf)
      | (refine zn ?_ ?_; (focus ((try simp only [qA]) <;> (try simp only [wA]) <;> omega)); conv => whnf)
      | (refine za (by (try simp only [wA, wL]) <;> omega) ?_; conv => whnf)
      | (refine z8 (hcK) rfl ?_; conv => whnf)
      | (refine z8 (hcR) rfl ?_; conv => whnf)
      | (refine zly (hfp) rfl rfl rfl ?_; conv => whnf)
      | (refine ze ?_; conv => whnf)
    rw [if_neg Bool.false_ne_true]
    exact (zu [] [])
  | true =>
    have hOK : OK = decide (Z = l.take S) := by rw [Bool.eq_iff_iff, hok, decide_eq_true_iff, hsame]; simp [hh]
    subst hOK
    replace hpp := hpp rfl
    replace heq := heq rfl
    replace hpl := hpl rfl
    generalize decide (Z = l.take S) = E at *
    cases E with
    | false =>
      repeat' first
        | (refine za (by kernel_rfl) ?_; conv => whnf)
        | (refine zn ?_ ?_; (focus (first | rfl | exact beq_self_eq_true _)); conv => whnf)
        | (refine zm ?_ ?_; (focus (first | rfl | exact bne_self_eq_false _)); conv => whnf)
        | (refine zn ?_ ?_; (focus ((try simp only [qA]) <;> (try simp only [wA]) <;> omega)); conv => whnf)
        | (refine za (by (try simp only [wA, wL]) <;> omega) ?_; conv => whnf)
        | (refine z8 (hcK) rfl ?_; conv => whnf)
        | (refine z8 (hcR) rfl ?_; conv => whnf)
        | (refine zly (hfp) rfl rfl rfl ?_; conv => whnf)
        | (refine zeb (hpp) rfl rfl rfl rfl rfl ?_; conv => whnf)
        | (refine zly (heq) rfl rfl rfl ?_; conv => whnf)
        | (refine ze ?_; conv => whnf)
      rw [if_neg Bool.false_ne_true]
      exact (zu [] [])
    | true =>
      repeat' first
        | (refine za (by kernel_rfl) ?_; conv => whnf)
        | (refine zn ?_ ?_; (focus (first | rfl | exact beq_self_eq_true _)); conv => whnf)
        | (refine zn ?_ ?_; (focus ((try simp only [qA]) <;> (try simp only [wA]) <;> omega)); conv => whnf)
        | (refine za (by (try simp only [wA, wL]) <;> omega) ?_; conv => whnf)
        | (refine z8 (hcK) rfl ?_; conv => whnf)
        | (refine z8 (hcR) rfl ?_; conv => whnf)
        | (refine zly (hfp) rfl rfl rfl ?_; conv => whnf)
        | (refine zeb (hpp) rfl rfl rfl rfl rfl ?_; conv => whnf)
        | (refine zly (heq) rfl rfl rfl ?_; conv => whnf)
        | (refine ze ?_; conv => whnf)
      rw [if_pos rfl]
      exact (zu [1, 3] [])
def nzV (xs : List Int) : V := match xs with
  | [] => .nil
  | _ :: _ => .c (.nums .i64 xs)
theorem yh4 : ∀ xs : List Int, NL (nzV xs) (.c (.nums .i64 xs))
  | [] => .n0
  | _ :: _ => .refl _
theorem yhn (l : List Int) (hb : nmB l) (hh : UnH l) (hi : (l.getD 0 0).toNat % 2 = 0) : zr Try.prog 15 0 [.c (.nums .i64 l)] [] 0 (.tup (if zow l then [.agg [.c (.nums .i64 (unP l).keys), .nil, nzV (unP l).vals], .c (.int .i64 (unS l)), .tt] else [zpV, .c (.int .i64 0), .ff])) [] := by
  obtain ⟨hl, hb⟩ := hb
  have hx := hb (Int.toNat 0)
  have hS : unS l = 2 * ((l.getD (Int.toNat 0) 0).toNat / 2) + 2 + (l.getD (Int.toNat 0) 0).toNat % 2 := rfl
  have hN : unN l = (l.getD (Int.toNat 0) 0).toNat / 2 := rfl
  have q : 0 ≤ l.getD (Int.toNat 0) 0 := hh.h0
  have hd : (l.getD (Int.toNat 0) 0).tdiv 2 = l.getD (Int.toNat 0) 0 / 2 := Int.tdiv_eq_ediv_of_nonneg q
  have hm : (l.getD (Int.toNat 0) 0).tmod 2 = l.getD (Int.toNat 0) 0 % 2 := Int.tmod_eq_emod_of_nonneg q
  have q9 : l.getD (Int.toNat 0) 0 ≤ 9 := hh.h9
  have hi2 : (l.getD (Int.toNat 0) 0).toNat % 2 = 0 := hi
  have hlen := hh.len
  have eK : List.drop (Int.toNat 1) (List.take (1 + (l.getD (Int.toNat 0) 0).tdiv 2).toNat l) = (unP l).keys := by
    unfold unP
    rw [if_neg (by omega), show (1 + (l.getD (Int.toNat 0) 0).tdiv 2).toNat = unN l + 1 by omega]; rfl
  have eR : List.drop (1 + (l.getD (Int.toNat 0) 0).tdiv 2).toNat (List.take (2 * (l.getD (Int.toNat 0) 0).tdiv 2 + 2 + (l.getD (Int.toNat 0) 0).tmod 2 - 1).toNat l) = (l.take (unS l - 1)).drop (unN l + 1) := by
    rw [show (1 + (l.getD (Int.toNat 0) 0).tdiv 2).toNat = unN l + 1 by omega, show (2 * (l.getD (Int.toNat 0) 0).tdiv 2 + 2 + (l.getD (Int.toNat 0) 0).tmod 2 - 1).toNat = unS l - 1 by omega]
  have eC : (unP l).kids = [] := by unfold unP; rw [if_neg (by omega)]
  have eV : (unP l).vals = ((l.take (unS l - 1)).drop (unN l + 1)).map (· - 1000) := by unfold unP; rw [if_neg (by omega)]
  have eS : 2 * (l.getD (Int.toNat 0) 0).tdiv 2 + 2 + (l.getD (Int.toNat 0) 0).tmod 2 = (unS l : Int) := by omega
  have kl : (unP l).keys.length ≤ 10 := by rw [← eK, List.length_drop, List.length_take]; omega
  have cl : ((l.take (unS l - 1)).drop (unN l + 1)).length ≤ 10 := by rw [← eR, List.length_drop, List.length_take]; omega
  have hcK := zvt (unP l).keys (by omega)
  have hfp := yhl (unP l) ⟨by omega, by rw [eC]; exact Nat.zero_le _, by rw [eV, List.length_map]; omega⟩
  have hpp := yhm (unP l)
  have hsame := zwb hh
  have hok := zjv (l := l)
  have hpl : zin (unP l) = true → (pkF (unP l)).length ≤ 100 := fun q => by
    obtain ⟨z1, z2⟩ := ztf q
    unfold pkF pkB
    simp; omega
  have heq : zin (unP l) = true → zr Try.prog 32 0 [.c (.nums .i64 (pkF (unP l))), .c (.nums .i64 (l.take (unS l)))] [] 0 (.c (.bool (decide (pkF (unP l) = l.take (unS l))))) [] := fun q => yh0 _ _ (by have := hpl q; omega) (by rw [List.length_take]; omega)
  have eP : pgV (unP l) = .agg [.c (.nums .i64 (unP l).keys), .c (.nums .i64 (unP l).kids), .c (.nums .i64 (unP l).vals)] := rfl
  rw [eP, eC, eV] at hfp hpp
  rw [eV]
  have hRb : ∀ k, -1048576 ≤ ((l.take (unS l - 1)).drop (unN l + 1)).getD k 0 ∧ ((l.take (unS l - 1)).drop (unN l + 1)).getD k 0 ≤ 1048576 := fun k => by
    refine z9a (P := fun x => -1048576 ≤ x ∧ x ≤ 1048576) (fun x hx => ?_) (by decide) k
    obtain ⟨i, hi⟩ := List.mem_iff_getElem?.1 (List.mem_of_mem_take (List.mem_of_mem_drop hx))
    have := hb i
    rw [List.getD_eq_getElem?_getD, hi] at this
    exact this
  have nl : NLs [.c (.nums .i64 (unP l).keys), .nil, nzV (((l.take (unS l - 1)).drop (unN l + 1)).map (· - 1000))] [.c (.nums .i64 (unP l).keys), .c (.nums .i64 []), .c (.nums .i64 (((l.take (unS l - 1)).drop (unN l + 1)).map (· - 1000)))] := ⟨.refl _, .n0, yh4 _, trivial⟩
  replace hfp := z6f (args' := [.agg [.c (.nums .i64 (unP l).keys), .nil, nzV (((l.take (unS l - 1)).drop (unN l + 1)).map (· - 1000))]]) (.one (.ag nl)) hfp
  replace hpp := fun q => z6f (args' := [.agg [.c (.nums .i64 (unP l).keys), .nil, nzV (((l.take (unS l - 1)).drop (unN l + 1)).map (· - 1000))]]) (.one (.ag nl)) (hpp q)
  clear nl
  clear eP hb hN
  generalize pkF (unP l) = Z at *
  generalize l.getD (unS l - 1) 0 = A1 at *
  generalize z47 (l.take (unS l - 1)) = A2 at *
  generalize zow l = OK at *
  generalize zin (unP l) = FT at *
  generalize (unP l).keys = K at *
  generalize (l.take (unS l - 1)).drop (unN l + 1) = R at *
  generalize unS l = S at *
  refine spi (fn := Try.f15) _ ?_
  conv => whnf
  repeat' first
    | (refine zm ?_ ?_; (focus ((try simp only [qA]) <;> (try simp only [wA]) <;> omega)); conv => whnf)
    | (refine za (by (try simp only [wA, wL]) <;> omega) ?_; conv => whnf)
    | (refine zg (by (try simp only [wA, wL]) <;> omega) (by (try simp only [wA, wL]) <;> omega) ?_; conv => whnf)
  rw [eK, eR, eS]
  repeat' first
    | (refine zm ?_ ?_; (focus ((try simp only [qA]) <;> (try simp only [wA]) <;> omega)); conv => whnf)
    | (refine za (by (try simp only [wA, wL]) <;> omega) ?_; conv => whnf)
    | (refine z8 (hcK) rfl ?_; conv => whnf)
  refine zd0 (fun (k : Nat) (M : List Int) => k ≤ R.length ∧ M = (R.take k).map (· - 1000)) (fun k M => match k with
    | 0 => ⟨93, 3, [(0, .c (.nums .i64 l)), (2, .ptr 0 0 0 0), (6, .c (.int .i64 S)), (8, .ptr 1 0 0 0), (64, .c (.nums .i64 R)), (65, .c (.int .i64 R.length)), (66, .c (.int .i64 0))], [(0, .box [.nil, .nil, .nil] [] []), (1, .box [.slc 2, .nil, .nil] [] []), (2, .arr (.nums .i64 K))]⟩
    | k + 1 => ⟨93, 4, [(0, .c (.nums .i64 l)), (2, .ptr 0 0 0 0), (6, .c (.int .i64 S)), (8, .ptr 1 0 0 0), (64, .c (.nums .i64 R)), (65, .c (.int .i64 R.length)), (66, .c (.int .i64 (k + 1 : Nat)))], [(0, .box [.nil, .nil, .nil] [] []), (1, .box [.slc 2, .nil, .slc 3] [] []), (2, .arr (.nums .i64 K)), (3, .arr (.nums .i64 M))]⟩) (fun k _ => R.length - k) 0 [] ⟨Nat.zero_le _, rfl⟩ (fun _ _ => Nat.zero_le _) (ydn [] [0, 2, 1]) (fun k M hk => ?_)
  obtain ⟨hk, hM⟩ := hk
  have hx := hRb k
  have hl := congrArg List.length hM
  simp only [List.length_map, List.length_take] at hl
  cases k with
  | zero =>
    by_cases c : 0 < R.length
    · have hx0 := hRb (Int.toNat 0)
      conv => whnf
      repeat' first
        | (refine zn ?_ ?_; (focus ((try simp only [qA]) <;> (try simp only [wA]) <;> omega)); conv => whnf)
        | (refine za (by (try simp only [wA, wL]) <;> omega) ?_; conv => whnf)
        | (refine zg (by (try simp only [wA, wL]) <;> omega) (by (try simp only [wA, wL]) <;> omega) ?_; conv => whnf)
      exact ⟨⟨(1, [] ++ [R.getD 0 0 - 1000]), by omega, by rw [yhr c]; rfl⟩, (ydn [] [0, 1, 2, 4]), by dsimp only; omega⟩
    have hR : R = [] := List.eq_nil_of_length_eq_zero (by omega)
    subst hR
    change _ → zr _ _ _ [.agg [_, _, .nil]] _ _ _ _ at hpp
    change zr _ _ _ [.agg [_, _, .nil]] _ _ _ _ at hfp
    conv => whnf
    cases FT with
    | false =>
      have : OK = false := by rw [Bool.eq_false_iff]; exact fun q => by have := (hok.1 q).2.1; cases this
      subst this
      repeat' first
        | (refine za (by kernel_rfl) ?_; conv => whnf)
        | (refine zm ?_ ?_; (focus (first | rfl | exact bne_self_eq_false _)); conv => whnf)
        | (refine zly (hfp) rfl rfl rfl ?_; conv => whnf)
        | (refine ze ?_; conv => whnf)
      rw [if_neg Bool.false_ne_true]
      exact (zu [] [])
    | true =>
      have hOK : OK = decide (Z = l.take S) := by rw [Bool.eq_iff_iff, hok, decide_eq_true_iff, hsame]; simp [hh]
      subst hOK
      replace hpp := hpp rfl
      replace heq := heq rfl
      replace hpl := hpl rfl
      generalize decide (Z = l.take S) = E at *
      cases E with
      | false =>
        repeat' first
          | (refine za (by kernel_rfl) ?_; conv => whnf)
          | (refine zn ?_ ?_; (focus (first | rfl | exact beq_self_eq_true _)); conv => whnf)
          | (refine zm ?_ ?_; (focus (first | rfl | exact bne_self_eq_false _)); conv => whnf)
          | (refine za (by (try simp only [wA, wL]) <;> omega) ?_; conv => whnf)
          | (refine zly (hfp) rfl rfl rfl ?_; conv => whnf)
          | (refine zeb (hpp) rfl rfl rfl rfl rfl ?_; conv => whnf)
          | (refine zly (heq) rfl rfl rfl ?_; conv => whnf)
          | (refine ze ?_; conv => whnf)
        rw [if_neg Bool.false_ne_true]
        exact (zu [] [])
      | true =>
        repeat' first
          | (refine za (by kernel_rfl) ?_; conv => whnf)
          | (refine zn ?_ ?_; (focus (first | rfl | exact beq_self_eq_true _)); conv => whnf)
          | (refine zm ?_ ?_; (focus (first | rfl | exact bne_self_eq_false _)); conv => whnf)
          | (refine za (by (try simp only [wA, wL]) <;> omega) ?_; conv => whnf)
          | (refine zly (hfp) rfl rfl rfl ?_; conv => whnf)
          | (refine zeb (hpp) rfl rfl rfl rfl rfl ?_; conv => whnf)
          | (refine zly (heq) rfl rfl rfl ?_; conv => whnf)
          | (refine ze ?_; conv => whnf)
        rw [if_pos rfl]
        exact (zu [2] [])
  | succ k =>
    by_cases c : k + 1 < R.length
    · conv => whnf
      repeat' first
        | (refine zn ?_ ?_; (focus ((try simp only [qA]) <;> (try simp only [wA]) <;> omega)); conv => whnf)
        | (refine za (by (try simp only [wA, wL]) <;> omega) ?_; conv => whnf)
        | (refine zg (by (try simp only [wA, wL]) <;> omega) (by (try simp only [wA, wL]) <;> omega) ?_; conv => whnf)
      exact ⟨⟨(k + 1 + 1, M ++ [R.getD (k + 1) 0 - 1000]), by omega, by rw [yhr c, hM]⟩, (ydn [] [0, 1, 2, 3]), by dsimp only; omega⟩
    rw [List.take_of_length_le (by omega)] at hM
    rw [← hM] at hfp hpp ⊢
    have e : nzV M = .c (.nums .i64 M) := by
      cases M with
      | nil => simp at hl; omega
      | cons a b => rfl
    rw [e] at hfp hpp ⊢
    conv => whnf
    cases FT with
    | false =>
      have : OK = false := by rw [Bool.eq_false_iff]; exact fun q => by have := (hok.1 q).2.1; cases this
      subst this
      repeat' first
        | (refine za (by kernel_rfl) ?_; conv => whnf)
        | (refine zm ?_ ?_; (focus (first | rfl | exact bne_self_eq_false _)); conv => whnf)
        | (refine zm ?_ ?_; (focus ((try simp only [qA]) <;> (try simp only [wA]) <;> omega)); conv => whnf)
        | (refine zly (hfp) rfl rfl rfl ?_; conv => whnf)
        | (refine ze ?_; conv => whnf)
      rw [if_neg Bool.false_ne_true]
      exact (zu [] [])
    | true =>
      have hOK : OK = decide (Z = l.take S) := by rw [Bool.eq_iff_iff, hok, decide_eq_true_iff, hsame]; simp [hh]
      subst hOK
      replace hpp := hpp rfl
      replace heq := heq rfl
      replace hpl := hpl rfl
      generalize decide (Z = l.take S) = E at *
      cases E with
      | false =>
        repeat' first
          | (refine za (by kernel_rfl) ?_; conv => whnf)
          | (refine zn ?_ ?_; (focus (first | rfl | exact beq_self_eq_true _)); conv => whnf)
          | (refine zm ?_ ?_; (focus (first | rfl | exact bne_self_eq_false _)); conv => whnf)
          | (refine zm ?_ ?_; (focus ((try simp only [qA]) <;> (try simp only [wA]) <;> omega)); conv => whnf)
          | (refine za (by (try simp only [wA, wL]) <;> omega) ?_; conv => whnf)
          | (refine zly (hfp) rfl rfl rfl ?_; conv => whnf)
          | (refine zeb (hpp) rfl rfl rfl rfl rfl ?_; conv => whnf)
          | (refine zly (heq) rfl rfl rfl ?_; conv => whnf)
          | (refine ze ?_; conv => whnf)
        rw [if_neg Bool.false_ne_true]
        exact (zu [] [])
      | true =>
        repeat' first
          | (refine za (by kernel_rfl) ?_; conv => whnf)
          | (refine zn ?_ ?_; (focus (first | rfl | exact beq_self_eq_true _)); conv => whnf)
          | (refine zm ?_ ?_; (focus ((try simp only [qA]) <;> (try simp only [wA]) <;> omega)); conv => whnf)
          | (refine za (by (try simp only [wA, wL]) <;> omega) ?_; conv => whnf)
          | (refine zly (hfp) rfl rfl rfl ?_; conv => whnf)
          | (refine zeb (hpp) rfl rfl rfl rfl rfl ?_; conv => whnf)
          | (refine zly (heq) rfl rfl rfl ?_; conv => whnf)
          | (refine ze ?_; conv => whnf)
        rw [if_pos rfl]
        exact (zu [2, 3] [])
theorem NL.zp : NL zpV (pgV ⟨[], [], []⟩) := .ag ⟨.n0, .n0, .n0, trivial⟩
theorem yhw (l : List Int) (hb : nmB l) (h : zow l = true) : zr Try.prog 15 0 [.c (.nums .i64 l)] [] 0 (.tup [pgV (unP l), .c (.int .i64 (unS l)), .tt]) [] := by
  have hh := (zjv.1 h).1
  by_cases c : (l.getD 0 0).toNat % 2 = 1
  · have e := yhp l hb hh c
    rw [if_pos h] at e
    refine z8m ?_ e
    refine .tu ⟨.ag ⟨.refl _, .refl _, ?_, trivial⟩, .refl _, .refl _, trivial⟩
    unfold unP
    rw [if_pos c]
    exact .n0
  · have e := yhn l hb hh (by omega)
    rw [if_pos h] at e
    refine z8m ?_ e
    refine .tu ⟨.ag ⟨.refl _, ?_, yh4 _, trivial⟩, .refl _, .refl _, trivial⟩
    unfold unP
    rw [if_neg c]
    exact .n0
theorem yht (l : List Int) (hb : nmB l) (h : zow l = false) : zr Try.prog 15 0 [.c (.nums .i64 l)] [] 0 (.tup [pgV ⟨[], [], []⟩, .c (.int .i64 0), .ff]) [] := by
  refine z8m (res := .tup [zpV, .c (.int .i64 0), .ff]) (.tu ⟨.zp, .refl _, .refl _, trivial⟩) ?_
  by_cases hh : UnH l
  · by_cases c : (l.getD 0 0).toNat % 2 = 1
    · have e := yhp l hb hh c
      rwa [if_neg (by rw [h]; decide)] at e
    · have e := yhn l hb hh (by omega)
      rwa [if_neg (by rw [h]; decide)] at e
  · exact yhv l hb hh
end Go.VL
namespace Go.VL
open Go.Proofs
set_option maxRecDepth 10000
set_option linter.unusedSimpArgs false
set_option linter.unusedVariables false
end Go.VL
