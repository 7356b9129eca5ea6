/- V-logic: TrPc -/
import Derived.Test.YtbpbgjkingjdcaaVTrPb
namespace Go.VL
open Go.Proofs
set_option maxRecDepth 10000
set_option linter.unusedSimpArgs false
set_option linter.unusedVariables false
theorem z54 (l : List Int) (hb : nmB l) (h : ¬ UnH l) : zr Try.prog 135 0 [.c (.nums .i64 l)] [] 0 (.tup [zpV, .c (.int .i64 0)]) [] := by
 obtain ⟨hl, hb⟩ := hb
 have hx := hb (Int.toNat 0)
 have hS : unS l = 2 * ((l.getD (Int.toNat 0) 0).toNat / 2) + 2 + (l.getD (Int.toNat 0) 0).toNat % 2 := rfl
 have hd : 0 ≤ l.getD (Int.toNat 0) 0 → (l.getD (Int.toNat 0) 0).tdiv 2 = l.getD (Int.toNat 0) 0 / 2 := fun q => Int.tdiv_eq_ediv_of_nonneg q
 have hm : 0 ≤ l.getD (Int.toNat 0) 0 → (l.getD (Int.toNat 0) 0).tmod 2 = l.getD (Int.toNat 0) 0 % 2 := fun q => Int.tmod_eq_emod_of_nonneg q
 have h : 0 ≤ l.getD (Int.toNat 0) 0 → l.getD (Int.toNat 0) 0 ≤ 9 → l.length < unS l := fun a b => Nat.lt_of_not_le fun c => h ⟨a, b, c⟩
 generalize unS l = S at *
 have hir := zgy (l.getD (Int.toNat 0) 0) 0 9
 refine spi (fn := Try.f135) _ ?_
 conv => whnf
 repeat' first
  |(refine zn ?_ ?_; (focus ((try simp only [qA]) <;> (try simp only [wA]) <;> omega)); conv => whnf)
  |(refine za (by (try simp only [wA, wL]) <;> omega) ?_; conv => whnf)
  |(refine zk (fun h => ?_) (fun h => ?_) <;> (try simp only [qA] at h) <;> (try simp only [wA] at h) <;> conv => whnf)
  |(refine zg (by (try simp only [wA, wL]) <;> omega) (by (try simp only [wA, wL]) <;> omega) ?_; conv => whnf)
  |(refine zp (hir) rfl rfl ?_; conv => whnf)
 all_goals try rename_i q
 all_goals first | exact (zu [] []) | (exfalso; have := h (by omega) (by omega); omega)
theorem z7k (l : List Int) {a b k : Nat} (h : k < ((l.take b).drop a).length) : ((l.take b).drop a).getD k 0 = l.getD (a + k) 0 := by
 rw [List.length_drop, List.length_take] at h
 rw [List.getD_eq_getElem?_getD, List.getElem?_drop, List.getElem?_take, if_pos (by omega), ← List.getD_eq_getElem?_getD]
set_option maxHeartbeats 1000000 in
theorem z57 (l : List Int) (hb : nmB l) (hh : UnH l) : zr Try.prog 135 0 [.c (.nums .i64 l)] [] 0 (.tup (if zow l then [pgV (unP l), .c (.int .i64 (unS l))] else [zpV, .c (.int .i64 0)])) [] := by
 obtain ⟨hl, hb⟩ := hb
 have hx := hb (Int.toNat 0)
 have hS : unS l = 2 * ((l.getD (Int.toNat 0) 0).toNat / 2) + 2 + (l.getD (Int.toNat 0) 0).toNat % 2 := rfl
 have hN : unN l = (l.getD (Int.toNat 0) 0).toNat / 2 := rfl
 have q : 0 ≤ l.getD (Int.toNat 0) 0 := hh.h0
 have hd : (l.getD (Int.toNat 0) 0).tdiv 2 = l.getD (Int.toNat 0) 0 / 2 := Int.tdiv_eq_ediv_of_nonneg q
 have hm : (l.getD (Int.toNat 0) 0).tmod 2 = l.getD (Int.toNat 0) 0 % 2 := Int.tmod_eq_emod_of_nonneg q
 have q9 : l.getD (Int.toNat 0) 0 ≤ 9 := hh.h9
 have hlen := hh.len
 have eK : List.drop (Int.toNat 1) (List.take ((l.getD (Int.toNat 0) 0).tdiv 2 + 1).toNat l) = (l.take (unN l + 1)).drop 1 := by
  rw [show ((l.getD (Int.toNat 0) 0).tdiv 2 + 1).toNat = unN l + 1 by omega]; rfl
 have eS : 2 * (l.getD (Int.toNat 0) 0).tdiv 2 + 2 + (l.getD (Int.toNat 0) 0).tmod 2 = (unS l : Int) := by omega
 have kl : ((l.take (unN l + 1)).drop 1).length ≤ 10 := by rw [List.length_drop, List.length_take]; omega
 have cl : ((l.take (unS l - 1)).drop (unN l + 1)).length = unS l - 1 - (unN l + 1) := by rw [List.length_drop, List.length_take]; omega
 have hg := fun k => z7k l (a := unN l + 1) (b := unS l - 1) (k := k)
 have hcK := zcn ((l.take (unN l + 1)).drop 1) (by omega)
 have hir := zgy (l.getD (Int.toNat 0) 0) 0 9
 have hok := zjv (l := l)
 have hP : unP l = if (l.getD (Int.toNat 0) 0).toNat % 2 = 1 then ⟨(l.take (unN l + 1)).drop 1, (l.take (unS l - 1)).drop (unN l + 1), []⟩ else ⟨(l.take (unN l + 1)).drop 1, [], ((l.take (unS l - 1)).drop (unN l + 1)).map (· - 1000)⟩ := rfl
 have hpb : pgB (unP l) := by
  rw [hP]
  split
  ·exact ⟨by dsimp only; omega, by dsimp only; omega, Nat.zero_le _⟩
  ·exact ⟨by dsimp only; omega, Nat.zero_le _, by rw [List.length_map]; omega⟩
 have hfp := z43 (unP l) hpb
 have hck : zin (unP l) = true → zr Try.prog 168 0 [.c (.nums .i64 (l.take (unS l - 1)))] [] 0 (.c (.int .i64 (z4f (l.take (unS l - 1))))) [] := fun q => z5r _ (by rw [← z75 hh]; exact z5e q)
 have hgS : l.getD ((unS l : Int) - 1).toNat 0 = l.getD (unS l - 1) 0 := by rw [show ((unS l : Int) - 1).toNat = unS l - 1 by omega]
 have htS : List.take ((unS l : Int) - 1).toNat l = l.take (unS l - 1) := by rw [show ((unS l : Int) - 1).toNat = unS l - 1 by omega]
 have eP : pgV (unP l) = .agg [.c (.nums .i64 (unP l).keys), .c (.nums .i64 (unP l).kids), .c (.nums .i64 (unP l).vals)] := rfl
 rw [eP] at hfp ⊢
 generalize z4f (l.take (unS l - 1)) = A2 at *
 generalize l.getD (unS l - 1) 0 = A1 at *
 generalize l.take (unS l - 1) = L1 at *
 generalize zow l = OK at *
 generalize zin (unP l) = FT at *
 generalize (l.take (unN l + 1)).drop 1 = K at *
 generalize L1.drop (unN l + 1) = R at *
 generalize unS l = S at *
 generalize unN l = N at *
 refine spi (fn := Try.f135) _ ?_
 conv => whnf
 repeat' first
  |(refine zm ?_ ?_; (focus ((try simp only [qA]) <;> (try simp only [wA]) <;> omega)); conv => whnf)
  |(refine za (by (try simp only [wA, wL]) <;> omega) ?_; conv => whnf)
  |(refine zg (by (try simp only [wA, wL]) <;> omega) (by (try simp only [wA, wL]) <;> omega) ?_; conv => whnf)
  |(refine zp (hir) rfl rfl ?_; conv => whnf)
 all_goals try (exfalso; rename_i q; omega)
 rw [eK, eS]
 repeat' first | (refine zg (by (try simp only [wA, wL]) <;> omega) (by (try simp only [wA, wL]) <;> omega) ?_; conv => whnf) | (refine zbe (hcK) rfl rfl rfl rfl ?_; conv => whnf)
 rcases (by omega : (l.getD (Int.toNat 0) 0).tmod 2 = 1 ∨ (l.getD (Int.toNat 0) 0).tmod 2 = 0) with hr | hr
 ·skip
  have hQ : unP l = ⟨K, R, []⟩ := by rw [hP, if_pos (by omega)]
  rw [hQ] at hfp ⊢
  refine zd0 (fun (k : Nat) (z : Int × List Int) => k ≤ R.length ∧ z.1 = (l.getD (Int.toNat 0) 0).tdiv 2 + 1 + k ∧ z.2 = R.take k) (fun k z => ⟨95, 5, [(0, .c (.nums .i64 l)), (2, .ptr 0 0 0 0), (5, .c (.int .i64 S)), (6, .ptr 1 0 0 0), (7, .c (.int .i64 z.1))], [(0, .box [.nil, .nil, .nil] [] []), (1, .box [.slc 2, .slc 3, .slc 4] [] []), (2, .arr (.nums .i64 K)), (3, .arr (.nums .i64 z.2)), (4, .arr (.nums .i64 []))]⟩) (fun k _ => R.length - k) 0 ((l.getD (Int.toNat 0) 0).tdiv 2 + 1, []) ⟨Nat.zero_le _, (Int.add_zero _).symm, rfl⟩ (fun _ _ => Nat.zero_le _) (z5 [] [0, 4, 1, 2, 3]) (fun k z hk => ?_)
  obtain ⟨i, M⟩ := z
  obtain ⟨hk, hi, hM⟩ := hk
  dsimp only at hi hM ⊢
  have hiN : i.toNat = N + 1 + k := by omega
  have hx2 := hb i.toNat
  have hml := congrArg List.length hM
  rw [List.length_take] at hml
  by_cases c : k < R.length
  ·conv => whnf
   repeat' first
    |(refine za (by kernel_rfl) ?_; conv => whnf)
    |(refine zn ?_ ?_; (focus ((try simp only [qA]) <;> (try simp only [wA]) <;> omega)); conv => whnf)
    |(refine za (by (try simp only [wA, wL]) <;> omega) ?_; conv => whnf)
    |(refine zg (by (try simp only [wA, wL]) <;> omega) (by (try simp only [wA, wL]) <;> omega) ?_; conv => whnf)
    |(refine zlj ?_; conv => whnf)
    |(refine ze ?_; conv => whnf)
   refine ⟨⟨(k + 1, (i + 1, M ++ ([] ++ [l.getD i.toNat 0]))), by omega, by dsimp only; omega, ?_⟩, (z5 [] [0, 1, 2, 12, 4]), by dsimp only; omega⟩
   dsimp only
   rw [zat 0 c, hM, hiN, hg k c]; rfl
  rw [List.take_of_length_le (by omega)] at hM
  rw [← hM]
  rw [← hM] at hfp
  conv => whnf
  cases FT with
  |false =>
   have : OK = false := by rw [Bool.eq_false_iff]; exact fun q => by have := (hok.1 q).2.1; cases this
   subst this
   rw [if_neg Bool.false_ne_true]
   repeat' first
    |(refine za (by kernel_rfl) ?_; conv => whnf)
    |(refine zm ?_ ?_; (focus (first | rfl | exact bne_self_eq_false _)); conv => whnf)
    |(refine zm ?_ ?_; (focus ((try simp only [qA]) <;> (try simp only [wA]) <;> omega)); conv => whnf)
    |(refine zg (by (try simp only [wA, wL]) <;> omega) (by (try simp only [wA, wL]) <;> omega) ?_; conv => whnf)
    |(refine zly (hfp) rfl rfl rfl ?_; conv => whnf)
    |(refine ze ?_; conv => whnf)
   exact (zu [] [])
  |true =>
   replace hck := hck rfl
   have hOK : OK = decide (A1 = A2) := by rw [Bool.eq_iff_iff, hok, decide_eq_true_iff]; simp [hh]
   subst hOK
   rw [← hgS]
   rw [← htS] at hck
   repeat' first
    |(refine za (by kernel_rfl) ?_; conv => whnf)
    |(refine zn ?_ ?_; (focus (first | rfl | exact beq_self_eq_true _)); conv => whnf)
    |(refine zm ?_ ?_; (focus ((try simp only [qA]) <;> (try simp only [wA]) <;> omega)); conv => whnf)
    |(refine za (by (try simp only [wA, wL]) <;> omega) ?_; conv => whnf)
    |(refine zk (fun h => ?_) (fun h => ?_) <;> (try simp only [qA] at h) <;> (try simp only [wA] at h) <;> conv => whnf)
    |(refine zg (by (try simp only [wA, wL]) <;> omega) (by (try simp only [wA, wL]) <;> omega) ?_; conv => whnf)
    |(refine zly (hfp) rfl rfl rfl ?_; conv => whnf)
    |(refine zw (hck) rfl rfl ?_; conv => whnf)
    |(refine ze ?_; conv => whnf)
   ·rw [if_neg (fun q => h (of_decide_eq_true q))]
    exact (zu [] [])
   ·rw [if_pos (decide_eq_true h)]
    exact (zu [2, 3, 4] [])
 ·skip
  have hQ : unP l = ⟨K, [], R.map (· - 1000)⟩ := by rw [hP, if_neg (by omega)]
  rw [hQ] at hfp ⊢
  refine zd0 (fun (k : Nat) (z : Int × List Int) => k ≤ R.length ∧ z.1 = (l.getD (Int.toNat 0) 0).tdiv 2 + 1 + k ∧ z.2 = (R.take k).map (· - 1000)) (fun k z => ⟨95, 5, [(0, .c (.nums .i64 l)), (2, .ptr 0 0 0 0), (5, .c (.int .i64 S)), (6, .ptr 1 0 0 0), (7, .c (.int .i64 z.1))], [(0, .box [.nil, .nil, .nil] [] []), (1, .box [.slc 2, .slc 3, .slc 4] [] []), (2, .arr (.nums .i64 K)), (3, .arr (.nums .i64 [])), (4, .arr (.nums .i64 z.2))]⟩) (fun k _ => R.length - k) 0 ((l.getD (Int.toNat 0) 0).tdiv 2 + 1, []) ⟨Nat.zero_le _, (Int.add_zero _).symm, rfl⟩ (fun _ _ => Nat.zero_le _) (z5 [] [0, 4, 1, 2, 3]) (fun k z hk => ?_)
  obtain ⟨i, M⟩ := z
  obtain ⟨hk, hi, hM⟩ := hk
  dsimp only at hi hM ⊢
  have hiN : i.toNat = N + 1 + k := by omega
  have hx2 := hb i.toNat
  have hml := congrArg List.length hM
  rw [List.length_map, List.length_take] at hml
  by_cases c : k < R.length
  ·conv => whnf
   repeat' first
    |(refine za (by kernel_rfl) ?_; conv => whnf)
    |(refine zn ?_ ?_; (focus ((try simp only [qA]) <;> (try simp only [wA]) <;> omega)); conv => whnf)
    |(refine zm ?_ ?_; (focus ((try simp only [qA]) <;> (try simp only [wA]) <;> omega)); conv => whnf)
    |(refine za (by (try simp only [wA, wL]) <;> omega) ?_; conv => whnf)
    |(refine zg (by (try simp only [wA, wL]) <;> omega) (by (try simp only [wA, wL]) <;> omega) ?_; conv => whnf)
    |(refine zlj ?_; conv => whnf)
    |(refine ze ?_; conv => whnf)
   refine ⟨⟨(k + 1, (i + 1, M ++ ([] ++ [l.getD i.toNat 0 - 1000]))), by omega, by dsimp only; omega, ?_⟩, (z5 [] [0, 1, 2, 3, 13]), by dsimp only; omega⟩
   dsimp only
   rw [z5i c, hM, hiN, hg k c]; rfl
  rw [List.take_of_length_le (by omega)] at hM
  rw [← hM]
  rw [← hM] at hfp
  conv => whnf
  cases FT with
  |false =>
   have : OK = false := by rw [Bool.eq_false_iff]; exact fun q => by have := (hok.1 q).2.1; cases this
   subst this
   rw [if_neg Bool.false_ne_true]
   repeat' first
    |(refine za (by kernel_rfl) ?_; conv => whnf)
    |(refine zm ?_ ?_; (focus (first | rfl | exact bne_self_eq_false _)); conv => whnf)
    |(refine zm ?_ ?_; (focus ((try simp only [qA]) <;> (try simp only [wA]) <;> omega)); conv => whnf)
    |(refine zg (by (try simp only [wA, wL]) <;> omega) (by (try simp only [wA, wL]) <;> omega) ?_; conv => whnf)
    |(refine zly (hfp) rfl rfl rfl ?_; conv => whnf)
    |(refine ze ?_; conv => whnf)
   exact (zu [] [])
  |true =>
   replace hck := hck rfl
   have hOK : OK = decide (A1 = A2) := by rw [Bool.eq_iff_iff, hok, decide_eq_true_iff]; simp [hh]
   subst hOK
   rw [← hgS]
   rw [← htS] at hck
   repeat' first
    |(refine za (by kernel_rfl) ?_; conv => whnf)
    |(refine zn ?_ ?_; (focus (first | rfl | exact beq_self_eq_true _)); conv => whnf)
    |(refine zm ?_ ?_; (focus ((try simp only [qA]) <;> (try simp only [wA]) <;> omega)); conv => whnf)
    |(refine za (by (try simp only [wA, wL]) <;> omega) ?_; conv => whnf)
    |(refine zk (fun h => ?_) (fun h => ?_) <;> (try simp only [qA] at h) <;> (try simp only [wA] at h) <;> conv => whnf)
    |(refine zg (by (try simp only [wA, wL]) <;> omega) (by (try simp only [wA, wL]) <;> omega) ?_; conv => whnf)
    |(refine zly (hfp) rfl rfl rfl ?_; conv => whnf)
    |(refine zw (hck) rfl rfl ?_; conv => whnf)
    |(refine ze ?_; conv => whnf)
   ·rw [if_neg (fun q => h (of_decide_eq_true q))]
    exact (zu [] [])
   ·rw [if_pos (decide_eq_true h)]
    exact (zu [2, 3, 4] [])
theorem z45 (l : List Int) (hb : nmB l) : zr Try.prog 135 0 [.c (.nums .i64 l)] [] 0 (.tup (if zow l then [pgV (unP l), .c (.int .i64 (unS l))] else [zpV, .c (.int .i64 0)])) [] := by
 by_cases hh : UnH l
 ·exact z57 l hb hh
 ·rw [if_neg (fun q => hh (zjv.1 q).1)]
  exact z54 l hb hh
theorem z53 (l : List Int) (hb : nmB l) (h : zow l = true) : zr Try.prog 61 0 [.c (.nums .i64 l)] [] 0 (.tup [pgV (unP l), .c (.int .i64 (unS l)), .tt]) [] := by
 have e := z45 l hb
 rw [if_pos h] at e
 have hs := zqh l
 have hl := (zjv.1 h).1.len
 have hl2 := hb.1
 refine z4y (res := .tup [pgV (unP l), .c (.int .i64 (unS l)), .c (.bool (decide ((unS l : Int) > 0)))]) ?_ ?_
 ·rw [decide_eq_true (by omega)]
  exact .tu ⟨.refl _, .refl _, .tt, trivial⟩
 generalize unS l = S at *
 refine spi (fn := Try.f61) _ ?_
 conv => whnf
 repeat' (refine zp (e) rfl rfl ?_; conv => whnf)
 exact (zu [] [])
theorem z5u (l : List Int) (hb : nmB l) (h : zow l = false) : zr Try.prog 61 0 [.c (.nums .i64 l)] [] 0 (.tup [pgV ⟨[], [], []⟩, .c (.int .i64 0), .ff]) [] := by
 refine z4y (res := .tup [zpV, .c (.int .i64 0), .ff]) (.tu ⟨.zp, .refl _, .refl _, trivial⟩) ?_
 have e := z45 l hb
 rw [if_neg (by rw [h]; decide)] at e
 refine spi (fn := Try.f61) _ ?_
 conv => whnf
 repeat' (refine zp (e) rfl rfl ?_; conv => whnf)
 exact (zu [] [])
end Go.VL
