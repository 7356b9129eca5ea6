/- V-logic: TrLc -/
import Derived.Test.YtbpbgjkingjdcaaVTrZb
import Derived.Test.YtbpbgjkingjdcaaVTrFb
namespace Go.VL
open Go.Proofs
set_option maxRecDepth 10000
set_option linter.unusedSimpArgs false
set_option linter.unusedVariables false
theorem scI_step {lo hi many : Int} {L f : List Pr} {i : Nat} (h : i < L.length) : scI lo hi many (L.drop i) f = if (L.getD i ⟨0, 0⟩).key < lo then scI lo hi many (L.drop (i + 1)) f else if hi ≤ (L.getD i ⟨0, 0⟩).key ∨ many ≤ f.length then f else scI lo hi many (L.drop (i + 1)) (f ++ [L.getD i ⟨0, 0⟩]) := by
 rw [drop_getD ⟨0, 0⟩ h, scI]
theorem ScanKeys_v (root lo hi many : Int) (ps : List Pg) (hp : pB ps) (hv : vTree root ps = true) : Spec Try.prog 78 0 [trV root ps, .c (.int .i64 lo), .c (.int .i64 hi), .c (.int .i64 many)] [] 1 (.slc 0) [(0, .arr (.prs (scI lo hi many (psF root ps) [])))] := by
 have hpo := PairsOf_v root ps hp hv
 have hlen := (treeF hv).len
 generalize psF root ps = L at *
 obtain ⟨R, hR⟩ : ∃ R, scI lo hi many L [] = R := ⟨_, rfl⟩
 rw [hR]
 refine spi (fn := Try.f78) _ ?_
 conv => whnf
 repeat' (refine vcall_a (hpo) rfl ?_; conv => whnf)
 refine vloop2 (fun (i : Nat) (f : List Pr) => i ≤ L.length ∧ f.length ≤ i ∧ scI lo hi many (L.drop i) f = R) (fun i f => ⟨39, 2, [(1, .c (.int .i64 lo)), (2, .c (.int .i64 hi)), (3, .c (.int .i64 many)), (9, .slc 1), (13, .slc 0), (14, .c (.int .i64 L.length)), (15, .c (.int .i64 i))], [(0, .arr (.prs L)), (1, .arr (.prs f))]⟩) (fun i f => L.length - i) 0 [] ⟨Nat.zero_le _, Nat.le_refl _, hR⟩ (fun _ _ => Nat.zero_le _) (ent_g [.nl 9 false (.prs .nil)] [] [1, 2] ?_) ?_
 ·conv => whnf
  exact ⟨by repeat first | exact trivial | refine ⟨rfl, ?_⟩, by repeat first | exact trivial | refine ⟨rfl, ?_⟩, rfl, rfl, rfl, rfl, rfl, rfl, rfl⟩
 intro i f h
 obtain ⟨h1, h2, h3⟩ := h
 by_cases c : i < L.length
 ·rw [scI_step c] at h3
  conv => whnf
  repeat' first
   |(refine vif_t ?_ ?_; (focus ((try simp only [qA]) <;> (try simp only [wA]) <;> omega)); conv => whnf)
   |(refine vneed_i (by (try simp only [wA, wL]) <;> omega) ?_; conv => whnf)
   |(refine vif_i (fun h => ?_) (fun h => ?_) <;> (try simp only [qA] at h) <;> (try simp only [wA] at h) <;> conv => whnf)
   |(refine vint_f (by (try simp only [wA, wL]) <;> omega) (by (try simp only [wA, wL]) <;> omega) ?_; conv => whnf)
  ·rw [if_pos (by omega)] at h3
   refine ⟨⟨(i + 1, f), ?_⟩, (ent_j [] [0, 1]), by dsimp only; omega⟩; (try dsimp only)
   exact ⟨by omega, by omega, h3⟩
  ·rw [if_neg (by omega), if_pos (.inl (by omega))] at h3
   subst h3
   exact (vend_j [] [1])
  ·rw [if_neg (by omega), if_pos (.inr (by omega))] at h3
   subst h3
   exact (vend_j [] [1])
  ·rw [if_neg (by omega), if_neg (by omega)] at h3
   refine ⟨⟨(i + 1, f ++ [L.getD i ⟨0, 0⟩]), ?_⟩, (ent_j [] [0, 1]), by dsimp only; omega⟩; (try dsimp only)
   exact ⟨by omega, by rw [List.length_append]; simp; omega, h3⟩
 ·rw [List.drop_of_length_le (by omega)] at h3
  have h3 : f = R := h3
  subst h3
  conv => whnf
  repeat' (refine vif_f ?_ ?_; (focus ((try simp only [qA]) <;> (try simp only [wA]) <;> omega)); conv => whnf)
  exact (vend_j [] [1])
theorem FnGetKeyScan_v (code : List Int) (hl0 : code.length ≤ 9223372036854775807) (hb : ∀ x ∈ code, 0 ≤ x ∧ x ≤ 255) : Spec Try.prog 18 0 [.c (.nums .u8 code)] [] 0 (.c (.bool true)) [] := by
 refine spi (fn := Try.f18) _ ?_
 conv => whnf
 repeat' first | (refine vif_i (fun h => ?_) (fun h => ?_) <;> (try simp only [qA] at h) <;> (try simp only [wA] at h) <;> conv => whnf) | refine vend_tt ?_
 ·rfl
 refine vcall_x [] [] (DrawGetKey_x code (by omega) (codeOk hb)) ⟨rfl, rfl, rfl, (by repeat first | exact trivial | refine ⟨rfl, ?_⟩), ⟨rfl, rfl, rfl⟩, ?_⟩
 rintro m res hout ⟨root, ps, key, hp, hps, hkb, rfl, rfl, rfl⟩
 refine ⟨⟨rfl, rfl, rfl⟩, ?_⟩
 conv => whnf
 have hvt := ValidTree_v root ps hp
 cases g : vTree root ps with
 |false =>
  have h1 := GetKey_no root key ps hp g
  have h2 := sGetKey_no root key ps hp g
  rw [g] at hvt
  repeat' first
   |(refine vif_t ?_ ?_; (focus (first | rfl | exact beq_self_eq_true _)); conv => whnf)
   |(refine vif_f ?_ ?_; (focus (first | rfl | exact bne_self_eq_false _)); conv => whnf)
   |refine vend_b ?_
   |(refine vcall_p (h1) rfl rfl ?_; conv => whnf)
   |(refine vcall_p (h2) rfl rfl ?_; conv => whnf)
   |(refine vcall_p (hvt) rfl rfl ?_; conv => whnf)
  all_goals rfl
 |true =>
  have h1 := GetKey_v root key ps hp g
  have h2 := sGetKey_v root key ps hp g
  have h3 := ScanKeys_v root key (key + 1) 5 ps hp g
  have hlen := (treeF g).len
  have hsc := scI_one (k := key) (PFit.row (vTree_ht g).fit.2.2.2.2).asc
  change scI key (key + 1) 5 (psF root ps) [] = if key ∈ (psF root ps).map Pr.key then [⟨key, valF (psF root ps) key⟩] else [] at hsc
  rw [hsc] at h3
  rw [g] at hvt
  unfold gkV at h1 h2
  have hBm : ((psF root ps).map Pr.key).contains key = true ↔ key ∈ (psF root ps).map Pr.key := List.contains_iff_mem
  generalize valF (psF root ps) key = VV at *
  generalize hBB : ((psF root ps).map Pr.key).contains key = BB at *
  generalize (psF root ps).map Pr.key = KS at *
  generalize psF root ps = L at *
  cases BB with
  |true =>
   rw [if_pos (hBm.1 rfl)] at h3
   have he := equalPairs_same [⟨key, VV⟩] (by simp)
   repeat' first
    |(refine vif_f ?_ ?_; (focus (first | rfl | exact bne_self_eq_false _)); conv => whnf)
    |refine vend_b ?_
    |(refine vint_f (by (try simp only [wA, wL]) <;> omega) (by (try simp only [wA, wL]) <;> omega) ?_; conv => whnf)
    |(refine vcall_p (h1) rfl rfl ?_; conv => whnf)
    |(refine vcall_p (h2) rfl rfl ?_; conv => whnf)
    |(refine vcall_p (hvt) rfl rfl ?_; conv => whnf)
    |(refine vcall_a (h3) rfl ?_; conv => whnf)
    |(refine vcall_l (he) rfl rfl rfl ?_; conv => whnf)
   all_goals rfl
  |false =>
   rw [if_neg (fun q => by have := hBm.2 q; cases this)] at h3
   repeat' first
    |(refine vif_t ?_ ?_; (focus (first | rfl | exact beq_self_eq_true _)); conv => whnf)
    |(refine vif_f ?_ ?_; (focus (first | rfl | exact bne_self_eq_false _)); conv => whnf)
    |refine vend_b ?_
    |(refine vint_f (by (try simp only [wA, wL]) <;> omega) (by (try simp only [wA, wL]) <;> omega) ?_; conv => whnf)
    |(refine vcall_p (h1) rfl rfl ?_; conv => whnf)
    |(refine vcall_p (h2) rfl rfl ?_; conv => whnf)
    |(refine vcall_p (hvt) rfl rfl ?_; conv => whnf)
    |(refine vcall_a (h3) rfl ?_; conv => whnf)
   all_goals rfl
theorem FnPairsOf_v (code : List Int) (hl0 : code.length ≤ 9223372036854775807) (hb : ∀ x ∈ code, 0 ≤ x ∧ x ≤ 255) : Spec Try.prog 11 0 [.c (.nums .u8 code)] [] 0 (.c (.bool true)) [] := by
 refine spi (fn := Try.f11) _ ?_
 conv => whnf
 repeat' first | (refine vif_i (fun h => ?_) (fun h => ?_) <;> (try simp only [qA] at h) <;> (try simp only [wA] at h) <;> conv => whnf) | refine vend_tt ?_
 ·rfl
 refine vcall_x [] [] (DrawPairsOf_x code (by omega) (codeOk hb)) ⟨rfl, rfl, rfl, (by repeat first | exact trivial | refine ⟨rfl, ?_⟩), ⟨rfl, rfl, rfl⟩, ?_⟩
 rintro m res hout ⟨root, ps, hp, hps, rfl, rfl, rfl⟩
 refine ⟨⟨rfl, rfl, rfl⟩, ?_⟩
 conv => whnf
 have hvt := ValidTree_v root ps hp
 cases g : vTree root ps with
 |false =>
  have h1 := PairsOf_no root ps hp g
  have h2 := sPairsOf_no root ps hp g
  rw [g] at hvt
  repeat' first
   |(refine vif_t ?_ ?_; (focus (first | rfl | exact beq_self_eq_true _)); conv => whnf)
   |(refine vif_f ?_ ?_; (focus (first | rfl | exact bne_self_eq_false _)); conv => whnf)
   |refine vend_b ?_
   |(refine vcall_p (h1) rfl rfl ?_; conv => whnf)
   |(refine vcall_p (h2) rfl rfl ?_; conv => whnf)
   |(refine vcall_p (hvt) rfl rfl ?_; conv => whnf)
   |(refine vcall_p (equalPairs_nil) rfl rfl ?_; conv => whnf)
  all_goals rfl
 |true =>
  have h1 := PairsOf_v root ps hp g
  have h2 := sPairsOf_v root ps hp g
  have h3 := fun key => GetKey_v root key ps hp g
  have hlen := (treeF g).len
  have hrow := PFit.row (vTree_ht g).fit.2.2.2.2
  change RowOk (psF root ps) 0 99 at hrow
  have hvk : vKeys ((psF root ps).map Pr.key) = true := vKeys_iff.2 ⟨hrow.asc, fun k hk => by obtain ⟨y, hy, rfl⟩ := List.mem_map.1 hk; exact hrow.rng y hy⟩
  have hval := fun (y : Pr) (hy : y ∈ psF root ps) => valF_mem hrow.asc hy
  have hin := fun (y : Pr) (hy : y ∈ psF root ps) => List.contains_iff_mem.2 (List.mem_map.2 ⟨y, hy, rfl⟩ : y.key ∈ (psF root ps).map Pr.key)
  have he := equalPairs_same (psF root ps) (by omega)
  have hko := lkeysOf_v (psF root ps) (by omega)
  have hvk2 := ValidKeys_v ((psF root ps).map Pr.key) (by rw [List.length_map]; omega)
  rw [hvk] at hvk2
  rw [g] at hvt
  unfold gkV at h3
  clear hrow hvk
  generalize psF root ps = L at *
  repeat' first
   |(refine vif_f ?_ ?_; (focus (first | rfl | exact bne_self_eq_false _)); conv => whnf)
   |(refine vcall_a (h1) rfl ?_; conv => whnf)
   |(refine vcall_a (h2) rfl ?_; conv => whnf)
   |(refine vcall_l (he) rfl rfl rfl ?_; conv => whnf)
   |(refine vcall_p (hvt) rfl rfl ?_; conv => whnf)
  refine vloop1 (fun i : Nat => i ≤ L.length) (fun i => ⟨59, 2, [(3, .ptr 0 0 0 0), (4, .slc 1), (5, .c (.int .i64 i))], [(0, .box [.c (.int .i64 root), .c (.pgs ps)] [] []), (1, .arr (.prs L))]⟩) (fun i => L.length - i) 0 (Nat.zero_le _) (fun _ => Nat.zero_le _) (ent_j [] [0, 1]) (fun i hi => ?_)
  by_cases c : i < L.length
  ·have hm := getD_mem ⟨0, 0⟩ c
   have h3 := h3 (L.getD i ⟨0, 0⟩).key
   rw [hval _ hm, hin _ hm] at h3
   conv => whnf
   repeat' first
    |(refine vneed_i (by kernel_rfl) ?_; conv => whnf)
    |(refine vif_t ?_ ?_; (focus (first | rfl | exact beq_self_eq_true _)); conv => whnf)
    |(refine vif_f ?_ ?_; (focus (first | rfl | exact bne_self_eq_false _)); conv => whnf)
    |(refine vif_t ?_ ?_; (focus ((try simp only [qA]) <;> (try simp only [wA]) <;> omega)); conv => whnf)
    |(refine vneed_i (by (try simp only [wA, wL]) <;> omega) ?_; conv => whnf)
    |(refine vint_f (by (try simp only [wA, wL]) <;> omega) (by (try simp only [wA, wL]) <;> omega) ?_; conv => whnf)
    |(refine vcalld_p (h3) rfl rfl ?_; conv => whnf)
    |(refine vpre_no ?_; conv => whnf)
   refine ⟨⟨i + 1, ?_⟩, (ent_j [] [0, 1]), by dsimp only; omega⟩; (try dsimp only)
   omega
  ·conv => whnf
   repeat' first
    |(refine vif_f ?_ ?_; (focus ((try simp only [qA]) <;> (try simp only [wA]) <;> omega)); conv => whnf)
    |refine vend_b ?_
    |(refine vcall_n (hko) rfl rfl rfl rfl ?_; conv => whnf)
    |(refine vcall_l (hvk2) rfl rfl rfl ?_; conv => whnf)
   all_goals rfl
end Go.VL
