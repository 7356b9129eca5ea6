/- V-logic: TrLa -/
import Derived.Test.YtbpbgjkingjdcaaVTrVa
import Derived.Test.YtbpbgjkingjdcaaVTrYb
import Derived.Test.YtbpbgjkingjdcaaVTrZa
import Derived.Test.YtbpbgjkingjdcaaVPE
namespace Go.VL
open Go.Proofs
set_option maxRecDepth 10000
set_option linter.unusedSimpArgs false
set_option linter.unusedVariables false
theorem specPathTo_v (root key : Int) (ps : List Pg) (hp : pB ps) (hv : vTree root ps = true) : Spec Try.prog 53 0 [trV root ps, .c (.int .i64 key)] [] 1 (.slc 0) [(0, .arr (.nums .i64 (ptF ps key (htF root ps) root)))] := by
 have V := vTree_ht hv
 have hvt := validTree_v root ps hp
 rw [hv] at hvt
 obtain ⟨d, hd⟩ : ∃ d, htF root ps = d + 1 := ⟨htF root ps - 1, by have := V.h1; omega⟩
 have hd3 := V.h3
 have hpt := pathTo_v root key ps hp d _ _ _ _ (hd ▸ V.fit) (by omega)
 rw [hd]
 refine spi (fn := Try.f53) _ ?_
 conv => whnf
 repeat' first
  |(refine vif_f ?_ ?_; (focus ((try simp only [qA]) <;> (try simp only [wA]) <;> omega)); conv => whnf)
  |(refine vcall_p (hvt) rfl rfl ?_; conv => whnf)
  |(refine vcall_a (hpt) rfl ?_; conv => whnf)
 exact (vend_j [] [1])
theorem specPathTo_no (root key : Int) (ps : List Pg) (hp : pB ps) (hv : vTree root ps = false) : Spec Try.prog 53 0 [trV root ps, .c (.int .i64 key)] [] 0 .nil [] := by
 have hvt := validTree_v root ps hp
 rw [hv] at hvt
 refine spi (fn := Try.f53) _ ?_
 conv => whnf
 repeat' first | (refine vif_t ?_ ?_; (focus ((try simp only [qA]) <;> (try simp only [wA]) <;> omega)); conv => whnf) | (refine vcall_p (hvt) rfl rfl ?_; conv => whnf)
 all_goals exact (vend_j [] [])
theorem FnPathToKey_v (code : List Int) (hl0 : code.length ≤ 9223372036854775807) (hb : ∀ x ∈ code, 0 ≤ x ∧ x ≤ 255) : Spec Try.prog 7 0 [.c (.nums .u8 code)] [] 0 (.c (.bool true)) [] := by
 refine spi (fn := Try.f7) _ ?_
 conv => whnf
 repeat' first | (refine vif_i (fun h => ?_) (fun h => ?_) <;> (try simp only [qA] at h) <;> (try simp only [wA] at h) <;> conv => whnf) | refine vend_tt ?_
 ·rfl
 refine vcall_x [] [] (DrawPathTo_x code (by omega) (codeOk hb)) ⟨rfl, rfl, rfl, (by repeat first | exact trivial | refine ⟨rfl, ?_⟩), ⟨rfl, rfl, rfl⟩, ?_⟩
 rintro m res hout ⟨root, ps, key, hp, hps, hkb, rfl, rfl, rfl⟩
 refine ⟨⟨rfl, rfl, rfl⟩, ?_⟩
 conv => whnf
 cases g : vTree root ps with
 |false =>
  have h1 := PathTo_no root key ps hp g
  have h2 := specPathTo_no root key ps hp g
  repeat' first
   |(refine vif_t ?_ ?_; (focus ((try simp only [qA]) <;> (try simp only [wA]) <;> omega)); conv => whnf)
   |(refine vif_f ?_ ?_; (focus ((try simp only [qA]) <;> (try simp only [wA]) <;> omega)); conv => whnf)
   |refine vend_b ?_
   |(refine vcall_p (h1) rfl rfl ?_; conv => whnf)
   |(refine vcall_p (h2) rfl rfl ?_; conv => whnf)
   |(refine vcall_p (equalInts_nil) rfl rfl ?_; conv => whnf)
  all_goals rfl
 |true =>
  have h1 := PathTo_v root key ps hp g
  have h2 := specPathTo_v root key ps hp g
  have h3 := LeavesOf_v root ps hp g
  have h4 := PairsOf_v root ps hp g
  have V := vTree_ht g
  have hlen := (treeF g).len
  have hf := V.fit
  obtain ⟨d, hd⟩ : ∃ d, htF root ps = d + 1 := ⟨htF root ps - 1, by have := V.h1; omega⟩
  have hd3 := V.h3
  rw [hd] at h1 h2 h3 hf hd3
  have hW : (ptF ps key (d + 1) root).length = d + 1 := ptF_len
  have hlast : (ptF ps key (d + 1) root).getD d 0 = lfF ps key (d + 1) root := lfF_last
  have hmem := lfF_mem hf (key := key)
  have hoth := lvF_other hf (key := key)
  have hiff := lfF_iff hf (key := key)
  have hlf := lvF_leaf hf
  have hsm := vTree_small g
  have heq := equalInts_same (ptF ps key (d + 1) root) (by omega)
  have hiff' : key ∈ (psF root ps).map Pr.key ↔ key ∈ (pgAt ps (lfF ps key (d + 1) root)).keys := by
   unfold psF; rw [hd]; exact hiff
  have hko := lkeysOf_v (psF root ps) (by omega)
  have hi2 := lisIn_v ((psF root ps).map Pr.key) key (by rw [List.length_map]; omega)
  obtain ⟨hq0, hq1, _, _, _⟩ := hlf _ hmem
  have hi3 := lisIn_v (pgAt ps (lfF ps key (d + 1) root)).keys key (by have := hsm (lfF ps key (d + 1) root); omega)
  clear hiff hf V
  generalize ptF ps key (d + 1) root = W at *
  generalize lfF ps key (d + 1) root = Q at *
  generalize hLV : lvF ps (d + 1) root = L at *
  generalize hPS : psF root ps = PS at *
  repeat' first
   |(refine vif_f ?_ ?_; (focus ((try simp only [qA]) <;> (try simp only [wA]) <;> omega)); conv => whnf)
   |(refine vneed_i (by (try simp only [wA, wL]) <;> omega) ?_; conv => whnf)
   |(refine vint_f (by (try simp only [wA, wL]) <;> omega) (by (try simp only [wA, wL]) <;> omega) ?_; conv => whnf)
   |(refine vcall_a (h1) rfl ?_; conv => whnf)
   |(refine vcall_a (h2) rfl ?_; conv => whnf)
   |(refine vcall_l (heq) rfl rfl rfl ?_; conv => whnf)
  have hl2 : W.getD (((C.nums IntKind.i64 W).len : Int) - 1).toNat 0 = Q := by
   show W.getD ((W.length : Int) - 1).toNat 0 = Q
   rw [show ((W.length : Int) - 1).toNat = d by omega, hlast]
  rw [hl2]
  have hLl : L.length ≤ 97656 := by
   rw [← hLV]
   have hf := (vTree_ht g).fit
   rw [hd] at hf
   have hwl := wk_len _ (hf.wkOk (Nat.le_refl 4))
   have hw4 : wkB (d + 1) ≤ 97656 := Nat.le_trans (wkB_mono (show d + 1 ≤ 8 by omega)) (by decide)
   rw [← lvF_walk hf]
   exact Nat.le_trans (List.length_filter_le _ _) (by omega)
  repeat' (refine vcall_a (h3) rfl ?_; conv => whnf)
  refine vloop1 (fun i : Nat => i ≤ L.length) (fun i => ⟨111, 2, [(3, .ptr 0 0 0 0), (4, .c (.int .i64 key)), (6, .c (.int .i64 Q)), (7, .slc 1), (8, .c (.int .i64 i))], [(0, .box [.c (.int .i64 root), .c (.pgs ps)] [] []), (1, .arr (.nums .i64 L))]⟩) (fun i => L.length - i) 0 (Nat.zero_le _) (fun _ => Nat.zero_le _) (ent_j [] [0, 3]) (fun i hi => ?_)
  by_cases hi2' : i < L.length
  ·obtain ⟨b0, b1, _, _, _⟩ := hlf (L.getD i 0) (getD_mem 0 hi2')
   have hno := hoth (L.getD i 0) (getD_mem 0 hi2')
   have hi4 := lisIn_v (pgAt ps (L.getD i 0)).keys key (by have := hsm (L.getD i 0); omega)
   generalize hCT : (pgAt ps (L.getD i 0)).keys.contains key = CT at *
   dsimp only [pgAt] at hi4
   conv => whnf
   repeat' first
    |(refine vneed_i (by kernel_rfl) ?_; conv => whnf)
    |(refine vif_t ?_ ?_; (focus ((try simp only [qA]) <;> (try simp only [wA]) <;> omega)); conv => whnf)
    |(refine vif_f ?_ ?_; (focus ((try simp only [qA]) <;> (try simp only [wA]) <;> omega)); conv => whnf)
    |(refine vneed_i (by (try simp only [wA, wL]) <;> omega) ?_; conv => whnf)
    |(refine vif_i (fun h => ?_) (fun h => ?_) <;> (try simp only [qA] at h) <;> (try simp only [wA] at h) <;> conv => whnf)
    |refine vend_ff ?_
    |(refine vint_f (by (try simp only [wA, wL]) <;> omega) (by (try simp only [wA, wL]) <;> omega) ?_; conv => whnf)
    |(refine vcalld_p (hi4) rfl rfl ?_; conv => whnf)
    |(refine vpre_no ?_; conv => whnf)
   ·rename_i hne
    exfalso
    exact hno hne (List.contains_iff_mem.1 (hCT.trans h))
   ·refine ⟨⟨i + 1, ?_⟩, (ent_j [] [0, 1]), by dsimp only; omega⟩; (try dsimp only)
    omega
   ·refine ⟨⟨i + 1, ?_⟩, (ent_j [] [0, 1]), by dsimp only; omega⟩; (try dsimp only)
    omega
  ·have hB : (PS.map Pr.key).contains key = (pgAt ps Q).keys.contains key := by
    rw [Bool.eq_iff_iff, List.contains_iff_mem, List.contains_iff_mem]; exact hiff'
   rw [hB] at hi2
   generalize (pgAt ps Q).keys.contains key = B at *
   dsimp only [pgAt] at hi3
   conv => whnf
   repeat' first
    |(refine vneed_i (by kernel_rfl) ?_; conv => whnf)
    |(refine vif_t ?_ ?_; (focus ((try simp only [qA]) <;> (try simp only [wA]) <;> omega)); conv => whnf)
    |(refine vif_f ?_ ?_; (focus ((try simp only [qA]) <;> (try simp only [wA]) <;> omega)); conv => whnf)
    |(refine vneed_i (by (try simp only [wA, wL]) <;> omega) ?_; conv => whnf)
    |(refine vif_i (fun h => ?_) (fun h => ?_) <;> (try simp only [qA] at h) <;> (try simp only [wA] at h) <;> conv => whnf)
    |refine vend_tt ?_
    |(refine vcalld_p (hi3) rfl rfl ?_; conv => whnf)
    |(refine vcalld_a (h4) rfl rfl ?_; conv => whnf)
    |(refine vcalld_n (hko) rfl rfl rfl rfl rfl ?_; conv => whnf)
    |(refine vcalld_l (hi2) rfl rfl rfl ?_; conv => whnf)
    |(refine vpre_no ?_; conv => whnf)
   all_goals first
    |rfl
    |(rename_i a b; rw [a] at b; cases b)
    |(rename_i a b c; rw [a] at b; cases b)
    |(rename_i a b; cases b)
    |(cases B <;> first | rfl | contradiction)
end Go.VL
