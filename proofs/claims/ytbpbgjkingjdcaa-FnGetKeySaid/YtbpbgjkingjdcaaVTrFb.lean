/- V-logic: TrFb -/
import Derived.Test.YtbpbgjkingjdcaaVTrFa
namespace Go.VL
open Go.Proofs
set_option maxRecDepth 10000
set_option linter.unusedSimpArgs false
set_option linter.unusedVariables false
theorem sPairsOf_v (root : Int) (ps : List Pg) (hp : pB ps) (hv : vTree root ps = true) : Spec Try.prog 65 0 [trV root ps] [] 1 (.slc 0) [(0, .arr (.prs (psF root ps)))] := by
 have hvt := validTree_v root ps hp
 have hpo := (treeF hv).po
 rw [hv] at hvt
 refine spi (fn := Try.f65) _ ?_
 conv => whnf
 repeat' first
  |(refine vif_f ?_ ?_; (focus ((try simp only [qA]) <;> (try simp only [wA]) <;> omega)); conv => whnf)
  |(refine vcall_p (hvt) rfl rfl ?_; conv => whnf)
  |(refine vcall_a (hpo) rfl ?_; conv => whnf)
 exact (vend_j [] [1])
theorem sPairsOf_no (root : Int) (ps : List Pg) (hp : pB ps) (hv : vTree root ps = false) : Spec Try.prog 65 0 [trV root ps] [] 0 .nil [] := by
 have hvt := validTree_v root ps hp
 rw [hv] at hvt
 refine spi (fn := Try.f65) _ ?_
 conv => whnf
 repeat' first | (refine vif_t ?_ ?_; (focus ((try simp only [qA]) <;> (try simp only [wA]) <;> omega)); conv => whnf) | (refine vcall_p (hvt) rfl rfl ?_; conv => whnf)
 all_goals exact (vend_j [] [])
theorem sleaves_v {root : Int} {ps : List Pg} (hp : pB ps) (hv : vTree root ps = true) : Spec Try.prog 102 0 [trV root ps] [] 1 (.slc 0) [(0, .arr (.nums .i64 (lvF ps (htF root ps) root)))] := by
 have V := vTree_ht hv
 obtain ⟨d, hd⟩ : ∃ d, htF root ps = d + 1 := ⟨htF root ps - 1, by have := V.h1; omega⟩
 have h3 := V.h3
 have hf := V.fit
 rw [hd] at hf ⊢
 exact leavesOf_v root ps hp d _ _ _ _ hf (by omega) (Nat.le_refl _)
theorem spath_v {root key : Int} {ps : List Pg} (hp : pB ps) (hv : vTree root ps = true) : Spec Try.prog 126 0 [trV root ps, .c (.int .i64 key)] [] 1 (.slc 0) [(0, .arr (.nums .i64 (ptF ps key (htF root ps) root)))] := by
 have V := vTree_ht hv
 obtain ⟨d, hd⟩ : ∃ d, htF root ps = d + 1 := ⟨htF root ps - 1, by have := V.h1; omega⟩
 have h3 := V.h3
 have hf := V.fit
 rw [hd] at hf ⊢
 exact pathTo_v root key ps hp d _ _ _ _ hf (by omega)
theorem FillOf_v (root : Int) (ps : List Pg) (hp : pB ps) (hv : vTree root ps = true) : Spec Try.prog 32 0 [trV root ps] [] 0 (.c (.int .i64 (fillF root ps))) [] := by
 have hvt := ValidTree_v root ps hp
 have hpo := PairsOf_v root ps hp hv
 have hlo := LeavesOf_v root ps hp hv
 obtain ⟨b1, b2, b3, b4⟩ := vTree_lv hv (treeF hv).len
 unfold fillF
 have e0 := Int.tdiv_nonneg (a := 100 * ((psF root ps).length : Int)) (b := 4 * ((lvF ps (htF root ps) root).length : Int)) (by omega) (by omega)
 have e1 := Int.tdiv_le_self (a := 100 * ((psF root ps).length : Int)) (4 * ((lvF ps (htF root ps) root).length : Int)) (by omega)
 rw [hv] at hvt
 generalize psF root ps = L at *
 generalize lvF ps (htF root ps) root = M at *
 refine spi (fn := Try.f32) _ ?_
 conv => whnf
 repeat' first
  |(refine vneed_i (by kernel_rfl) ?_; conv => whnf)
  |(refine vif_f ?_ ?_; (focus ((try simp only [qA]) <;> (try simp only [wA]) <;> omega)); conv => whnf)
  |(refine vneed_i (by (try simp only [wA, wL]) <;> omega) ?_; conv => whnf)
  |refine vend_n ?_
  |(refine vint_f (by (try simp only [wA, wL]) <;> omega) (by (try simp only [wA, wL]) <;> omega) ?_; conv => whnf)
  |(refine vcall_p (hvt) rfl rfl ?_; conv => whnf)
  |(refine vcalld_a (hpo) rfl rfl ?_; conv => whnf)
  |(refine vcalld_a (hlo) rfl rfl ?_; conv => whnf)
  |(refine vpre_no ?_; conv => whnf)
 rfl
theorem sFillOf_v (root : Int) (ps : List Pg) (hp : pB ps) (hv : vTree root ps = true) : Spec Try.prog 34 0 [trV root ps] [] 0 (.c (.int .i64 (fillF root ps))) [] := by
 have hvt := validTree_v root ps hp
 have hpo := (treeF hv).po
 have hlo := sleaves_v hp hv
 obtain ⟨b1, b2, b3, b4⟩ := vTree_lv hv (treeF hv).len
 unfold fillF
 have e0 := Int.tdiv_nonneg (a := 100 * ((psF root ps).length : Int)) (b := 4 * ((lvF ps (htF root ps) root).length : Int)) (by omega) (by omega)
 have e1 := Int.tdiv_le_self (a := 100 * ((psF root ps).length : Int)) (4 * ((lvF ps (htF root ps) root).length : Int)) (by omega)
 rw [hv] at hvt
 generalize psF root ps = L at *
 generalize lvF ps (htF root ps) root = M at *
 refine spi (fn := Try.f34) _ ?_
 conv => whnf
 repeat' first
  |(refine vneed_i (by kernel_rfl) ?_; conv => whnf)
  |(refine vif_f ?_ ?_; (focus ((try simp only [qA]) <;> (try simp only [wA]) <;> omega)); conv => whnf)
  |(refine vneed_i (by (try simp only [wA, wL]) <;> omega) ?_; conv => whnf)
  |refine vend_n ?_
  |(refine vint_f (by (try simp only [wA, wL]) <;> omega) (by (try simp only [wA, wL]) <;> omega) ?_; conv => whnf)
  |(refine vcall_p (hvt) rfl rfl ?_; conv => whnf)
  |(refine vcalld_a (hpo) rfl rfl ?_; conv => whnf)
  |(refine vcalld_a (hlo) rfl rfl ?_; conv => whnf)
  |(refine vpre_no ?_; conv => whnf)
 rfl
theorem FillOf_no (root : Int) (ps : List Pg) (hp : pB ps) (hv : vTree root ps = false) : Spec Try.prog 32 0 [trV root ps] [] 0 (.c (.int .i64 (-1))) [] := by
 have hvt := ValidTree_v root ps hp
 rw [hv] at hvt
 refine spi (fn := Try.f32) _ ?_
 conv => whnf
 repeat' first | (refine vif_t ?_ ?_; (focus ((try simp only [qA]) <;> (try simp only [wA]) <;> omega)); conv => whnf) | refine vend_n ?_ | (refine vcall_p (hvt) rfl rfl ?_; conv => whnf)
 all_goals rfl
theorem sFillOf_no (root : Int) (ps : List Pg) (hp : pB ps) (hv : vTree root ps = false) : Spec Try.prog 34 0 [trV root ps] [] 0 (.c (.int .i64 (-1))) [] := by
 have hvt := validTree_v root ps hp
 rw [hv] at hvt
 refine spi (fn := Try.f34) _ ?_
 conv => whnf
 repeat' first | (refine vif_t ?_ ?_; (focus ((try simp only [qA]) <;> (try simp only [wA]) <;> omega)); conv => whnf) | refine vend_n ?_ | (refine vcall_p (hvt) rfl rfl ?_; conv => whnf)
 all_goals rfl
abbrev gkV (root : Int) (ps : List Pg) (key : Int) : V := .tup [.c (.int .i64 (valF (psF root ps) key)), .c (.bool (((psF root ps).map Pr.key).contains key))]
structure LfF (root : Int) (ps : List Pg) (key : Int) (d : Nat) : Prop where
 d3 : d < 3
 ht : htF root ps = d + 1
 p0 : 0 ≤ lfF ps key (d + 1) root
 p1 : lfF ps key (d + 1) root < ps.length
 kl : (pgAt ps (lfF ps key (d + 1) root)).keys.length ≤ 4
 vl : (pgAt ps (lfF ps key (d + 1) root)).vals.length = (pgAt ps (lfF ps key (d + 1) root)).keys.length
 kids : (pgAt ps (lfF ps key (d + 1) root)).kids = []
 row : vRow (rowF (pgAt ps (lfF ps key (d + 1) root))) = true
 val : valF (rowF (pgAt ps (lfF ps key (d + 1) root))) key = valF (psF root ps) key
 has : ((rowF (pgAt ps (lfF ps key (d + 1) root))).map Pr.key).contains key = ((psF root ps).map Pr.key).contains key
 len : (ptF ps key (d + 1) root).length = d + 1
 last : (ptF ps key (d + 1) root).getD d 0 = lfF ps key (d + 1) root
theorem lf_f {root key : Int} {ps : List Pg} (hv : vTree root ps = true) : ∃ d, LfF root ps key d := by
 have V := vTree_ht hv
 obtain ⟨d, hd⟩ : ∃ d, htF root ps = d + 1 := ⟨htF root ps - 1, by have := V.h1; omega⟩
 have h3 := V.h3
 have hf := V.fit
 rw [hd] at hf h3
 obtain ⟨h0, h1, l, r, hl⟩ := lvF_leaf hf _ (lfF_mem hf (key := key))
 have hpg := vTree_page hv h0 h1
 obtain ⟨r1, r2⟩ := hpg.row hl.kids
 obtain ⟨v1, v2⟩ := valF_leaf hf (key := key)
 have e : psF root ps = prF ps (d + 1) (pgAt ps root) := by unfold psF; rw [hd]
 exact ⟨d, by omega, hd, h0, h1, hpg.k4, r2, hl.kids, r1, by rw [v1, e], by rw [v2, e], ptF_len, lfF_last⟩
theorem GetKey_v (root key : Int) (ps : List Pg) (hp : pB ps) (hv : vTree root ps = true) : Spec Try.prog 58 0 [trV root ps, .c (.int .i64 key)] [] 0 (gkV root ps key) [] := by
 have hvt := ValidTree_v root ps hp
 have hlf := leafFor_v root key ps hp hv
 obtain ⟨d, F⟩ := lf_f (key := key) hv
 obtain ⟨q1, q2, q3, q4, q5, q6, q7, q8, q9, q10, q11, q12⟩ := F
 rw [q2] at hlf
 have hpl := pairsOfLeaf_v (pgAt ps (lfF ps key (d + 1) root)) q6 (by omega)
 have hvi := ValueIn_v (rowF (pgAt ps (lfF ps key (d + 1) root))) key (by rw [rowF_len _ q6]; omega) q8
 rw [q9, q10] at hvi
 unfold gkV
 rw [hv] at hvt
 clear q9 q10 q11 q12 q8 q7 q2 hv
 generalize valF (psF root ps) key = VV at *
 generalize ((psF root ps).map Pr.key).contains key = B at *
 generalize lfF ps key (d + 1) root = a at *
 generalize hR : rowF (pgAt ps a) = R at *
 dsimp only [pgAt] at hpl
 refine spi (fn := Try.f58) _ ?_
 conv => whnf
 repeat' first
  |(refine vneed_i (by kernel_rfl) ?_; conv => whnf)
  |(refine vif_f ?_ ?_; (focus ((try simp only [qA]) <;> (try simp only [wA]) <;> omega)); conv => whnf)
  |(refine vneed_i (by (try simp only [wA, wL]) <;> omega) ?_; conv => whnf)
  |(refine vif_i (fun h => ?_) (fun h => ?_) <;> (try simp only [qA] at h) <;> (try simp only [wA] at h) <;> conv => whnf)
  |(refine vcall_p (hvt) rfl rfl ?_; conv => whnf)
  |(refine vcalld_p (hlf) rfl rfl ?_; conv => whnf)
  |(refine vcalld_a (hpl) rfl rfl ?_; conv => whnf)
  |(refine vcalld_l (hvi) rfl rfl rfl ?_; conv => whnf)
  |(refine vpre_no ?_; conv => whnf)
 all_goals (subst h; exact (vend_j [] []))
theorem sGetKey_v (root key : Int) (ps : List Pg) (hp : pB ps) (hv : vTree root ps = true) : Spec Try.prog 77 0 [trV root ps, .c (.int .i64 key)] [] 0 (gkV root ps key) [] := by
 have hvt := validTree_v root ps hp
 have hpt := spath_v (key := key) hp hv
 obtain ⟨d, F⟩ := lf_f (key := key) hv
 obtain ⟨q1, q2, q3, q4, q5, q6, q7, q8, q9, q10, q11, q12⟩ := F
 rw [q2] at hpt
 rw [← q12] at q3 q4 q5 q6 q8 q9 q10
 have hpl := rowOf_v (pgAt ps ((ptF ps key (d + 1) root).getD d 0)) (by omega) (by omega)
 have hvi := sValueIn_v (rowF (pgAt ps ((ptF ps key (d + 1) root).getD d 0))) key (by rw [rowF_len _ q6]; omega) q8
 rw [q9, q10] at hvi
 unfold gkV
 rw [hv] at hvt
 clear q9 q10 q12 q8 q7 q2 hv
 generalize valF (psF root ps) key = VV at *
 generalize ((psF root ps).map Pr.key).contains key = B at *
 generalize ptF ps key (d + 1) root = W at *
 generalize hR : rowF (pgAt ps (W.getD d 0)) = R at *
 have hD : d = ((W.length : Int) - 1).toNat := by omega
 rw [hD] at hpl q3 q4
 dsimp only [pgAt] at hpl
 clear hR hD
 refine spi (fn := Try.f77) _ ?_
 conv => whnf
 repeat' first
  |(refine vneed_i (by kernel_rfl) ?_; conv => whnf)
  |(refine vif_f ?_ ?_; (focus ((try simp only [qA]) <;> (try simp only [wA]) <;> omega)); conv => whnf)
  |(refine vneed_i (by (try simp only [wA, wL]) <;> omega) ?_; conv => whnf)
  |(refine vif_i (fun h => ?_) (fun h => ?_) <;> (try simp only [qA] at h) <;> (try simp only [wA] at h) <;> conv => whnf)
  |(refine vint_f (by (try simp only [wA, wL]) <;> omega) (by (try simp only [wA, wL]) <;> omega) ?_; conv => whnf)
  |(refine vcall_p (hvt) rfl rfl ?_; conv => whnf)
  |(refine vcall_a (hpt) rfl ?_; conv => whnf)
  |(refine vcalld_a (hpl) rfl rfl ?_; conv => whnf)
  |(refine vcalld_l (hvi) rfl rfl rfl ?_; conv => whnf)
  |(refine vpre_no ?_; conv => whnf)
 all_goals (subst h; exact (vend_j [] []))
theorem GetKey_no (root key : Int) (ps : List Pg) (hp : pB ps) (hv : vTree root ps = false) : Spec Try.prog 58 0 [trV root ps, .c (.int .i64 key)] [] 0 (.tup [.c (.int .i64 0), .ff]) [] := by
 have hvt := ValidTree_v root ps hp
 rw [hv] at hvt
 refine spi (fn := Try.f58) _ ?_
 conv => whnf
 repeat' first | (refine vif_t ?_ ?_; (focus ((try simp only [qA]) <;> (try simp only [wA]) <;> omega)); conv => whnf) | (refine vcall_p (hvt) rfl rfl ?_; conv => whnf)
 all_goals exact (vend_j [] [])
theorem sGetKey_no (root key : Int) (ps : List Pg) (hp : pB ps) (hv : vTree root ps = false) : Spec Try.prog 77 0 [trV root ps, .c (.int .i64 key)] [] 0 (.tup [.c (.int .i64 0), .ff]) [] := by
 have hvt := validTree_v root ps hp
 rw [hv] at hvt
 refine spi (fn := Try.f77) _ ?_
 conv => whnf
 repeat' first | (refine vif_t ?_ ?_; (focus ((try simp only [qA]) <;> (try simp only [wA]) <;> omega)); conv => whnf) | (refine vcall_p (hvt) rfl rfl ?_; conv => whnf)
 all_goals exact (vend_j [] [])
end Go.VL
