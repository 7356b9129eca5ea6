/- V-logic: TrFb -/
import Derived.Test.YtbpbgjkingjdcaaVTrFa
namespace Go.VL
open Go.Proofs
set_option maxRecDepth 10000
set_option linter.unusedSimpArgs false
set_option linter.unusedVariables false
theorem zx2 (root : Int) (ps : List Pg) (hp : pB ps) (hv : vTree root ps = true) : zr Try.prog 65 0 [trV root ps] [] 1 (.slc 0) [(0, .arr (.prs (psF root ps)))] := by
 have hvt := zay root ps hp
 have hpo := (zdx hv).po
 rw [hv] at hvt
 refine spi (fn := Try.f65) _ ?_
 conv => whnf
 repeat' first
  |(refine zm ?_ ?_; (focus ((try simp only [qA]) <;> (try simp only [wA]) <;> omega)); conv => whnf)
  |(refine zp (hvt) rfl rfl ?_; conv => whnf)
  |(refine z8 (hpo) rfl ?_; conv => whnf)
 exact (zu [] [1])
theorem zuu (root : Int) (ps : List Pg) (hp : pB ps) (hv : vTree root ps = false) : zr Try.prog 65 0 [trV root ps] [] 0 .nil [] := by
 have hvt := zay root ps hp
 rw [hv] at hvt
 refine spi (fn := Try.f65) _ ?_
 conv => whnf
 repeat' first | (refine zn ?_ ?_; (focus ((try simp only [qA]) <;> (try simp only [wA]) <;> omega)); conv => whnf) | (refine zp (hvt) rfl rfl ?_; conv => whnf)
 all_goals exact (zu [] [])
theorem zzu {root : Int} {ps : List Pg} (hp : pB ps) (hv : vTree root ps = true) : zr Try.prog 102 0 [trV root ps] [] 1 (.slc 0) [(0, .arr (.nums .i64 (lvF ps (htF root ps) root)))] := by
 have V := za0 hv
 obtain ⟨d, hd⟩ : ∃ d, htF root ps = d + 1 := ⟨htF root ps - 1, by have := V.h1; omega⟩
 have h3 := V.h3
 have hf := V.fit
 rw [hd] at hf ⊢
 exact zo3 root ps hp d _ _ _ _ hf (by omega) (Nat.le_refl _)
theorem zqd {root key : Int} {ps : List Pg} (hp : pB ps) (hv : vTree root ps = true) : zr Try.prog 126 0 [trV root ps, .c (.int .i64 key)] [] 1 (.slc 0) [(0, .arr (.nums .i64 (ptF ps key (htF root ps) root)))] := by
 have V := za0 hv
 obtain ⟨d, hd⟩ : ∃ d, htF root ps = d + 1 := ⟨htF root ps - 1, by have := V.h1; omega⟩
 have h3 := V.h3
 have hf := V.fit
 rw [hd] at hf ⊢
 exact zlz root key ps hp d _ _ _ _ hf (by omega)
theorem FillOf_v (root : Int) (ps : List Pg) (hp : pB ps) (hv : vTree root ps = true) : zr Try.prog 32 0 [trV root ps] [] 0 (.c (.int .i64 (ziy root ps))) [] := by
 have hvt := zbi root ps hp
 have hpo := zih root ps hp hv
 have hlo := zlp root ps hp hv
 obtain ⟨b1, b2, b3, b4⟩ := zuj hv (zdx hv).len
 unfold ziy
 have e0 := Int.tdiv_nonneg (a := 100 * ((psF root ps).length : Int)) (b := 4 * ((lvF ps (htF root ps) root).length : Int)) (by omega) (by omega)
 have e1 := Int.tdiv_le_self (a := 100 * ((psF root ps).length : Int)) (4 * ((lvF ps (htF root ps) root).length : Int)) (by omega)
 rw [hv] at hvt
 generalize psF root ps = L at *
 generalize lvF ps (htF root ps) root = M at *
 refine spi (fn := Try.f32) _ ?_
 conv => whnf
 repeat' first
  |(refine za (by kernel_rfl) ?_; conv => whnf)
  |(refine zm ?_ ?_; (focus ((try simp only [qA]) <;> (try simp only [wA]) <;> omega)); conv => whnf)
  |(refine za (by (try simp only [wA, wL]) <;> omega) ?_; conv => whnf)
  |refine zi ?_
  |(refine zg (by (try simp only [wA, wL]) <;> omega) (by (try simp only [wA, wL]) <;> omega) ?_; conv => whnf)
  |(refine zp (hvt) rfl rfl ?_; conv => whnf)
  |(refine zar (hpo) rfl rfl ?_; conv => whnf)
  |(refine zar (hlo) rfl rfl ?_; conv => whnf)
  |(refine ze ?_; conv => whnf)
 rfl
theorem z37 (root : Int) (ps : List Pg) (hp : pB ps) (hv : vTree root ps = true) : zr Try.prog 34 0 [trV root ps] [] 0 (.c (.int .i64 (ziy root ps))) [] := by
 have hvt := zay root ps hp
 have hpo := (zdx hv).po
 have hlo := zzu hp hv
 obtain ⟨b1, b2, b3, b4⟩ := zuj hv (zdx hv).len
 unfold ziy
 have e0 := Int.tdiv_nonneg (a := 100 * ((psF root ps).length : Int)) (b := 4 * ((lvF ps (htF root ps) root).length : Int)) (by omega) (by omega)
 have e1 := Int.tdiv_le_self (a := 100 * ((psF root ps).length : Int)) (4 * ((lvF ps (htF root ps) root).length : Int)) (by omega)
 rw [hv] at hvt
 generalize psF root ps = L at *
 generalize lvF ps (htF root ps) root = M at *
 refine spi (fn := Try.f34) _ ?_
 conv => whnf
 repeat' first
  |(refine za (by kernel_rfl) ?_; conv => whnf)
  |(refine zm ?_ ?_; (focus ((try simp only [qA]) <;> (try simp only [wA]) <;> omega)); conv => whnf)
  |(refine za (by (try simp only [wA, wL]) <;> omega) ?_; conv => whnf)
  |refine zi ?_
  |(refine zg (by (try simp only [wA, wL]) <;> omega) (by (try simp only [wA, wL]) <;> omega) ?_; conv => whnf)
  |(refine zp (hvt) rfl rfl ?_; conv => whnf)
  |(refine zar (hpo) rfl rfl ?_; conv => whnf)
  |(refine zar (hlo) rfl rfl ?_; conv => whnf)
  |(refine ze ?_; conv => whnf)
 rfl
theorem z36 (root : Int) (ps : List Pg) (hp : pB ps) (hv : vTree root ps = false) : zr Try.prog 32 0 [trV root ps] [] 0 (.c (.int .i64 (-1))) [] := by
 have hvt := zbi root ps hp
 rw [hv] at hvt
 refine spi (fn := Try.f32) _ ?_
 conv => whnf
 repeat' first | (refine zn ?_ ?_; (focus ((try simp only [qA]) <;> (try simp only [wA]) <;> omega)); conv => whnf) | refine zi ?_ | (refine zp (hvt) rfl rfl ?_; conv => whnf)
 all_goals rfl
theorem z34 (root : Int) (ps : List Pg) (hp : pB ps) (hv : vTree root ps = false) : zr Try.prog 34 0 [trV root ps] [] 0 (.c (.int .i64 (-1))) [] := by
 have hvt := zay root ps hp
 rw [hv] at hvt
 refine spi (fn := Try.f34) _ ?_
 conv => whnf
 repeat' first | (refine zn ?_ ?_; (focus ((try simp only [qA]) <;> (try simp only [wA]) <;> omega)); conv => whnf) | refine zi ?_ | (refine zp (hvt) rfl rfl ?_; conv => whnf)
 all_goals rfl
abbrev gkV (root : Int) (ps : List Pg) (key : Int) : V := .tup [.c (.int .i64 (zei (psF root ps) key)), .c (.bool (((psF root ps).map Pr.key).contains key))]
structure LfF (root : Int) (ps : List Pg) (key : Int) (d : Nat) : Prop where
 d3 : d < 3
 ht : htF root ps = d + 1
 p0 : 0 ≤ lfF ps key (d + 1) root
 p1 : lfF ps key (d + 1) root < ps.length
 kl : (zb ps (lfF ps key (d + 1) root)).keys.length ≤ 4
 vl : (zb ps (lfF ps key (d + 1) root)).vals.length = (zb ps (lfF ps key (d + 1) root)).keys.length
 kids : (zb ps (lfF ps key (d + 1) root)).kids = []
 row : zdb (zab (zb ps (lfF ps key (d + 1) root))) = true
 val : zei (zab (zb ps (lfF ps key (d + 1) root))) key = zei (psF root ps) key
 has : ((zab (zb ps (lfF ps key (d + 1) root))).map Pr.key).contains key = ((psF root ps).map Pr.key).contains key
 len : (ptF ps key (d + 1) root).length = d + 1
 last : (ptF ps key (d + 1) root).getD d 0 = lfF ps key (d + 1) root
theorem lf_f {root key : Int} {ps : List Pg} (hv : vTree root ps = true) : ∃ d, LfF root ps key d := by
 have V := za0 hv
 obtain ⟨d, hd⟩ : ∃ d, htF root ps = d + 1 := ⟨htF root ps - 1, by have := V.h1; omega⟩
 have h3 := V.h3
 have hf := V.fit
 rw [hd] at hf h3
 obtain ⟨h0, h1, l, r, hl⟩ := zec hf _ (zi7 hf (key := key))
 have hpg := zl6 hv h0 h1
 obtain ⟨r1, r2⟩ := hpg.row hl.kids
 obtain ⟨v1, v2⟩ := zzk hf (key := key)
 have e : psF root ps = prF ps (d + 1) (zb ps root) := by unfold psF; rw [hd]
 exact ⟨d, by omega, hd, h0, h1, hpg.k4, r2, hl.kids, r1, by rw [v1, e], by rw [v2, e], zg1, zlt⟩
theorem zom (root key : Int) (ps : List Pg) (hp : pB ps) (hv : vTree root ps = true) : zr Try.prog 58 0 [trV root ps, .c (.int .i64 key)] [] 0 (gkV root ps key) [] := by
 have hvt := zbi root ps hp
 have hlf := zy9 root key ps hp hv
 obtain ⟨d, F⟩ := lf_f (key := key) hv
 obtain ⟨q1, q2, q3, q4, q5, q6, q7, q8, q9, q10, q11, q12⟩ := F
 rw [q2] at hlf
 have hpl := zmb (zb ps (lfF ps key (d + 1) root)) q6 (by omega)
 have hvi := zyg (zab (zb ps (lfF ps key (d + 1) root))) key (by rw [zby _ q6]; omega) q8
 rw [q9, q10] at hvi
 unfold gkV
 rw [hv] at hvt
 clear q9 q10 q11 q12 q8 q7 q2 hv
 generalize zei (psF root ps) key = VV at *
 generalize ((psF root ps).map Pr.key).contains key = B at *
 generalize lfF ps key (d + 1) root = a at *
 generalize hR : zab (zb ps a) = R at *
 dsimp only [zb] at hpl
 refine spi (fn := Try.f58) _ ?_
 conv => whnf
 repeat' first
  |(refine za (by kernel_rfl) ?_; conv => whnf)
  |(refine zm ?_ ?_; (focus ((try simp only [qA]) <;> (try simp only [wA]) <;> omega)); conv => whnf)
  |(refine za (by (try simp only [wA, wL]) <;> omega) ?_; conv => whnf)
  |(refine zk (fun h => ?_) (fun h => ?_) <;> (try simp only [qA] at h) <;> (try simp only [wA] at h) <;> conv => whnf)
  |(refine zp (hvt) rfl rfl ?_; conv => whnf)
  |(refine zw (hlf) rfl rfl ?_; conv => whnf)
  |(refine zar (hpl) rfl rfl ?_; conv => whnf)
  |(refine zly (hvi) rfl rfl rfl ?_; conv => whnf)
  |(refine ze ?_; conv => whnf)
 all_goals (subst h; exact (zu [] []))
theorem zrq (root key : Int) (ps : List Pg) (hp : pB ps) (hv : vTree root ps = true) : zr Try.prog 77 0 [trV root ps, .c (.int .i64 key)] [] 0 (gkV root ps key) [] := by
 have hvt := zay root ps hp
 have hpt := zqd (key := key) hp hv
 obtain ⟨d, F⟩ := lf_f (key := key) hv
 obtain ⟨q1, q2, q3, q4, q5, q6, q7, q8, q9, q10, q11, q12⟩ := F
 rw [q2] at hpt
 rw [← q12] at q3 q4 q5 q6 q8 q9 q10
 have hpl := zg4 (zb ps ((ptF ps key (d + 1) root).getD d 0)) (by omega) (by omega)
 have hvi := zwj (zab (zb ps ((ptF ps key (d + 1) root).getD d 0))) key (by rw [zby _ q6]; omega) q8
 rw [q9, q10] at hvi
 unfold gkV
 rw [hv] at hvt
 clear q9 q10 q12 q8 q7 q2 hv
 generalize zei (psF root ps) key = VV at *
 generalize ((psF root ps).map Pr.key).contains key = B at *
 generalize ptF ps key (d + 1) root = W at *
 generalize hR : zab (zb ps (W.getD d 0)) = R at *
 have hD : d = ((W.length : Int) - 1).toNat := by omega
 rw [hD] at hpl q3 q4
 dsimp only [zb] at hpl
 clear hR hD
 refine spi (fn := Try.f77) _ ?_
 conv => whnf
 repeat' first
  |(refine za (by kernel_rfl) ?_; conv => whnf)
  |(refine zm ?_ ?_; (focus ((try simp only [qA]) <;> (try simp only [wA]) <;> omega)); conv => whnf)
  |(refine za (by (try simp only [wA, wL]) <;> omega) ?_; conv => whnf)
  |(refine zk (fun h => ?_) (fun h => ?_) <;> (try simp only [qA] at h) <;> (try simp only [wA] at h) <;> conv => whnf)
  |(refine zg (by (try simp only [wA, wL]) <;> omega) (by (try simp only [wA, wL]) <;> omega) ?_; conv => whnf)
  |(refine zp (hvt) rfl rfl ?_; conv => whnf)
  |(refine z8 (hpt) rfl ?_; conv => whnf)
  |(refine zar (hpl) rfl rfl ?_; conv => whnf)
  |(refine zly (hvi) rfl rfl rfl ?_; conv => whnf)
  |(refine ze ?_; conv => whnf)
 all_goals (subst h; exact (zu [] []))
theorem zra (root key : Int) (ps : List Pg) (hp : pB ps) (hv : vTree root ps = false) : zr Try.prog 58 0 [trV root ps, .c (.int .i64 key)] [] 0 (.tup [.c (.int .i64 0), .ff]) [] := by
 have hvt := zbi root ps hp
 rw [hv] at hvt
 refine spi (fn := Try.f58) _ ?_
 conv => whnf
 repeat' first | (refine zn ?_ ?_; (focus ((try simp only [qA]) <;> (try simp only [wA]) <;> omega)); conv => whnf) | (refine zp (hvt) rfl rfl ?_; conv => whnf)
 all_goals exact (zu [] [])
theorem zpe (root key : Int) (ps : List Pg) (hp : pB ps) (hv : vTree root ps = false) : zr Try.prog 77 0 [trV root ps, .c (.int .i64 key)] [] 0 (.tup [.c (.int .i64 0), .ff]) [] := by
 have hvt := zay root ps hp
 rw [hv] at hvt
 refine spi (fn := Try.f77) _ ?_
 conv => whnf
 repeat' first | (refine zn ?_ ?_; (focus ((try simp only [qA]) <;> (try simp only [wA]) <;> omega)); conv => whnf) | (refine zp (hvt) rfl rfl ?_; conv => whnf)
 all_goals exact (zu [] [])
end Go.VL
