/- V-logic: TrHa -/
import Derived.Test.YtbpbgjkingjdcaaVEG
import Derived.Test.YtbpbgjkingjdcaaVTrFb
namespace Go.VL
open Go.Proofs
set_option maxRecDepth 10000
set_option linter.unusedSimpArgs false
set_option linter.unusedVariables false
theorem zvt (xs : List Int) (hl : xs.length ≤ 4294967296) : zr Try.prog 113 0 [.c (.nums .i64 xs)] [] 1 (.slc 0) [(0, .arr (.nums .i64 xs))] := by
 refine zq9 (R := fun m res hout => (m = 1 ∧ res = .slc 0 ∧ hout = [(0, .arr (.nums .i64 xs))]) ∨ (m = 0 ∧ res = .nil ∧ hout = [] ∧ xs = [])) ?_ (by
  rintro m res hout (h | ⟨h1, h2, h3, rfl⟩)
  ·exact .inl h
  ·exact .inr ⟨h1, h2, h3, rfl, rfl⟩)
 refine spx (fn := Try.f113) _ ?_
 conv => whnf
 refine zye (fun h => ?_) ?_
 ·conv => whnf
  skip
  refine za1 0 .nil [] (.inr ⟨rfl, rfl, rfl, List.eq_nil_of_length_eq_zero h⟩) rfl ?_
  exact (zu [] [])
 ·conv => whnf
  repeat' (refine za (by (try simp only [wA, wL]) <;> omega) ?_; conv => whnf)
  refine za1 1 (.slc 0) [(0, .arr (.nums .i64 xs))] (.inl ⟨rfl, rfl, rfl⟩) rfl ?_
  exact (zu [] [0])
theorem zgk (n : Int) : zr Try.prog 139 0 [.c (.int .i64 n)] [] 0 (.c (.bool (decide (0 ≤ n ∧ n ≤ 2)))) [] := by
 refine spi (fn := Try.f139) _ ?_
 conv => whnf
 repeat' first | refine zh ?_ | (refine zp (zgy _ _ _) rfl rfl ?_; conv => whnf)
 rfl
theorem zyj (root a kind : Int) (ps : List Pg) (hp : pB ps) (h0 : 0 ≤ a) (h1 : a < ps.length) (k0 : 0 ≤ kind) (k2 : kind ≤ 2) : zr Try.prog 183 0 [trV root ps, .c (.int .i64 a), .c (.int .i64 kind)] [] 0 (.c (.bool (sfF root ps kind a))) [] := by
 have q1 := hp.keys a
 have q2 := hp.kids a
 obtain ⟨X, hX⟩ : ∃ X, sfF root ps kind a = X := ⟨_, rfl⟩
 rw [hX]
 unfold sfF at hX
 generalize hpg : zb ps a = pg at *
 dsimp only [zb] at hpg
 refine spi (fn := Try.f183) _ ?_
 conv => whnf
 repeat' first
  |(refine za (by (try simp only [wA, wL]) <;> omega) ?_; conv => whnf)
  |(refine zk (fun h => ?_) (fun h => ?_) <;> (try simp only [qA] at h) <;> (try simp only [wA] at h) <;> conv => whnf)
  |refine zc ?_
  |refine zh ?_
 all_goals try rw [hpg] at *
 all_goals subst hX
 all_goals first
  |(rw [if_pos (by assumption)]; refine decide_eq_decide.2 ?_; show (pg.keys.length : Int) < 4 ↔ _; omega)
  |(rw [if_neg (by assumption), if_pos (by assumption), if_pos (by assumption)]; refine decide_eq_true (Or.inl ?_); omega)
  |(rw [if_neg (by assumption), if_pos (by assumption), if_pos (by assumption)]; refine decide_eq_decide.2 ?_; show (pg.keys.length : Int) > 1 ↔ _; omega)
  |(rw [if_neg (by assumption), if_pos (by assumption), if_neg (by assumption)]; refine decide_eq_decide.2 ?_; show (pg.keys.length : Int) > 2 ↔ _; omega)
  |(rw [if_neg (by assumption), if_neg (by assumption)])
  |(rw [if_neg (by omega), if_neg (by omega)]; done)
  |(rw [if_neg (by omega), if_neg (by omega)]; rfl)
theorem sfF_0 (root a : Int) (ps : List Pg) : sfF root ps 0 a = true := rfl
theorem sfF_1 (root a : Int) (ps : List Pg) : sfF root ps 1 a = decide ((zb ps a).keys.length < 4) := rfl
theorem sfF_2 (root a : Int) (ps : List Pg) : sfF root ps 2 a = if a = root then decide ((zb ps a).kids.length = 0 ∨ 1 < (zb ps a).keys.length) else decide (2 < (zb ps a).keys.length) := rfl
theorem zug (root a kind : Int) (ps : List Pg) (hp : pB ps) (hv : vTree root ps = true) (h0 : 0 ≤ a) (h1 : a < ps.length) (k0 : 0 ≤ kind) (k2 : kind ≤ 2) : zr Try.prog 75 0 [trV root ps, .c (.int .i64 a), .c (.int .i64 kind)] [] 0 (.c (.bool (sfF root ps kind a))) [] := by
 have hvt := zbi root ps hp
 rw [hv] at hvt
 have q1 := hp.keys a
 have q2 := hp.kids a
 rcases (by omega : kind = 0 ∨ kind = 1 ∨ kind = 2) with rfl | rfl | rfl
 ·rw [sfF_0]
  refine spi (fn := Try.f75) _ ?_
  conv => whnf
  repeat' first
   |(refine zn ?_ ?_; (focus (first | rfl | exact beq_self_eq_true _)); conv => whnf)
   |(refine zm ?_ ?_; (focus (first | rfl | exact bne_self_eq_false _)); conv => whnf)
   |(refine zm ?_ ?_; (focus ((try simp only [qA]) <;> (try simp only [wA]) <;> omega)); conv => whnf)
   |(refine za (by (try simp only [wA, wL]) <;> omega) ?_; conv => whnf)
   |refine zc ?_
   |(refine zp (hvt) rfl rfl ?_; conv => whnf)
  rfl
 ·rw [sfF_1]
  generalize hpg : zb ps a = pg at *
  dsimp only [zb] at hpg
  refine spi (fn := Try.f75) _ ?_
  conv => whnf
  repeat' first
   |(refine zn ?_ ?_; (focus (first | rfl | exact beq_self_eq_true _)); conv => whnf)
   |(refine zm ?_ ?_; (focus (first | rfl | exact bne_self_eq_false _)); conv => whnf)
   |(refine zm ?_ ?_; (focus ((try simp only [qA]) <;> (try simp only [wA]) <;> omega)); conv => whnf)
   |(refine za (by (try simp only [wA, wL]) <;> omega) ?_; conv => whnf)
   |refine zh ?_
   |(refine zp (hvt) rfl rfl ?_; conv => whnf)
  rw [hpg]
  refine decide_eq_decide.2 ?_
  show (pg.keys.length : Int) < 4 ↔ _
  omega
 ·rw [sfF_2]
  generalize hpg : zb ps a = pg at *
  dsimp only [zb] at hpg
  by_cases c : a = root
  ·rw [if_pos c]
   refine spi (fn := Try.f75) _ ?_
   conv => whnf
   repeat' first
    |(refine zn ?_ ?_; (focus (first | rfl | exact beq_self_eq_true _)); conv => whnf)
    |(refine zm ?_ ?_; (focus (first | rfl | exact bne_self_eq_false _)); conv => whnf)
    |(refine zn ?_ ?_; (focus ((try simp only [qA]) <;> (try simp only [wA]) <;> omega)); conv => whnf)
    |(refine zm ?_ ?_; (focus ((try simp only [qA]) <;> (try simp only [wA]) <;> omega)); conv => whnf)
    |(refine za (by (try simp only [wA, wL]) <;> omega) ?_; conv => whnf)
    |(refine zk (fun h => ?_) (fun h => ?_) <;> (try simp only [qA] at h) <;> (try simp only [wA] at h) <;> conv => whnf)
    |refine zc ?_
    |refine zh ?_
    |(refine zp (hvt) rfl rfl ?_; conv => whnf)
   all_goals rw [hpg] at *
   ·refine (decide_eq_true (Or.inl ?_))
    omega
   ·refine decide_eq_decide.2 ?_
    show (pg.keys.length : Int) > 1 ↔ _
    omega
  ·rw [if_neg c]
   refine spi (fn := Try.f75) _ ?_
   conv => whnf
   repeat' first
    |(refine zn ?_ ?_; (focus (first | rfl | exact beq_self_eq_true _)); conv => whnf)
    |(refine zm ?_ ?_; (focus (first | rfl | exact bne_self_eq_false _)); conv => whnf)
    |(refine zm ?_ ?_; (focus ((try simp only [qA]) <;> (try simp only [wA]) <;> omega)); conv => whnf)
    |(refine za (by (try simp only [wA, wL]) <;> omega) ?_; conv => whnf)
    |refine zh ?_
    |(refine zp (hvt) rfl rfl ?_; conv => whnf)
   rw [hpg]
   refine decide_eq_decide.2 ?_
   show (pg.keys.length : Int) > 2 ↔ _
   omega
end Go.VL
