/- V-logic: TrD -/
import Derived.Test.YtbpbgjkingjdcaaVMA
import Derived.Test.YtbpbgjkingjdcaaVTrC
namespace Go.VL
open Go.Proofs
set_option maxRecDepth 10000
set_option linter.unusedSimpArgs false
set_option linter.unusedVariables false
theorem zxv (root : Int) (ps : List Pg) (hp : pB ps) : zr Try.prog 158 0 [trV root ps] [] 0 (.c (.int .i64 (hgF ps 3 root 1))) [] := by
 have k4 := hp.len
 obtain ⟨V, hV⟩ : ∃ V, hgF ps 3 root 1 = V := ⟨_, rfl⟩
 rw [hV]
 refine spi (fn := Try.f158) _ ?_
 conv => whnf
 refine zk5 (fun (f : Nat) (at_ n : Int) => n + f = 4 ∧ 1 ≤ n ∧ hgF ps f at_ n = V)
  (fun f at_ n => ⟨38, 1, [(1, .ptr 0 0 0 0), (3, .c (.int .i64 n)), (4, .c (.int .i64 at_))], [(0, .box [.c (.int .i64 root), .c (.pgs ps)] [] [])]⟩) (fun f at_ n => f) 3 root 1 ⟨by omega, by omega, hV⟩ (fun _ _ _ => Nat.zero_le _) (z5 [] [0]) (fun f at_ n hi => ?_)
 obtain ⟨hf, hn, hv⟩ := hi
 have k2 := hp.kids at_
 dsimp only [zb] at k2
 conv => whnf
 repeat' first
  |(refine za (by (try simp only [wA, wN, wL]) <;> omega) ?_; conv => whnf)
  |(refine zk (fun h => ?_) (fun h => ?_) <;> (try simp only [qA] at h) <;> (try simp only [wA, wN] at h) <;> conv => whnf)
  |refine zi ?_
  |(refine zg (by (try simp only [wA, wN, wL]) <;> omega) (by (try simp only [wA, wN, wL]) <;> omega) ?_; conv => whnf)
  |(refine zp (zgy _ _ _) rfl rfl ?_; conv => whnf)
 ·obtain ⟨f, rfl⟩ : ∃ f', f = f' + 1 := ⟨f - 1, by omega⟩
  rw [zqp (by assumption) (by omega)] at hv
  refine ⟨⟨(f, (ps.getD at_.toNat ⟨[], [], []⟩).kids.getD 0 0, n + 1), ⟨by dsimp only; omega, by dsimp only; omega, hv⟩⟩, (z5 [] [0]), by dsimp only; omega⟩
 ·obtain ⟨f, rfl⟩ : ∃ f', f = f' + 1 := ⟨f - 1, by omega⟩
  rw [zqm (.inr (by omega))] at hv
  exact hv
 ·obtain ⟨f, rfl⟩ : ∃ f', f = f' + 1 := ⟨f - 1, by omega⟩
  rw [zqm (.inl h)] at hv
  exact hv
 ·obtain rfl : f = 0 := by omega
  exact hv
theorem zyt (root : Int) (ps : List Pg) (hp : pB ps) (d : Nat) : ∀ (at_ : Int), d ≤ 8 → wkOk ps d at_ → zr Try.prog 160 0 [trV root ps, .c (.int .i64 at_)] [] 1 (.slc 0) [(0, .arr (.nums .i64 (wkF ps d at_)))] := by
 induction d with
 |zero => intro at_ _ h; exact h.elim
 |succ d ih =>
  intro at_ hd h
  obtain ⟨h0, h1, h2, h3⟩ := h
  have k4 := hp.len
  have hw : wkB d ≤ 97656 := Nat.le_trans (zfs (show d ≤ 8 by omega)) (by decide)
  obtain ⟨V, hV⟩ : ∃ V, wkF ps (d + 1) at_ = V := ⟨_, rfl⟩
  rw [hV]
  have hV' : at_ :: (ps.getD at_.toNat ⟨[], [], []⟩).kids.flatMap (wkF ps d) = V := by rw [← hV]; rfl
  dsimp only [zb] at h2 h3
  refine spi (fn := Try.f160) _ ?_
  conv => whnf
  refine zau (fun (i : Nat) => i ≤ (ps.getD at_.toNat ⟨[], [], []⟩).kids.length) (fun i => ⟨34, 2, [(1, .c (.int .i64 at_)), (2, .ptr 0 0 0 0), (5, .slc 1), (6, .c (.int .i64 i))], [(0, .box [.c (.int .i64 root), .c (.pgs ps)] [] []), (1, .arr (.nums .i64 (at_ :: ((ps.getD at_.toNat ⟨[], [], []⟩).kids.take i).flatMap (wkF ps d))))]⟩)
   (fun i => (ps.getD at_.toNat ⟨[], [], []⟩).kids.length - i) 0 (Nat.zero_le _) (fun _ => Nat.zero_le _) (z5 [] [0, 1]) (fun i hi => ?_)
  have hfl := z0w (ps := ps) (d := d) (l := (ps.getD at_.toNat ⟨[], [], []⟩).kids.take i) (fun k hk => h3 k (List.mem_of_mem_take hk))
  have hfl2 : ((ps.getD at_.toNat ⟨[], [], []⟩).kids.take i).length * wkB d ≤ 5 * wkB d := Nat.mul_le_mul_right _ (by rw [List.length_take]; omega)
  have hel : ∀ j, j < (ps.getD at_.toNat ⟨[], [], []⟩).kids.length → wkOk ps d ((ps.getD at_.toNat ⟨[], [], []⟩).kids.getD j 0) := fun j hj => by
   have e : (ps.getD at_.toNat ⟨[], [], []⟩).kids.getD j 0 = (ps.getD at_.toNat ⟨[], [], []⟩).kids[j] := by rw [List.getD_eq_getElem?_getD, List.getElem?_eq_getElem hj]; rfl
   rw [e]; exact h3 _ (List.getElem_mem hj)
  conv => whnf
  by_cases hlt : i < (ps.getD at_.toNat ⟨[], [], []⟩).kids.length
  ·have hwl := zg5 d (hel i hlt)
   repeat' first
    |(refine za (by kernel_rfl) ?_; conv => whnf)
    |(refine za (by (try simp only [wA, wN, wL]) <;> omega) ?_; conv => whnf)
    |(refine zk (fun h => ?_) (fun h => ?_) <;> (try simp only [qA] at h) <;> (try simp only [wA, wN] at h) <;> conv => whnf)
    |(refine zg (by (try simp only [wA, wN, wL]) <;> omega) (by (try simp only [wA, wN, wL]) <;> omega) ?_; conv => whnf)
    |(refine zar (ih ((ps.getD at_.toNat ⟨[], [], []⟩).kids.getD i 0) (by omega) (hel i hlt)) rfl rfl ?_; conv => whnf)
    |(refine zo ?_; conv => whnf)
    |(refine ze ?_; conv => whnf)
   ·refine ⟨⟨i + 1, by omega⟩, ?_, by dsimp only; omega⟩
    refine (zbd [] [0, 1] ⟨by repeat first | exact trivial | refine ⟨rfl, ?_⟩, ⟨rfl, ?_, trivial⟩, rfl, rfl, rfl, rfl, rfl, rfl, rfl⟩)
    exact congrArg (fun z => some (O.arr (C.nums .i64 (at_ :: z)))) (zzt (wkF ps d) (ps.getD at_.toNat ⟨[], [], []⟩).kids i hlt).symm
   ·exact absurd hlt (by omega)
  ·rw [List.take_of_length_le (by omega), hV']
   repeat' first
    |(refine za (by (try simp only [wA, wN, wL]) <;> omega) ?_; conv => whnf)
    |(refine zk (fun h => ?_) (fun h => ?_) <;> (try simp only [qA] at h) <;> (try simp only [wA, wN] at h) <;> conv => whnf)
    |(refine ze ?_; conv => whnf)
   ·exfalso; omega
   ·exact (zu [] [1])
end Go.VL
