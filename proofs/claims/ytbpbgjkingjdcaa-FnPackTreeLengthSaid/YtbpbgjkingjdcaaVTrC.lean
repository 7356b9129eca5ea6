/- V-logic: TrC -/
import Derived.Test.YtbpbgjkingjdcaaVMA
import Derived.Test.YtbpbgjkingjdcaaVTrB
namespace Go.VL
open Go.Proofs
set_option maxRecDepth 10000
set_option linter.unusedSimpArgs false
set_option linter.unusedVariables false
set_option maxHeartbeats 2000000 in
theorem zx0 (root : Int) (ps : List Pg) (hp : pB ps) (d : Nat) : ∀ (at_ low high z : Int), d ≤ 1000 → z = d + 1 → 0 ≤ at_ → at_ < ps.length → zr Try.prog 159 0 [trV root ps, .c (.int .i64 at_), .c (.int .i64 low), .c (.int .i64 high), .c (.int .i64 z)] [] 0 (.c (.bool (pgF ps root (d + 1) at_ low high))) [] := by
 induction d with
 |zero =>
  intro at_ low high z hd hz h0 h1
  have k1 := hp.keys at_
  have k2 := hp.kids at_
  have k3 := hp.vals at_
  have k4 := hp.len
  dsimp only [zb] at k1 k2 k3
  obtain ⟨V, hV⟩ : ∃ V, pgF ps root (0 + 1) at_ low high = V := ⟨_, rfl⟩
  rw [hV]
  refine spi (fn := Try.f159) _ ?_
  conv => whnf
  repeat' first
   |(refine za (by (try simp only [wA, wN, wL]) <;> omega) ?_; conv => whnf)
   |(refine zk (fun h => ?_) (fun h => ?_) <;> (try simp only [qA] at h) <;> (try simp only [wA, wN] at h) <;> conv => whnf)
   |refine zd ?_
   |refine zh ?_
   |(refine zg (by (try simp only [wA, wN, wL]) <;> omega) (by (try simp only [wA, wN, wL]) <;> omega) ?_; conv => whnf)
   |(refine zp (zkj _ (by assumption)) rfl rfl ?_; conv => whnf)
   |(refine zp (zqg _ _ _ (by assumption)) rfl rfl ?_; conv => whnf)
  all_goals first
   |exact z1t hV h
   |exact z1s hV (by omega)
   |exact z1u hV h
   |exact z1q hV (by assumption) (by omega)
   |exact pgF_5 hV rfl (by omega)
   |exact pgF_6 hV rfl (by omega)
   |exact (pgF_7 hV rfl (by assumption) (by omega) (by assumption) (by omega) (by omega) (by omega)).symm
   |(exfalso; omega)
 |succ d ih =>
  intro at_ low high z hd hz h0 h1
  have k1 := hp.keys at_
  have k2 := hp.kids at_
  have k3 := hp.vals at_
  have k4 := hp.len
  dsimp only [zb] at k1 k2 k3
  obtain ⟨V, hV⟩ : ∃ V, pgF ps root (d + 1 + 1) at_ low high = V := ⟨_, rfl⟩
  rw [hV]
  refine spi (fn := Try.f159) _ ?_
  conv => whnf
  repeat' first
   |(refine za (by (try simp only [wA, wN, wL]) <;> omega) ?_; conv => whnf)
   |(refine zk (fun h => ?_) (fun h => ?_) <;> (try simp only [qA] at h) <;> (try simp only [wA, wN] at h) <;> conv => whnf)
   |refine zd ?_
   |refine zh ?_
   |(refine zg (by (try simp only [wA, wN, wL]) <;> omega) (by (try simp only [wA, wN, wL]) <;> omega) ?_; conv => whnf)
   |(refine zp (zkj _ (by assumption)) rfl rfl ?_; conv => whnf)
   |(refine zp (zqg _ _ _ (by assumption)) rfl rfl ?_; conv => whnf)
  all_goals first
   |exact z1t hV h
   |exact z1s hV (by omega)
   |exact z1u hV h
   |exact z1q hV (by assumption) (by omega)
   |exact pgF_8 hV (by omega) (by omega)
   |exact pgF_9 hV (by omega) (by omega)
   |exact z3u hV (by omega) (by omega)
   |exact z3r hV (by omega) h
   |(exfalso; omega)
   |skip
  all_goals
   have hfin := z3s hV (by omega) (by assumption) (by omega) (by assumption) (by omega) (by omega) (by omega) (by omega) h
   have hkid : ∀ i, i < (ps.getD at_.toNat ⟨[], [], []⟩).kids.length → 0 ≤ (ps.getD at_.toNat ⟨[], [], []⟩).kids.getD i 0 ∧ (ps.getD at_.toNat ⟨[], [], []⟩).kids.getD i 0 < ps.length := fun i hi => by
    have h9 := of_decide_eq_true (zsz h hi)
    omega
   have hkey := z2r (show za2 (ps.getD at_.toNat ⟨[], [], []⟩).keys = true by assumption)
   have hk5 : (ps.getD at_.toNat ⟨[], [], []⟩).keys.length ≠ 0 := by omega
   have hlk : (ps.getD at_.toNat ⟨[], [], []⟩).kids.length = (ps.getD at_.toNat ⟨[], [], []⟩).keys.length + 1 := by omega
   clear h
   clear hV
   generalize hpg : ps.getD at_.toNat ⟨[], [], []⟩ = pg at *
   refine zau (fun (i : Nat) => i ≤ pg.kids.length ∧ ∀ j, j < i → pgF ps root (d + 1) (pg.kids.getD j 0) (if 0 < j then pg.keys.getD (j - 1) 0 else low) (if j < pg.keys.length then pg.keys.getD j 0 - 1 else high) = true)
    (fun i => ⟨140, 2, [(1, .c (.int .i64 at_)), (2, .c (.int .i64 low)), (3, .c (.int .i64 high)), (4, .c (.int .i64 z)), (5, .ptr 0 0 0 0), (11, .ptr 1 0 0 0), (12, .c (.int .i64 i))], [(0, .box [.c (.int .i64 root), .c (.pgs ps)] [] []), (1, .box [.c (.nums .i64 pg.keys), .c (.nums .i64 pg.kids), .c (.nums .i64 pg.vals)] [] [])]⟩) (fun i => pg.kids.length - i) 0 ⟨Nat.zero_le _, fun j hj => by omega⟩ (fun _ => Nat.zero_le _) (z5 [] [0, 1]) (fun i hi => ?_)
   obtain ⟨hi, hall⟩ := hi
   have k1' : pg.keys.length ≤ 4 := by omega
   have q1 := hkey i
   have q2 := hkey (i - 1)
   conv => whnf
   repeat' first
    |(refine za (by kernel_rfl) ?_; conv => whnf)
    |(refine za (by (try simp only [wA, wN, wL]) <;> omega) ?_; conv => whnf)
    |(refine zk (fun h => ?_) (fun h => ?_) <;> (try simp only [qA] at h) <;> (try simp only [wA, wN] at h) <;> conv => whnf)
    |refine zc ?_
    |refine zd ?_
    |(refine zg (by (try simp only [wA, wN, wL]) <;> omega) (by (try simp only [wA, wN, wL]) <;> omega) ?_; conv => whnf)
    |(refine zw (ih (pg.kids.getD i 0) _ _ (z - 1) (by omega) (by omega) (hkid i (by omega)).1 (hkid i (by omega)).2) rfl rfl ?_; conv => whnf)
    |(refine ze ?_; conv => whnf)
   all_goals first
    |exact hfin.trans (zo0 (i := i) (by omega) (by (try dsimp only); first | (rw [if_pos (by omega : 0 < i), if_pos (by omega : i < pg.keys.length)]; exact h) | (rw [if_pos (by omega : 0 < i), if_neg (by omega : ¬ i < pg.keys.length)]; exact h) | (rw [if_neg (by omega : ¬ 0 < i), if_pos (by omega : i < pg.keys.length)]; exact h)))
    |exact hfin.trans (zqx fun j hj => hall j (by omega))
    |(exfalso; omega)
    |(refine ⟨⟨i + 1, ⟨by omega, fun j hj => ?_⟩⟩, (z5 [] [0, 1]), by dsimp only; omega⟩
      by_cases hji : j = i
      ·subst hji
       first
       |(rw [if_pos (by omega : 0 < j), if_pos (by omega : j < pg.keys.length)]; exact h)
       |(rw [if_pos (by omega : 0 < j), if_neg (by omega : ¬ j < pg.keys.length)]; exact h)
       |(rw [if_neg (by omega : ¬ 0 < j), if_pos (by omega : j < pg.keys.length)]; exact h)
      ·exact hall j (by omega))
end Go.VL
