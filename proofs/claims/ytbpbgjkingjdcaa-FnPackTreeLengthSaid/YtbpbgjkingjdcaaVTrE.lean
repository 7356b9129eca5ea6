/- V-logic: TrE -/
import Derived.Test.YtbpbgjkingjdcaaVMA
import Derived.Test.YtbpbgjkingjdcaaVTrD
namespace Go.VL
open Go.Proofs
set_option maxRecDepth 10000
set_option linter.unusedSimpArgs false
set_option linter.unusedVariables false
set_option maxHeartbeats 2000000 in
theorem zay (root : Int) (ps : List Pg) (hp : pB ps) : zr Try.prog 100 0 [trV root ps] [] 0 (.c (.bool (vTree root ps))) [] := by
 have k4 := hp.len
 obtain ⟨V, hV⟩ : ∃ V, vTree root ps = V := ⟨_, rfl⟩
 rw [hV]
 have hb := hg_b (ps := ps) 3 (at_ := root) (n := 1)
 obtain ⟨d, hH⟩ : ∃ d : Nat, hgF ps 3 root 1 = (d : Int) + 1 := ⟨(hgF ps 3 root 1 - 1).toNat, by omega⟩
 have hd : d ≤ 3 := by omega
 have hhv := zxv root ps hp
 obtain ⟨B, hB⟩ : ∃ B, pgF ps root (d + 1) root 0 99 = B := ⟨_, rfl⟩
 have hpf : ∀ z : Int, z = d + 1 → 0 ≤ root → root < ps.length → zr Try.prog 159 0 [trV root ps, .c (.int .i64 root), .c (.int .i64 0), .c (.int .i64 99), .c (.int .i64 z)] [] 0 (.c (.bool B)) [] := fun z hz h1 h2 => by
  have h3 := zx0 root ps hp d root 0 99 z (by omega) hz h1 h2
  rw [hB] at h3; exact h3
 have t1 := @vT_1 root ps V hV
 have t2 := @vT_2 root ps V hV
 have t3 := @vT_3 root ps V hV
 have t4 := @vT_4 root ps V d hV hH
 have t5 := @vT_5 root ps V d hV hH
 have t6 := @vT_6 root ps V d hV hH
 have hwk := fun h1 h2 h3 => zyt root ps hp (d + 1) root (by omega) (zk9 (root := root) (low := 0) (high := 99) (d + 1) (at_ := root) h1 h2 h3)
 have hwb := fun h1 h2 h3 => zg5 (ps := ps) (d + 1) (zk9 (root := root) (low := 0) (high := 99) (d + 1) (at_ := root) h1 h2 h3)
 have hw4 : wkB (d + 1) ≤ 97656 := Nat.le_trans (zfs (show d + 1 ≤ 8 by omega)) (by decide)
 obtain ⟨L, hL⟩ : ∃ L, wkF ps (d + 1) root = L := ⟨_, rfl⟩
 rw [hL] at t5 t6 hwk hwb
 rw [hB] at t4 t6 hwk hwb
 generalize hgF ps 3 root 1 = H at *
 clear hV hL hB
 refine spi (fn := Try.f100) _ ?_
 conv => whnf
 repeat' first
  |(refine za (by kernel_rfl) ?_; conv => whnf)
  |(refine zk (fun h => ?_) (fun h => ?_) <;> (try simp only [qA] at h) <;> (try simp only [wA, wN] at h) <;> conv => whnf)
  |refine zd ?_
  |(refine zg (by (try simp only [wA, wN, wL]) <;> omega) (by (try simp only [wA, wN, wL]) <;> omega) ?_; conv => whnf)
  |(refine zw (zgy _ _ _) rfl rfl ?_; conv => whnf)
  |(refine zw (hhv) rfl rfl ?_; conv => whnf)
  |(refine zw (hpf H hH (by omega) (by omega)) rfl rfl ?_; conv => whnf)
  |(refine z8 (hwk (by omega) (by omega) (by assumption)) rfl ?_; conv => whnf)
  |(refine ze ?_; conv => whnf)
 all_goals first | exact t1 h | exact t2 h | exact t3 (by omega) | exact t4 h | skip
 have hlb := hwb (by omega) (by omega) (by assumption)
 refine zau (fun i : Nat => i ≤ L.length ∧ (L.take i).Nodup) (fun i => ⟨58, 1, [(1, .ptr 0 0 0 0), (3, .c (.nums .i64 L)), (4, .c (.int .i64 i))], [(0, .box [.c (.int .i64 root), .c (.pgs ps)] [] [])]⟩) (fun i => L.length - i) 0 ⟨Nat.zero_le _, by simp⟩ (fun _ => Nat.zero_le _) (z5 [101] [0]) (fun i hi => ?_)
 obtain ⟨hi, hn⟩ := hi
 conv => whnf
 repeat' first
  |(refine za (by kernel_rfl) ?_; conv => whnf)
  |(refine za (by (try simp only [wA, wN, wL]) <;> omega) ?_; conv => whnf)
  |(refine zk (fun h => ?_) (fun h => ?_) <;> (try simp only [qA] at h) <;> (try simp only [wA, wN] at h) <;> conv => whnf)
  |refine zd ?_
  |refine zh ?_
  |(refine zg (by (try simp only [wA, wN, wL]) <;> omega) (by (try simp only [wA, wN, wL]) <;> omega) ?_; conv => whnf)
  |(refine zw (zo5 _ _ (by rw [w7]; omega)) rfl rfl ?_; conv => whnf)
  |(refine ze ?_; conv => whnf)
 ·exact t5 (zzi (by omega) h)
 ·refine ⟨⟨i + 1, ?_⟩, (z5 [] [0]), by dsimp only; omega⟩; (try dsimp only)
  exact ⟨by omega, zwf (by omega) hn h⟩
 ·rw [List.take_of_length_le (by omega)] at hn
  rw [t6 (by assumption) (by assumption) (by omega) (by assumption) hn]
  have e : ((L.length : Int) = (ps.length : Int)) ↔ L.length = ps.length := by omega
  rw [Bool.eq_iff_iff, beq_iff_eq, decide_eq_true_eq]
  exact e
end Go.VL
