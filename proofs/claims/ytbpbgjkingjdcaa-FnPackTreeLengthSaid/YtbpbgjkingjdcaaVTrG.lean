/- V-logic: TrG -/
import Derived.Test.YtbpbgjkingjdcaaVTrF
namespace Go.VL
open Go.Proofs
set_option maxRecDepth 10000
set_option linter.unusedSimpArgs false
set_option linter.unusedVariables false
theorem zg4 (p : Pg) (h : p.keys.length ≤ p.vals.length) (hl : p.keys.length ≤ 4294967296) : zr Try.prog 142 0 [pgV p] [] 1 (.slc 0) [(0, .arr (.prs (zab p)))] := by
 obtain ⟨ks, cs, vs⟩ := p
 dsimp only at h hl
 refine spi (fn := Try.f142) _ ?_
 conv => whnf
 skip
 refine zau (fun i : Nat => i ≤ ks.length) (fun i => ⟨28, 2, [(1, .ptr 0 0 0 0), (3, .slc 1), (4, .c (.int .i64 i))], [(0, .box [.c (.nums .i64 ks), .c (.nums .i64 cs), .c (.nums .i64 vs)] [] []), (1, .arr (.prs ((zab ⟨ks, cs, vs⟩).take i)))]⟩) (fun i => ks.length - i) 0 (Nat.zero_le _) (fun _ => Nat.zero_le _) (z5 [] [0, 1]) (fun i hi => ?_)
 have hz : (zab ⟨ks, cs, vs⟩).length = ks.length := by unfold zab; rw [List.length_zipWith]; exact Nat.min_eq_left h
 conv => whnf
 repeat' first
  |(refine za (by kernel_rfl) ?_; conv => whnf)
  |(refine za (by (try simp only [wA, wN, wL]) <;> omega) ?_; conv => whnf)
  |(refine zk (fun h => ?_) (fun h => ?_) <;> (try simp only [qA] at h) <;> (try simp only [wA, wN] at h) <;> conv => whnf)
  |(refine zg (by (try simp only [wA, wN, wL]) <;> omega) (by (try simp only [wA, wN, wL]) <;> omega) ?_; conv => whnf)
  |(refine zo ?_; conv => whnf)
  |(refine ze ?_; conv => whnf)
 ·refine ⟨⟨i + 1, ?_⟩, (zbd [] [0, 1] ⟨by repeat first | exact trivial | refine ⟨rfl, ?_⟩, ?_, rfl, rfl, rfl, rfl, rfl, rfl, rfl⟩), by dsimp only; omega⟩; (try dsimp only)
  ·omega
  ·refine ⟨rfl, congrArg (fun z => some (O.arr (C.prs z))) ?_, trivial⟩
   exact (zro ⟨ks, cs, vs⟩ (by dsimp only; omega) (by dsimp only; omega)).symm
 ·rw [List.take_of_length_le (by omega)]
  exact (zu [] [1])
theorem z1r (xs : List Pr) (x : Pr) (hl : xs.length ≤ 4294967) : zr Try.prog 177 0 [.c (.prs xs), prV x] [] 1 (.slc 0) [(0, .arr (.prs (zbc xs x)))] := by
 obtain ⟨k, v⟩ := x
 have hb := zvm (xs.map Pr.key) k
 rw [List.length_map] at hb
 refine spi (fn := Try.f177) _ ?_
 conv => whnf
 repeat' first
  |(refine za (by kernel_rfl) ?_; conv => whnf)
  |(refine za (by (try simp only [wA, wN, wL]) <;> omega) ?_; conv => whnf)
  |(refine zk (fun h => ?_) (fun h => ?_) <;> (try simp only [qA] at h) <;> (try simp only [wA, wN] at h) <;> conv => whnf)
  |(refine zg (by (try simp only [wA, wN, wL]) <;> omega) (by (try simp only [wA, wN, wL]) <;> omega) ?_; conv => whnf)
  |(refine zar (zdt _ (by omega)) rfl rfl ?_; conv => whnf)
  |(refine zly (znk _ _ (by rw [w11]; omega)) rfl rfl rfl ?_; conv => whnf)
  |(refine zar (zid _ (by rw [w7]; omega)) rfl rfl ?_; conv => whnf)
  |(refine zo ?_; conv => whnf)
  |(refine ze ?_; conv => whnf)
 all_goals (refine zbg [] [104] ⟨rfl, ?_, rfl, rfl, rfl, rfl, rfl, rfl⟩)
 ·exact ⟨congrArg (fun z => some (O.arr (C.prs z))) (zvy (x := ⟨k, v⟩) (by dsimp only; omega) h), trivial⟩
 ·exact ⟨congrArg (fun z => some (O.arr (C.prs z))) (zqo (x := ⟨k, v⟩) fun c => h c.2), trivial⟩
 ·exact ⟨congrArg (fun z => some (O.arr (C.prs z))) (zqo (x := ⟨k, v⟩) fun c => by dsimp only at c; omega), trivial⟩
theorem zxq (xs : List Pr) (hl : xs.length ≤ 4294967) (hv : zdb xs = true) : zr Try.prog 178 0 [.c (.prs xs)] [] 2 (.tup [.slc 0, .slc 1]) [(0, .arr (.prs (xs.take ((xs.length + 1) / 2)))), (1, .arr (.prs (xs.drop ((xs.length + 1) / 2))))] := by
 have hd : ((xs.length : Int) + 1).tdiv 2 = (((xs.length + 1) / 2 : Nat) : Int) := rfl
 refine spi (fn := Try.f178) _ ?_
 conv => whnf
 repeat' first
  |(refine za (by kernel_rfl) ?_; conv => whnf)
  |(refine za (by (try simp only [wA, wN, wL]) <;> omega) ?_; conv => whnf)
  |(refine zk (fun h => ?_) (fun h => ?_) <;> (try simp only [qA] at h) <;> (try simp only [wA, wN] at h) <;> conv => whnf)
  |(refine zg (by (try simp only [wA, wN, wL]) <;> omega) (by (try simp only [wA, wN, wL]) <;> omega) ?_; conv => whnf)
  |(refine zp (zhe _ (by omega)) rfl rfl ?_; conv => whnf)
  |(refine zar (zid _ (by rw [w7]; omega)) rfl rfl ?_; conv => whnf)
  |(refine zar (zid _ (by rw [w8]; omega)) rfl rfl ?_; conv => whnf)
  |(refine ze ?_; conv => whnf)
 ·rw [hv] at h; cases h
 exact (zu [] [3, 7])
theorem zxb (xs : List Pr) (k : Int) (hl : xs.length ≤ 4294967) (hv : zdb xs = true) (hk : (xs.map Pr.key).contains k = true) : zr Try.prog 188 0 [.c (.prs xs), .c (.int .i64 k)] [] 1 (.tup [.slc 0, .tt]) [(0, .arr (.prs (zbq xs k)))] := by
 obtain ⟨hd, hb, -⟩ := zs7 (List.contains_iff_mem.1 hk) (zln.1 hv).1.asc
 refine spi (fn := Try.f188) _ ?_
 conv => whnf
 repeat' first
  |(refine za (by kernel_rfl) ?_; conv => whnf)
  |(refine za (by (try simp only [wA, wN, wL]) <;> omega) ?_; conv => whnf)
  |(refine zk (fun h => ?_) (fun h => ?_) <;> (try simp only [qA] at h) <;> (try simp only [wA, wN] at h) <;> conv => whnf)
  |(refine zg (by (try simp only [wA, wN, wL]) <;> omega) (by (try simp only [wA, wN, wL]) <;> omega) ?_; conv => whnf)
  |(refine zp (zhe _ (by omega)) rfl rfl ?_; conv => whnf)
  |(refine z8 (zdt _ (by omega)) rfl ?_; conv => whnf)
  |(refine zbo (zo5 _ _ (by rw [w11]; omega)) rfl rfl rfl ?_; conv => whnf)
  |(refine zbo (znk _ _ (by rw [w11]; omega)) rfl rfl rfl ?_; conv => whnf)
  |(refine zar (zid _ (by rw [w7]; omega)) rfl rfl ?_; conv => whnf)
  |(refine zo ?_; conv => whnf)
  |(refine ze ?_; conv => whnf)
 ·rw [hv] at h; cases h
 ·rw [hk] at h; cases h
 ·(refine zbg [] [5] ⟨rfl, ?_, rfl, rfl, rfl, rfl, rfl, rfl⟩)
  exact ⟨congrArg (fun z => some (O.arr (C.prs z))) hd, trivial⟩
end Go.VL
