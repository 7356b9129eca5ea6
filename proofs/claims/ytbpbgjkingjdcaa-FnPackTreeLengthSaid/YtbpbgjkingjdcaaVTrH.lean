/- V-logic: TrH -/
import Derived.Test.YtbpbgjkingjdcaaVTrG
namespace Go.VL
open Go.Proofs
set_option maxRecDepth 10000
set_option linter.unusedSimpArgs false
set_option linter.unusedVariables false
theorem zll (p : Pg) (h1 : p.keys.length ≤ 4294967296) (h2 : p.kids.length ≤ 4294967296) (h3 : p.vals.length ≤ 4294967296) : zr Try.prog 197 0 [pgV p] [] 0 (pgV p) [] := by
 refine spi (fn := Try.f197) _ ?_
 conv => whnf
 repeat' first
  |(refine za (by kernel_rfl) ?_; conv => whnf)
  |(refine zar (zcn _ (by assumption)) rfl rfl ?_; conv => whnf)
  |(refine ze ?_; conv => whnf)
 (refine zbg [4, 7, 10] [] ?_; (conv => whnf); exact ⟨rfl, by repeat first | exact trivial | refine ⟨rfl, ?_⟩, rfl, rfl, rfl, rfl, rfl, rfl⟩)
theorem zfz (xs : List Pr) (hl : xs.length ≤ 4294967296) : zr Try.prog 172 0 [.c (.prs xs)] [] 0 (pgV (zae xs)) [] := by
 refine spi (fn := Try.f172) _ ?_
 conv => whnf
 repeat' (refine z8 (zdt _ (by assumption)) rfl ?_; conv => whnf)
 refine zau (fun i : Nat => i ≤ xs.length) (fun i => ⟨27, 3, [(0, .c (.prs xs)), (2, .ptr 0 0 0 0), (3, .ptr 1 0 0 0), (4, .c (.int .i64 i))], [(0, .box [.nil, .nil, .nil] [] []), (1, .box [.c (.nums .i64 (xs.map Pr.key)), .c (.nums .i64 []), .slc 2] [] []), (2, .arr (.nums .i64 ((xs.take i).map Pr.value)))]⟩) (fun i => xs.length - i) 0 (Nat.zero_le _) (fun _ => Nat.zero_le _) (z5 [1, 2] [0, 4, 3]) (fun i hi => ?_)
 conv => whnf
 repeat' first
  |(refine za (by kernel_rfl) ?_; conv => whnf)
  |(refine za (by (try simp only [wA, wN, wL]) <;> omega) ?_; conv => whnf)
  |(refine zk (fun h => ?_) (fun h => ?_) <;> (try simp only [qA] at h) <;> (try simp only [wA, wN] at h) <;> conv => whnf)
  |(refine zg (by (try simp only [wA, wN, wL]) <;> omega) (by (try simp only [wA, wN, wL]) <;> omega) ?_; conv => whnf)
  |(refine zo ?_; conv => whnf)
  |(refine ze ?_; conv => whnf)
 ·refine ⟨⟨i + 1, ?_⟩, (zbd [] [0, 1, 2] ⟨by repeat first | exact trivial | refine ⟨rfl, ?_⟩, ?_, rfl, rfl, rfl, rfl, rfl, rfl, rfl⟩), by dsimp only; omega⟩; (try dsimp only)
  ·omega
  ·exact ⟨rfl, rfl, congrArg (fun z => some (O.arr (C.nums .i64 z))) (zoq Pr.value ⟨0, 0⟩ (by omega)), trivial⟩
 ·rw [List.take_of_length_le (by omega)]
  (refine zbg [2] [] ?_; (conv => whnf); exact ⟨rfl, by repeat first | exact trivial | refine ⟨rfl, ?_⟩, rfl, rfl, rfl, rfl, rfl, rfl⟩)
theorem zb6 (x : Pg) : zr Try.prog 173 0 [inV x] [] 0 (pgV ⟨x.keys, x.kids, []⟩) [] := by
 refine spi (fn := Try.f173) _ ?_
 conv => whnf
 skip
 (refine zbg [2] [] ?_; (conv => whnf); exact ⟨rfl, by repeat first | exact trivial | refine ⟨rfl, ?_⟩, rfl, rfl, rfl, rfl, rfl, rfl⟩)
theorem ze2 (x : Pg) : zr Try.prog 167 0 [pgV x] [] 0 (inV x) [] := by
 refine spi (fn := Try.f167) _ ?_
 conv => whnf
 skip
 exact (zu [] [])
theorem zp1 (root : Int) (ps : List Pg) (hp : pB ps) : zr Try.prog 157 0 [trV root ps] [] 1 (.agg [.c (.int .i64 root), .slc 0]) [(0, .arr (.pgs ps))] := by
 have k4 := hp.len
 refine spi (fn := Try.f157) _ ?_
 conv => whnf
 repeat' (refine zo ?_; conv => whnf)
 refine zau (fun i : Nat => i ≤ ps.length) (fun i => ⟨28, 4, [(1, .ptr 0 0 0 0), (2, .ptr 1 0 0 0), (3, .ptr 2 0 0 0), (4, .c (.int .i64 i))], [(0, .box [.c (.int .i64 root), .c (.pgs ps)] [] []), (1, .box [.c (.int .i64 0), .nil] [] []), (2, .box [.c (.int .i64 root), .slc 3] [] []), (3, .arr (.pgs (ps.take i)))]⟩) (fun i => ps.length - i) 0 (Nat.zero_le _) (fun _ => Nat.zero_le _) (z5 [] [0, 1, 3, 2]) (fun i hi => ?_)
 have k1 := hp.keys i
 have k2 := hp.kids i
 have k3 := hp.vals i
 dsimp only [zb] at k1 k2 k3
 conv => whnf
 repeat' first
  |(refine za (by kernel_rfl) ?_; conv => whnf)
  |(refine za (by (try simp only [wA, wN, wL]) <;> omega) ?_; conv => whnf)
  |(refine zk (fun h => ?_) (fun h => ?_) <;> (try simp only [qA] at h) <;> (try simp only [wA, wN] at h) <;> conv => whnf)
  |(refine zg (by (try simp only [wA, wN, wL]) <;> omega) (by (try simp only [wA, wN, wL]) <;> omega) ?_; conv => whnf)
  |(refine zw (zll (ps.getD i ⟨[], [], []⟩) k1 k2 k3) rfl rfl ?_; conv => whnf)
  |(refine zo ?_; conv => whnf)
  |(refine ze ?_; conv => whnf)
 ·refine ⟨⟨i + 1, ?_⟩, (zbd [] [0, 1, 2, 3] ⟨by repeat first | exact trivial | refine ⟨rfl, ?_⟩, ?_, rfl, rfl, rfl, rfl, rfl, rfl, rfl⟩), by dsimp only; omega⟩; (try dsimp only)
  ·omega
  ·exact ⟨rfl, rfl, rfl, congrArg (fun z => some (O.arr (C.pgs z))) (zat (⟨[], [], []⟩ : Pg) (by omega)).symm, trivial⟩
 ·rw [List.take_of_length_le (by omega)]
  exact (zu [] [3])
theorem zt5 (x : Pg) (place : Nat) (key kid : Int) (h1 : place ≤ x.keys.length) (h2 : place + 1 ≤ x.kids.length) (h3 : x.keys.length ≤ 1000) (h4 : x.kids.length ≤ 1000) : zr Try.prog 180 0 [inV x, .c (.int .i64 place), .c (.int .i64 key), .c (.int .i64 kid)] [] 0 (inV (zfu x place key kid)) [] := by
 have e : inV (zfu x place key kid) = .agg [.c (.nums .i64 (x.keys.take place ++ ([] ++ [key]) ++ x.keys.drop place)), .c (.nums .i64 (x.kids.take (place + 1) ++ ([] ++ [kid]) ++ x.kids.drop (place + 1)))] := by simp [zfu]
 rw [e]
 refine spi (fn := Try.f180) _ ?_
 conv => whnf
 repeat' first
  |(refine za (by kernel_rfl) ?_; conv => whnf)
  |(refine za (by (try simp only [wA, wN, wL]) <;> omega) ?_; conv => whnf)
  |(refine zg (by (try simp only [wA, wN, wL]) <;> omega) (by (try simp only [wA, wN, wL]) <;> omega) ?_; conv => whnf)
  |(refine zlj ?_; conv => whnf)
  |(refine z8 (zcn _ (by rw [w7]; omega)) rfl ?_; conv => whnf)
  |(refine ze ?_; conv => whnf)
 (refine zbg [11, 18] [] ?_; (conv => whnf); exact ⟨rfl, by repeat first | exact trivial | refine ⟨rfl, ?_⟩, rfl, rfl, rfl, rfl, rfl, rfl⟩)
theorem zsj (x : Pg) (place : Nat) (h0 : 1 ≤ place) (h1 : place ≤ x.keys.length) (h2 : place + 1 ≤ x.kids.length) (h3 : x.keys.length ≤ 1000) (h4 : x.kids.length ≤ 1000) : zr Try.prog 206 0 [inV x, .c (.int .i64 place)] [] 0 (inV (zf9 x place)) [] := by
 obtain ⟨p, rfl⟩ : ∃ p, place = p + 1 := ⟨place - 1, by omega⟩
 have e : ((p + 1 : Nat) : Int) - 1 = p := by omega
 have e2 : (((p + 1 : Nat) : Int) - 1).toNat = p + 1 - 1 := by omega
 refine spi (fn := Try.f206) _ ?_
 conv => whnf
 repeat' first
  |(refine za (by kernel_rfl) ?_; conv => whnf)
  |(refine za (by (try simp only [wA, wN, wL]) <;> omega) ?_; conv => whnf)
  |(refine zg (by (try simp only [wA, wN, wL]) <;> omega) (by (try simp only [wA, wN, wL]) <;> omega) ?_; conv => whnf)
  |(refine zar (zcn _ (by rw [w7]; omega)) rfl rfl ?_; conv => whnf)
  |(refine zo ?_; conv => whnf)
  |(refine ze ?_; conv => whnf)
 refine zbg [7, 106] [] ?_
 conv => whnf
 refine ⟨?_, trivial, rfl, rfl, rfl, rfl, rfl, rfl⟩
 exact congrArg (fun n => V.agg [.c (.nums .i64 (x.keys.take n ++ x.keys.drop (p + 1))), .c (.nums .i64 (x.kids.take (p + 1) ++ x.kids.drop (p + 1 + 1)))]) e2
theorem zmh (x : Pg) (h1 : 1 ≤ x.keys.length) (h2 : x.kids.length = x.keys.length + 1) (h3 : x.keys.length ≤ 1000) : zr Try.prog 179 0 [inV x] [] 0 (.tup [inV ⟨x.keys.take (x.keys.length / 2), x.kids.take (x.keys.length / 2 + 1), []⟩, .c (.int .i64 (x.keys.getD (x.keys.length / 2) 0)), inV ⟨x.keys.drop (x.keys.length / 2 + 1), x.kids.drop (x.keys.length / 2 + 1), []⟩]) [] := by
 have hd : (x.keys.length : Int).tdiv 2 = ((x.keys.length / 2 : Nat) : Int) := rfl
 refine spi (fn := Try.f179) _ ?_
 conv => whnf
 repeat' first
  |(refine za (by kernel_rfl) ?_; conv => whnf)
  |(refine za (by (try simp only [wA, wN, wL]) <;> omega) ?_; conv => whnf)
  |(refine zg (by (try simp only [wA, wN, wL]) <;> omega) (by (try simp only [wA, wN, wL]) <;> omega) ?_; conv => whnf)
  |(refine zar (zcn _ (by first | (rw [w7]; omega) | (rw [w8]; omega))) rfl rfl ?_; conv => whnf)
  |(refine ze ?_; conv => whnf)
 (refine zbg [7, 13, 108, 114] [] ?_; (conv => whnf); exact ⟨rfl, by repeat first | exact trivial | refine ⟨rfl, ?_⟩, rfl, rfl, rfl, rfl, rfl, rfl⟩)
end Go.VL
