/- V-logic: TrR -/
import Derived.Test.YtbpbgjkingjdcaaVPD
import Derived.Test.YtbpbgjkingjdcaaVTrG
import Derived.Test.YtbpbgjkingjdcaaVTrB
namespace Go.VL
open Go.Proofs
set_option maxRecDepth 10000
set_option linter.unusedSimpArgs false
set_option linter.unusedVariables false
def z2v (code : List Int) (p0 : Int) (m : Nat) (res : V) (hout : List (Nat × O)) : Prop :=
 ∃ (row : List Pr) (p : Int), RowOk row 0 99 ∧ row.length ≤ 24 ∧ p0 ≤ p ∧ p ≤ p0 + 100 ∧ m = 1 ∧ res = .c (.prs row) ∧ hout = [(0, .box [.c (.nums .u8 code), .c (.int .i64 p)] [] [])]
theorem zyf (code : List Int) (hc : CodeOk code) (p0 : Int) (h0 : 0 ≤ p0) (h1 : p0 ≤ 1000000) : zce Try.prog 169 1 [.ptr 0 0 0 0] [(0, .box [.c (.nums .u8 code), .c (.int .i64 p0)] [] [])] (z2v code p0) := by
 have hn := zjy code hc p0 [6, 9, 13, 4, 20, 24, 1, 0] h0 (by omega) (by simp) (by simp)
 obtain ⟨N, hN⟩ : ∃ N : Int, ([6, 9, 13, 4, 20, 24, 1, 0] : List Int).getD (zah code p0 ([6, 9, 13, 4, 20, 24, 1, 0] : List Int).length).toNat 0 = N := ⟨_, rfl⟩
 have hNb : 0 ≤ N ∧ N ≤ 24 := by
  rw [← hN]
  generalize (zah code p0 _).toNat = t
  match t with
  |0 => decide
  |1 => decide
  |2 => decide
  |3 => decide
  |4 => decide
  |5 => decide
  |6 => decide
  |7 => decide
  |t + 8 => exact ⟨Int.le_refl 0, (by decide : (0 : Int) ≤ 24)⟩
 rw [hN] at hn
 refine spx (fn := Try.f169) _ ?_
 conv => whnf
 repeat' (refine zal [2] [0] (hn) ?_; (conv => whnf); refine ⟨rfl, rfl, rfl, (by repeat first | exact trivial | refine ⟨rfl, ?_⟩), ⟨rfl, rfl, rfl, rfl, rfl, rfl⟩, ?_⟩; conv => whnf)
 refine zk5 (fun (out : List Pr) (p z : Int) => RowOk out 0 99 ∧ out.length ≤ 24 ∧ p0 ≤ p ∧ p + 2 * z ≤ p0 + 60 ∧ 0 ≤ z) (fun out p z => ⟨29, 2, [(0, .ptr 0 0 0 0), (3, .slc 1), (4, .c (.int .i64 z))], [(0, .box [.c (.nums .u8 code), .c (.int .i64 p)] [] []), (1, .arr (.prs out))]⟩) (fun out p z => z.toNat) [] (p0 + 1) N ⟨⟨by simp [Asc], by simp, by simp⟩, by simp, by omega, by omega, hNb.1⟩ (fun _ _ _ => Nat.le_succ 1) (z5 [] [0, 1]) (fun out p z hi => ?_)
 obtain ⟨i1, i2, i3, i4, i5⟩ := hi
 have b1 := zdl hc (p := p) (n := 100) (by omega) (by omega)
 have b2 := zdl hc (p := p + 1) (n := 200) (by omega) (by omega)
 have hp1 := zcs code hc p 100 (by omega) (by omega) (by omega)
 have hp2 := zcs code hc (p + 1) 200 (by omega) (by omega) (by omega)
 generalize zah code p 100 = A at *
 generalize zah code (p + 1) 200 = B at *
 have hput := z1r out ⟨A, B - 100⟩ (by omega)
 have hins := zvq (x := ⟨A, B - 100⟩) i1 (by dsimp only; omega) (by dsimp only; omega) (by dsimp only; omega)
 generalize zbc out ⟨A, B - 100⟩ = out2 at *
 conv => whnf
 repeat' first
  |(refine zk (fun h => ?_) (fun h => ?_) <;> (try simp only [qA] at h) <;> (try simp only [wA] at h) <;> conv => whnf)
  |(refine zg (by (try simp only [wA, wL]) <;> omega) (by (try simp only [wA, wL]) <;> omega) ?_; conv => whnf)
  |(refine zal [] [0] (hp1) ⟨rfl, rfl, rfl, (by repeat first | exact trivial | refine ⟨rfl, ?_⟩), ⟨rfl, rfl, rfl, rfl, rfl, rfl⟩, ?_⟩; conv => whnf)
  |(refine zal [] [0] (hp2) ⟨rfl, rfl, rfl, (by repeat first | exact trivial | refine ⟨rfl, ?_⟩), ⟨rfl, rfl, rfl, rfl, rfl, rfl⟩, ?_⟩; conv => whnf)
  |(refine zbe (hput) rfl rfl rfl rfl ?_; conv => whnf)
 ·refine ⟨⟨(out2, p + 1 + 1, z - 1), ?_⟩, (z5 [] [0, 4]), by dsimp only; omega⟩; (try dsimp only)
  exact ⟨hins, by omega, by omega, by omega, by omega⟩
 ·refine ⟨⟨(out, p + 1 + 1, z - 1), ?_⟩, (z5 [] [0, 1]), by dsimp only; omega⟩; (try dsimp only)
  exact ⟨i1, i2, by omega, by omega, by omega⟩
 ·refine za1 1 (.c (.prs out)) [(0, .box [.c (.nums .u8 code), .c (.int .i64 p)] [] [])] ⟨out, p, i1, i2, i3, by omega, rfl, rfl, rfl⟩ rfl ?_
  (refine zbg [1] [0] ?_; (conv => whnf); exact ⟨rfl, by repeat first | exact trivial | refine ⟨rfl, ?_⟩, rfl, rfl, rfl, rfl, rfl, rfl⟩)
end Go.VL
