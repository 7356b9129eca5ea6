/- V-logic: TrPd -/
import Derived.Test.YtbpbgjkingjdcaaVTrPa
import Derived.Test.YtbpbgjkingjdcaaVTrZb
namespace Go.VL
open Go.Proofs
set_option maxRecDepth 10000
set_option linter.unusedSimpArgs false
set_option linter.unusedVariables false
def z8c (code : List Int) (p0 : Int) (m : Nat) (res : V) (hout : List (Nat × O)) : Prop :=
 ∃ (q : Pg) (p : Int), pgB q ∧ p0 ≤ p ∧ p ≤ p0 + 501 ∧ m = 1 ∧ res = pgV q ∧ hout = [(0, .box [.c (.nums .u8 code), .c (.int .i64 p)] [] [])]
theorem z5z (code : List Int) (hc : CodeOk code) (p0 : Int) (h0 : 0 ≤ p0) (h1 : p0 ≤ 900000) : zce Try.prog 108 1 [.ptr 0 0 0 0] [(0, .box [.c (.nums .u8 code), .c (.int .i64 p0)] [] [])] (z8c code p0) := by
 refine spx (fn := Try.f108) _ ?_
 conv => whnf
 skip
 refine zbw [] [0] (zgw code hc p0 h0 h1) ⟨rfl, rfl, rfl, (by repeat first | exact trivial | refine ⟨rfl, ?_⟩), ⟨rfl, rfl, rfl⟩, ?_⟩
 rintro m res hout ⟨root, ps, p, hp, hps, p0, p1, rfl, rfl, rfl⟩
 refine ⟨⟨rfl, rfl, rfl⟩, ?_⟩
 have hpk := zcs code hc p ps.length (by omega) (by omega) (by omega)
 have hpb := zdl hc (p := p) (n := ps.length) (by omega) (by omega)
 generalize zah code p ps.length = w at *
 conv => whnf
 repeat' first
  |(refine za (by kernel_rfl) ?_; conv => whnf)
  |(refine za (by (try simp only [wA, wL]) <;> omega) ?_; conv => whnf)
  |(refine zk (fun h => ?_) (fun h => ?_) <;> (try simp only [qA] at h) <;> (try simp only [wA] at h) <;> conv => whnf)
  |(refine zbr 0 hpk rfl rfl rfl rfl rfl rfl rfl rfl rfl ?_; conv => whnf)
  |(refine ze ?_; conv => whnf)
 ·refine za1 1 (pgV ⟨[], [], []⟩) [(0, .box [.c (.nums .u8 code), .c (.int .i64 p)] [] [])] ⟨⟨[], [], []⟩, p, ⟨Nat.zero_le _, Nat.zero_le _, Nat.zero_le _⟩, by omega, by omega, rfl, rfl, rfl⟩ rfl ?_
  exact (zu [3, 4, 5] [0])
 ·refine za1 1 (pgV (zb ps w)) [(0, .box [.c (.nums .u8 code), .c (.int .i64 (p + 1))] [] [])] ⟨zb ps w, p + 1, ⟨hp.keys w, hp.kids w, hp.vals w⟩, by omega, by omega, rfl, rfl, rfl⟩ rfl ?_
  exact (zu [] [0])
theorem z8e (code : List Int) (hl : code.length ≤ 1048576) (hc : CodeOk (code.take 2000)) : zce Try.prog 37 0 [.c (.nums .u8 code)] [] (fun m res hout => ∃ q, pgB q ∧ m = 0 ∧ res = pgV q ∧ hout = []) := by
 refine spx (fn := Try.f37) _ ?_
 conv => whnf
 repeat' (refine zal [] [1] (zff code hl) ⟨rfl, rfl, rfl, (by repeat first | exact trivial | refine ⟨rfl, ?_⟩), ⟨rfl, rfl, rfl, rfl, rfl, rfl⟩, ?_⟩; conv => whnf)
 refine zbw [] [1] (z5z (code.take 2000) hc 0 (by omega) (by omega)) ⟨rfl, rfl, rfl, (by repeat first | exact trivial | refine ⟨rfl, ?_⟩), ⟨rfl, rfl, rfl⟩, ?_⟩
 rintro m res hout ⟨q, p, hq, p0, p1, rfl, rfl, rfl⟩
 refine ⟨⟨rfl, rfl, rfl⟩, ?_⟩
 conv => whnf
 skip
 refine za1 0 (pgV q) [] ⟨q, hq, rfl, rfl, rfl⟩ rfl ?_
 exact (zu [] [])
end Go.VL
