/- V-logic: TrLd -/
import Derived.Test.YtbpbgjkingjdcaaVTrHc
import Derived.Test.YtbpbgjkingjdcaaVTrZb
namespace Go.VL
open Go.Proofs
set_option maxRecDepth 10000
set_option linter.unusedSimpArgs false
set_option linter.unusedVariables false
def zz0 (m : Nat) (res : V) (hout : List (Nat × O)) : Prop :=
 ∃ (root : Int) (ps : List Pg) (key kind : Int), pB ps ∧ ps.length ≤ 16 ∧ (-1 ≤ key ∧ key ≤ 100) ∧ (-1 ≤ kind ∧ kind ≤ 3) ∧ m = 0 ∧ res = .tup [trV root ps, .c (.int .i64 key), .c (.int .i64 kind)] ∧ hout = []
theorem zfq (code : List Int) (hl : code.length ≤ 1048576) (hc : CodeOk (code.take 2000)) : zce Try.prog 72 0 [.c (.nums .u8 code)] [] zz0 := by
 refine spx (fn := Try.f72) _ ?_
 conv => whnf
 repeat' (refine zal [] [1] (zff code hl) ⟨rfl, rfl, rfl, (by repeat first | exact trivial | refine ⟨rfl, ?_⟩), ⟨rfl, rfl, rfl, rfl, rfl, rfl⟩, ?_⟩; conv => whnf)
 refine zbw [] [1] (zgw (code.take 2000) hc 0 (by omega) (by omega)) ⟨rfl, rfl, rfl, (by repeat first | exact trivial | refine ⟨rfl, ?_⟩), ⟨rfl, rfl, rfl⟩, ?_⟩
 rintro m res hout ⟨root, ps, p, hp, hps, p0, p1, rfl, rfl, rfl⟩
 refine ⟨⟨rfl, rfl, rfl⟩, ?_⟩
 have htk := zlk root ps hp
 have hb := zww root ps
 generalize tkF root ps = K at *
 have hkn := zmp (code.take 2000) hc p (by omega) (by omega) K hb.1 hb.2
 have hkb := zxx hc (p := p) (by omega) (by omega) hb.2
 have hpb := knP_b (code.take 2000) p K
 generalize knV (code.take 2000) p K = key at *
 generalize knP (code.take 2000) p K = p' at *
 have ho := zjy (code.take 2000) hc p' [0, 1, 2, 1, 2, 3, -1] (by omega) (by omega) (by simp) (by simp)
 have hkd := znu (xs := [0, 1, 2, 1, 2, 3, -1]) (lo := -1) (hi := 3) (by decide) (by decide) (by decide) (zah (code.take 2000) p' ([0, 1, 2, 1, 2, 3, -1] : List Int).length).toNat
 generalize ([0, 1, 2, 1, 2, 3, -1] : List Int).getD (zah (code.take 2000) p' ([0, 1, 2, 1, 2, 3, -1] : List Int).length).toNat 0 = kind at *
 conv => whnf
 repeat' first
  |(refine za (by kernel_rfl) ?_; conv => whnf)
  |(refine zp (htk) rfl rfl ?_; conv => whnf)
  |(refine zal [] [1] (hkn) ⟨rfl, rfl, rfl, (by repeat first | exact trivial | refine ⟨rfl, ?_⟩), ⟨rfl, rfl, rfl, rfl, rfl, rfl⟩, ?_⟩; conv => whnf)
  |(refine zbr 1 ho rfl rfl rfl rfl rfl rfl rfl rfl rfl ?_; conv => whnf)
  |(refine ze ?_; conv => whnf)
 refine za1 0 (.tup [trV root ps, .c (.int .i64 key), .c (.int .i64 kind)]) [] ⟨root, ps, key, kind, hp, hps, hkb, hkd, rfl, rfl, rfl⟩ rfl ?_
 exact (zu [] [])
theorem zqv (code : List Int) (hl : code.length ≤ 1048576) (hc : CodeOk (code.take 2000)) : zce Try.prog 68 0 [.c (.nums .u8 code)] [] zz0 := by
 refine spx (fn := Try.f68) _ ?_
 conv => whnf
 skip
 refine zbw [] [0] (zfq code hl hc) ⟨rfl, rfl, rfl, (by repeat first | exact trivial | refine ⟨rfl, ?_⟩), ⟨rfl, rfl, rfl⟩, ?_⟩
 rintro m res hout ⟨root, ps, key, kind, hp, hps, hkb, hkd, rfl, rfl, rfl⟩
 refine ⟨⟨rfl, rfl, rfl⟩, ?_⟩
 conv => whnf
 skip
 refine za1 0 (.tup [trV root ps, .c (.int .i64 key), .c (.int .i64 kind)]) [] ⟨root, ps, key, kind, hp, hps, hkb, hkd, rfl, rfl, rfl⟩ rfl ?_
 exact (zu [] [])
theorem ztd {W : List Int} {root : Int} {ps : List Pg} (i : Nat) : hlF (sfF root ps 0) W i = (W.take (i + 1)).drop i := by
 unfold hlF; rw [z20 (sf := sfF root ps 0) (fun x => rfl)]
end Go.VL
