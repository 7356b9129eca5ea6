/- V-logic: TrZb -/
import Derived.Test.YtbpbgjkingjdcaaVTrZa
import Derived.Test.YtbpbgjkingjdcaaVTrVa
namespace Go.VL
open Go.Proofs
set_option maxRecDepth 10000
set_option linter.unusedSimpArgs false
set_option linter.unusedVariables false
theorem zhp (xs : List Pr) (h : xs.length ≤ 4294967296) : zr Try.prog 64 0 [.c (.prs xs), .c (.prs xs)] [] 0 (.c (.bool true)) [] := by
 refine spi (fn := Try.f64) _ ?_
 conv => whnf
 repeat' (refine zm ?_ ?_; (focus ((try simp only [qA]) <;> (try simp only [wA]) <;> omega)); conv => whnf)
 refine zau (fun i : Nat => i ≤ xs.length) (fun i => ⟨26, 0, [(0, .c (.prs xs)), (1, .c (.prs xs)), (5, .c (.int .i64 i))], []⟩) (fun i => xs.length - i) 0 (Nat.zero_le _) (fun _ => Nat.zero_le _) zbn (fun i hi => ?_)
 conv => whnf
 repeat' first
  |(refine za (by kernel_rfl) ?_; conv => whnf)
  |(refine za (by (try simp only [wA, wL]) <;> omega) ?_; conv => whnf)
  |(refine zk (fun h => ?_) (fun h => ?_) <;> (try simp only [qA] at h) <;> (try simp only [wA] at h) <;> conv => whnf)
  |refine zc ?_
  |refine zd ?_
  |(refine zg (by (try simp only [wA, wL]) <;> omega) (by (try simp only [wA, wL]) <;> omega) ?_; conv => whnf)
  |(refine ze ?_; conv => whnf)
 ·exfalso; simp at h
 ·refine ⟨⟨i + 1, ?_⟩, zbn, by dsimp only; omega⟩; (try dsimp only)
  omega
 ·rfl
theorem zqt : zr Try.prog 64 0 [.nil, .nil] [] 0 (.c (.bool true)) [] :=
 zkb (args := [.c (.prs []), .c (.prs [])]) ⟨.inr ⟨rfl, _, rfl, rfl, rfl⟩, .inr ⟨rfl, _, rfl, rfl, rfl⟩, trivial⟩ (zhp [] (by decide))
theorem zfm (xs : List (List Int)) (h : xs.length ≤ 4294967296) (h2 : ∀ i, (xs.getD i []).length ≤ 4294967296) : zr Try.prog 73 0 [.c (.numss xs), .c (.numss xs)] [] 0 (.c (.bool true)) [] := by
 refine spi (fn := Try.f73) _ ?_
 conv => whnf
 repeat' (refine zm ?_ ?_; (focus ((try simp only [qA]) <;> (try simp only [wA]) <;> omega)); conv => whnf)
 refine zau (fun i : Nat => i ≤ xs.length) (fun i => ⟨27, 0, [(0, .c (.numss xs)), (1, .c (.numss xs)), (5, .c (.int .i64 i))], []⟩) (fun i => xs.length - i) 0 (Nat.zero_le _) (fun _ => Nat.zero_le _) zbn (fun i hi => ?_)
 have he := zbh (xs.getD i []) (h2 i)
 conv => whnf
 repeat' first
  |(refine za (by kernel_rfl) ?_; conv => whnf)
  |(refine zn ?_ ?_; (focus ((try simp only [qA]) <;> (try simp only [wA]) <;> omega)); conv => whnf)
  |(refine za (by (try simp only [wA, wL]) <;> omega) ?_; conv => whnf)
  |(refine zk (fun h => ?_) (fun h => ?_) <;> (try simp only [qA] at h) <;> (try simp only [wA] at h) <;> conv => whnf)
  |refine zc ?_
  |(refine zg (by (try simp only [wA, wL]) <;> omega) (by (try simp only [wA, wL]) <;> omega) ?_; conv => whnf)
  |(refine zw (he) rfl rfl ?_; conv => whnf)
  |(refine ze ?_; conv => whnf)
 ·refine ⟨⟨i + 1, ?_⟩, zbn, by dsimp only; omega⟩; (try dsimp only)
  omega
 ·rfl
theorem zf7 : zr Try.prog 73 0 [.nil, .nil] [] 0 (.c (.bool true)) [] :=
 zkb (args := [.c (.numss []), .c (.numss [])]) ⟨.inr ⟨rfl, _, rfl, rfl, rfl⟩, .inr ⟨rfl, _, rfl, rfl, rfl⟩, trivial⟩ (zfm [] (by decide) (by intro i; simp))
theorem z2s (p : Pg) (h1 : p.keys.length ≤ 4294967296) (h2 : p.kids.length ≤ 4294967296) (h3 : p.vals.length ≤ 4294967296) : zr Try.prog 42 0 [pgV p, pgV p] [] 0 (.c (.bool true)) [] := by
 refine spi (fn := Try.f42) _ ?_
 conv => whnf
 repeat' first
  |(refine zn ?_ ?_; (focus ((try simp only [qA]) <;> (try simp only [wA]) <;> omega)); conv => whnf)
  |refine zh ?_
  |(refine zp (zbh _ h1) rfl rfl ?_; conv => whnf)
  |(refine zp (zbh _ h2) rfl rfl ?_; conv => whnf)
  |(refine zp (zbh _ h3) rfl rfl ?_; conv => whnf)
 all_goals rfl
theorem zj2 (ps : List Pg) (hp : pB ps) : zr Try.prog 118 0 [.c (.pgs ps), .c (.pgs ps)] [] 0 (.c (.bool true)) [] := by
 have k4 := hp.len
 refine spi (fn := Try.f118) _ ?_
 conv => whnf
 repeat' (refine zm ?_ ?_; (focus ((try simp only [qA]) <;> (try simp only [wA]) <;> omega)); conv => whnf)
 refine zau (fun i : Nat => i ≤ ps.length) (fun i => ⟨57, 0, [(0, .c (.pgs ps)), (1, .c (.pgs ps)), (5, .c (.int .i64 i))], []⟩) (fun i => ps.length - i) 0 (Nat.zero_le _) (fun _ => Nat.zero_le _) zbn (fun i hi => ?_)
 have k1 := zbh _ (hp.keys i)
 have k2 := zbh _ (hp.kids i)
 have k3 := zbh _ (hp.vals i)
 dsimp only [zb, Int.toNat_natCast] at k1 k2 k3
 conv => whnf
 repeat' first
  |(refine za (by kernel_rfl) ?_; conv => whnf)
  |(refine zn ?_ ?_; (focus ((try simp only [qA]) <;> (try simp only [wA]) <;> omega)); conv => whnf)
  |(refine za (by (try simp only [wA, wL]) <;> omega) ?_; conv => whnf)
  |(refine zk (fun h => ?_) (fun h => ?_) <;> (try simp only [qA] at h) <;> (try simp only [wA] at h) <;> conv => whnf)
  |refine zc ?_
  |(refine zg (by (try simp only [wA, wL]) <;> omega) (by (try simp only [wA, wL]) <;> omega) ?_; conv => whnf)
  |(refine zw (k1) rfl rfl ?_; conv => whnf)
  |(refine zw (k2) rfl rfl ?_; conv => whnf)
  |(refine zw (k3) rfl rfl ?_; conv => whnf)
  |(refine ze ?_; conv => whnf)
 ·refine ⟨⟨i + 1, ?_⟩, zbn, by dsimp only; omega⟩; (try dsimp only)
  omega
 ·rfl
theorem zqk : zr Try.prog 118 0 [.nil, .nil] [] 0 (.c (.bool true)) [] :=
 zkb (args := [.c (.pgs []), .c (.pgs [])]) ⟨.inr ⟨rfl, _, rfl, rfl, rfl⟩, .inr ⟨rfl, _, rfl, rfl, rfl⟩, trivial⟩ (zj2 [] ⟨by decide, by intro i; simp [zb], by intro i; simp [zb], by intro i; simp [zb]⟩)
theorem z2b (root : Int) (ps : List Pg) (hp : pB ps) : zr Try.prog 45 0 [trV root ps, trV root ps] [] 0 (.c (.bool true)) [] := by
 refine spi (fn := Try.f45) _ ?_
 conv => whnf
 repeat' first
  |(refine zn ?_ ?_; (focus ((try simp only [qA]) <;> (try simp only [wA]) <;> omega)); conv => whnf)
  |refine zh ?_
  |(refine zp (zj2 _ hp) rfl rfl ?_; conv => whnf)
 all_goals rfl
theorem z3a : zr Try.prog 45 0 [.agg [.c (.int .i64 0), .nil], .agg [.c (.int .i64 0), .nil]] [] 0 (.c (.bool true)) [] := by
 refine spi (fn := Try.f45) _ ?_
 conv => whnf
 repeat' first | (refine zn ?_ ?_; (focus ((try simp only [qA]) <;> (try simp only [wA]) <;> omega)); conv => whnf) | refine zh ?_ | (refine zp (zqk) rfl rfl ?_; conv => whnf)
 all_goals rfl
def zxs (m : Nat) (res : V) (hout : List (Nat × O)) : Prop :=
 ∃ (root : Int) (ps : List Pg), pB ps ∧ ps.length ≤ 16 ∧ m = 0 ∧ res = trV root ps ∧ hout = []
theorem zsb (code : List Int) (hl : code.length ≤ 1048576) (hc : CodeOk (code.take 2000)) : zce Try.prog 63 0 [.c (.nums .u8 code)] [] zxs := by
 refine spx (fn := Try.f63) _ ?_
 conv => whnf
 repeat' (refine zal [] [1] (zff code hl) ⟨rfl, rfl, rfl, (by repeat first | exact trivial | refine ⟨rfl, ?_⟩), ⟨rfl, rfl, rfl, rfl, rfl, rfl⟩, ?_⟩; conv => whnf)
 refine zbw [] [1] (zgw (code.take 2000) hc 0 (by omega) (by omega)) ⟨rfl, rfl, rfl, (by repeat first | exact trivial | refine ⟨rfl, ?_⟩), ⟨rfl, rfl, rfl⟩, ?_⟩
 rintro m res hout ⟨root, ps, p, hp, hps, p0, p1, rfl, rfl, rfl⟩
 refine ⟨⟨rfl, rfl, rfl⟩, ?_⟩
 conv => whnf
 skip
 refine za1 0 (trV root ps) [] ⟨root, ps, hp, hps, rfl, rfl, rfl⟩ rfl ?_
 exact (zu [] [])
theorem z3o (code : List Int) (hl : code.length ≤ 1048576) (hc : CodeOk (code.take 2000)) : zce Try.prog 31 0 [.c (.nums .u8 code)] [] zxs := by
 refine spx (fn := Try.f31) _ ?_
 conv => whnf
 repeat' (refine zal [] [1] (zff code hl) ⟨rfl, rfl, rfl, (by repeat first | exact trivial | refine ⟨rfl, ?_⟩), ⟨rfl, rfl, rfl, rfl, rfl, rfl⟩, ?_⟩; conv => whnf)
 refine zbw [] [1] (zgw (code.take 2000) hc 0 (by omega) (by omega)) ⟨rfl, rfl, rfl, (by repeat first | exact trivial | refine ⟨rfl, ?_⟩), ⟨rfl, rfl, rfl⟩, ?_⟩
 rintro m res hout ⟨root, ps, p, hp, hps, p0, p1, rfl, rfl, rfl⟩
 refine ⟨⟨rfl, rfl, rfl⟩, ?_⟩
 conv => whnf
 skip
 refine za1 0 (trV root ps) [] ⟨root, ps, hp, hps, rfl, rfl, rfl⟩ rfl ?_
 exact (zu [] [])
theorem z2c (code : List Int) (hl : code.length ≤ 1048576) (hc : CodeOk (code.take 2000)) : zce Try.prog 48 0 [.c (.nums .u8 code)] [] zxs := by
 refine spx (fn := Try.f48) _ ?_
 conv => whnf
 repeat' (refine zal [] [1] (zff code hl) ⟨rfl, rfl, rfl, (by repeat first | exact trivial | refine ⟨rfl, ?_⟩), ⟨rfl, rfl, rfl, rfl, rfl, rfl⟩, ?_⟩; conv => whnf)
 refine zbw [] [1] (zgw (code.take 2000) hc 0 (by omega) (by omega)) ⟨rfl, rfl, rfl, (by repeat first | exact trivial | refine ⟨rfl, ?_⟩), ⟨rfl, rfl, rfl⟩, ?_⟩
 rintro m res hout ⟨root, ps, p, hp, hps, p0, p1, rfl, rfl, rfl⟩
 refine ⟨⟨rfl, rfl, rfl⟩, ?_⟩
 conv => whnf
 skip
 refine za1 0 (trV root ps) [] ⟨root, ps, hp, hps, rfl, rfl, rfl⟩ rfl ?_
 exact (zu [] [])
theorem zm4 (code : List Int) (hl : code.length ≤ 1048576) (hc : CodeOk (code.take 2000)) : zce Try.prog 76 0 [.c (.nums .u8 code)] [] ztv := by
 refine spx (fn := Try.f76) _ ?_
 conv => whnf
 skip
 refine zbw [] [0] (zmy code hl hc) ⟨rfl, rfl, rfl, (by repeat first | exact trivial | refine ⟨rfl, ?_⟩), ⟨rfl, rfl, rfl⟩, ?_⟩
 rintro m res hout ⟨root, ps, key, hp, hps, hkb, rfl, rfl, rfl⟩
 refine ⟨⟨rfl, rfl, rfl⟩, ?_⟩
 conv => whnf
 skip
 refine za1 0 (.tup [trV root ps, .c (.int .i64 key)]) [] ⟨root, ps, key, hp, hps, hkb, rfl, rfl, rfl⟩ rfl ?_
 exact (zu [] [])
theorem z1w (code : List Int) (hl : code.length ≤ 1048576) (hc : CodeOk (code.take 2000)) : zce Try.prog 56 0 [.c (.nums .u8 code)] [] ztv := by
 refine spx (fn := Try.f56) _ ?_
 conv => whnf
 repeat' (refine zal [] [1] (zff code hl) ⟨rfl, rfl, rfl, (by repeat first | exact trivial | refine ⟨rfl, ?_⟩), ⟨rfl, rfl, rfl, rfl, rfl, rfl⟩, ?_⟩; conv => whnf)
 refine zbw [] [1] (zgw (code.take 2000) hc 0 (by omega) (by omega)) ⟨rfl, rfl, rfl, (by repeat first | exact trivial | refine ⟨rfl, ?_⟩), ⟨rfl, rfl, rfl⟩, ?_⟩
 rintro m res hout ⟨root, ps, p, hp, hps, p0, p1, rfl, rfl, rfl⟩
 refine ⟨⟨rfl, rfl, rfl⟩, ?_⟩
 have htk := zlk root ps hp
 have hb := zww root ps
 generalize tkF root ps = K at *
 have hkn := zmp (code.take 2000) hc p (by omega) (by omega) K hb.1 hb.2
 have hkb := zxx hc (p := p) (by omega) (by omega) hb.2
 generalize knV (code.take 2000) p K = key at *
 generalize knP (code.take 2000) p K = p' at *
 conv => whnf
 repeat' first
  |(refine za (by kernel_rfl) ?_; conv => whnf)
  |(refine zw (htk) rfl rfl ?_; conv => whnf)
  |(refine zbr 1 hkn rfl rfl rfl rfl rfl rfl rfl rfl rfl ?_; conv => whnf)
  |(refine ze ?_; conv => whnf)
 refine za1 0 (.tup [trV root ps, .c (.int .i64 key)]) [] ⟨root, ps, key, hp, hps, hkb, rfl, rfl, rfl⟩ rfl ?_
 exact (zu [] [])
end Go.VL
