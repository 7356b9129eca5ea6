/- V-logic: TrZb -/
import Derived.Test.YtbpbgjkingjdcaaVTrZa
import Derived.Test.YtbpbgjkingjdcaaVTrVa
namespace Go.VL
open Go.Proofs
set_option maxRecDepth 10000
set_option linter.unusedSimpArgs false
set_option linter.unusedVariables false
theorem equalPairs_same (xs : List Pr) (h : xs.length ≤ 4294967296) : Spec Try.prog 64 0 [.c (.prs xs), .c (.prs xs)] [] 0 (.c (.bool true)) [] := by
 refine spi (fn := Try.f64) _ ?_
 conv => whnf
 repeat' (refine vif_f ?_ ?_; (focus ((try simp only [qA]) <;> (try simp only [wA]) <;> omega)); conv => whnf)
 refine vloop1 (fun i : Nat => i ≤ xs.length) (fun i => ⟨26, 0, [(0, .c (.prs xs)), (1, .c (.prs xs)), (5, .c (.int .i64 i))], []⟩) (fun i => xs.length - i) 0 (Nat.zero_le _) (fun _ => Nat.zero_le _) ent_z (fun i hi => ?_)
 conv => whnf
 repeat' first
  |(refine vneed_i (by kernel_rfl) ?_; conv => whnf)
  |(refine vneed_i (by (try simp only [wA, wL]) <;> omega) ?_; conv => whnf)
  |(refine vif_i (fun h => ?_) (fun h => ?_) <;> (try simp only [qA] at h) <;> (try simp only [wA] at h) <;> conv => whnf)
  |refine vend_tt ?_
  |refine vend_ff ?_
  |(refine vint_f (by (try simp only [wA, wL]) <;> omega) (by (try simp only [wA, wL]) <;> omega) ?_; conv => whnf)
  |(refine vpre_no ?_; conv => whnf)
 ·exfalso; simp at h
 ·refine ⟨⟨i + 1, ?_⟩, ent_z, by dsimp only; omega⟩; (try dsimp only)
  omega
 ·rfl
theorem equalPairs_nil : Spec Try.prog 64 0 [.nil, .nil] [] 0 (.c (.bool true)) [] :=
 spec_nils (args := [.c (.prs []), .c (.prs [])]) ⟨.inr ⟨rfl, _, rfl, rfl, rfl⟩, .inr ⟨rfl, _, rfl, rfl, rfl⟩, trivial⟩ (equalPairs_same [] (by decide))
theorem equalLists_same (xs : List (List Int)) (h : xs.length ≤ 4294967296) (h2 : ∀ i, (xs.getD i []).length ≤ 4294967296) : Spec Try.prog 73 0 [.c (.numss xs), .c (.numss xs)] [] 0 (.c (.bool true)) [] := by
 refine spi (fn := Try.f73) _ ?_
 conv => whnf
 repeat' (refine vif_f ?_ ?_; (focus ((try simp only [qA]) <;> (try simp only [wA]) <;> omega)); conv => whnf)
 refine vloop1 (fun i : Nat => i ≤ xs.length) (fun i => ⟨27, 0, [(0, .c (.numss xs)), (1, .c (.numss xs)), (5, .c (.int .i64 i))], []⟩) (fun i => xs.length - i) 0 (Nat.zero_le _) (fun _ => Nat.zero_le _) ent_z (fun i hi => ?_)
 have he := equalInts_same (xs.getD i []) (h2 i)
 conv => whnf
 repeat' first
  |(refine vneed_i (by kernel_rfl) ?_; conv => whnf)
  |(refine vif_t ?_ ?_; (focus ((try simp only [qA]) <;> (try simp only [wA]) <;> omega)); conv => whnf)
  |(refine vneed_i (by (try simp only [wA, wL]) <;> omega) ?_; conv => whnf)
  |(refine vif_i (fun h => ?_) (fun h => ?_) <;> (try simp only [qA] at h) <;> (try simp only [wA] at h) <;> conv => whnf)
  |refine vend_tt ?_
  |(refine vint_f (by (try simp only [wA, wL]) <;> omega) (by (try simp only [wA, wL]) <;> omega) ?_; conv => whnf)
  |(refine vcalld_p (he) rfl rfl ?_; conv => whnf)
  |(refine vpre_no ?_; conv => whnf)
 ·refine ⟨⟨i + 1, ?_⟩, ent_z, by dsimp only; omega⟩; (try dsimp only)
  omega
 ·rfl
theorem equalLists_nil : Spec Try.prog 73 0 [.nil, .nil] [] 0 (.c (.bool true)) [] :=
 spec_nils (args := [.c (.numss []), .c (.numss [])]) ⟨.inr ⟨rfl, _, rfl, rfl, rfl⟩, .inr ⟨rfl, _, rfl, rfl, rfl⟩, trivial⟩ (equalLists_same [] (by decide) (by intro i; simp))
theorem equalPage_same (p : Pg) (h1 : p.keys.length ≤ 4294967296) (h2 : p.kids.length ≤ 4294967296) (h3 : p.vals.length ≤ 4294967296) : Spec Try.prog 42 0 [pgV p, pgV p] [] 0 (.c (.bool true)) [] := by
 refine spi (fn := Try.f42) _ ?_
 conv => whnf
 repeat' first
  |(refine vif_t ?_ ?_; (focus ((try simp only [qA]) <;> (try simp only [wA]) <;> omega)); conv => whnf)
  |refine vend_b ?_
  |(refine vcall_p (equalInts_same _ h1) rfl rfl ?_; conv => whnf)
  |(refine vcall_p (equalInts_same _ h2) rfl rfl ?_; conv => whnf)
  |(refine vcall_p (equalInts_same _ h3) rfl rfl ?_; conv => whnf)
 all_goals rfl
theorem equalPages_same (ps : List Pg) (hp : pB ps) : Spec Try.prog 118 0 [.c (.pgs ps), .c (.pgs ps)] [] 0 (.c (.bool true)) [] := by
 have k4 := hp.len
 refine spi (fn := Try.f118) _ ?_
 conv => whnf
 repeat' (refine vif_f ?_ ?_; (focus ((try simp only [qA]) <;> (try simp only [wA]) <;> omega)); conv => whnf)
 refine vloop1 (fun i : Nat => i ≤ ps.length) (fun i => ⟨57, 0, [(0, .c (.pgs ps)), (1, .c (.pgs ps)), (5, .c (.int .i64 i))], []⟩) (fun i => ps.length - i) 0 (Nat.zero_le _) (fun _ => Nat.zero_le _) ent_z (fun i hi => ?_)
 have k1 := equalInts_same _ (hp.keys i)
 have k2 := equalInts_same _ (hp.kids i)
 have k3 := equalInts_same _ (hp.vals i)
 dsimp only [pgAt, Int.toNat_natCast] at k1 k2 k3
 conv => whnf
 repeat' first
  |(refine vneed_i (by kernel_rfl) ?_; conv => whnf)
  |(refine vif_t ?_ ?_; (focus ((try simp only [qA]) <;> (try simp only [wA]) <;> omega)); conv => whnf)
  |(refine vneed_i (by (try simp only [wA, wL]) <;> omega) ?_; conv => whnf)
  |(refine vif_i (fun h => ?_) (fun h => ?_) <;> (try simp only [qA] at h) <;> (try simp only [wA] at h) <;> conv => whnf)
  |refine vend_tt ?_
  |(refine vint_f (by (try simp only [wA, wL]) <;> omega) (by (try simp only [wA, wL]) <;> omega) ?_; conv => whnf)
  |(refine vcalld_p (k1) rfl rfl ?_; conv => whnf)
  |(refine vcalld_p (k2) rfl rfl ?_; conv => whnf)
  |(refine vcalld_p (k3) rfl rfl ?_; conv => whnf)
  |(refine vpre_no ?_; conv => whnf)
 ·refine ⟨⟨i + 1, ?_⟩, ent_z, by dsimp only; omega⟩; (try dsimp only)
  omega
 ·rfl
theorem equalPages_nil : Spec Try.prog 118 0 [.nil, .nil] [] 0 (.c (.bool true)) [] :=
 spec_nils (args := [.c (.pgs []), .c (.pgs [])]) ⟨.inr ⟨rfl, _, rfl, rfl, rfl⟩, .inr ⟨rfl, _, rfl, rfl, rfl⟩, trivial⟩ (equalPages_same [] ⟨by decide, by intro i; simp [pgAt], by intro i; simp [pgAt], by intro i; simp [pgAt]⟩)
theorem equalTree_same (root : Int) (ps : List Pg) (hp : pB ps) : Spec Try.prog 45 0 [trV root ps, trV root ps] [] 0 (.c (.bool true)) [] := by
 refine spi (fn := Try.f45) _ ?_
 conv => whnf
 repeat' first
  |(refine vif_t ?_ ?_; (focus ((try simp only [qA]) <;> (try simp only [wA]) <;> omega)); conv => whnf)
  |refine vend_b ?_
  |(refine vcall_p (equalPages_same _ hp) rfl rfl ?_; conv => whnf)
 all_goals rfl
theorem equalTree_nil : Spec Try.prog 45 0 [.agg [.c (.int .i64 0), .nil], .agg [.c (.int .i64 0), .nil]] [] 0 (.c (.bool true)) [] := by
 refine spi (fn := Try.f45) _ ?_
 conv => whnf
 repeat' first | (refine vif_t ?_ ?_; (focus ((try simp only [qA]) <;> (try simp only [wA]) <;> omega)); conv => whnf) | refine vend_b ?_ | (refine vcall_p (equalPages_nil) rfl rfl ?_; conv => whnf)
 all_goals rfl
def DrawT (m : Nat) (res : V) (hout : List (Nat × O)) : Prop :=
 ∃ (root : Int) (ps : List Pg), pB ps ∧ ps.length ≤ 16 ∧ m = 0 ∧ res = trV root ps ∧ hout = []
theorem DrawPairsOf_x (code : List Int) (hl : code.length ≤ 1048576) (hc : CodeOk (code.take 2000)) : SpecX Try.prog 63 0 [.c (.nums .u8 code)] [] DrawT := by
 refine spx (fn := Try.f63) _ ?_
 conv => whnf
 repeat' (refine vcall_i [] [1] (newReader_v code hl) ⟨rfl, rfl, rfl, (by repeat first | exact trivial | refine ⟨rfl, ?_⟩), ⟨rfl, rfl, rfl, rfl, rfl, rfl⟩, ?_⟩; conv => whnf)
 refine vcall_x [] [1] (anyTree_x (code.take 2000) hc 0 (by omega) (by omega)) ⟨rfl, rfl, rfl, (by repeat first | exact trivial | refine ⟨rfl, ?_⟩), ⟨rfl, rfl, rfl⟩, ?_⟩
 rintro m res hout ⟨root, ps, p, hp, hps, p0, p1, rfl, rfl, rfl⟩
 refine ⟨⟨rfl, rfl, rfl⟩, ?_⟩
 conv => whnf
 skip
 refine vendX_i 0 (trV root ps) [] ⟨root, ps, hp, hps, rfl, rfl, rfl⟩ rfl ?_
 exact (vend_j [] [])
theorem DrawFillOf_x (code : List Int) (hl : code.length ≤ 1048576) (hc : CodeOk (code.take 2000)) : SpecX Try.prog 31 0 [.c (.nums .u8 code)] [] DrawT := by
 refine spx (fn := Try.f31) _ ?_
 conv => whnf
 repeat' (refine vcall_i [] [1] (newReader_v code hl) ⟨rfl, rfl, rfl, (by repeat first | exact trivial | refine ⟨rfl, ?_⟩), ⟨rfl, rfl, rfl, rfl, rfl, rfl⟩, ?_⟩; conv => whnf)
 refine vcall_x [] [1] (anyTree_x (code.take 2000) hc 0 (by omega) (by omega)) ⟨rfl, rfl, rfl, (by repeat first | exact trivial | refine ⟨rfl, ?_⟩), ⟨rfl, rfl, rfl⟩, ?_⟩
 rintro m res hout ⟨root, ps, p, hp, hps, p0, p1, rfl, rfl, rfl⟩
 refine ⟨⟨rfl, rfl, rfl⟩, ?_⟩
 conv => whnf
 skip
 refine vendX_i 0 (trV root ps) [] ⟨root, ps, hp, hps, rfl, rfl, rfl⟩ rfl ?_
 exact (vend_j [] [])
theorem DrawPackTree_x (code : List Int) (hl : code.length ≤ 1048576) (hc : CodeOk (code.take 2000)) : SpecX Try.prog 48 0 [.c (.nums .u8 code)] [] DrawT := by
 refine spx (fn := Try.f48) _ ?_
 conv => whnf
 repeat' (refine vcall_i [] [1] (newReader_v code hl) ⟨rfl, rfl, rfl, (by repeat first | exact trivial | refine ⟨rfl, ?_⟩), ⟨rfl, rfl, rfl, rfl, rfl, rfl⟩, ?_⟩; conv => whnf)
 refine vcall_x [] [1] (anyTree_x (code.take 2000) hc 0 (by omega) (by omega)) ⟨rfl, rfl, rfl, (by repeat first | exact trivial | refine ⟨rfl, ?_⟩), ⟨rfl, rfl, rfl⟩, ?_⟩
 rintro m res hout ⟨root, ps, p, hp, hps, p0, p1, rfl, rfl, rfl⟩
 refine ⟨⟨rfl, rfl, rfl⟩, ?_⟩
 conv => whnf
 skip
 refine vendX_i 0 (trV root ps) [] ⟨root, ps, hp, hps, rfl, rfl, rfl⟩ rfl ?_
 exact (vend_j [] [])
theorem DrawGetKey_x (code : List Int) (hl : code.length ≤ 1048576) (hc : CodeOk (code.take 2000)) : SpecX Try.prog 76 0 [.c (.nums .u8 code)] [] DrawTK := by
 refine spx (fn := Try.f76) _ ?_
 conv => whnf
 skip
 refine vcall_x [] [0] (DrawPathTo_x code hl hc) ⟨rfl, rfl, rfl, (by repeat first | exact trivial | refine ⟨rfl, ?_⟩), ⟨rfl, rfl, rfl⟩, ?_⟩
 rintro m res hout ⟨root, ps, key, hp, hps, hkb, rfl, rfl, rfl⟩
 refine ⟨⟨rfl, rfl, rfl⟩, ?_⟩
 conv => whnf
 skip
 refine vendX_i 0 (.tup [trV root ps, .c (.int .i64 key)]) [] ⟨root, ps, key, hp, hps, hkb, rfl, rfl, rfl⟩ rfl ?_
 exact (vend_j [] [])
theorem DrawSplitsFor_x (code : List Int) (hl : code.length ≤ 1048576) (hc : CodeOk (code.take 2000)) : SpecX Try.prog 56 0 [.c (.nums .u8 code)] [] DrawTK := by
 refine spx (fn := Try.f56) _ ?_
 conv => whnf
 repeat' (refine vcall_i [] [1] (newReader_v code hl) ⟨rfl, rfl, rfl, (by repeat first | exact trivial | refine ⟨rfl, ?_⟩), ⟨rfl, rfl, rfl, rfl, rfl, rfl⟩, ?_⟩; conv => whnf)
 refine vcall_x [] [1] (anyTree_x (code.take 2000) hc 0 (by omega) (by omega)) ⟨rfl, rfl, rfl, (by repeat first | exact trivial | refine ⟨rfl, ?_⟩), ⟨rfl, rfl, rfl⟩, ?_⟩
 rintro m res hout ⟨root, ps, p, hp, hps, p0, p1, rfl, rfl, rfl⟩
 refine ⟨⟨rfl, rfl, rfl⟩, ?_⟩
 have htk := treeKeys_f root ps hp
 have hb := tkF_b root ps
 generalize tkF root ps = K at *
 have hkn := keyNear_v (code.take 2000) hc p (by omega) (by omega) K hb.1 hb.2
 have hkb := knV_b hc (p := p) (by omega) (by omega) hb.2
 generalize knV (code.take 2000) p K = key at *
 generalize knP (code.take 2000) p K = p' at *
 conv => whnf
 repeat' first
  |(refine vneed_i (by kernel_rfl) ?_; conv => whnf)
  |(refine vcalld_p (htk) rfl rfl ?_; conv => whnf)
  |(refine vcalld_b 1 hkn rfl rfl rfl rfl rfl rfl rfl rfl rfl ?_; conv => whnf)
  |(refine vpre_no ?_; conv => whnf)
 refine vendX_i 0 (.tup [trV root ps, .c (.int .i64 key)]) [] ⟨root, ps, key, hp, hps, hkb, rfl, rfl, rfl⟩ rfl ?_
 exact (vend_j [] [])
end Go.VL
