/- V-logic: TrYa -/
import Derived.Test.YtbpbgjkingjdcaaVTrA
import Derived.Test.YtbpbgjkingjdcaaVPE
import Derived.Test.YtbpbgjkingjdcaaVMA
namespace Go.VL
open Go.Proofs
set_option maxRecDepth 10000
set_option linter.unusedSimpArgs false
set_option linter.unusedVariables false
abbrev seaH (xs : List Int) (key : Int) : List (Nat × O) := [(0, .box [.c (.nums .i64 xs)] [] []), (1, .box [.c (.int .i64 key)] [] [])]
theorem upTo1_v (xs : List Int) (key i : Int) (h0 : 0 ≤ i) (h1 : i < xs.length) (hl : xs.length ≤ 4294967296) : Spec Try.prog 199 2 [.c (.int .i64 i), .ptr 0 0 0 0, .ptr 1 0 0 0] (seaH xs key) 2 (.c (.bool (!decide (xs.getD i.toNat 0 ≤ key)))) (seaH xs key) := by
 refine spi (fn := Try.f199) _ ?_
 conv => whnf
 repeat' first
  |(refine vneed_i (by kernel_rfl) ?_; conv => whnf)
  |(refine vneed_i (by (try simp only [wA, wL]) <;> omega) ?_; conv => whnf)
  |(refine vif_i (fun h => ?_) (fun h => ?_) <;> (try simp only [qA] at h) <;> (try simp only [wA] at h) <;> conv => whnf)
  |(refine vpre_no ?_; conv => whnf)
 all_goals first
  |(rw [show decide (xs.getD i.toNat 0 ≤ key) = false from decide_eq_false (by omega)]; exact (vend_j [] [0, 1]))
  |(rw [show decide (xs.getD i.toNat 0 ≤ key) = true from decide_eq_true (by omega)]; exact (vend_j [] [0, 1]))
theorem below1_v (xs : List Int) (key i : Int) (h0 : 0 ≤ i) (h1 : i < xs.length) (hl : xs.length ≤ 4294967296) : Spec Try.prog 211 2 [.c (.int .i64 i), .ptr 0 0 0 0, .ptr 1 0 0 0] (seaH xs key) 2 (.c (.bool (!decide (xs.getD i.toNat 0 < key)))) (seaH xs key) := by
 refine spi (fn := Try.f211) _ ?_
 conv => whnf
 repeat' first
  |(refine vneed_i (by kernel_rfl) ?_; conv => whnf)
  |(refine vneed_i (by (try simp only [wA, wL]) <;> omega) ?_; conv => whnf)
  |(refine vif_i (fun h => ?_) (fun h => ?_) <;> (try simp only [qA] at h) <;> (try simp only [wA] at h) <;> conv => whnf)
  |(refine vpre_no ?_; conv => whnf)
 all_goals first
  |(rw [show decide (xs.getD i.toNat 0 < key) = false from decide_eq_false (by omega)]; exact (vend_j [] [0, 1]))
  |(rw [show decide (xs.getD i.toNat 0 < key) = true from decide_eq_true (by omega)]; exact (vend_j [] [0, 1]))
theorem search_v (g : Nat) (small : Int → Bool) (xs : List Int) (key : Int) (N : Nat) (ha : Asc xs) (hl : xs.length ≤ 4294967296) (hm : ∀ a b, a < b → small b = true → small a = true) (hN : ∀ i, Sea small xs i i → N = i)
  (hg : ∀ i : Int, 0 ≤ i → i < xs.length → Spec Try.prog g 2 [.c (.int .i64 i), .ptr 0 0 0 0, .ptr 1 0 0 0] (seaH xs key) 2 (.c (.bool (!small (xs.getD i.toNat 0)))) (seaH xs key)) :
  Spec Try.prog 198 2 [.c (.int .i64 xs.length), .fn g [.ptr 0 0 0 0, .ptr 1 0 0 0]] (seaH xs key) 2 (.c (.int .i64 N)) (seaH xs key) := by
 refine spi (fn := Try.f198) _ ?_
 conv => whnf
 skip
 refine vloop2 (fun (i j : Nat) => Sea small xs i j) (fun i j => ⟨26, 2, [(1, .fn g [.ptr 0 0 0 0, .ptr 1 0 0 0]), (5, .c (.int .i64 i)), (6, .c (.int .i64 j))], seaH xs key⟩) (fun i j => j - i) 0 xs.length Sea.first (fun _ _ => Nat.le_refl _) (ent_j [] [0, 1]) (fun i j hi => ?_)
 have h1 := hi.ij
 have h2 := hi.jl
 conv => whnf
 by_cases hij : i < j
 ·obtain ⟨z, hh⟩ : ∃ z : Nat, ((i : Int) + j).fdiv 2 = z := ⟨(i + j) / 2, by rw [Int.fdiv_eq_ediv_of_nonneg _ (by decide)]; omega⟩
  have hb : i ≤ z ∧ z < j := by
   rw [Int.fdiv_eq_ediv_of_nonneg _ (by decide)] at hh
   omega
  have hg := hg z (by omega) (by omega)
  repeat' first
   |(refine vneed_i (by kernel_rfl) ?_; conv => whnf)
   |(refine vif_t ?_ ?_; (focus ((try simp only [qA]) <;> (try simp only [wA]) <;> omega)); conv => whnf)
   |(refine vint_f (by (try simp only [wA, wL]) <;> omega) (by (try simp only [wA, wL]) <;> omega) ?_; conv => whnf)
   |(refine vint_fu (by omega) (by omega) ?_; conv => whnf)
  rw [hh]
  repeat' first
   |(refine vif_i (fun h => ?_) (fun h => ?_) <;> (try simp only [qA] at h) <;> (try simp only [wA] at h) <;> conv => whnf)
   |(refine vint_f (by (try simp only [wA, wL]) <;> omega) (by (try simp only [wA, wL]) <;> omega) ?_; conv => whnf)
   |(refine vcall_i [] [0, 1] (hg) ⟨rfl, rfl, rfl, (by repeat first | exact trivial | refine ⟨rfl, ?_⟩), ⟨rfl, rfl, rfl, rfl, rfl, rfl⟩, ?_⟩; conv => whnf)
  ·refine ⟨⟨(z + 1, j), ?_⟩, (ent_j [] [0, 1]), by dsimp only; omega⟩; (try dsimp only)
   exact hi.up ha hm hb.1 hb.2 (by assumption)
  ·refine ⟨⟨(i, z), ?_⟩, (ent_j [] [0, 1]), by dsimp only; omega⟩; (try dsimp only)
   exact hi.down ha hm hb.1 hb.2 (by assumption)
 ·obtain rfl : i = j := by omega
  rw [hN i hi]
  repeat' (refine vif_f ?_ ?_; (focus ((try simp only [qA]) <;> (try simp only [wA]) <;> omega)); conv => whnf)
  exact (vend_j [] [0, 1])
theorem KeysUpTo_v (xs : List Int) (key : Int) (hv : vKeys xs = true) (hl : xs.length ≤ 4294967296) : Spec Try.prog 174 0 [.c (.nums .i64 xs), .c (.int .i64 key)] [] 0 (.c (.int .i64 (upF xs key))) [] := by
 have ha := (vKeys_iff.1 hv).1
 have hk := ValidKeys_v xs hl
 rw [hv] at hk
 have hs := search_v 199 (fun x => decide (x ≤ key)) xs key (upF xs key) ha hl (fun a b h1 h2 => by have := of_decide_eq_true h2; exact decide_eq_true (by omega)) (fun i s => s.upF ha) (fun i h0 h1 => upTo1_v xs key i h0 h1 hl)
 refine spi (fn := Try.f174) _ ?_
 conv => whnf
 repeat' first
  |(refine vif_f ?_ ?_; (focus ((try simp only [qA]) <;> (try simp only [wA]) <;> omega)); conv => whnf)
  |refine vend_n ?_
  |(refine vcall_p (hk) rfl rfl ?_; conv => whnf)
  |(refine vcall_i [] [0, 1] (hs) ⟨rfl, rfl, rfl, (by repeat first | exact trivial | refine ⟨rfl, ?_⟩), ⟨rfl, rfl, rfl, rfl, rfl, rfl⟩, ?_⟩; conv => whnf)
 rfl
theorem KeysBelow_v (xs : List Int) (key : Int) (hv : vKeys xs = true) (hl : xs.length ≤ 4294967296) : Spec Try.prog 200 0 [.c (.nums .i64 xs), .c (.int .i64 key)] [] 0 (.c (.int .i64 (belF xs key))) [] := by
 have ha := (vKeys_iff.1 hv).1
 have hk := ValidKeys_v xs hl
 rw [hv] at hk
 have hs := search_v 211 (fun x => decide (x < key)) xs key (belF xs key) ha hl (fun a b h1 h2 => by have := of_decide_eq_true h2; exact decide_eq_true (by omega)) (fun i s => s.belF ha) (fun i h0 h1 => below1_v xs key i h0 h1 hl)
 refine spi (fn := Try.f200) _ ?_
 conv => whnf
 repeat' first
  |(refine vif_f ?_ ?_; (focus ((try simp only [qA]) <;> (try simp only [wA]) <;> omega)); conv => whnf)
  |refine vend_n ?_
  |(refine vcall_p (hk) rfl rfl ?_; conv => whnf)
  |(refine vcall_i [] [0, 1] (hs) ⟨rfl, rfl, rfl, (by repeat first | exact trivial | refine ⟨rfl, ?_⟩), ⟨rfl, rfl, rfl, rfl, rfl, rfl⟩, ?_⟩; conv => whnf)
 rfl
theorem InsideOf_v (p : Pg) : Spec Try.prog 125 0 [pgV p] [] 0 (inV p) [] := by
 refine spi (fn := Try.f125) _ ?_
 conv => whnf
 skip
 exact (vend_j [] [])
theorem nodup_snoc {l : List Int} {i : Nat} (hi : i < l.length) : (l.take (i + 1)).Nodup ↔ (l.take i).Nodup ∧ l.getD i 0 ∉ l.take i := by
 rw [take_getD 0 hi, List.nodup_append]
 constructor
 ·rintro ⟨a, b, c⟩
  exact ⟨a, fun h => c _ h _ (List.mem_singleton.2 rfl) rfl⟩
 ·rintro ⟨a, b⟩
  refine ⟨a, List.pairwise_singleton _ _, fun x hx y hy => ?_⟩
  rw [List.mem_singleton.1 hy]
  exact fun q => b (q ▸ hx)
theorem ValidInner_v (keys kids vals : List Int) (h1 : keys.length ≤ 4294967296) (h2 : kids.length ≤ 4294967296) : Spec Try.prog 136 0 [.agg [.c (.nums .i64 keys), .c (.nums .i64 kids)]] [] 0 (.c (.bool (vInr ⟨keys, kids, vals⟩))) [] := by
 have hk := ValidKeys_v keys h1
 have e : vInr ⟨keys, kids, vals⟩ = (decide (1 ≤ keys.length ∧ keys.length ≤ 5) && vKeys keys && decide (kids.length = keys.length + 1) && (kids.all fun x => decide (0 ≤ x ∧ x ≤ 15)) && decide kids.Nodup) := rfl
 generalize vInr ⟨keys, kids, vals⟩ = X at *
 generalize vKeys keys = VK at *
 refine spi (fn := Try.f136) _ ?_
 conv => whnf
 repeat' first
  |(refine vif_i (fun h => ?_) (fun h => ?_) <;> (try simp only [qA] at h) <;> (try simp only [wA] at h) <;> conv => whnf)
  |refine vend_ff ?_
  |(refine vint_f (by (try simp only [wA, wL]) <;> omega) (by (try simp only [wA, wL]) <;> omega) ?_; conv => whnf)
  |(refine vcall_p (hk) rfl rfl ?_; conv => whnf)
 ·rw [e, decide_eq_false (by omega)]; rfl
 ·rw [e, decide_eq_false (by omega)]; rfl
 ·rw [e, h, Bool.and_false]; rfl
 ·rw [e, decide_eq_false (p := kids.length = keys.length + 1) (by omega), Bool.and_false]; rfl
 have e : X = ((kids.all fun x => decide (0 ≤ x ∧ x ≤ 15)) && decide kids.Nodup) := by
  rename_i q1 q2 q3
  rw [e, decide_eq_true (by omega), q3, decide_eq_true (p := kids.length = keys.length + 1) (by omega)]; rfl
 refine vloop2 (fun (i : Nat) (bs : List Bool) => i ≤ kids.length ∧ SeenB bs (kids.take i) ∧ (kids.take i).all (fun x => decide (0 ≤ x ∧ x ≤ 15)) = true ∧ (kids.take i).Nodup) (fun i bs => ⟨51, 1, [(3, .ptr 0 0 1 0), (31, .c (.nums .i64 kids)), (32, .c (.int .i64 kids.length)), (33, .c (.int .i64 i))], [(0, .arr (.bools bs))]⟩) (fun i bs => kids.length - i) 0 (List.replicate 16 false) ⟨Nat.zero_le _, SeenB.none, rfl, List.nodup_nil⟩ (fun _ _ => Nat.zero_le _) (ent_j [] [1]) (fun i bs hi => ?_)
 obtain ⟨hil, hs, hal, hnd⟩ := hi
 have hbl := hs.1
 conv => whnf
 repeat' first
  |(refine vneed_i (by (try simp only [wA, wL]) <;> omega) ?_; conv => whnf)
  |(refine vif_i (fun h => ?_) (fun h => ?_) <;> (try simp only [qA] at h) <;> (try simp only [wA] at h) <;> conv => whnf)
  |refine vend_tt ?_
  |refine vend_ff ?_
  |(refine vint_f (by (try simp only [wA, wL]) <;> omega) (by (try simp only [wA, wL]) <;> omega) ?_; conv => whnf)
 ·rw [e, show (kids.all fun x => decide (0 ≤ x ∧ x ≤ 15)) = false from all_not 0 (k := i) (by omega) (decide_eq_false (by omega))]; rfl
 ·rw [e, show (kids.all fun x => decide (0 ≤ x ∧ x ≤ 15)) = false from all_not 0 (k := i) (by omega) (decide_eq_false (by omega))]; rfl
 ·rw [hs.at (by omega) (by omega)] at h
  rw [e, decide_eq_false (p := kids.Nodup) (fun q => ((nodup_snoc (by omega)).1 ((List.take_sublist (i + 1) kids).nodup q)).2 (of_decide_eq_true h)), Bool.and_false]
 ·rw [hs.at (by omega) (by omega)] at h
  refine ⟨⟨(i + 1, bs.set (kids.getD i 0).toNat true), ?_⟩, (ent_j [] [0]), by dsimp only; omega⟩
  refine ⟨by omega, ?_, all_succ 0 hal (by omega) (decide_eq_true (by omega)), (nodup_snoc (by omega)).2 ⟨hnd, of_decide_eq_false h⟩⟩
  dsimp only
  rw [take_getD 0 (by omega)]
  exact hs.snoc (by omega) (by omega)
 ·rw [List.take_of_length_le (by omega)] at hnd
  rw [e, show (kids.all fun x => decide (0 ≤ x ∧ x ≤ 15)) = true from all_done hal (by omega), decide_eq_true hnd]; rfl
theorem RouteKey_v (p : Pg) (key : Int) (hv : vInr p = true) : Spec Try.prog 124 0 [inV p, .c (.int .i64 key)] [] 0 (.c (.int .i64 (p.kids.getD (upF p.keys key) 0))) [] := by
 have hv' := hv
 unfold vInr at hv'
 simp only [Bool.and_eq_true, decide_eq_true_eq] at hv'
 obtain ⟨⟨⟨⟨⟨b1, b2⟩, b3⟩, b4⟩, b5⟩, b6⟩ := hv'
 have hvi := ValidInner_v p.keys p.kids p.vals (by omega) (by omega)
 rw [show (⟨p.keys, p.kids, p.vals⟩ : Pg) = p from rfl, hv] at hvi
 have hu := upF_le p.keys key
 have hk := KeysUpTo_v p.keys key b3 (by omega)
 clear hv b5 b6 b3
 generalize upF p.keys key = U at *
 refine spi (fn := Try.f124) _ ?_
 conv => whnf
 repeat' first
  |(refine vneed_i (by kernel_rfl) ?_; conv => whnf)
  |(refine vif_f ?_ ?_; (focus ((try simp only [qA]) <;> (try simp only [wA]) <;> omega)); conv => whnf)
  |(refine vneed_i (by (try simp only [wA, wL]) <;> omega) ?_; conv => whnf)
  |refine vend_n ?_
  |(refine vcall_p (hvi) rfl rfl ?_; conv => whnf)
  |(refine vcalld_p (hk) rfl rfl ?_; conv => whnf)
  |(refine vpre_no ?_; conv => whnf)
 rfl
end Go.VL
