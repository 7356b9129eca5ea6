/- V-logic: TrYa -/
import Derived.Test.YtbpbgjkingjdcaaVTrA
import Derived.Test.YtbpbgjkingjdcaaVPE
import Derived.Test.YtbpbgjkingjdcaaVMA
namespace Go.VL
open Go.Proofs
set_option maxRecDepth 10000
set_option linter.unusedSimpArgs false
set_option linter.unusedVariables false
abbrev zld (xs : List Int) (key : Int) : List (Nat × O) := [(0, .box [.c (.nums .i64 xs)] [] []), (1, .box [.c (.int .i64 key)] [] [])]
theorem z17 (xs : List Int) (key i : Int) (h0 : 0 ≤ i) (h1 : i < xs.length) (hl : xs.length ≤ 4294967296) : zr Try.prog 199 2 [.c (.int .i64 i), .ptr 0 0 0 0, .ptr 1 0 0 0] (zld xs key) 2 (.c (.bool (!decide (xs.getD i.toNat 0 ≤ key)))) (zld xs key) := by
 refine spi (fn := Try.f199) _ ?_
 conv => whnf
 repeat' first
  |(refine za (by kernel_rfl) ?_; conv => whnf)
  |(refine za (by (try simp only [wA, wL]) <;> omega) ?_; conv => whnf)
  |(refine zk (fun h => ?_) (fun h => ?_) <;> (try simp only [qA] at h) <;> (try simp only [wA] at h) <;> conv => whnf)
  |(refine ze ?_; conv => whnf)
 all_goals first
  |(rw [show decide (xs.getD i.toNat 0 ≤ key) = false from decide_eq_false (by omega)]; exact (zu [] [0, 1]))
  |(rw [show decide (xs.getD i.toNat 0 ≤ key) = true from decide_eq_true (by omega)]; exact (zu [] [0, 1]))
theorem z0q (xs : List Int) (key i : Int) (h0 : 0 ≤ i) (h1 : i < xs.length) (hl : xs.length ≤ 4294967296) : zr Try.prog 211 2 [.c (.int .i64 i), .ptr 0 0 0 0, .ptr 1 0 0 0] (zld xs key) 2 (.c (.bool (!decide (xs.getD i.toNat 0 < key)))) (zld xs key) := by
 refine spi (fn := Try.f211) _ ?_
 conv => whnf
 repeat' first
  |(refine za (by kernel_rfl) ?_; conv => whnf)
  |(refine za (by (try simp only [wA, wL]) <;> omega) ?_; conv => whnf)
  |(refine zk (fun h => ?_) (fun h => ?_) <;> (try simp only [qA] at h) <;> (try simp only [wA] at h) <;> conv => whnf)
  |(refine ze ?_; conv => whnf)
 all_goals first
  |(rw [show decide (xs.getD i.toNat 0 < key) = false from decide_eq_false (by omega)]; exact (zu [] [0, 1]))
  |(rw [show decide (xs.getD i.toNat 0 < key) = true from decide_eq_true (by omega)]; exact (zu [] [0, 1]))
theorem zth (g : Nat) (small : Int → Bool) (xs : List Int) (key : Int) (N : Nat) (ha : Asc xs) (hl : xs.length ≤ 4294967296) (hm : ∀ a b, a < b → small b = true → small a = true) (hN : ∀ i, Sea small xs i i → N = i)
  (hg : ∀ i : Int, 0 ≤ i → i < xs.length → zr Try.prog g 2 [.c (.int .i64 i), .ptr 0 0 0 0, .ptr 1 0 0 0] (zld xs key) 2 (.c (.bool (!small (xs.getD i.toNat 0)))) (zld xs key)) :
  zr Try.prog 198 2 [.c (.int .i64 xs.length), .fn g [.ptr 0 0 0 0, .ptr 1 0 0 0]] (zld xs key) 2 (.c (.int .i64 N)) (zld xs key) := by
 refine spi (fn := Try.f198) _ ?_
 conv => whnf
 skip
 refine zd0 (fun (i j : Nat) => Sea small xs i j) (fun i j => ⟨26, 2, [(1, .fn g [.ptr 0 0 0 0, .ptr 1 0 0 0]), (5, .c (.int .i64 i)), (6, .c (.int .i64 j))], zld xs key⟩) (fun i j => j - i) 0 xs.length Sea.first (fun _ _ => Nat.le_refl _) (z5 [] [0, 1]) (fun i j hi => ?_)
 have h1 := hi.ij
 have h2 := hi.jl
 conv => whnf
 by_cases hij : i < j
 ·obtain ⟨z, hh⟩ : ∃ z : Nat, ((i : Int) + j).fdiv 2 = z := ⟨(i + j) / 2, by rw [Int.fdiv_eq_ediv_of_nonneg _ (by decide)]; omega⟩
  have hb : i ≤ z ∧ z < j := by
   rw [Int.fdiv_eq_ediv_of_nonneg _ (by decide)] at hh
   omega
  have hg := hg z (by omega) (by omega)
  repeat' first
   |(refine za (by kernel_rfl) ?_; conv => whnf)
   |(refine zn ?_ ?_; (focus ((try simp only [qA]) <;> (try simp only [wA]) <;> omega)); conv => whnf)
   |(refine zg (by (try simp only [wA, wL]) <;> omega) (by (try simp only [wA, wL]) <;> omega) ?_; conv => whnf)
   |(refine z2g (by omega) (by omega) ?_; conv => whnf)
  rw [hh]
  repeat' first
   |(refine zk (fun h => ?_) (fun h => ?_) <;> (try simp only [qA] at h) <;> (try simp only [wA] at h) <;> conv => whnf)
   |(refine zg (by (try simp only [wA, wL]) <;> omega) (by (try simp only [wA, wL]) <;> omega) ?_; conv => whnf)
   |(refine zal [] [0, 1] (hg) ⟨rfl, rfl, rfl, (by repeat first | exact trivial | refine ⟨rfl, ?_⟩), ⟨rfl, rfl, rfl, rfl, rfl, rfl⟩, ?_⟩; conv => whnf)
  ·refine ⟨⟨(z + 1, j), ?_⟩, (z5 [] [0, 1]), by dsimp only; omega⟩; (try dsimp only)
   exact hi.up ha hm hb.1 hb.2 (by assumption)
  ·refine ⟨⟨(i, z), ?_⟩, (z5 [] [0, 1]), by dsimp only; omega⟩; (try dsimp only)
   exact hi.down ha hm hb.1 hb.2 (by assumption)
 ·obtain rfl : i = j := by omega
  rw [hN i hi]
  repeat' (refine zm ?_ ?_; (focus ((try simp only [qA]) <;> (try simp only [wA]) <;> omega)); conv => whnf)
  exact (zu [] [0, 1])
theorem zxz (xs : List Int) (key : Int) (hv : za2 xs = true) (hl : xs.length ≤ 4294967296) : zr Try.prog 174 0 [.c (.nums .i64 xs), .c (.int .i64 key)] [] 0 (.c (.int .i64 (upF xs key))) [] := by
 have ha := (zde.1 hv).1
 have hk := zfj xs hl
 rw [hv] at hk
 have hs := zth 199 (fun x => decide (x ≤ key)) xs key (upF xs key) ha hl (fun a b h1 h2 => by have := of_decide_eq_true h2; exact decide_eq_true (by omega)) (fun i s => s.upF ha) (fun i h0 h1 => z17 xs key i h0 h1 hl)
 refine spi (fn := Try.f174) _ ?_
 conv => whnf
 repeat' first
  |(refine zm ?_ ?_; (focus ((try simp only [qA]) <;> (try simp only [wA]) <;> omega)); conv => whnf)
  |refine zi ?_
  |(refine zp (hk) rfl rfl ?_; conv => whnf)
  |(refine zal [] [0, 1] (hs) ⟨rfl, rfl, rfl, (by repeat first | exact trivial | refine ⟨rfl, ?_⟩), ⟨rfl, rfl, rfl, rfl, rfl, rfl⟩, ?_⟩; conv => whnf)
 rfl
theorem zvg (xs : List Int) (key : Int) (hv : za2 xs = true) (hl : xs.length ≤ 4294967296) : zr Try.prog 200 0 [.c (.nums .i64 xs), .c (.int .i64 key)] [] 0 (.c (.int .i64 (belF xs key))) [] := by
 have ha := (zde.1 hv).1
 have hk := zfj xs hl
 rw [hv] at hk
 have hs := zth 211 (fun x => decide (x < key)) xs key (belF xs key) ha hl (fun a b h1 h2 => by have := of_decide_eq_true h2; exact decide_eq_true (by omega)) (fun i s => s.belF ha) (fun i h0 h1 => z0q xs key i h0 h1 hl)
 refine spi (fn := Try.f200) _ ?_
 conv => whnf
 repeat' first
  |(refine zm ?_ ?_; (focus ((try simp only [qA]) <;> (try simp only [wA]) <;> omega)); conv => whnf)
  |refine zi ?_
  |(refine zp (hk) rfl rfl ?_; conv => whnf)
  |(refine zal [] [0, 1] (hs) ⟨rfl, rfl, rfl, (by repeat first | exact trivial | refine ⟨rfl, ?_⟩), ⟨rfl, rfl, rfl, rfl, rfl, rfl⟩, ?_⟩; conv => whnf)
 rfl
theorem zxh (p : Pg) : zr Try.prog 125 0 [pgV p] [] 0 (inV p) [] := by
 refine spi (fn := Try.f125) _ ?_
 conv => whnf
 skip
 exact (zu [] [])
theorem zo8 {l : List Int} {i : Nat} (hi : i < l.length) : (l.take (i + 1)).Nodup ↔ (l.take i).Nodup ∧ l.getD i 0 ∉ l.take i := by
 rw [zat 0 hi, List.nodup_append]
 constructor
 ·rintro ⟨a, b, c⟩
  exact ⟨a, fun h => c _ h _ (List.mem_singleton.2 rfl) rfl⟩
 ·rintro ⟨a, b⟩
  refine ⟨a, List.pairwise_singleton _ _, fun x hx y hy => ?_⟩
  rw [List.mem_singleton.1 hy]
  exact fun q => b (q ▸ hx)
theorem zuk (keys kids vals : List Int) (h1 : keys.length ≤ 4294967296) (h2 : kids.length ≤ 4294967296) : zr Try.prog 136 0 [.agg [.c (.nums .i64 keys), .c (.nums .i64 kids)]] [] 0 (.c (.bool (zl3 ⟨keys, kids, vals⟩))) [] := by
 have hk := zfj keys h1
 have e : zl3 ⟨keys, kids, vals⟩ = (decide (1 ≤ keys.length ∧ keys.length ≤ 5) && za2 keys && decide (kids.length = keys.length + 1) && (kids.all fun x => decide (0 ≤ x ∧ x ≤ 15)) && decide kids.Nodup) := rfl
 generalize zl3 ⟨keys, kids, vals⟩ = X at *
 generalize za2 keys = VK at *
 refine spi (fn := Try.f136) _ ?_
 conv => whnf
 repeat' first
  |(refine zk (fun h => ?_) (fun h => ?_) <;> (try simp only [qA] at h) <;> (try simp only [wA] at h) <;> conv => whnf)
  |refine zd ?_
  |(refine zg (by (try simp only [wA, wL]) <;> omega) (by (try simp only [wA, wL]) <;> omega) ?_; conv => whnf)
  |(refine zp (hk) rfl rfl ?_; conv => whnf)
 ·rw [e, decide_eq_false (by omega)]; rfl
 ·rw [e, decide_eq_false (by omega)]; rfl
 ·rw [e, h, Bool.and_false]; rfl
 ·rw [e, decide_eq_false (p := kids.length = keys.length + 1) (by omega), Bool.and_false]; rfl
 have e : X = ((kids.all fun x => decide (0 ≤ x ∧ x ≤ 15)) && decide kids.Nodup) := by
  rename_i q1 q2 q3
  rw [e, decide_eq_true (by omega), q3, decide_eq_true (p := kids.length = keys.length + 1) (by omega)]; rfl
 refine zd0 (fun (i : Nat) (bs : List Bool) => i ≤ kids.length ∧ ziz bs (kids.take i) ∧ (kids.take i).all (fun x => decide (0 ≤ x ∧ x ≤ 15)) = true ∧ (kids.take i).Nodup) (fun i bs => ⟨51, 1, [(3, .ptr 0 0 1 0), (31, .c (.nums .i64 kids)), (32, .c (.int .i64 kids.length)), (33, .c (.int .i64 i))], [(0, .arr (.bools bs))]⟩) (fun i bs => kids.length - i) 0 (List.replicate 16 false) ⟨Nat.zero_le _, ziz.none, rfl, List.nodup_nil⟩ (fun _ _ => Nat.zero_le _) (z5 [] [1]) (fun i bs hi => ?_)
 obtain ⟨hil, hs, hal, hnd⟩ := hi
 have hbl := hs.1
 conv => whnf
 repeat' first
  |(refine za (by (try simp only [wA, wL]) <;> omega) ?_; conv => whnf)
  |(refine zk (fun h => ?_) (fun h => ?_) <;> (try simp only [qA] at h) <;> (try simp only [wA] at h) <;> conv => whnf)
  |refine zc ?_
  |refine zd ?_
  |(refine zg (by (try simp only [wA, wL]) <;> omega) (by (try simp only [wA, wL]) <;> omega) ?_; conv => whnf)
 ·rw [e, show (kids.all fun x => decide (0 ≤ x ∧ x ≤ 15)) = false from zf6 0 (k := i) (by omega) (decide_eq_false (by omega))]; rfl
 ·rw [e, show (kids.all fun x => decide (0 ≤ x ∧ x ≤ 15)) = false from zf6 0 (k := i) (by omega) (decide_eq_false (by omega))]; rfl
 ·rw [hs.at (by omega) (by omega)] at h
  rw [e, decide_eq_false (p := kids.Nodup) (fun q => ((zo8 (by omega)).1 ((List.take_sublist (i + 1) kids).nodup q)).2 (of_decide_eq_true h)), Bool.and_false]
 ·rw [hs.at (by omega) (by omega)] at h
  refine ⟨⟨(i + 1, bs.set (kids.getD i 0).toNat true), ?_⟩, (z5 [] [0]), by dsimp only; omega⟩
  refine ⟨by omega, ?_, zeg 0 hal (by omega) (decide_eq_true (by omega)), (zo8 (by omega)).2 ⟨hnd, of_decide_eq_false h⟩⟩
  dsimp only
  rw [zat 0 (by omega)]
  exact hs.snoc (by omega) (by omega)
 ·rw [List.take_of_length_le (by omega)] at hnd
  rw [e, show (kids.all fun x => decide (0 ≤ x ∧ x ≤ 15)) = true from zh3 hal (by omega), decide_eq_true hnd]; rfl
theorem zxe (p : Pg) (key : Int) (hv : zl3 p = true) : zr Try.prog 124 0 [inV p, .c (.int .i64 key)] [] 0 (.c (.int .i64 (p.kids.getD (upF p.keys key) 0))) [] := by
 have hv' := hv
 unfold zl3 at hv'
 simp only [Bool.and_eq_true, decide_eq_true_eq] at hv'
 obtain ⟨⟨⟨⟨⟨b1, b2⟩, b3⟩, b4⟩, b5⟩, b6⟩ := hv'
 have hvi := zuk p.keys p.kids p.vals (by omega) (by omega)
 rw [show (⟨p.keys, p.kids, p.vals⟩ : Pg) = p from rfl, hv] at hvi
 have hu := zpr p.keys key
 have hk := zxz p.keys key b3 (by omega)
 clear hv b5 b6 b3
 generalize upF p.keys key = U at *
 refine spi (fn := Try.f124) _ ?_
 conv => whnf
 repeat' first
  |(refine za (by kernel_rfl) ?_; conv => whnf)
  |(refine zm ?_ ?_; (focus ((try simp only [qA]) <;> (try simp only [wA]) <;> omega)); conv => whnf)
  |(refine za (by (try simp only [wA, wL]) <;> omega) ?_; conv => whnf)
  |refine zi ?_
  |(refine zp (hvi) rfl rfl ?_; conv => whnf)
  |(refine zw (hk) rfl rfl ?_; conv => whnf)
  |(refine ze ?_; conv => whnf)
 rfl
end Go.VL
