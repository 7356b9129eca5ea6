/- V-logic: TrB -/
import Derived.Test.YtbpbgjkingjdcaaVMA
import Derived.Test.YtbpbgjkingjdcaaVTrA
namespace Go.VL
open Go.Proofs
set_option maxRecDepth 10000
set_option linter.unusedSimpArgs false
set_option linter.unusedVariables false
theorem zcs (code : List Int) (hc : CodeOk code) (p n : Int) (h0 : 0 ≤ p) (h1 : p ≤ 1099511627776) (hn : n ≤ 1099511627776) : zr Try.prog 133 1 [.ptr 0 0 0 0, .c (.int .i64 n)] [(0, .box [.c (.nums .u8 code), .c (.int .i64 p)] [] [])] 1 (.c (.int .i64 (zah code p n))) [(0, .box [.c (.nums .u8 code), .c (.int .i64 (p + 1))] [] [])] := by
 have hcl := hc.len
 obtain ⟨p', hp'⟩ : ∃ p', p' = p + 1 - 1 := ⟨_, rfl⟩
 have hpp : p' = p := by omega
 have hb0 := hc.byte p'.toNat
 have hb1 := hc.byte (p'.tmod code.length).toNat
 have hb2 := hc.byte ((p' * 7 + 3).tmod code.length).toNat
 have hd0 : 0 ≤ p'.tdiv code.length := Int.tdiv_nonneg (by omega) (Int.natCast_nonneg _)
 have hd1 : p'.tdiv code.length ≤ p' := Int.tdiv_le_self _ (by omega)
 have hm0 : 0 ≤ p'.tmod code.length := Int.tmod_nonneg _ (by omega)
 have hm1 : 0 ≤ (p' * 7 + 3).tmod code.length := Int.tmod_nonneg _ (by omega)
 have hm2 : ¬ (code.length : Int) = 0 → p'.tmod code.length < code.length := fun h => Int.tmod_lt_of_pos _ (by omega)
 have hm3 : ¬ (code.length : Int) = 0 → (p' * 7 + 3).tmod code.length < code.length := fun h => Int.tmod_lt_of_pos _ (by omega)
 have hq := zyx hc (p := p') (by omega) (by omega)
 have hq0 : 0 ≤ (zit code p').tdiv 64 := Int.tdiv_nonneg hq.1 (by decide)
 have hq1 : (zit code p').tdiv 64 ≤ zit code p' := Int.tdiv_le_self _ hq.1
 unfold zit at hq hq0 hq1
 rw [show zah code p n = zah code p' n by rw [hpp]]
 rw [hp'] at hq hq0 hq1 ⊢
 rw [hp'] at hb0 hb1 hb2 hd0 hd1 hm0 hm1 hm2 hm3
 clear hp' hpp
 refine spi (fn := Try.f133) _ ?_
 conv => whnf
 repeat' first
  |(refine za (by kernel_rfl) ?_; conv => whnf)
  |(refine za (by (try simp only [wA, wN, wL]) <;> omega) ?_; conv => whnf)
  |(refine zk (fun h => ?_) (fun h => ?_) <;> (try simp only [qA] at h) <;> (try simp only [wA, wN] at h) <;> conv => whnf)
  |(refine zg (by (try simp only [wA, wN, wL]) <;> omega) (by (try simp only [wA, wN, wL]) <;> omega) ?_; conv => whnf)
  |(refine ze ?_; conv => whnf)
 all_goals (unfold zah zit; (repeat first | rw [if_pos (by assumption)] | rw [if_neg (by assumption)] | rw [if_neg (by rw [Bool.not_eq_true]; assumption)] | rw [if_neg (by rw [Bool.not_eq_false]; assumption)] | rw [if_pos (by omega)] | rw [if_neg (by omega)]); exact (zu [] [0]))
theorem zff (code : List Int) (hl : code.length ≤ 1048576) : zr Try.prog 98 0 [.c (.nums .u8 code)] [] 1 (.ptr 0 0 0 0) [(0, .box [.c (.nums .u8 (code.take 2000)), .c (.int .i64 0)] [] [])] := by
 refine spi (fn := Try.f98) _ ?_
 conv => whnf
 repeat' first | (refine za (by (try simp only [wA, wN, wL]) <;> omega) ?_; conv => whnf) | (refine zk (fun h => ?_) (fun h => ?_) <;> (try simp only [qA] at h) <;> (try simp only [wA, wN] at h) <;> conv => whnf)
 ·exact (zu [] [0])
 ·rw [List.take_of_length_le (by omega)]
  exact (zu [] [0])
theorem zjy (code : List Int) (hc : CodeOk code) (p : Int) (xs : List Int) (h0 : 0 ≤ p) (h1 : p ≤ 1099511627776) (hx : 1 ≤ xs.length) (hx2 : xs.length ≤ 1000) : zr Try.prog 134 1 [.ptr 0 0 0 0, .c (.nums .i64 xs)] [(0, .box [.c (.nums .u8 code), .c (.int .i64 p)] [] [])] 1 (.c (.int .i64 (xs.getD (zah code p xs.length).toNat 0))) [(0, .box [.c (.nums .u8 code), .c (.int .i64 (p + 1))] [] [])] := by
 have hb := zdl hc (n := (xs.length : Int)) h0 h1
 have hb1 := hb.2 (by omega)
 refine spi (fn := Try.f134) _ ?_
 conv => whnf
 repeat' first
  |(refine za (by (try simp only [wA, wN, wL]) <;> omega) ?_; conv => whnf)
  |(refine zal [] [0] (zcs code hc p (xs.length : Int) h0 h1 (by omega)) ⟨rfl, rfl, rfl, (by repeat first | exact trivial | refine ⟨rfl, ?_⟩), ⟨rfl, rfl, rfl, rfl, rfl, rfl⟩, ?_⟩; conv => whnf)
 exact (zu [] [0])
theorem zcn (xs : List Int) (hl : xs.length ≤ 4294967296) : zr Try.prog 155 0 [.c (.nums .i64 xs)] [] 1 (.slc 0) [(0, .arr (.nums .i64 xs))] := by
 refine spi (fn := Try.f155) _ ?_
 conv => whnf
 repeat' (refine za (by (try simp only [wA, wN, wL]) <;> omega) ?_; conv => whnf)
 exact (zu [] [0])
theorem znk (xs : List Int) (n : Int) (hl : xs.length ≤ 4294967296) : zr Try.prog 184 0 [.c (.nums .i64 xs), .c (.int .i64 n)] [] 0 (.c (.int .i64 (belF xs n))) [] := by
 refine spi (fn := Try.f184) _ ?_
 conv => whnf
 refine zau (fun k : Nat => k ≤ xs.length ∧ (xs.take k).all (fun x => decide (x < n)) = true) (fun k => ⟨21, 0, [(0, .c (.nums .i64 xs)), (1, .c (.int .i64 n)), (5, .c (.int .i64 k))], []⟩) (fun k => xs.length - k) 0 ⟨by omega, by simp⟩ (fun _ => Nat.zero_le _) zbn (fun k hk => ?_)
 obtain ⟨hk, hk2⟩ := hk
 conv => whnf
 repeat' first
  |(refine za (by (try simp only [wA, wN, wL]) <;> omega) ?_; conv => whnf)
  |(refine zk (fun h => ?_) (fun h => ?_) <;> (try simp only [qA] at h) <;> (try simp only [wA, wN] at h) <;> conv => whnf)
  |refine zi ?_
  |(refine zg (by (try simp only [wA, wN, wL]) <;> omega) (by (try simp only [wA, wN, wL]) <;> omega) ?_; conv => whnf)
 ·refine ⟨⟨k + 1, ?_⟩, zbn, by dsimp only; omega⟩; (try dsimp only)
  exact ⟨by omega, zeg 0 hk2 (by omega) (by exact decide_eq_true (by omega))⟩
 ·rw [zvp n xs k hk2 hk (fun _ => h)]
 ·rw [zvp n xs k hk2 hk (fun h2 => absurd h2 (by omega))]
def zos (code : List Int) (p : Int) (xs : List Int) (n : Int) : List Int :=
 if zah code p 20 = 0 then xs ++ [n] else if zah code p 20 = 1 then (if (xs.length : Int) > 0 then xs.drop 1 else xs)
 else if zah code p 20 = 2 then (if (xs.length : Int) > 0 then xs.set (zah code (p + 1) xs.length).toNat ([-1, n, 0, 1].getD (zah code (p + 1 + 1) 4).toNat 0) else xs) else xs
def zmn (code : List Int) (p : Int) (xs : List Int) : Int :=
 if zah code p 20 = 0 then p + 1 else if zah code p 20 = 1 then p + 1
 else if zah code p 20 = 2 then (if (xs.length : Int) > 0 then p + 1 + 1 + 1 else p + 1) else p + 1
theorem zqq (code : List Int) (hc : CodeOk code) (p n : Int) (xs : List Int) (h0 : 0 ≤ p) (h1 : p ≤ 1099511620000) (hl : xs.length ≤ 1000) : zr Try.prog 156 1 [.ptr 0 0 0 0, .c (.nums .i64 xs), .c (.int .i64 n)] [(0, .box [.c (.nums .u8 code), .c (.int .i64 p)] [] [])] 1 (.c (.nums .i64 (zos code p xs n))) [(0, .box [.c (.nums .u8 code), .c (.int .i64 (zmn code p xs))] [] [])] := by
 have hb := zdl hc (p := p + 1) (n := (xs.length : Int)) (by omega) (by omega)
 refine spi (fn := Try.f156) _ ?_
 conv => whnf
 repeat' first
  |(refine za (by (try simp only [wA, wN, wL]) <;> omega) ?_; conv => whnf)
  |(refine zk (fun h => ?_) (fun h => ?_) <;> (try simp only [qA] at h) <;> (try simp only [wA, wN] at h) <;> conv => whnf)
  |(refine z8 (zcn _ (by omega)) rfl ?_; conv => whnf)
  |(refine zal [] [0] (zcs code hc p 20 h0 (by omega) (by omega)) ⟨rfl, rfl, rfl, (by repeat first | exact trivial | refine ⟨rfl, ?_⟩), ⟨rfl, rfl, rfl, rfl, rfl, rfl⟩, ?_⟩; conv => whnf)
  |(refine zal [] [0] (zcs code hc (p + 1) (xs.length : Int) (by omega) (by omega) (by omega)) ⟨rfl, rfl, rfl, (by repeat first | exact trivial | refine ⟨rfl, ?_⟩), ⟨rfl, rfl, rfl, rfl, rfl, rfl⟩, ?_⟩; conv => whnf)
  |(refine zal [2] [0] (zjy code hc (p + 1 + 1) [-1, n, 0, 1] (by omega) (by omega) (by simp) (by simp)) ?_; (conv => whnf); refine ⟨rfl, rfl, rfl, (by repeat first | exact trivial | refine ⟨rfl, ?_⟩), ⟨rfl, rfl, rfl, rfl, rfl, rfl⟩, ?_⟩; conv => whnf)
 all_goals (unfold zos zmn; (repeat first | rw [if_pos (by assumption)] | rw [if_neg (by assumption)] | rw [if_neg (by rw [Bool.not_eq_true]; assumption)] | rw [if_neg (by rw [Bool.not_eq_false]; assumption)] | rw [if_pos (by omega)] | rw [if_neg (by omega)]); first | exact (zu [] [0]) | (refine zbg [1] [0] ?_; (conv => whnf); exact ⟨rfl, by repeat first | exact trivial | refine ⟨rfl, ?_⟩, rfl, rfl, rfl, rfl, rfl, rfl⟩))
end Go.VL
