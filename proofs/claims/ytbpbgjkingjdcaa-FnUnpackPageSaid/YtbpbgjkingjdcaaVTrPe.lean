/- V-logic: TrPe -/
import Derived.Test.YtbpbgjkingjdcaaVEG
import Derived.Test.YtbpbgjkingjdcaaVTrPd
namespace Go.VL
open Go.Proofs
set_option maxRecDepth 10000
set_option linter.unusedSimpArgs false
set_option linter.unusedVariables false
theorem z7a (code : List Int) (hc : CodeOk code) (p n : Int) (h0 : 0 ≤ p) (h1 : p ≤ 1099511627776) (hn : n ≤ 1099511627776) : zce Try.prog 133 1 [.ptr 0 0 0 0, .c (.int .i64 n)] [(0, .box [.c (.nums .u8 code), .c (.int .i64 p)] [] [])] (fun m res hout => ∃ w : Int, 0 ≤ w ∧ (1 ≤ n → w < n) ∧ m = 1 ∧ res = .c (.int .i64 w) ∧ hout = [(0, .box [.c (.nums .u8 code), .c (.int .i64 (p + 1))] [] [])]) := by
 have hb := zdl hc (p := p) (n := n) h0 h1
 exact z6i (zcs code hc p n h0 h1 hn) ⟨_, hb.1, hb.2, rfl, rfl, rfl⟩
theorem z5p (code : List Int) (hc : CodeOk code) (p : Int) (h0 : 0 ≤ p) (h1 : p ≤ 1099511627776) : zce Try.prog 134 1 [.ptr 0 0 0 0, .c (.nums .i64 [0, 1, 5, 9, 10, -1, 100])] [(0, .box [.c (.nums .u8 code), .c (.int .i64 p)] [] [])] (fun m res hout => ∃ w : Int, -1 ≤ w ∧ w ≤ 100 ∧ m = 1 ∧ res = .c (.int .i64 w) ∧ hout = [(0, .box [.c (.nums .u8 code), .c (.int .i64 (p + 1))] [] [])]) := by
 have hb := znu (xs := [0, 1, 5, 9, 10, -1, 100]) (lo := -1) (hi := 100) (by decide) (by decide) (by decide) (zah code p ([0, 1, 5, 9, 10, -1, 100] : List Int).length).toNat
 exact z6i (zjy code hc p [0, 1, 5, 9, 10, -1, 100] h0 h1 (by decide) (by decide)) ⟨_, hb.1, hb.2, rfl, rfl, rfl⟩
theorem nmT {xs : List Int} {k : Nat} (h : nmB xs) : nmB (xs.take k) := by
 refine ⟨by have := h.1; rw [List.length_take]; omega, fun i => z4x (P := fun x => -1048576 ≤ x ∧ x ≤ 1048576) (fun x hx => ?_) (by decide) i⟩
 obtain ⟨j, hj⟩ := List.mem_iff_getElem?.1 (List.mem_of_mem_take hx)
 have := h.2 j
 rw [List.getD_eq_getElem?_getD, hj] at this
 exact this
theorem nmS {xs : List Int} {k : Nat} {v : Int} (h : nmB xs) (hv : -1048576 ≤ v ∧ v ≤ 1048576) : nmB (xs.set k v) := by
 refine ⟨by have := h.1; rw [List.length_set]; omega, fun i => ?_⟩
 by_cases c : k = i ∧ i < xs.length
 ·obtain ⟨rfl, c⟩ := c
  rw [List.getD_eq_getElem?_getD, List.getElem?_set_self c]
  exact hv
 ·by_cases c2 : k = i
  ·subst c2
   rw [List.getD_eq_getElem?_getD, List.getElem?_eq_none (by rw [List.length_set]; omega)]
   decide
  ·rw [List.getD_eq_getElem?_getD, List.getElem?_set_ne c2, ← List.getD_eq_getElem?_getD]
   exact h.2 i
theorem nmA {xs : List Int} {v : Int} (h : nmB xs) (hl : xs.length ≤ 1000) (hv : -1048576 ≤ v ∧ v ≤ 1048576) : nmB (xs ++ ([] ++ [v])) := by
 refine ⟨by simp; omega, fun i => ?_⟩
 rcases Nat.lt_trichotomy i xs.length with c | c | c
 ·rw [z6n c]; exact h.2 i
 ·rw [List.getD_eq_getElem?_getD, List.getElem?_append_right (by omega), c, Nat.sub_self]
  exact hv
 ·rw [List.getD_eq_getElem?_getD, List.getElem?_eq_none (by rw [List.length_append]; simp; omega)]
  decide
theorem nm0 : nmB [] := ⟨Nat.zero_le _, fun i => by simp⟩
theorem z5j (code : List Int) (hl : code.length ≤ 1048576) (hc : CodeOk (code.take 2000)) : zce Try.prog 60 0 [.c (.nums .u8 code)] [] (fun m res hout => ∃ l, nmB l ∧ m = 0 ∧ res = .c (.nums .i64 l) ∧ hout = []) := by
 refine z7f (R := fun m res hout => ∃ l, nmB l ∧ m = 0 ∧ (res = .c (.nums .i64 l) ∨ (res = .nil ∧ l = [])) ∧ hout = []) ?_ ?_
 ·rintro m res hout ⟨l, hl, rfl, rfl | ⟨rfl, rfl⟩, rfl⟩
  ·exact ⟨_, .refl _, l, hl, rfl, rfl, rfl⟩
  ·exact ⟨_, .n0, [], hl, rfl, rfl, rfl⟩
 refine spx (fn := Try.f60) _ ?_
 conv => whnf
 repeat' (refine zal [] [1] (zff code hl) ⟨rfl, rfl, rfl, (by repeat first | exact trivial | refine ⟨rfl, ?_⟩), ⟨rfl, rfl, rfl, rfl, rfl, rfl⟩, ?_⟩; conv => whnf)
 refine zbw [] [1] (z5z (code.take 2000) hc 0 (by omega) (by omega)) ⟨rfl, rfl, rfl, (by repeat first | exact trivial | refine ⟨rfl, ?_⟩), ⟨rfl, rfl, rfl⟩, ?_⟩
 rintro m res hout ⟨q, p, hq, p0, p1, rfl, rfl, rfl⟩
 refine ⟨⟨rfl, rfl, rfl⟩, ?_⟩
 generalize code.take 2000 = cd at *
 conv => whnf
 cases g : zin q with
 |false =>
  have h2 := z6b q hq g
  repeat' first
   |(refine zn ?_ ?_; (focus (first | rfl | exact beq_self_eq_true _)); conv => whnf)
   |(refine zm ?_ ?_; (focus (first | rfl | exact bne_self_eq_false _)); conv => whnf)
   |(refine za (by (try simp only [wA, wL]) <;> omega) ?_; conv => whnf)
   |(refine zk (fun h => ?_) (fun h => ?_) <;> (try simp only [qA] at h) <;> (try simp only [wA] at h) <;> conv => whnf)
   |(refine zp (h2) rfl rfl ?_; conv => whnf)
   |(refine zbw [] [1] (z7a cd hc _ _ ?_ ?_ ?_) ⟨rfl, rfl, rfl, (by repeat first | exact trivial | refine ⟨rfl, ?_⟩), ⟨rfl, rfl, rfl⟩, ?_⟩; (iterate 3 (focus (first | omega | (simp only [C.len, w4, w5, w6, w10]; omega)))); rintro m res hout ⟨w, b1, b2, rfl, rfl, rfl⟩; refine ⟨⟨rfl, rfl, rfl⟩, ?_⟩; (try simp only [C.len, w4, w5, w6, w10] at b2); conv => whnf)
   |(refine zbw [4] [1] (z5p cd hc (p + 1 + 1 + 1 + 1) (by omega) (by omega)) ?_; (conv => whnf); refine ⟨rfl, rfl, rfl, (by repeat first | exact trivial | refine ⟨rfl, ?_⟩), ⟨rfl, rfl, rfl⟩, ?_⟩; rintro m res hout ⟨w, b1, b2, rfl, rfl, rfl⟩; refine ⟨⟨rfl, rfl, rfl⟩, ?_⟩; conv => whnf)
  all_goals first
   |(refine za1 0 (.c (.nums .i64 _)) [] ⟨_, ?_, rfl, .inl rfl, rfl⟩ rfl (zu [] []))
   |(refine za1 0 (.c (.nums .i64 _)) [] ⟨_, ?_, rfl, .inl rfl, rfl⟩ rfl (zu [3] []))
   |(refine za1 0 .nil [] ⟨[], nm0, rfl, .inr ⟨rfl, rfl⟩, rfl⟩ rfl ?_; exact (zu [] []))
  all_goals (repeat' first | exact nm0 | assumption | exact Nat.zero_le _ | omega | refine nmT ?_ | refine nmS ?_ ?_ | refine nmA ?_ ?_ ?_)
 |true =>
  have h2 := z6p q g
  have hnb := z8f g
  have hnl : (pkF q).length ≤ 100 := by
   obtain ⟨z1, z2⟩ := ztf g
   unfold pkF pkB
   simp; omega
  generalize pkF q = L at *
  repeat' first
   |(refine zn ?_ ?_; (focus ((try simp only [qA]) <;> (try simp only [wA]) <;> omega)); conv => whnf)
   |(refine zm ?_ ?_; (focus ((try simp only [qA]) <;> (try simp only [wA]) <;> omega)); conv => whnf)
   |(refine za (by (try simp only [wA, wL]) <;> omega) ?_; conv => whnf)
   |(refine zk (fun h => ?_) (fun h => ?_) <;> (try simp only [qA] at h) <;> (try simp only [wA] at h) <;> conv => whnf)
   |(refine z8 (h2) rfl ?_; conv => whnf)
   |(refine zbw [] [1] (z7a cd hc _ _ ?_ ?_ ?_) ⟨rfl, rfl, rfl, (by repeat first | exact trivial | refine ⟨rfl, ?_⟩), ⟨rfl, rfl, rfl⟩, ?_⟩; (iterate 3 (focus (first | omega | (simp only [C.len, w4, w5, w6, w10]; omega)))); rintro m res hout ⟨w, b1, b2, rfl, rfl, rfl⟩; refine ⟨⟨rfl, rfl, rfl⟩, ?_⟩; (try simp only [C.len, w4, w5, w6, w10] at b2); conv => whnf)
   |(refine zbw [4] [1] (z5p cd hc (p + 1 + 1 + 1 + 1) (by omega) (by omega)) ?_; (conv => whnf); refine ⟨rfl, rfl, rfl, (by repeat first | exact trivial | refine ⟨rfl, ?_⟩), ⟨rfl, rfl, rfl⟩, ?_⟩; rintro m res hout ⟨w, b1, b2, rfl, rfl, rfl⟩; refine ⟨⟨rfl, rfl, rfl⟩, ?_⟩; conv => whnf)
   |(refine zbw [3] [1] (z5p cd hc (p + 1 + 1 + 1) (by omega) (by omega)) ?_; (conv => whnf); refine ⟨rfl, rfl, rfl, (by repeat first | exact trivial | refine ⟨rfl, ?_⟩), ⟨rfl, rfl, rfl⟩, ?_⟩; rintro m res hout ⟨w, b1, b2, rfl, rfl, rfl⟩; refine ⟨⟨rfl, rfl, rfl⟩, ?_⟩; conv => whnf)
  all_goals first
   |(refine za1 0 (.c (.nums .i64 _)) [] ⟨_, ?_, rfl, .inl rfl, rfl⟩ rfl (zu [] []))
   |(refine za1 0 (.c (.nums .i64 _)) [] ⟨_, ?_, rfl, .inl rfl, rfl⟩ rfl (zu [2] []))
   |(refine za1 0 .nil [] ⟨[], nm0, rfl, .inr ⟨rfl, rfl⟩, rfl⟩ rfl ?_; exact (zu [] []))
  all_goals (repeat' first | exact nm0 | assumption | exact Nat.zero_le _ | omega | refine nmT ?_ | refine nmS ?_ ?_ | refine nmA ?_ ?_ ?_)
end Go.VL
