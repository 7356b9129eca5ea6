import Derived.Test.YtkdgodkamaicjaaVChQ
namespace Go.VL
open Go.Proofs
set_option maxRecDepth 10000
set_option linter.unusedSimpArgs false
set_option linter.unusedVariables false
set_option maxHeartbeats 8000000 in
theorem anyChain_v (code : List Int) (hc : CodeOk code) : Spec Try.prog 29 1 [.ptr 0 0 0 0] [(0, .box [.c (.nums .u8 code), .c (.int .i64 0)] [] [])] 2 (.slc 1) [(0, .box [.c (.nums .u8 code), .c (.int .i64 (anyP code))] [] []), (1, .arr (.lks (anyC code)))] := by
  have hl := hc.len
  obtain ⟨V, hV⟩ : ∃ V, loopC code (n0C code) c0C 1 = V := ⟨_, rfl⟩
  unfold anyC anyP
  rw [hV]
  refine spec_intro (fn := Try.f29) tOk eOk mix _ (by kernel_rfl) (by decide +kernel) rfl rfl rfl ?_
  conv => whnf
  refine vch_r ?_
  conv => whnf
  repeat' first
    | (refine vneed_i (by kernel_rfl) ?_; conv => whnf)
    | (refine vneed_i (by (try simp only [C.len, C.isSl, C.stride, true_and, and_true, Int.toNat_natCast, toNat_sub1, toNat_add1, List.length_append, List.length_cons, List.length_nil, List.length_take, List.length_drop, List.length_replicate, List.length_set, List.length_map]) <;> omega) ?_; conv => whnf)
    | (refine vif_i (fun h => ?_) (fun h => ?_) <;> (try simp only [Bool.not_eq_true', Bool.not_eq_false', decide_eq_true_eq, decide_eq_false_iff_not, beq_iff_eq, bne_iff_ne, ne_eq, Bool.not_eq_true, Bool.not_eq_false, bne_eq_false_iff_eq, beq_eq_false_iff_ne] at h) <;> (try simp only [C.len, C.isSl, C.stride, true_and, Int.toNat_natCast, toNat_sub1, toNat_add1] at h) <;> conv => whnf)
    | refine vend_tt ?_
    | refine vend_ff ?_
    | refine vend_b ?_
    | refine vend_n ?_
    | refine vend_c ?_
    | (refine vint_f (by (try simp only [C.len, C.isSl, C.stride, true_and, and_true, Int.toNat_natCast, toNat_sub1, toNat_add1, List.length_append, List.length_cons, List.length_nil, List.length_take, List.length_drop, List.length_replicate, List.length_set, List.length_map]) <;> omega) (by (try simp only [C.len, C.isSl, C.stride, true_and, and_true, Int.toNat_natCast, toNat_sub1, toNat_add1, List.length_append, List.length_cons, List.length_nil, List.length_take, List.length_drop, List.length_replicate, List.length_set, List.length_map]) <;> omega) ?_; conv => whnf)
    | (refine vor_r (by omega) ?_; conv => whnf)
    | (refine vor_l (by first | rfl | omega) ?_; conv => whnf)
  refine vpre_g [.hd 2, .cl 2] ?_
  conv => whnf
  repeat' first
    | (refine vneed_i (by kernel_rfl) ?_; conv => whnf)
    | (refine vneed_i (by (try simp only [C.len, C.isSl, C.stride, true_and, and_true, Int.toNat_natCast, toNat_sub1, toNat_add1, List.length_append, List.length_cons, List.length_nil, List.length_take, List.length_drop, List.length_replicate, List.length_set, List.length_map]) <;> omega) ?_; conv => whnf)
    | (refine vif_i (fun h => ?_) (fun h => ?_) <;> (try simp only [Bool.not_eq_true', Bool.not_eq_false', decide_eq_true_eq, decide_eq_false_iff_not, beq_iff_eq, bne_iff_ne, ne_eq, Bool.not_eq_true, Bool.not_eq_false, bne_eq_false_iff_eq, beq_eq_false_iff_ne] at h) <;> (try simp only [C.len, C.isSl, C.stride, true_and, Int.toNat_natCast, toNat_sub1, toNat_add1] at h) <;> conv => whnf)
    | refine vend_tt ?_
    | refine vend_ff ?_
    | refine vend_b ?_
    | refine vend_n ?_
    | refine vend_c ?_
    | (refine vint_f (by (try simp only [C.len, C.isSl, C.stride, true_and, and_true, Int.toNat_natCast, toNat_sub1, toNat_add1, List.length_append, List.length_cons, List.length_nil, List.length_take, List.length_drop, List.length_replicate, List.length_set, List.length_map]) <;> omega) (by (try simp only [C.len, C.isSl, C.stride, true_and, and_true, Int.toNat_natCast, toNat_sub1, toNat_add1, List.length_append, List.length_cons, List.length_nil, List.length_take, List.length_drop, List.length_replicate, List.length_set, List.length_map]) <;> omega) ?_; conv => whnf)
    | (refine vcall_i [3] [0] (one_v code hc 0 [8, 14, 4, 24, 0, 40] (by omega) (by omega) (by simp) (by simp)) ?_; (conv => whnf); refine ⟨rfl, rfl, rfl, (by repeat first | exact trivial | refine ⟨rfl, ?_⟩), ⟨rfl, rfl, rfl, rfl, rfl, rfl⟩, ?_⟩; conv => whnf)
    | (refine vor_r (by omega) ?_; conv => whnf)
    | (refine vor_l (by first | rfl | omega) ?_; conv => whnf)
    | (refine vch_l ?_; conv => whnf)
    | (refine vpre_no ?_; conv => whnf)
  refine vloop3 (fun (c : List Lk) (p : Int) (z : Int) => 0 ≤ z ∧ AcI code V c p z.toNat)
    (fun c p z => ⟨85, 2, [(0, .ptr 0 0 0 0), (3, .slc 1), (4, .c (.int .i64 z))], [(0, .box [.c (.nums .u8 code), .c (.int .i64 p)] [] []), (1, .deep false 0 (.lks c) [])]⟩) (fun c p z => z.toNat) c0C 1 ([8, 14, 4, 24, 0, 40].getD (pickF code 0 6).toNat 0 : Int) ?_ (fun _ _ _ => Nat.le_succ 1) (ent_i [] [0, 2] ⟨by repeat first | exact trivial | refine ⟨rfl, ?_⟩, by repeat first | exact trivial | refine ⟨rfl, ?_⟩, rfl, rfl, rfl, rfl, rfl, rfl, rfl⟩) (fun c p z hi => ?_)
  · have h40 : 0 ≤ ([8, 14, 4, 24, 0, 40].getD (pickF code 0 6).toNat 0 : Int) ∧ ([8, 14, 4, 24, 0, 40].getD (pickF code 0 6).toNat 0 : Int) ≤ 40 := by
      generalize (pickF code 0 6).toNat = t
      match t with
      | 0 => decide
      | 1 => decide
      | 2 => decide
      | 3 => decide
      | 4 => decide
      | 5 => decide
      | t + 6 => exact ⟨Int.le_refl 0, (by decide : (0 : Int) ≤ 40)⟩
    refine ⟨h40.1, by decide, ?_, ?_, fun l hl => ?_, by decide, ?_, hV⟩
    · show 1 + 2 * ([8, 14, 4, 24, 0, 40].getD (pickF code 0 6).toNat 0 : Int).toNat ≤ 82
      omega
    · omega
    · cases List.mem_singleton.1 hl; exact Nat.zero_le _
    · omega
  obtain ⟨hz, hi⟩ := hi
  have hcb := hi.cB
  have hl1 := hi.l1
  have hl2 := hi.l2
  have hp0 := hi.p0
  have hp1 := hi.p1
  by_cases hp : z > 0
  · obtain ⟨m, hm⟩ : ∃ m, z.toNat = m + 1 := ⟨z.toNat - 1, by omega⟩
    rw [hm] at hi hl2 hp1
    have hk := hi.k
    have hk' : ∀ l ∈ c, l.keys.length ≤ 1000 := fun l hl => by have := hk l hl; omega
    have hzm : (z - 1).toNat = m := by omega
    have hnx := hi.next
    have hpt := hi.put (pickF code p 100)
    have hn40 := hi.n40
    cases hput : putF c (pickF code p 100) with
    | none =>
      rw [hput] at hpt
      have hpl := PutLink_no c hcb hk' _ hput
      by_cases hs : pickF code (p + 1) 6 = 0
      · by_cases ho : splOk c (pickF code (p + 1 + 1) c.length) = true
        · have hsl := SplitLink_d c hcb _ ho
          have e : stepC code c p = (splF c (pickF code (p + 1 + 1) c.length).toNat (splH c (pickF code (p + 1 + 1) c.length)).toNat, p + 1 + 1 + 1) := by
            unfold stepC
            rw [hput]
            dsimp only [Option.getD]
            rw [if_pos hs, if_pos ho]
          rw [e] at hnx
          conv => whnf
          refine vpre_no ?_
          conv => whnf
          refine vif_i (fun _ => ?_) (fun h => absurd hp (of_decide_eq_false h))
          conv => whnf
          repeat' first
            | (refine vneed_i (by kernel_rfl) ?_; conv => whnf)
            | (refine vneed_i (by (try simp only [C.len, C.isSl, C.stride, true_and, and_true, Int.toNat_natCast, toNat_sub1, toNat_add1, List.length_append, List.length_cons, List.length_nil, List.length_take, List.length_drop, List.length_replicate, List.length_set, List.length_map]) <;> omega) ?_; conv => whnf)
            | (refine vif_i (fun h => ?_) (fun h => ?_) <;> (try simp only [Bool.not_eq_true', Bool.not_eq_false', decide_eq_true_eq, decide_eq_false_iff_not, beq_iff_eq, bne_iff_ne, ne_eq, Bool.not_eq_true, Bool.not_eq_false, bne_eq_false_iff_eq, beq_eq_false_iff_ne] at h) <;> (try simp only [C.len, C.isSl, C.stride, true_and, Int.toNat_natCast, toNat_sub1, toNat_add1] at h) <;> conv => whnf)
            | refine vend_tt ?_
            | refine vend_ff ?_
            | refine vend_b ?_
            | refine vend_n ?_
            | refine vend_c ?_
            | (refine vint_f (by (try simp only [C.len, C.isSl, C.stride, true_and, and_true, Int.toNat_natCast, toNat_sub1, toNat_add1, List.length_append, List.length_cons, List.length_nil, List.length_take, List.length_drop, List.length_replicate, List.length_set, List.length_map]) <;> omega) (by (try simp only [C.len, C.isSl, C.stride, true_and, and_true, Int.toNat_natCast, toNat_sub1, toNat_add1, List.length_append, List.length_cons, List.length_nil, List.length_take, List.length_drop, List.length_replicate, List.length_set, List.length_map]) <;> omega) ?_; conv => whnf)
            | (refine vcall_i [] [0] (pick_v code hc p 100 (by omega) (by omega) (by omega)) ⟨rfl, rfl, rfl, (by repeat first | exact trivial | refine ⟨rfl, ?_⟩), ⟨rfl, rfl, rfl, rfl, rfl, rfl⟩, ?_⟩; conv => whnf)
            | (refine vcall_i [] [0] (pick_v code hc (p + 1) 6 (by omega) (by omega) (by omega)) ⟨rfl, rfl, rfl, (by repeat first | exact trivial | refine ⟨rfl, ?_⟩), ⟨rfl, rfl, rfl, rfl, rfl, rfl⟩, ?_⟩; conv => whnf)
            | (refine vcall_i [] [0] (pick_v code hc (p + 1 + 1) (c.length : Int) (by omega) (by omega) (by omega)) ⟨rfl, rfl, rfl, (by repeat first | exact trivial | refine ⟨rfl, ?_⟩), ⟨rfl, rfl, rfl, rfl, rfl, rfl⟩, ?_⟩; conv => whnf)
            | (refine vcall_n (hpl) rfl rfl rfl rfl ?_; conv => whnf)
            | (refine vcall_n (hsl) rfl rfl rfl rfl ?_; conv => whnf)
            | (refine vor_r (by omega) ?_; conv => whnf)
            | (refine vor_l (by first | rfl | omega) ?_; conv => whnf)
            | (refine vch_l ?_; conv => whnf)
            | (refine vpre_no ?_; conv => whnf)
          all_goals first | contradiction | exact absurd hp h | exact absurd hs h | exact absurd h hs | (cases h; done) | skip
          refine ⟨⟨(splF c (pickF code (p + 1 + 1) c.length).toNat (splH c (pickF code (p + 1 + 1) c.length)).toNat, p + 1 + 1 + 1, z - 1), ⟨by dsimp only; omega, by dsimp only; rw [hzm]; exact hnx⟩⟩, (ent_i [] [0, 2] ⟨by repeat first | exact trivial | refine ⟨rfl, ?_⟩, by repeat first | exact trivial | refine ⟨rfl, ?_⟩, rfl, rfl, rfl, rfl, rfl, rfl, rfl⟩), by dsimp only; omega⟩
        · have hsl := SplitLink_no c hcb _ (by rw [Bool.not_eq_true] at ho; exact ho)
          have e : stepC code c p = (c, p + 1 + 1 + 1) := by
            unfold stepC
            rw [hput]
            dsimp only [Option.getD]
            rw [if_pos hs, if_neg ho]
          rw [e] at hnx
          conv => whnf
          refine vpre_no ?_
          conv => whnf
          refine vif_i (fun _ => ?_) (fun h => absurd hp (of_decide_eq_false h))
          conv => whnf
          repeat' first
            | (refine vneed_i (by kernel_rfl) ?_; conv => whnf)
            | (refine vneed_i (by (try simp only [C.len, C.isSl, C.stride, true_and, and_true, Int.toNat_natCast, toNat_sub1, toNat_add1, List.length_append, List.length_cons, List.length_nil, List.length_take, List.length_drop, List.length_replicate, List.length_set, List.length_map]) <;> omega) ?_; conv => whnf)
            | (refine vif_i (fun h => ?_) (fun h => ?_) <;> (try simp only [Bool.not_eq_true', Bool.not_eq_false', decide_eq_true_eq, decide_eq_false_iff_not, beq_iff_eq, bne_iff_ne, ne_eq, Bool.not_eq_true, Bool.not_eq_false, bne_eq_false_iff_eq, beq_eq_false_iff_ne] at h) <;> (try simp only [C.len, C.isSl, C.stride, true_and, Int.toNat_natCast, toNat_sub1, toNat_add1] at h) <;> conv => whnf)
            | refine vend_tt ?_
            | refine vend_ff ?_
            | refine vend_b ?_
            | refine vend_n ?_
            | refine vend_c ?_
            | (refine vint_f (by (try simp only [C.len, C.isSl, C.stride, true_and, and_true, Int.toNat_natCast, toNat_sub1, toNat_add1, List.length_append, List.length_cons, List.length_nil, List.length_take, List.length_drop, List.length_replicate, List.length_set, List.length_map]) <;> omega) (by (try simp only [C.len, C.isSl, C.stride, true_and, and_true, Int.toNat_natCast, toNat_sub1, toNat_add1, List.length_append, List.length_cons, List.length_nil, List.length_take, List.length_drop, List.length_replicate, List.length_set, List.length_map]) <;> omega) ?_; conv => whnf)
            | (refine vcall_i [] [0] (pick_v code hc p 100 (by omega) (by omega) (by omega)) ⟨rfl, rfl, rfl, (by repeat first | exact trivial | refine ⟨rfl, ?_⟩), ⟨rfl, rfl, rfl, rfl, rfl, rfl⟩, ?_⟩; conv => whnf)
            | (refine vcall_i [] [0] (pick_v code hc (p + 1) 6 (by omega) (by omega) (by omega)) ⟨rfl, rfl, rfl, (by repeat first | exact trivial | refine ⟨rfl, ?_⟩), ⟨rfl, rfl, rfl, rfl, rfl, rfl⟩, ?_⟩; conv => whnf)
            | (refine vcall_i [] [0] (pick_v code hc (p + 1 + 1) (c.length : Int) (by omega) (by omega) (by omega)) ⟨rfl, rfl, rfl, (by repeat first | exact trivial | refine ⟨rfl, ?_⟩), ⟨rfl, rfl, rfl, rfl, rfl, rfl⟩, ?_⟩; conv => whnf)
            | (refine vcall_n (hpl) rfl rfl rfl rfl ?_; conv => whnf)
            | (refine vcall_n (hsl) rfl rfl rfl rfl ?_; conv => whnf)
            | (refine vor_r (by omega) ?_; conv => whnf)
            | (refine vor_l (by first | rfl | omega) ?_; conv => whnf)
            | (refine vch_l ?_; conv => whnf)
            | (refine vpre_no ?_; conv => whnf)
          all_goals first | contradiction | exact absurd hp h | exact absurd hs h | exact absurd h hs | (cases h; done) | skip
          refine ⟨⟨(c, p + 1 + 1 + 1, z - 1), ⟨by dsimp only; omega, by dsimp only; rw [hzm]; exact hnx⟩⟩, (ent_i [] [0, 1] ⟨by repeat first | exact trivial | refine ⟨rfl, ?_⟩, by repeat first | exact trivial | refine ⟨rfl, ?_⟩, rfl, rfl, rfl, rfl, rfl, rfl, rfl⟩), by dsimp only; omega⟩
      · have hsl : True := trivial
        have e : stepC code c p = (c, p + 1 + 1) := by
          unfold stepC
          rw [hput]
          dsimp only [Option.getD]
          rw [if_neg hs]
        rw [e] at hnx
        conv => whnf
        refine vpre_no ?_
        conv => whnf
        refine vif_i (fun _ => ?_) (fun h => absurd hp (of_decide_eq_false h))
        conv => whnf
        repeat' first
          | (refine vneed_i (by kernel_rfl) ?_; conv => whnf)
          | (refine vneed_i (by (try simp only [C.len, C.isSl, C.stride, true_and, and_true, Int.toNat_natCast, toNat_sub1, toNat_add1, List.length_append, List.length_cons, List.length_nil, List.length_take, List.length_drop, List.length_replicate, List.length_set, List.length_map]) <;> omega) ?_; conv => whnf)
          | (refine vif_i (fun h => ?_) (fun h => ?_) <;> (try simp only [Bool.not_eq_true', Bool.not_eq_false', decide_eq_true_eq, decide_eq_false_iff_not, beq_iff_eq, bne_iff_ne, ne_eq, Bool.not_eq_true, Bool.not_eq_false, bne_eq_false_iff_eq, beq_eq_false_iff_ne] at h) <;> (try simp only [C.len, C.isSl, C.stride, true_and, Int.toNat_natCast, toNat_sub1, toNat_add1] at h) <;> conv => whnf)
          | refine vend_tt ?_
          | refine vend_ff ?_
          | refine vend_b ?_
          | refine vend_n ?_
          | refine vend_c ?_
          | (refine vint_f (by (try simp only [C.len, C.isSl, C.stride, true_and, and_true, Int.toNat_natCast, toNat_sub1, toNat_add1, List.length_append, List.length_cons, List.length_nil, List.length_take, List.length_drop, List.length_replicate, List.length_set, List.length_map]) <;> omega) (by (try simp only [C.len, C.isSl, C.stride, true_and, and_true, Int.toNat_natCast, toNat_sub1, toNat_add1, List.length_append, List.length_cons, List.length_nil, List.length_take, List.length_drop, List.length_replicate, List.length_set, List.length_map]) <;> omega) ?_; conv => whnf)
          | (refine vcall_i [] [0] (pick_v code hc p 100 (by omega) (by omega) (by omega)) ⟨rfl, rfl, rfl, (by repeat first | exact trivial | refine ⟨rfl, ?_⟩), ⟨rfl, rfl, rfl, rfl, rfl, rfl⟩, ?_⟩; conv => whnf)
          | (refine vcall_i [] [0] (pick_v code hc (p + 1) 6 (by omega) (by omega) (by omega)) ⟨rfl, rfl, rfl, (by repeat first | exact trivial | refine ⟨rfl, ?_⟩), ⟨rfl, rfl, rfl, rfl, rfl, rfl⟩, ?_⟩; conv => whnf)
          | (refine vcall_i [] [0] (pick_v code hc (p + 1 + 1) (c.length : Int) (by omega) (by omega) (by omega)) ⟨rfl, rfl, rfl, (by repeat first | exact trivial | refine ⟨rfl, ?_⟩), ⟨rfl, rfl, rfl, rfl, rfl, rfl⟩, ?_⟩; conv => whnf)
          | (refine vcall_n (hpl) rfl rfl rfl rfl ?_; conv => whnf)
          | (refine vcall_n (hsl) rfl rfl rfl rfl ?_; conv => whnf)
          | (refine vor_r (by omega) ?_; conv => whnf)
          | (refine vor_l (by first | rfl | omega) ?_; conv => whnf)
          | (refine vch_l ?_; conv => whnf)
          | (refine vpre_no ?_; conv => whnf)
        all_goals first | contradiction | exact absurd hp h | exact absurd hs h | exact absurd h hs | (cases h; done) | skip
        refine ⟨⟨(c, p + 1 + 1, z - 1), ⟨by dsimp only; omega, by dsimp only; rw [hzm]; exact hnx⟩⟩, (ent_i [] [0, 1] ⟨by repeat first | exact trivial | refine ⟨rfl, ?_⟩, by repeat first | exact trivial | refine ⟨rfl, ?_⟩, rfl, rfl, rfl, rfl, rfl, rfl, rfl⟩), by dsimp only; omega⟩
    | some c1 =>
      rw [hput] at hpt
      obtain ⟨hpt1, hpt2, hpt3⟩ := hpt
      have hpt1 : c.length ≤ c1.length := hpt1
      have hpt2 : c1.length ≤ c.length + 1 := hpt2
      have hcb1 : cB c1 := ⟨by omega, fun l hl => by have := hpt3 l hl; omega⟩
      have hpl := PutLink_ok c hcb hk' _ c1 hput
      by_cases hs : pickF code (p + 1) 6 = 0
      · by_cases ho : splOk c1 (pickF code (p + 1 + 1) c1.length) = true
        · have hsl := SplitLink_d c1 hcb1 _ ho
          have e : stepC code c p = (splF c1 (pickF code (p + 1 + 1) c1.length).toNat (splH c1 (pickF code (p + 1 + 1) c1.length)).toNat, p + 1 + 1 + 1) := by
            unfold stepC
            rw [hput]
            dsimp only [Option.getD]
            rw [if_pos hs, if_pos ho]
          rw [e] at hnx
          conv => whnf
          refine vpre_no ?_
          conv => whnf
          refine vif_i (fun _ => ?_) (fun h => absurd hp (of_decide_eq_false h))
          conv => whnf
          repeat' first
            | (refine vneed_i (by kernel_rfl) ?_; conv => whnf)
            | (refine vneed_i (by (try simp only [C.len, C.isSl, C.stride, true_and, and_true, Int.toNat_natCast, toNat_sub1, toNat_add1, List.length_append, List.length_cons, List.length_nil, List.length_take, List.length_drop, List.length_replicate, List.length_set, List.length_map]) <;> omega) ?_; conv => whnf)
            | (refine vif_i (fun h => ?_) (fun h => ?_) <;> (try simp only [Bool.not_eq_true', Bool.not_eq_false', decide_eq_true_eq, decide_eq_false_iff_not, beq_iff_eq, bne_iff_ne, ne_eq, Bool.not_eq_true, Bool.not_eq_false, bne_eq_false_iff_eq, beq_eq_false_iff_ne] at h) <;> (try simp only [C.len, C.isSl, C.stride, true_and, Int.toNat_natCast, toNat_sub1, toNat_add1] at h) <;> conv => whnf)
            | refine vend_tt ?_
            | refine vend_ff ?_
            | refine vend_b ?_
            | refine vend_n ?_
            | refine vend_c ?_
            | (refine vint_f (by (try simp only [C.len, C.isSl, C.stride, true_and, and_true, Int.toNat_natCast, toNat_sub1, toNat_add1, List.length_append, List.length_cons, List.length_nil, List.length_take, List.length_drop, List.length_replicate, List.length_set, List.length_map]) <;> omega) (by (try simp only [C.len, C.isSl, C.stride, true_and, and_true, Int.toNat_natCast, toNat_sub1, toNat_add1, List.length_append, List.length_cons, List.length_nil, List.length_take, List.length_drop, List.length_replicate, List.length_set, List.length_map]) <;> omega) ?_; conv => whnf)
            | (refine vcall_i [] [0] (pick_v code hc p 100 (by omega) (by omega) (by omega)) ⟨rfl, rfl, rfl, (by repeat first | exact trivial | refine ⟨rfl, ?_⟩), ⟨rfl, rfl, rfl, rfl, rfl, rfl⟩, ?_⟩; conv => whnf)
            | (refine vcall_i [] [0] (pick_v code hc (p + 1) 6 (by omega) (by omega) (by omega)) ⟨rfl, rfl, rfl, (by repeat first | exact trivial | refine ⟨rfl, ?_⟩), ⟨rfl, rfl, rfl, rfl, rfl, rfl⟩, ?_⟩; conv => whnf)
            | (refine vcall_i [] [0] (pick_v code hc (p + 1 + 1) (c1.length : Int) (by omega) (by omega) (by omega)) ⟨rfl, rfl, rfl, (by repeat first | exact trivial | refine ⟨rfl, ?_⟩), ⟨rfl, rfl, rfl, rfl, rfl, rfl⟩, ?_⟩; conv => whnf)
            | (refine vcall_n (hpl) rfl rfl rfl rfl ?_; conv => whnf)
            | (refine vcall_n (hsl) rfl rfl rfl rfl ?_; conv => whnf)
            | (refine vor_r (by omega) ?_; conv => whnf)
            | (refine vor_l (by first | rfl | omega) ?_; conv => whnf)
            | (refine vch_l ?_; conv => whnf)
            | (refine vpre_no ?_; conv => whnf)
          all_goals first | contradiction | exact absurd hp h | exact absurd hs h | exact absurd h hs | (cases h; done) | skip
          refine ⟨⟨(splF c1 (pickF code (p + 1 + 1) c1.length).toNat (splH c1 (pickF code (p + 1 + 1) c1.length)).toNat, p + 1 + 1 + 1, z - 1), ⟨by dsimp only; omega, by dsimp only; rw [hzm]; exact hnx⟩⟩, (ent_i [] [0, 3] ⟨by repeat first | exact trivial | refine ⟨rfl, ?_⟩, by repeat first | exact trivial | refine ⟨rfl, ?_⟩, rfl, rfl, rfl, rfl, rfl, rfl, rfl⟩), by dsimp only; omega⟩
        · have hsl := SplitLink_no c1 hcb1 _ (by rw [Bool.not_eq_true] at ho; exact ho)
          have e : stepC code c p = (c1, p + 1 + 1 + 1) := by
            unfold stepC
            rw [hput]
            dsimp only [Option.getD]
            rw [if_pos hs, if_neg ho]
          rw [e] at hnx
          conv => whnf
          refine vpre_no ?_
          conv => whnf
          refine vif_i (fun _ => ?_) (fun h => absurd hp (of_decide_eq_false h))
          conv => whnf
          repeat' first
            | (refine vneed_i (by kernel_rfl) ?_; conv => whnf)
            | (refine vneed_i (by (try simp only [C.len, C.isSl, C.stride, true_and, and_true, Int.toNat_natCast, toNat_sub1, toNat_add1, List.length_append, List.length_cons, List.length_nil, List.length_take, List.length_drop, List.length_replicate, List.length_set, List.length_map]) <;> omega) ?_; conv => whnf)
            | (refine vif_i (fun h => ?_) (fun h => ?_) <;> (try simp only [Bool.not_eq_true', Bool.not_eq_false', decide_eq_true_eq, decide_eq_false_iff_not, beq_iff_eq, bne_iff_ne, ne_eq, Bool.not_eq_true, Bool.not_eq_false, bne_eq_false_iff_eq, beq_eq_false_iff_ne] at h) <;> (try simp only [C.len, C.isSl, C.stride, true_and, Int.toNat_natCast, toNat_sub1, toNat_add1] at h) <;> conv => whnf)
            | refine vend_tt ?_
            | refine vend_ff ?_
            | refine vend_b ?_
            | refine vend_n ?_
            | refine vend_c ?_
            | (refine vint_f (by (try simp only [C.len, C.isSl, C.stride, true_and, and_true, Int.toNat_natCast, toNat_sub1, toNat_add1, List.length_append, List.length_cons, List.length_nil, List.length_take, List.length_drop, List.length_replicate, List.length_set, List.length_map]) <;> omega) (by (try simp only [C.len, C.isSl, C.stride, true_and, and_true, Int.toNat_natCast, toNat_sub1, toNat_add1, List.length_append, List.length_cons, List.length_nil, List.length_take, List.length_drop, List.length_replicate, List.length_set, List.length_map]) <;> omega) ?_; conv => whnf)
            | (refine vcall_i [] [0] (pick_v code hc p 100 (by omega) (by omega) (by omega)) ⟨rfl, rfl, rfl, (by repeat first | exact trivial | refine ⟨rfl, ?_⟩), ⟨rfl, rfl, rfl, rfl, rfl, rfl⟩, ?_⟩; conv => whnf)
            | (refine vcall_i [] [0] (pick_v code hc (p + 1) 6 (by omega) (by omega) (by omega)) ⟨rfl, rfl, rfl, (by repeat first | exact trivial | refine ⟨rfl, ?_⟩), ⟨rfl, rfl, rfl, rfl, rfl, rfl⟩, ?_⟩; conv => whnf)
            | (refine vcall_i [] [0] (pick_v code hc (p + 1 + 1) (c1.length : Int) (by omega) (by omega) (by omega)) ⟨rfl, rfl, rfl, (by repeat first | exact trivial | refine ⟨rfl, ?_⟩), ⟨rfl, rfl, rfl, rfl, rfl, rfl⟩, ?_⟩; conv => whnf)
            | (refine vcall_n (hpl) rfl rfl rfl rfl ?_; conv => whnf)
            | (refine vcall_n (hsl) rfl rfl rfl rfl ?_; conv => whnf)
            | (refine vor_r (by omega) ?_; conv => whnf)
            | (refine vor_l (by first | rfl | omega) ?_; conv => whnf)
            | (refine vch_l ?_; conv => whnf)
            | (refine vpre_no ?_; conv => whnf)
          all_goals first | contradiction | exact absurd hp h | exact absurd hs h | exact absurd h hs | (cases h; done) | skip
          refine ⟨⟨(c1, p + 1 + 1 + 1, z - 1), ⟨by dsimp only; omega, by dsimp only; rw [hzm]; exact hnx⟩⟩, (ent_i [] [0, 2] ⟨by repeat first | exact trivial | refine ⟨rfl, ?_⟩, by repeat first | exact trivial | refine ⟨rfl, ?_⟩, rfl, rfl, rfl, rfl, rfl, rfl, rfl⟩), by dsimp only; omega⟩
      · have hsl : True := trivial
        have e : stepC code c p = (c1, p + 1 + 1) := by
          unfold stepC
          rw [hput]
          dsimp only [Option.getD]
          rw [if_neg hs]
        rw [e] at hnx
        conv => whnf
        refine vpre_no ?_
        conv => whnf
        refine vif_i (fun _ => ?_) (fun h => absurd hp (of_decide_eq_false h))
        conv => whnf
        repeat' first
          | (refine vneed_i (by kernel_rfl) ?_; conv => whnf)
          | (refine vneed_i (by (try simp only [C.len, C.isSl, C.stride, true_and, and_true, Int.toNat_natCast, toNat_sub1, toNat_add1, List.length_append, List.length_cons, List.length_nil, List.length_take, List.length_drop, List.length_replicate, List.length_set, List.length_map]) <;> omega) ?_; conv => whnf)
          | (refine vif_i (fun h => ?_) (fun h => ?_) <;> (try simp only [Bool.not_eq_true', Bool.not_eq_false', decide_eq_true_eq, decide_eq_false_iff_not, beq_iff_eq, bne_iff_ne, ne_eq, Bool.not_eq_true, Bool.not_eq_false, bne_eq_false_iff_eq, beq_eq_false_iff_ne] at h) <;> (try simp only [C.len, C.isSl, C.stride, true_and, Int.toNat_natCast, toNat_sub1, toNat_add1] at h) <;> conv => whnf)
          | refine vend_tt ?_
          | refine vend_ff ?_
          | refine vend_b ?_
          | refine vend_n ?_
          | refine vend_c ?_
          | (refine vint_f (by (try simp only [C.len, C.isSl, C.stride, true_and, and_true, Int.toNat_natCast, toNat_sub1, toNat_add1, List.length_append, List.length_cons, List.length_nil, List.length_take, List.length_drop, List.length_replicate, List.length_set, List.length_map]) <;> omega) (by (try simp only [C.len, C.isSl, C.stride, true_and, and_true, Int.toNat_natCast, toNat_sub1, toNat_add1, List.length_append, List.length_cons, List.length_nil, List.length_take, List.length_drop, List.length_replicate, List.length_set, List.length_map]) <;> omega) ?_; conv => whnf)
          | (refine vcall_i [] [0] (pick_v code hc p 100 (by omega) (by omega) (by omega)) ⟨rfl, rfl, rfl, (by repeat first | exact trivial | refine ⟨rfl, ?_⟩), ⟨rfl, rfl, rfl, rfl, rfl, rfl⟩, ?_⟩; conv => whnf)
          | (refine vcall_i [] [0] (pick_v code hc (p + 1) 6 (by omega) (by omega) (by omega)) ⟨rfl, rfl, rfl, (by repeat first | exact trivial | refine ⟨rfl, ?_⟩), ⟨rfl, rfl, rfl, rfl, rfl, rfl⟩, ?_⟩; conv => whnf)
          | (refine vcall_i [] [0] (pick_v code hc (p + 1 + 1) (c1.length : Int) (by omega) (by omega) (by omega)) ⟨rfl, rfl, rfl, (by repeat first | exact trivial | refine ⟨rfl, ?_⟩), ⟨rfl, rfl, rfl, rfl, rfl, rfl⟩, ?_⟩; conv => whnf)
          | (refine vcall_n (hpl) rfl rfl rfl rfl ?_; conv => whnf)
          | (refine vcall_n (hsl) rfl rfl rfl rfl ?_; conv => whnf)
          | (refine vor_r (by omega) ?_; conv => whnf)
          | (refine vor_l (by first | rfl | omega) ?_; conv => whnf)
          | (refine vch_l ?_; conv => whnf)
          | (refine vpre_no ?_; conv => whnf)
        all_goals first | contradiction | exact absurd hp h | exact absurd hs h | exact absurd h hs | (cases h; done) | skip
        refine ⟨⟨(c1, p + 1 + 1, z - 1), ⟨by dsimp only; omega, by dsimp only; rw [hzm]; exact hnx⟩⟩, (ent_i [] [0, 2] ⟨by repeat first | exact trivial | refine ⟨rfl, ?_⟩, by repeat first | exact trivial | refine ⟨rfl, ?_⟩, rfl, rfl, rfl, rfl, rfl, rfl, rfl⟩), by dsimp only; omega⟩
  · have hz0 : z = 0 := by omega
    subst hz0
    have hv := hi.v
    have hv : (c, p) = V := hv
    subst hv
    have hk := hi.k
    have hb := pickF_b hc (p := p) (n := (c.length : Int)) (by omega) (by omega)
    have hb1 := hb.2 (by omega)
    have hkk := keys_le hk (pickF code p c.length).toNat
    conv => whnf
    repeat' first
      | (refine vneed_i (by kernel_rfl) ?_; conv => whnf)
      | (refine vneed_i (by (try simp only [C.len, C.isSl, C.stride, true_and, and_true, Int.toNat_natCast, toNat_sub1, toNat_add1, List.length_append, List.length_cons, List.length_nil, List.length_take, List.length_drop, List.length_replicate, List.length_set, List.length_map]) <;> omega) ?_; conv => whnf)
      | (refine vif_i (fun h => ?_) (fun h => ?_) <;> (try simp only [Bool.not_eq_true', Bool.not_eq_false', decide_eq_true_eq, decide_eq_false_iff_not, beq_iff_eq, bne_iff_ne, ne_eq, Bool.not_eq_true, Bool.not_eq_false, bne_eq_false_iff_eq, beq_eq_false_iff_ne] at h) <;> (try simp only [C.len, C.isSl, C.stride, true_and, Int.toNat_natCast, toNat_sub1, toNat_add1] at h) <;> conv => whnf)
      | refine vend_tt ?_
      | refine vend_ff ?_
      | refine vend_b ?_
      | refine vend_n ?_
      | refine vend_c ?_
      | (refine vint_f (by (try simp only [C.len, C.isSl, C.stride, true_and, and_true, Int.toNat_natCast, toNat_sub1, toNat_add1, List.length_append, List.length_cons, List.length_nil, List.length_take, List.length_drop, List.length_replicate, List.length_set, List.length_map]) <;> omega) (by (try simp only [C.len, C.isSl, C.stride, true_and, and_true, Int.toNat_natCast, toNat_sub1, toNat_add1, List.length_append, List.length_cons, List.length_nil, List.length_take, List.length_drop, List.length_replicate, List.length_set, List.length_map]) <;> omega) ?_; conv => whnf)
      | (refine vor_r (by omega) ?_; conv => whnf)
      | (refine vor_l (by first | rfl | omega) ?_; conv => whnf)
    refine vpre_no ?_
    conv => whnf
    repeat' first
      | (refine vneed_i (by kernel_rfl) ?_; conv => whnf)
      | (refine vneed_i (by (try simp only [C.len, C.isSl, C.stride, true_and, and_true, Int.toNat_natCast, toNat_sub1, toNat_add1, List.length_append, List.length_cons, List.length_nil, List.length_take, List.length_drop, List.length_replicate, List.length_set, List.length_map]) <;> omega) ?_; conv => whnf)
      | (refine vif_i (fun h => ?_) (fun h => ?_) <;> (try simp only [Bool.not_eq_true', Bool.not_eq_false', decide_eq_true_eq, decide_eq_false_iff_not, beq_iff_eq, bne_iff_ne, ne_eq, Bool.not_eq_true, Bool.not_eq_false, bne_eq_false_iff_eq, beq_eq_false_iff_ne] at h) <;> (try simp only [C.len, C.isSl, C.stride, true_and, Int.toNat_natCast, toNat_sub1, toNat_add1] at h) <;> conv => whnf)
      | refine vend_tt ?_
      | refine vend_ff ?_
      | refine vend_b ?_
      | refine vend_n ?_
      | refine vend_c ?_
      | (refine vint_f (by (try simp only [C.len, C.isSl, C.stride, true_and, and_true, Int.toNat_natCast, toNat_sub1, toNat_add1, List.length_append, List.length_cons, List.length_nil, List.length_take, List.length_drop, List.length_replicate, List.length_set, List.length_map]) <;> omega) (by (try simp only [C.len, C.isSl, C.stride, true_and, and_true, Int.toNat_natCast, toNat_sub1, toNat_add1, List.length_append, List.length_cons, List.length_nil, List.length_take, List.length_drop, List.length_replicate, List.length_set, List.length_map]) <;> omega) ?_; conv => whnf)
      | (refine vor_r (by omega) ?_; conv => whnf)
      | (refine vor_l (by first | rfl | omega) ?_; conv => whnf)
    · exact absurd h (by decide)
    refine vpre_g [.th 1] ?_
    conv => whnf
    repeat' first
      | (refine vneed_i (by kernel_rfl) ?_; conv => whnf)
      | (refine vneed_i (by (try simp only [C.len, C.isSl, C.stride, true_and, and_true, Int.toNat_natCast, toNat_sub1, toNat_add1, List.length_append, List.length_cons, List.length_nil, List.length_take, List.length_drop, List.length_replicate, List.length_set, List.length_map]) <;> omega) ?_; conv => whnf)
      | (refine vif_i (fun h => ?_) (fun h => ?_) <;> (try simp only [Bool.not_eq_true', Bool.not_eq_false', decide_eq_true_eq, decide_eq_false_iff_not, beq_iff_eq, bne_iff_ne, ne_eq, Bool.not_eq_true, Bool.not_eq_false, bne_eq_false_iff_eq, beq_eq_false_iff_ne] at h) <;> (try simp only [C.len, C.isSl, C.stride, true_and, Int.toNat_natCast, toNat_sub1, toNat_add1] at h) <;> conv => whnf)
      | refine vend_tt ?_
      | refine vend_ff ?_
      | refine vend_b ?_
      | refine vend_n ?_
      | refine vend_c ?_
      | (refine vint_f (by (try simp only [C.len, C.isSl, C.stride, true_and, and_true, Int.toNat_natCast, toNat_sub1, toNat_add1, List.length_append, List.length_cons, List.length_nil, List.length_take, List.length_drop, List.length_replicate, List.length_set, List.length_map]) <;> omega) (by (try simp only [C.len, C.isSl, C.stride, true_and, and_true, Int.toNat_natCast, toNat_sub1, toNat_add1, List.length_append, List.length_cons, List.length_nil, List.length_take, List.length_drop, List.length_replicate, List.length_set, List.length_map]) <;> omega) ?_; conv => whnf)
      | (refine vcall_i [] [0] (pick_v code hc p (c.length : Int) (by omega) (by omega) (by omega)) ⟨rfl, rfl, rfl, (by repeat first | exact trivial | refine ⟨rfl, ?_⟩), ⟨rfl, rfl, rfl, rfl, rfl, rfl⟩, ?_⟩; conv => whnf)
      | (refine vcall_i [] [0] (pick_v code hc (p + 1) 24 (by omega) (by omega) (by omega)) ⟨rfl, rfl, rfl, (by repeat first | exact trivial | refine ⟨rfl, ?_⟩), ⟨rfl, rfl, rfl, rfl, rfl, rfl⟩, ?_⟩; conv => whnf)
      | (refine vcall_a (copyInts_v _ (by omega)) rfl ?_; conv => whnf)
      | (refine vcall_i [2] [0] (one_v code hc (p + 1 + 1) [-1, 50, 101] (by omega) (by omega) (by simp) (by simp)) ?_; (conv => whnf); refine ⟨rfl, rfl, rfl, (by repeat first | exact trivial | refine ⟨rfl, ?_⟩), ⟨rfl, rfl, rfl, rfl, rfl, rfl⟩, ?_⟩; conv => whnf)
      | (refine vcall_i [2] [0] (one_v code hc (p + 1 + 1) [-1, pickF code p c.length, 16] (by omega) (by omega) (by simp) (by simp)) ?_; (conv => whnf); refine ⟨rfl, rfl, rfl, (by repeat first | exact trivial | refine ⟨rfl, ?_⟩), ⟨rfl, rfl, rfl, rfl, rfl, rfl⟩, ?_⟩; conv => whnf)
      | (refine vcall_i [2] [0] (spoil_v code hc (p + 1 + 1) 100 ((c.getD (pickF code p c.length).toNat ⟨[], 0, 0⟩).keys ++ [50]) (by omega) (by omega) (by rw [List.length_append]; simp only [List.length_singleton]; omega)) ?_; (conv => whnf); refine ⟨rfl, rfl, rfl, (by repeat first | exact trivial | refine ⟨rfl, ?_⟩), ⟨rfl, rfl, rfl, rfl, rfl, rfl⟩, ?_⟩; conv => whnf)
      | (refine vor_r (by omega) ?_; conv => whnf)
      | (refine vor_l (by first | rfl | omega) ?_; conv => whnf)
      | (refine vch_l ?_; conv => whnf)
      | (refine vpre_no ?_; conv => whnf)
    all_goals (dsimp only; unfold finC finP; (repeat first | rw [if_pos (by assumption)] | rw [if_neg (by assumption)] | rw [if_neg (by rw [Bool.not_eq_true]; assumption)] | rw [if_neg (by rw [Bool.not_eq_false]; assumption)] | rw [if_pos (by omega)] | rw [if_neg (by omega)]); exact (vend_i [] [0, 1] ⟨rfl, by repeat first | exact trivial | refine ⟨rfl, ?_⟩, rfl, rfl, rfl, rfl, rfl, rfl⟩))
end Go.VL
