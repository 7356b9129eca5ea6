/- V-logic: TrQo -/
import Derived.Test.YtobcecpdafbbeaaGreatVW8
namespace Go.VL
open Go.Proofs
set_option maxRecDepth 10000
set_option linter.unusedSimpArgs false
set_option linter.unusedVariables false
theorem z80 (root : Int) (ps : List Pg) (hp : pB ps) (g : vTree root ps = false) : zr Tryz.prog 35 0 [trV root ps] [] 0 (.c (.int .i64 (-1))) [] := by
  have h := zbi root ps hp
  rw [g] at h
  refine spi (fn := Tryz.f35) _ ?_
  conv => whnf
  repeat' first
    | (refine zn ?_ ?_; (focus (first | rfl | exact beq_self_eq_true _)); conv => whnf)
    | refine zi ?_
    | (refine zp (h) rfl rfl ?_; conv => whnf)
  all_goals rfl
theorem FnRunDoneAlone_v (code : List Int) (hl0 : code.length ≤ 9223372036854775807) (hb : ∀ x ∈ code, 0 ≤ x ∧ x ≤ 255) : zr Tryz.prog 18 0 [.c (.nums .u8 code)] [] 0 (.c (.bool true)) [] := by
  refine spi (fn := Tryz.f18) _ ?_
  conv => whnf
  repeat' first | (refine zk (fun h => ?_) (fun h => ?_) <;> (try simp only [qA] at h) <;> (try simp only [wA] at h) <;> conv => whnf) | refine zc ?_
  · rfl
  refine zbw [] [] (z42 code (by omega) (zie hb)) ⟨rfl, rfl, rfl, (by repeat first | exact trivial | refine ⟨rfl, ?_⟩), ⟨rfl, rfl, rfl⟩, ?_⟩
  rintro m res hout ⟨root, ps, ops, picks, hp, hps, ho5, hk18, rfl, rfl, rfl⟩
  refine ⟨⟨rfl, rfl, rfl⟩, ?_⟩
  cases g1 : vTree root ps with
  | false =>
    have hR : z4i root ps ops picks = false := by unfold z4i; rw [g1]; rfl
    have h1 := z4l root ps ops picks hp (by omega) (by omega) hR
    have h3 := z4x root ps ops picks hp (by omega) (by omega) hR
    have h4 := zmf
    have hh := z80 root ps hp g1
    conv => whnf
    repeat' first
      | (refine zn ?_ ?_; (focus (first | rfl | exact beq_self_eq_true _)); conv => whnf)
      | (refine zm ?_ ?_; (focus (first | rfl | exact bne_self_eq_false _)); conv => whnf)
      | refine zh ?_
      | (refine zp (h1) rfl rfl ?_; conv => whnf)
      | (refine zp (h3) rfl rfl ?_; conv => whnf)
      | (refine zp (h4) rfl rfl ?_; conv => whnf)
      | (refine zp (hh) rfl rfl ?_; conv => whnf)
    all_goals rfl
  | true =>
    have hh := z56 root ps hp g1
    have V := za0 g1
    have H1 := V.h1
    have H3 := V.h3
    have hvo := z55 ops (by omega)
    cases g2 : z4m ops with
    | false =>
      rw [g2] at hvo
      have hR : z4i root ps ops picks = false := by unfold z4i; rw [g1, g2]; rfl
      have h1 := z4l root ps ops picks hp (by omega) (by omega) hR
      have h3 := z4x root ps ops picks hp (by omega) (by omega) hR
      have h4 := zmf
      conv => whnf
      repeat' first
        | (refine zn ?_ ?_; (focus (first | rfl | exact beq_self_eq_true _)); conv => whnf)
        | (refine zm ?_ ?_; (focus (first | rfl | exact bne_self_eq_false _)); conv => whnf)
        | (refine zm ?_ ?_; (focus ((try simp only [qA]) <;> (try simp only [wA]) <;> omega)); conv => whnf)
        | refine zh ?_
        | (refine zp (h1) rfl rfl ?_; conv => whnf)
        | (refine zp (h3) rfl rfl ?_; conv => whnf)
        | (refine zp (h4) rfl rfl ?_; conv => whnf)
        | (refine zp (hh) rfl rfl ?_; conv => whnf)
        | (refine zp (hvo) rfl rfl ?_; conv => whnf)
      all_goals rfl
    | true =>
      rw [g2] at hvo
      have hal : ∀ k : Nat, k < ops.length → zr Tryz.prog 32 0 [trV root ps, .c (.ops ops), .c (.nums .i64 (List.replicate (htF root ps) (k : Int)))] [] 0 (.c (.nums .i64 [(k : Int)])) [] := fun k hk => by
        have hR : RunV root ps ops (List.replicate (htF root ps) (k : Int)) := ⟨g1, g2, by rw [List.length_replicate]; omega, fun x hx => by
          rw [List.mem_replicate] at hx
          omega⟩
        have h := z4w hR
        rw [z94 g1 hk] at h
        exact h
      cases hR : z4i root ps ops picks with
      | false =>
        have h1 := z4l root ps ops picks hp (by omega) (by omega) hR
        have h3 := z4x root ps ops picks hp (by omega) (by omega) hR
        have h4 := zmf
        conv => whnf
        repeat' first
          | (refine zm ?_ ?_; (focus (first | rfl | exact bne_self_eq_false _)); conv => whnf)
          | (refine zm ?_ ?_; (focus ((try simp only [qA]) <;> (try simp only [wA]) <;> omega)); conv => whnf)
          | (refine zp (h1) rfl rfl ?_; conv => whnf)
          | (refine zp (h3) rfl rfl ?_; conv => whnf)
          | (refine zp (h4) rfl rfl ?_; conv => whnf)
          | (refine zp (hh) rfl rfl ?_; conv => whnf)
          | (refine zp (hvo) rfl rfl ?_; conv => whnf)
        refine zau (fun k : Nat => k ≤ ops.length) (fun k => ⟨72, 1, [(3, .ptr 0 0 0 0), (4, .c (.ops ops)), (7, .c (.int .i64 (htF root ps))), (8, .c (.int .i64 k))], [(0, .box [.c (.int .i64 root), .c (.pgs ps)] [] [])]⟩) (fun k => ops.length - k) 0 (Nat.zero_le _) (fun _ => Nat.zero_le _) (ydn [] [0]) (fun k hk => ?_)
        by_cases c : k < ops.length
        · have hal := hal k c
          have hq := zbh [(k : Int)] (by simp)
          conv => whnf
          repeat' (refine zn ?_ ?_; (focus ((try simp only [qA]) <;> (try simp only [wA]) <;> omega)); conv => whnf)
          refine zd0 (fun (j : Nat) (l : List Int) => j ≤ htF root ps ∧ l = List.replicate j (k : Int)) (fun j l => ⟨72, 2, [(3, .ptr 0 0 0 0), (4, .c (.ops ops)), (7, .c (.int .i64 (htF root ps))), (8, .c (.int .i64 k)), (9, .slc 1), (10, .c (.int .i64 j))], [(0, .box [.c (.int .i64 root), .c (.pgs ps)] [] []), (1, .arr (.nums .i64 l))]⟩) (fun j _ => htF root ps - j) 0 [] ⟨Nat.zero_le _, rfl⟩ (fun _ _ => Nat.zero_le _) (ydn [] [0, 1]) (fun j l hj => ?_)
          obtain ⟨hj, hl⟩ := hj
          by_cases c1 : j < htF root ps
          · have ll : l.length ≤ 3 := by rw [hl, List.length_replicate]; omega
            conv => whnf
            repeat' first
              | (refine zn ?_ ?_; (focus ((try simp only [qA]) <;> (try simp only [wA]) <;> omega)); conv => whnf)
              | (refine za (by (try simp only [wA, wL]) <;> omega) ?_; conv => whnf)
              | (refine zg (by (try simp only [wA, wL]) <;> omega) (by (try simp only [wA, wL]) <;> omega) ?_; conv => whnf)
            refine ⟨⟨(j + 1, l ++ ([] ++ [(k : Int)])), ?_⟩, (ydn [] [0, 1]), by dsimp only; omega⟩; (try dsimp only)
            exact ⟨c1, by rw [hl, List.replicate_succ']; rfl⟩
          · rw [show j = htF root ps by omega] at hl
            rw [← hl] at hal
            conv => whnf
            repeat' first
              | (refine zm ?_ ?_; (focus (first | rfl | exact bne_self_eq_false _)); conv => whnf)
              | (refine zm ?_ ?_; (focus ((try simp only [qA]) <;> (try simp only [wA]) <;> omega)); conv => whnf)
              | (refine zg (by (try simp only [wA, wL]) <;> omega) (by (try simp only [wA, wL]) <;> omega) ?_; conv => whnf)
              | (refine zal [1] [] (hal) ?_; (conv => whnf); refine ⟨rfl, rfl, rfl, (by repeat first | exact trivial | refine ⟨rfl, ?_⟩), ⟨rfl, rfl, rfl, rfl, rfl, rfl⟩, ?_⟩; conv => whnf)
              | (refine zbo (hq) rfl rfl rfl ?_; conv => whnf)
            exact ⟨⟨k + 1, c⟩, (ydn [] [0]), by dsimp only; omega⟩
        · conv => whnf
          repeat' first | (refine zm ?_ ?_; (focus ((try simp only [qA]) <;> (try simp only [wA]) <;> omega)); conv => whnf) | refine zc ?_
          all_goals rfl
      | true =>
        have hR := z4g.1 hR
        have h1 := z4w hR
        have h3 := z5j root ps ops picks hp (by omega) (by omega) hR
        have dl := hR.dl
        generalize ruF root ps ops picks = S at *
        have h4 := zbh S.done (by omega)
        conv => whnf
        repeat' first
          | (refine zm ?_ ?_; (focus (first | rfl | exact bne_self_eq_false _)); conv => whnf)
          | (refine zm ?_ ?_; (focus ((try simp only [qA]) <;> (try simp only [wA]) <;> omega)); conv => whnf)
          | (refine zp (h1) rfl rfl ?_; conv => whnf)
          | (refine zp (h3) rfl rfl ?_; conv => whnf)
          | (refine zp (h4) rfl rfl ?_; conv => whnf)
          | (refine zp (hh) rfl rfl ?_; conv => whnf)
          | (refine zp (hvo) rfl rfl ?_; conv => whnf)
        refine zau (fun k : Nat => k ≤ ops.length) (fun k => ⟨72, 1, [(3, .ptr 0 0 0 0), (4, .c (.ops ops)), (7, .c (.int .i64 (htF root ps))), (8, .c (.int .i64 k))], [(0, .box [.c (.int .i64 root), .c (.pgs ps)] [] [])]⟩) (fun k => ops.length - k) 0 (Nat.zero_le _) (fun _ => Nat.zero_le _) (ydn [] [0]) (fun k hk => ?_)
        by_cases c : k < ops.length
        · have hal := hal k c
          have hq := zbh [(k : Int)] (by simp)
          conv => whnf
          repeat' (refine zn ?_ ?_; (focus ((try simp only [qA]) <;> (try simp only [wA]) <;> omega)); conv => whnf)
          refine zd0 (fun (j : Nat) (l : List Int) => j ≤ htF root ps ∧ l = List.replicate j (k : Int)) (fun j l => ⟨72, 2, [(3, .ptr 0 0 0 0), (4, .c (.ops ops)), (7, .c (.int .i64 (htF root ps))), (8, .c (.int .i64 k)), (9, .slc 1), (10, .c (.int .i64 j))], [(0, .box [.c (.int .i64 root), .c (.pgs ps)] [] []), (1, .arr (.nums .i64 l))]⟩) (fun j _ => htF root ps - j) 0 [] ⟨Nat.zero_le _, rfl⟩ (fun _ _ => Nat.zero_le _) (ydn [] [0, 1]) (fun j l hj => ?_)
          obtain ⟨hj, hl⟩ := hj
          by_cases c1 : j < htF root ps
          · have ll : l.length ≤ 3 := by rw [hl, List.length_replicate]; omega
            conv => whnf
            repeat' first
              | (refine zn ?_ ?_; (focus ((try simp only [qA]) <;> (try simp only [wA]) <;> omega)); conv => whnf)
              | (refine za (by (try simp only [wA, wL]) <;> omega) ?_; conv => whnf)
              | (refine zg (by (try simp only [wA, wL]) <;> omega) (by (try simp only [wA, wL]) <;> omega) ?_; conv => whnf)
            refine ⟨⟨(j + 1, l ++ ([] ++ [(k : Int)])), ?_⟩, (ydn [] [0, 1]), by dsimp only; omega⟩; (try dsimp only)
            exact ⟨c1, by rw [hl, List.replicate_succ']; rfl⟩
          · rw [show j = htF root ps by omega] at hl
            rw [← hl] at hal
            conv => whnf
            repeat' first
              | (refine zm ?_ ?_; (focus (first | rfl | exact bne_self_eq_false _)); conv => whnf)
              | (refine zm ?_ ?_; (focus ((try simp only [qA]) <;> (try simp only [wA]) <;> omega)); conv => whnf)
              | (refine zg (by (try simp only [wA, wL]) <;> omega) (by (try simp only [wA, wL]) <;> omega) ?_; conv => whnf)
              | (refine zal [1] [] (hal) ?_; (conv => whnf); refine ⟨rfl, rfl, rfl, (by repeat first | exact trivial | refine ⟨rfl, ?_⟩), ⟨rfl, rfl, rfl, rfl, rfl, rfl⟩, ?_⟩; conv => whnf)
              | (refine zbo (hq) rfl rfl rfl ?_; conv => whnf)
            exact ⟨⟨k + 1, c⟩, (ydn [] [0]), by dsimp only; omega⟩
        · conv => whnf
          repeat' first | (refine zm ?_ ?_; (focus ((try simp only [qA]) <;> (try simp only [wA]) <;> omega)); conv => whnf) | refine zc ?_
          all_goals rfl
end Go.VL
