/- V-logic: TrHc -/
import Derived.Test.YtbpbgjkingjdcaaVTrHb
namespace Go.VL
open Go.Proofs
set_option maxRecDepth 10000
set_option linter.unusedSimpArgs false
set_option linter.unusedVariables false
def lpF (sf : Int → Bool) (W : List Int) : List (List Int) := (List.range W.length).map (hlF sf W)
theorem zfh (sf : Int → Bool) (W : List Int) : (lpF sf W).length = W.length := by unfold lpF; simp
theorem zuh (sf : Int → Bool) (W : List Int) {i : Nat} (h : i < W.length) : (lpF sf W).take (i + 1) = (lpF sf W).take i ++ [hlF sf W i] := by
 unfold lpF
 rw [← List.map_take, ← List.map_take, List.take_range, List.take_range, Nat.min_eq_left (by omega), Nat.min_eq_left (by omega), List.range_succ, List.map_append]; rfl
theorem zjm (sf : Int → Bool) (W : List Int) {i : Nat} (h : i < W.length) : (lpF sf W).getD i [] = hlF sf W i := by
 unfold lpF
 rw [List.getD_eq_getElem?_getD, List.getElem?_map, List.getElem?_range h]; rfl
theorem zmr (sf : Int → Bool) (W : List Int) (i : Nat) : (hlF sf W i).length ≤ W.length := by
 unfold hlF; rw [List.length_drop, List.length_take]; omega
abbrev ptG (root key : Int) (ps : List Pg) : List Int := ptF ps key (htF root ps) root
theorem zic {root key : Int} {ps : List Pg} (hv : vTree root ps = true) : z1p ps (ptG root key ps) ∧ 1 ≤ (ptG root key ps).length ∧ (ptG root key ps).length ≤ 3 := by
 have V := za0 hv
 obtain ⟨d, hd⟩ : ∃ d, htF root ps = d + 1 := ⟨htF root ps - 1, by have := V.h1; omega⟩
 have h3 := V.h3
 have hf := V.fit
 unfold ptG
 rw [hd] at hf h3 ⊢
 have hl : (ptF ps key (d + 1) root).length = d + 1 := zg1
 refine ⟨fun i hi => ?_, by omega, by omega⟩
 have key' : ∀ (d : Nat) {mn mx : Nat} {a lo hi : Int} (i : Nat), Fit ps (d + 1) mn mx a lo hi → i < d + 1 → 0 ≤ (ptF ps key (d + 1) a).getD i 0 ∧ (ptF ps key (d + 1) a).getD i 0 < ps.length := by
  intro d
  induction d with
  |zero =>
   intro mn mx a lo hi i h hi
   obtain rfl : i = 0 := by omega
   exact ⟨h.1, h.2.1⟩
  |succ d ih =>
   intro mn mx a lo hi i h hi
   cases i with
   |zero => rw [zfy]; exact ⟨h.1, h.2.1⟩
   |succ i =>
    rw [zgs]
    obtain ⟨_, l, r, hk⟩ := h.kid (key := key)
    exact ih i hk (by omega)
 exact key' d i hf (by omega)
theorem zjk (root key kind : Int) (ps : List Pg) (hp : pB ps) (hv : vTree root ps = true) (k0 : 0 ≤ kind) (k2 : kind ≤ 2) : zr Try.prog 74 0 [trV root ps, .c (.int .i64 key), .c (.int .i64 kind)] [] 1 (.slc 0) [(0, .arr (.numss (lpF (sfF root ps kind) (ptG root key ps))))] := by
 have hvt := zay root ps hp
 have hvk := zgk kind
 have hpt := zqd (key := key) hp hv
 obtain ⟨hok, h1, h3⟩ := zic (key := key) hv
 unfold ptG at *
 rw [hv] at hvt
 rw [decide_eq_true ⟨k0, k2⟩] at hvk
 generalize ptF ps key (htF root ps) root = W at *
 have hha := fun n (hn : n < W.length) => zsv root kind ps W n hp hok hn (by omega) k0 k2
 generalize sfF root ps kind = sf at *
 refine spi (fn := Try.f74) _ ?_
 conv => whnf
 repeat' first
  |(refine zm ?_ ?_; (focus (first | rfl | exact bne_self_eq_false _)); conv => whnf)
  |(refine zp (hvt) rfl rfl ?_; conv => whnf)
  |(refine zp (hvk) rfl rfl ?_; conv => whnf)
  |(refine z8 (hpt) rfl ?_; conv => whnf)
  |(refine zo ?_; conv => whnf)
 refine zau (fun i : Nat => i ≤ W.length) (fun i => ⟨37, 3, [(2, .c (.int .i64 kind)), (3, .ptr 0 0 0 0), (7, .slc 2), (8, .slc 1), (9, .c (.int .i64 i))], [(0, .box [.c (.int .i64 root), .c (.pgs ps)] [] []), (1, .arr (.nums .i64 W)), (2, .arr (.numss ((lpF sf W).take i)))]⟩) (fun i => W.length - i) 0 (Nat.zero_le _) (fun _ => Nat.zero_le _) (z5 [] [0, 2, 1]) (fun i hi => ?_)
 by_cases c : i < W.length
 ·have hh := hha i c
  have ht := zuh sf W c
  have hl := zfh sf W
  have htl : ((lpF sf W).take i).length ≤ 3 := by rw [List.length_take]; omega
  conv => whnf
  repeat' first
   |(refine zn ?_ ?_; (focus ((try simp only [qA]) <;> (try simp only [wA]) <;> omega)); conv => whnf)
   |(refine za (by (try simp only [wA, wL]) <;> omega) ?_; conv => whnf)
   |(refine zg (by (try simp only [wA, wL]) <;> omega) (by (try simp only [wA, wL]) <;> omega) ?_; conv => whnf)
   |(refine zbe (hh) rfl rfl rfl rfl ?_; conv => whnf)
  refine ⟨⟨i + 1, ?_⟩, (zbd [] [0, 1, 2] ⟨by repeat first | exact trivial | refine ⟨rfl, ?_⟩, ?_, rfl, rfl, rfl, rfl, rfl, rfl, rfl⟩), by dsimp only; omega⟩; (try dsimp only)
  ·omega
  ·exact ⟨rfl, rfl, congrArg (fun z => some (O.arr (C.numss z))) ht.symm, trivial⟩
 ·rw [List.take_of_length_le (by rw [zfh]; omega)]
  conv => whnf
  repeat' (refine zm ?_ ?_; (focus ((try simp only [qA]) <;> (try simp only [wA]) <;> omega)); conv => whnf)
  exact (zu [] [2])
theorem zfb (root key kind : Int) (ps : List Pg) (hp : pB ps) (hv : vTree root ps = true) (k0 : 0 ≤ kind) (k2 : kind ≤ 2) : zr Try.prog 70 0 [trV root ps, .c (.int .i64 key), .c (.int .i64 kind)] [] 1 (.slc 0) [(0, .arr (.numss (lpF (sfF root ps kind) (ptG root key ps))))] := by
 have hvt := zbi root ps hp
 have hpt := zjo root key ps hp hv
 obtain ⟨hok, h1, h3⟩ := zic (key := key) hv
 unfold ptG at *
 generalize ptF ps key (htF root ps) root = W at *
 have hsf := fun i (hi : i < W.length) => zug root (W.getD i 0) kind ps hp hv (hok i hi).1 (hok i hi).2 k0 k2
 rw [hv] at hvt
 generalize sfF root ps kind = sf at *
 refine spi (fn := Try.f70) _ ?_
 conv => whnf
 repeat' first
  |(refine zm ?_ ?_; (focus (first | rfl | exact bne_self_eq_false _)); conv => whnf)
  |(refine zm ?_ ?_; (focus ((try simp only [qA]) <;> (try simp only [wA]) <;> omega)); conv => whnf)
  |(refine zp (hvt) rfl rfl ?_; conv => whnf)
  |(refine z8 (hpt) rfl ?_; conv => whnf)
 refine zd0 (fun (i : Nat) (H : List Int) => i ≤ W.length ∧ H.length ≤ i ∧ (∀ k, i = k + 1 → H = hlF sf W k)) (fun i H => ⟨45, 4, [(2, .c (.int .i64 kind)), (3, .ptr 0 0 0 0), (7, .slc 2), (8, .slc 3), (24, .slc 1), (25, .c (.int .i64 W.length)), (26, .c (.int .i64 i))], [(0, .box [.c (.int .i64 root), .c (.pgs ps)] [] []), (1, .arr (.nums .i64 W)), (2, .arr (.numss ((lpF sf W).take i))), (3, .arr (.nums .i64 H))]⟩) (fun i H => W.length - i) 0 [] ⟨Nat.zero_le _, Nat.le_refl _, fun k hk => by omega⟩ (fun _ _ => Nat.zero_le _) (zsg [.nl 7 false (.numss []), .nl 8 false (.nums .i64 [])] [] [0, 1, 2, 3] ?_) ?_
 ·conv => whnf
  exact ⟨by repeat first | exact trivial | refine ⟨rfl, ?_⟩, by repeat first | exact trivial | refine ⟨rfl, ?_⟩, rfl, rfl, rfl, rfl, rfl, rfl, rfl⟩
 intro i H h
 obtain ⟨g1, g2, g3⟩ := h
 by_cases c : i < W.length
 ·have hs := hsf i c
  have ht := zuh sf W c
  have hl := zfh sf W
  have htl : ((lpF sf W).take i).length ≤ 3 := by rw [List.length_take]; omega
  have hn : (if sf (W.getD i 0) = true then [] else H) ++ [W.getD i 0] = hlF sf W i := by
   cases i with
   |zero =>
    rw [zui c, List.eq_nil_of_length_eq_zero (Nat.le_zero.1 g2), ite_self]; rfl
   |succ k => rw [g3 k rfl, z06 c]
  have hle := zmr sf W i
  obtain ⟨N, hN⟩ : ∃ N, hlF sf W i = N := ⟨_, rfl⟩
  rw [hN] at hle
  have hcl := zvt N (by omega)
  conv => whnf
  repeat' first
   |(refine zn ?_ ?_; (focus ((try simp only [qA]) <;> (try simp only [wA]) <;> omega)); conv => whnf)
   |(refine za (by (try simp only [wA, wL]) <;> omega) ?_; conv => whnf)
   |(refine zk (fun h => ?_) (fun h => ?_) <;> (try simp only [qA] at h) <;> (try simp only [wA] at h) <;> conv => whnf)
   |(refine zp (hs) rfl rfl ?_; conv => whnf)
  ·rw [if_pos h] at hn
   have hn : [] ++ [W.getD i 0] = hlF sf W i := hn
   rw [hN] at hn
   subst hn
   repeat' first
    |(refine za (by (try simp only [wA, wL]) <;> omega) ?_; conv => whnf)
    |(refine zg (by (try simp only [wA, wL]) <;> omega) (by (try simp only [wA, wL]) <;> omega) ?_; conv => whnf)
    |(refine zbe (hcl) rfl rfl rfl rfl ?_; conv => whnf)
   refine ⟨⟨(i + 1, [] ++ [W.getD i 0]), by dsimp only; omega, by simp, fun k hk => ?_⟩, (zbd [] [0, 1, 2, 5] ⟨by repeat first | exact trivial | refine ⟨rfl, ?_⟩, ?_, rfl, rfl, rfl, rfl, rfl, rfl, rfl⟩), by dsimp only; omega⟩
   ·obtain rfl : i = k := by dsimp only at hk; omega
    exact hN.symm
   ·exact ⟨rfl, rfl, congrArg (fun z => some (O.arr (C.numss z))) (by rw [ht, hN]; rfl), rfl, trivial⟩
  ·rw [if_neg (by rw [h]; decide), hN] at hn
   subst hn
   repeat' first
    |(refine za (by (try simp only [wA, wL]) <;> omega) ?_; conv => whnf)
    |(refine zg (by (try simp only [wA, wL]) <;> omega) (by (try simp only [wA, wL]) <;> omega) ?_; conv => whnf)
    |(refine zbe (hcl) rfl rfl rfl rfl ?_; conv => whnf)
   refine ⟨⟨(i + 1, H ++ [W.getD i 0]), by dsimp only; omega, by rw [List.length_append]; simp; omega, fun k hk => ?_⟩, (zbd [] [0, 1, 2, 3] ⟨by repeat first | exact trivial | refine ⟨rfl, ?_⟩, ?_, rfl, rfl, rfl, rfl, rfl, rfl, rfl⟩), by dsimp only; omega⟩
   ·obtain rfl : i = k := by dsimp only at hk; omega
    exact hN.symm
   ·exact ⟨rfl, rfl, congrArg (fun z => some (O.arr (C.numss z))) (by rw [ht, hN]; rfl), rfl, trivial⟩
 ·rw [List.take_of_length_le (by rw [zfh]; omega)]
  conv => whnf
  repeat' (refine zm ?_ ?_; (focus ((try simp only [qA]) <;> (try simp only [wA]) <;> omega)); conv => whnf)
  exact (zu [] [2])
theorem zdr (root key kind : Int) (ps : List Pg) (hp : pB ps) (hv : vTree root ps = false ∨ kind < 0 ∨ 2 < kind) : zr Try.prog 70 0 [trV root ps, .c (.int .i64 key), .c (.int .i64 kind)] [] 0 .nil [] := by
 have hvt := zbi root ps hp
 generalize vTree root ps = X at *
 cases X with
 |false =>
  refine spi (fn := Try.f70) _ ?_
  conv => whnf
  repeat' first
   |(refine zn ?_ ?_; (focus (first | rfl | exact beq_self_eq_true _)); conv => whnf)
   |(refine zp (hvt) rfl rfl ?_; conv => whnf)
  all_goals exact (zu [] [])
 |true =>
  have hv : kind < 0 ∨ 2 < kind := hv.resolve_left (by decide)
  refine spi (fn := Try.f70) _ ?_
  conv => whnf
  repeat' first
   |(refine zm ?_ ?_; (focus (first | rfl | exact bne_self_eq_false _)); conv => whnf)
   |(refine zn ?_ ?_; (focus ((try simp only [qA]) <;> (try simp only [wA]) <;> omega)); conv => whnf)
   |(refine zk (fun h => ?_) (fun h => ?_) <;> (try simp only [qA] at h) <;> (try simp only [wA] at h) <;> conv => whnf)
   |(refine zp (hvt) rfl rfl ?_; conv => whnf)
  all_goals first | exact (zu [] []) | (exfalso; omega)
theorem zgo (root key kind : Int) (ps : List Pg) (hp : pB ps) (hv : vTree root ps = false ∨ kind < 0 ∨ 2 < kind) : zr Try.prog 74 0 [trV root ps, .c (.int .i64 key), .c (.int .i64 kind)] [] 0 .nil [] := by
 have hvt := zay root ps hp
 have hvk := zgk kind
 generalize vTree root ps = X at *
 cases X with
 |false =>
  refine spi (fn := Try.f74) _ ?_
  conv => whnf
  repeat' first
   |(refine zn ?_ ?_; (focus (first | rfl | exact beq_self_eq_true _)); conv => whnf)
   |(refine zp (hvt) rfl rfl ?_; conv => whnf)
   |(refine zo ?_; conv => whnf)
  all_goals exact (zu [] [])
 |true =>
  have hv : kind < 0 ∨ 2 < kind := hv.resolve_left (by decide)
  rw [decide_eq_false (by omega)] at hvk
  refine spi (fn := Try.f74) _ ?_
  conv => whnf
  repeat' first
   |(refine zn ?_ ?_; (focus (first | rfl | exact beq_self_eq_true _)); conv => whnf)
   |(refine zm ?_ ?_; (focus (first | rfl | exact bne_self_eq_false _)); conv => whnf)
   |(refine zp (hvt) rfl rfl ?_; conv => whnf)
   |(refine zp (hvk) rfl rfl ?_; conv => whnf)
   |(refine zo ?_; conv => whnf)
  all_goals first | exact (zu [] []) | (exfalso; omega)
theorem zpq (root key kind : Int) (ps : List Pg) (hp : pB ps) (hv : vTree root ps = true) (k0 : 0 ≤ kind) (k2 : kind ≤ 2) : zr Try.prog 69 0 [trV root ps, .c (.int .i64 key), .c (.int .i64 kind)] [] 0 (.c (.nums .i64 (hlF (sfF root ps kind) (ptG root key ps) ((ptG root key ps).length - 1)))) [] := by
 have hla := zfb root key kind ps hp hv k0 k2
 obtain ⟨hok, h1, h3⟩ := zic (key := key) hv
 generalize ptG root key ps = W at *
 generalize sfF root ps kind = sf at *
 have hl := zfh sf W
 have ha := zjm sf W (i := W.length - 1) (by omega)
 have e : ((lpF sf W).length : Int) - 1 = ((W.length - 1 : Nat) : Int) := by omega
 rw [← ha]
 generalize lpF sf W = L at *
 have e2 : W.length - 1 = ((L.length : Int) - 1).toNat := by omega
 rw [e2]
 refine spi (fn := Try.f69) _ ?_
 conv => whnf
 repeat' first
  |(refine zm ?_ ?_; (focus ((try simp only [qA]) <;> (try simp only [wA]) <;> omega)); conv => whnf)
  |(refine za (by (try simp only [wA, wL]) <;> omega) ?_; conv => whnf)
  |refine zf ?_
  |(refine zg (by (try simp only [wA, wL]) <;> omega) (by (try simp only [wA, wL]) <;> omega) ?_; conv => whnf)
  |(refine z8 (hla) rfl ?_; conv => whnf)
 rfl
theorem zuy (root key kind : Int) (ps : List Pg) (hp : pB ps) (hv : vTree root ps = false ∨ kind < 0 ∨ 2 < kind) : zr Try.prog 69 0 [trV root ps, .c (.int .i64 key), .c (.int .i64 kind)] [] 0 .nil [] := by
 have hla := zdr root key kind ps hp hv
 refine spi (fn := Try.f69) _ ?_
 conv => whnf
 repeat' first
  |(refine zn ?_ ?_; (focus (first | rfl | exact beq_self_eq_true _)); conv => whnf)
  |(refine zp (hla) rfl rfl ?_; conv => whnf)
 exact (zu [] [])
theorem zu5 (root key kind : Int) (ps : List Pg) (hp : pB ps) (hv : vTree root ps = true) (k0 : 0 ≤ kind) (k2 : kind ≤ 2) : zr Try.prog 71 0 [trV root ps, .c (.int .i64 key), .c (.int .i64 kind)] [] 1 (.slc 0) [(0, .arr (.nums .i64 (hlF (sfF root ps kind) (ptG root key ps) ((ptG root key ps).length - 1))))] := by
 have hvt := zay root ps hp
 have hvk := zgk kind
 have hpt := zqd (key := key) hp hv
 obtain ⟨hok, h1, h3⟩ := zic (key := key) hv
 unfold ptG at *
 rw [hv] at hvt
 rw [decide_eq_true ⟨k0, k2⟩] at hvk
 generalize ptF ps key (htF root ps) root = W at *
 have hha := zsv root kind ps W (W.length - 1) hp hok (by omega) (by omega) k0 k2
 have e : ((W.length - 1 : Nat) : Int) = (W.length : Int) - 1 := by omega
 rw [e] at hha
 generalize hlF (sfF root ps kind) W (W.length - 1) = N at *
 refine spi (fn := Try.f71) _ ?_
 conv => whnf
 repeat' first
  |(refine zm ?_ ?_; (focus (first | rfl | exact bne_self_eq_false _)); conv => whnf)
  |(refine zg (by (try simp only [wA, wL]) <;> omega) (by (try simp only [wA, wL]) <;> omega) ?_; conv => whnf)
  |(refine zp (hvt) rfl rfl ?_; conv => whnf)
  |(refine zp (hvk) rfl rfl ?_; conv => whnf)
  |(refine z8 (hpt) rfl ?_; conv => whnf)
  |(refine zbe (hha) rfl rfl rfl rfl ?_; conv => whnf)
 exact (zu [] [2])
theorem zs3 (root key kind : Int) (ps : List Pg) (hp : pB ps) (hv : vTree root ps = false ∨ kind < 0 ∨ 2 < kind) : zr Try.prog 71 0 [trV root ps, .c (.int .i64 key), .c (.int .i64 kind)] [] 0 .nil [] := by
 have hvt := zay root ps hp
 have hvk := zgk kind
 generalize vTree root ps = X at *
 cases X with
 |false =>
  refine spi (fn := Try.f71) _ ?_
  conv => whnf
  repeat' first
   |(refine zn ?_ ?_; (focus (first | rfl | exact beq_self_eq_true _)); conv => whnf)
   |(refine zp (hvt) rfl rfl ?_; conv => whnf)
  all_goals exact (zu [] [])
 |true =>
  have hv : kind < 0 ∨ 2 < kind := hv.resolve_left (by decide)
  rw [decide_eq_false (by omega)] at hvk
  refine spi (fn := Try.f71) _ ?_
  conv => whnf
  repeat' first
   |(refine zn ?_ ?_; (focus (first | rfl | exact beq_self_eq_true _)); conv => whnf)
   |(refine zm ?_ ?_; (focus (first | rfl | exact bne_self_eq_false _)); conv => whnf)
   |(refine zp (hvt) rfl rfl ?_; conv => whnf)
   |(refine zp (hvk) rfl rfl ?_; conv => whnf)
  all_goals first | exact (zu [] []) | (exfalso; omega)
end Go.VL
