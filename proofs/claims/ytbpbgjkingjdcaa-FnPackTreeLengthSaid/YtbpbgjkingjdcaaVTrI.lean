/- V-logic: TrI -/
import Derived.Test.YtbpbgjkingjdcaaVTrH
namespace Go.VL
open Go.Proofs
set_option maxRecDepth 10000
set_option linter.unusedSimpArgs false
set_option linter.unusedVariables false
theorem zy4 (l : List Int) (x : Int) : (l ++ [x]).getD (((l ++ [x]).length : Int) - 1).toNat 0 = x := by
 have e : (((l ++ [x]).length : Int) - 1).toNat = l.length := by simp
 rw [e]; exact zlw 0 l x []
theorem zri {l : List Int} (h : 1 ≤ l.length) : l.take (l.length - 1) ++ [l.getD ((l.length : Int) - 1).toNat 0] = l := by
 have e : ((l.length : Int) - 1).toNat = l.length - 1 := by omega
 rw [e, ← zat 0 (by omega), List.take_of_length_le (by omega)]
theorem zlz (root key : Int) (ps : List Pg) (hp : pB ps) (d mn mx : Nat) (lo hi : Int) (hf : Fit ps (d + 1) mn mx root lo hi) (hd : d ≤ 8) : zr Try.prog 126 0 [trV root ps, .c (.int .i64 key)] [] 1 (.slc 0) [(0, .arr (.nums .i64 (ptF ps key (d + 1) root)))] := by
 have k4 := hp.len
 obtain ⟨V, hV⟩ : ∃ V, ptF ps key (d + 1) root = V := ⟨_, rfl⟩
 rw [hV]
 refine spi (fn := Try.f126) _ ?_
 conv => whnf
 skip
 refine zd0 (fun (out : List Int) (e : Nat) => 1 ≤ out.length ∧ out.length + e ≤ 20 ∧ (∃ mn mx lo hi, Fit ps (e + 1) mn mx (out.getD ((out.length : Int) - 1).toNat 0) lo hi) ∧ out.take (out.length - 1) ++ ptF ps key (e + 1) (out.getD ((out.length : Int) - 1).toNat 0) = V)
  (fun out e => ⟨45, 2, [(1, .c (.int .i64 key)), (2, .ptr 0 0 0 0), (5, .slc 1)], [(0, .box [.c (.int .i64 root), .c (.pgs ps)] [] []), (1, .arr (.nums .i64 out))]⟩) (fun out e => e) [root] d ⟨by simp, by simp; omega, ⟨_, _, _, _, hf⟩, hV⟩ (fun _ _ => Nat.zero_le _) (z5 [] [0, 1]) (fun out e hi => ?_)
 obtain ⟨hl, hle, ⟨mn', mx', lo', hi', hf'⟩, hv⟩ := hi
 have h0 := hf'.1
 have h1 := hf'.2.1
 have k1 := hp.keys (out.getD ((out.length : Int) - 1).toNat 0)
 have k2 := hp.kids (out.getD ((out.length : Int) - 1).toNat 0)
 dsimp only [zb] at k1 k2
 conv => whnf
 by_cases he : e = 0
 ·subst he
  have hk := LeafOk.kids hf'.2.2.2.2
  dsimp only [zb] at hk
  have hv' : out = V := by rw [← hv]; exact (zri hl).symm
  repeat' first
   |(refine za (by kernel_rfl) ?_; conv => whnf)
   |(refine za (by (try simp only [wA, wL]) <;> omega) ?_; conv => whnf)
   |(refine zk (fun h => ?_) (fun h => ?_) <;> (try simp only [qA] at h) <;> (try simp only [wA] at h) <;> conv => whnf)
   |(refine zg (by (try simp only [wA, wL]) <;> omega) (by (try simp only [wA, wL]) <;> omega) ?_; conv => whnf)
   |(refine ze ?_; conv => whnf)
  ·exfalso; rw [hk] at h; simp at h
  ·rw [hv']
   exact (zu [] [1])
 ·obtain ⟨e, rfl⟩ : ∃ e', e = e' + 1 := ⟨e - 1, by omega⟩
  have hkl := zaa.kidsLen hf'.2.2.2.2
  obtain ⟨hu, l, r, hk⟩ := hf'.kid (key := key)
  dsimp only [zb] at hkl hu hk
  repeat' first
   |(refine za (by kernel_rfl) ?_; conv => whnf)
   |(refine zn ?_ ?_; (focus ((try simp only [qA]) <;> (try simp only [wA]) <;> omega)); conv => whnf)
   |(refine za (by (try simp only [wA, wL]) <;> omega) ?_; conv => whnf)
   |(refine zg (by (try simp only [wA, wL]) <;> omega) (by (try simp only [wA, wL]) <;> omega) ?_; conv => whnf)
   |(refine zw (z3t _ _ (by assumption)) rfl rfl ?_; conv => whnf)
   |(refine zo ?_; conv => whnf)
   |(refine ze ?_; conv => whnf)
  ·refine ⟨⟨(out ++ [(ps.getD (out.getD ((out.length : Int) - 1).toNat 0).toNat ⟨[], [], []⟩).kids.getD (upF (ps.getD (out.getD ((out.length : Int) - 1).toNat 0).toNat ⟨[], [], []⟩).keys key) 0], e), ?_⟩, (z5 [] [0, 1]), by dsimp only; omega⟩
   dsimp only
   rw [zy4]
   refine ⟨by simp, by simp; omega, ⟨_, _, _, _, hk⟩, ?_⟩
   rw [← hv, List.length_append, List.length_singleton, Nat.add_sub_cancel, List.take_left' rfl]
   refine (congrArg (· ++ _) (zri hl)).symm.trans ?_
   rw [List.append_assoc]; rfl
theorem zo3 (root : Int) (ps : List Pg) (hp : pB ps) (d mn mx : Nat) (lo hi : Int) (hf : Fit ps (d + 1) mn mx root lo hi) (hd : d ≤ 4) (hm : mx ≤ 4) : zr Try.prog 102 0 [trV root ps] [] 1 (.slc 0) [(0, .arr (.nums .i64 (lvF ps (d + 1) root)))] := by
 have k4 := hp.len
 have hw := hf.wkOk hm
 have hwl := zg5 _ hw
 have hw4 : wkB (d + 1) ≤ 97656 := Nat.le_trans (zfs (show d + 1 ≤ 8 by omega)) (by decide)
 have hwk := zyt root ps hp (d + 1) root (by omega) hw
 have hlt := hf.wkLt
 obtain ⟨V, hV⟩ : ∃ V, lvF ps (d + 1) root = V := ⟨_, rfl⟩
 rw [hV]
 rw [← zgq hf] at hV
 generalize wkF ps (d + 1) root = L at *
 refine spi (fn := Try.f102) _ ?_
 conv => whnf
 repeat' (refine z8 (hwk) rfl ?_; conv => whnf)
 refine zau (fun i : Nat => i ≤ L.length) (fun i => ⟨36, 2, [(1, .ptr 0 0 0 0), (3, .slc 1), (4, .c (.nums .i64 L)), (5, .c (.int .i64 i))], [(0, .box [.c (.int .i64 root), .c (.pgs ps)] [] []), (1, .arr (.nums .i64 ((L.take i).filter fun x => decide ((zb ps x).kids.length = 0))))]⟩) (fun i => L.length - i) 0 (Nat.zero_le _) (fun _ => Nat.zero_le _) (z5 [2] [0, 1]) (fun i hi => ?_)
 have hfl := List.length_filter_le (fun x => decide ((zb ps x).kids.length = 0)) (L.take i)
 rw [List.length_take] at hfl
 by_cases hil : i < L.length
 ·have hb := hlt (L.getD i 0) (zaq 0 hil)
  have k2 := hp.kids (L.getD i 0)
  dsimp only [zb] at k2
  conv => whnf
  repeat' first
   |(refine za (by kernel_rfl) ?_; conv => whnf)
   |(refine za (by (try simp only [wA, wN, wL]) <;> omega) ?_; conv => whnf)
   |(refine zk (fun h => ?_) (fun h => ?_) <;> (try simp only [qA] at h) <;> (try simp only [wA, wN] at h) <;> conv => whnf)
   |(refine zg (by (try simp only [wA, wN, wL]) <;> omega) (by (try simp only [wA, wN, wL]) <;> omega) ?_; conv => whnf)
   |(refine ze ?_; conv => whnf)
  ·refine ⟨⟨i + 1, ?_⟩, (zbd [] [0, 1] ⟨by repeat first | exact trivial | refine ⟨rfl, ?_⟩, ?_, rfl, rfl, rfl, rfl, rfl, rfl, rfl⟩), by dsimp only; omega⟩; (try dsimp only)
   ·omega
   ·refine ⟨rfl, congrArg (fun z => some (O.arr (C.nums .i64 z))) ?_, trivial⟩
    rw [zat 0 hil, List.filter_append, List.filter_cons, if_pos (by rw [decide_eq_true_eq]; exact_mod_cast h)]; rfl
  ·refine ⟨⟨i + 1, ?_⟩, (zbd [] [0, 1] ⟨by repeat first | exact trivial | refine ⟨rfl, ?_⟩, ?_, rfl, rfl, rfl, rfl, rfl, rfl, rfl⟩), by dsimp only; omega⟩; (try dsimp only)
   ·omega
   ·refine ⟨rfl, congrArg (fun z => some (O.arr (C.nums .i64 z))) ?_, trivial⟩
    rw [zat 0 hil, List.filter_append, List.filter_cons, if_neg (by rw [decide_eq_true_eq]; exact_mod_cast h), List.filter_nil, List.append_nil]
  ·exfalso; omega
 ·rw [List.take_of_length_le (by omega), hV]
  conv => whnf
  repeat' first
   |(refine za (by kernel_rfl) ?_; conv => whnf)
   |(refine za (by (try simp only [wA, wN, wL]) <;> omega) ?_; conv => whnf)
   |(refine zk (fun h => ?_) (fun h => ?_) <;> (try simp only [qA] at h) <;> (try simp only [wA, wN] at h) <;> conv => whnf)
   |(refine zg (by (try simp only [wA, wN, wL]) <;> omega) (by (try simp only [wA, wN, wL]) <;> omega) ?_; conv => whnf)
   |(refine ze ?_; conv => whnf)
  all_goals first | (exfalso; omega) | exact (zu [] [1])
theorem zrf (root : Int) (ps : List Pg) (hp : pB ps) (d mn mx : Nat) (lo hi : Int) (hf : Fit ps (d + 1) mn mx root lo hi) (hd : d ≤ 4) (hm : mx ≤ 4) : zr Try.prog 101 0 [trV root ps] [] 1 (.slc 0) [(0, .arr (.prs (prF ps (d + 1) (zb ps root))))] := by
 have k4 := hp.len
 have hll : (lvF ps (d + 1) root).length ≤ 97656 := by
  have hwl := zg5 _ (hf.wkOk hm)
  have hw4 : wkB (d + 1) ≤ 97656 := Nat.le_trans (zfs (show d + 1 ≤ 8 by omega)) (by decide)
  rw [← zgq hf]
  exact Nat.le_trans (List.length_filter_le _ _) (by omega)
 have hlv := zo3 root ps hp d mn mx lo hi hf hd hm
 have hlf := zec hf
 have hl4 := znl hf hm
 have hfin := zft hf
 obtain ⟨V, hV⟩ : ∃ V, prF ps (d + 1) (zb ps root) = V := ⟨_, rfl⟩
 rw [hV] at hfin ⊢
 generalize lvF ps (d + 1) root = L at *
 refine spi (fn := Try.f101) _ ?_
 conv => whnf
 repeat' (refine z8 (hlv) rfl ?_; conv => whnf)
 refine zau (fun i : Nat => i ≤ L.length) (fun i => ⟨27, 2, [(1, .ptr 0 0 0 0), (3, .slc 1), (4, .c (.nums .i64 L)), (5, .c (.int .i64 i))], [(0, .box [.c (.int .i64 root), .c (.pgs ps)] [] []), (1, .arr (.prs ((L.take i).flatMap fun x => zab (zb ps x))))]⟩) (fun i => L.length - i) 0 (Nat.zero_le _) (fun _ => Nat.zero_le _) (z5 [2] [0, 1]) (fun i hi => ?_)
 by_cases hil : i < L.length
 ·obtain ⟨hb0, hb1, _, _, hlk⟩ := hlf (L.getD i 0) (zaq 0 hil)
  have k1 := hl4 (L.getD i 0) (zaq 0 hil)
  have hln := hlk.len
  have hrl := zby _ hln
  have hfl := zki (n := 4) (f := fun x => zab (zb ps x)) (l := L.take i) fun x hx => by
   obtain ⟨_, _, _, _, hk⟩ := hlf x (List.mem_of_mem_take hx)
   have := hl4 x (List.mem_of_mem_take hx)
   rw [zby _ hk.len]; exact this
  rw [List.length_take] at hfl
  dsimp only [zb] at k1 hln hrl
  conv => whnf
  repeat' first
   |(refine za (by kernel_rfl) ?_; conv => whnf)
   |(refine za (by (try simp only [wA, wN, wL]) <;> omega) ?_; conv => whnf)
   |(refine zk (fun h => ?_) (fun h => ?_) <;> (try simp only [qA] at h) <;> (try simp only [wA, wN] at h) <;> conv => whnf)
   |(refine zg (by (try simp only [wA, wN, wL]) <;> omega) (by (try simp only [wA, wN, wL]) <;> omega) ?_; conv => whnf)
   |(refine zar (zg4 (ps.getD (L.getD i 0).toNat ⟨[], [], []⟩) (by omega) (by omega)) rfl rfl ?_; conv => whnf)
   |(refine zo ?_; conv => whnf)
   |(refine ze ?_; conv => whnf)
  ·refine ⟨⟨i + 1, ?_⟩, (zbd [] [0, 1] ⟨by repeat first | exact trivial | refine ⟨rfl, ?_⟩, ?_, rfl, rfl, rfl, rfl, rfl, rfl, rfl⟩), by dsimp only; omega⟩; (try dsimp only)
   ·omega
   ·exact ⟨rfl, congrArg (fun z => some (O.arr (C.prs z))) (zhn 0 (fun x => zab (zb ps x)) L i hil).symm, trivial⟩
  ·exfalso; omega
 ·rw [List.take_of_length_le (by omega), hfin]
  conv => whnf
  repeat' first
   |(refine za (by kernel_rfl) ?_; conv => whnf)
   |(refine za (by (try simp only [wA, wN, wL]) <;> omega) ?_; conv => whnf)
   |(refine zk (fun h => ?_) (fun h => ?_) <;> (try simp only [qA] at h) <;> (try simp only [wA, wN] at h) <;> conv => whnf)
   |(refine zg (by (try simp only [wA, wN, wL]) <;> omega) (by (try simp only [wA, wN, wL]) <;> omega) ?_; conv => whnf)
   |(refine zar (zg4 _ (by omega) (by omega)) rfl rfl ?_; conv => whnf)
   |(refine zo ?_; conv => whnf)
   |(refine ze ?_; conv => whnf)
  all_goals first | (exfalso; omega) | exact (zu [] [1])
end Go.VL
