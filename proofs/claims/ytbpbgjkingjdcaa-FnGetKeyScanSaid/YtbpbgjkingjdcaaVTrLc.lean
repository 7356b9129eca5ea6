/- V-logic: TrLc -/
import Derived.Test.YtbpbgjkingjdcaaVTrZb
import Derived.Test.YtbpbgjkingjdcaaVTrFb
namespace Go.VL
open Go.Proofs
set_option maxRecDepth 10000
set_option linter.unusedSimpArgs false
set_option linter.unusedVariables false
theorem z08 {lo hi many : Int} {L f : List Pr} {i : Nat} (h : i < L.length) : scI lo hi many (L.drop i) f = if (L.getD i ⟨0, 0⟩).key < lo then scI lo hi many (L.drop (i + 1)) f else if hi ≤ (L.getD i ⟨0, 0⟩).key ∨ many ≤ f.length then f else scI lo hi many (L.drop (i + 1)) (f ++ [L.getD i ⟨0, 0⟩]) := by
 rw [zg0 ⟨0, 0⟩ h, scI]
theorem zxn (root lo hi many : Int) (ps : List Pg) (hp : pB ps) (hv : vTree root ps = true) : zr Try.prog 78 0 [trV root ps, .c (.int .i64 lo), .c (.int .i64 hi), .c (.int .i64 many)] [] 1 (.slc 0) [(0, .arr (.prs (scI lo hi many (psF root ps) [])))] := by
 have hpo := zih root ps hp hv
 have hlen := (zdx hv).len
 generalize psF root ps = L at *
 obtain ⟨R, hR⟩ : ∃ R, scI lo hi many L [] = R := ⟨_, rfl⟩
 rw [hR]
 refine spi (fn := Try.f78) _ ?_
 conv => whnf
 repeat' (refine z8 (hpo) rfl ?_; conv => whnf)
 refine zd0 (fun (i : Nat) (f : List Pr) => i ≤ L.length ∧ f.length ≤ i ∧ scI lo hi many (L.drop i) f = R) (fun i f => ⟨39, 2, [(1, .c (.int .i64 lo)), (2, .c (.int .i64 hi)), (3, .c (.int .i64 many)), (9, .slc 1), (13, .slc 0), (14, .c (.int .i64 L.length)), (15, .c (.int .i64 i))], [(0, .arr (.prs L)), (1, .arr (.prs f))]⟩) (fun i f => L.length - i) 0 [] ⟨Nat.zero_le _, Nat.le_refl _, hR⟩ (fun _ _ => Nat.zero_le _) (zsg [.nl 9 false (.prs .nil)] [] [1, 2] ?_) ?_
 ·conv => whnf
  exact ⟨by repeat first | exact trivial | refine ⟨rfl, ?_⟩, by repeat first | exact trivial | refine ⟨rfl, ?_⟩, rfl, rfl, rfl, rfl, rfl, rfl, rfl⟩
 intro i f h
 obtain ⟨h1, h2, h3⟩ := h
 by_cases c : i < L.length
 ·rw [z08 c] at h3
  conv => whnf
  repeat' first
   |(refine zn ?_ ?_; (focus ((try simp only [qA]) <;> (try simp only [wA]) <;> omega)); conv => whnf)
   |(refine za (by (try simp only [wA, wL]) <;> omega) ?_; conv => whnf)
   |(refine zk (fun h => ?_) (fun h => ?_) <;> (try simp only [qA] at h) <;> (try simp only [wA] at h) <;> conv => whnf)
   |(refine zg (by (try simp only [wA, wL]) <;> omega) (by (try simp only [wA, wL]) <;> omega) ?_; conv => whnf)
  ·rw [if_pos (by omega)] at h3
   refine ⟨⟨(i + 1, f), ?_⟩, (z5 [] [0, 1]), by dsimp only; omega⟩; (try dsimp only)
   exact ⟨by omega, by omega, h3⟩
  ·rw [if_neg (by omega), if_pos (.inl (by omega))] at h3
   subst h3
   exact (zu [] [1])
  ·rw [if_neg (by omega), if_pos (.inr (by omega))] at h3
   subst h3
   exact (zu [] [1])
  ·rw [if_neg (by omega), if_neg (by omega)] at h3
   refine ⟨⟨(i + 1, f ++ [L.getD i ⟨0, 0⟩]), ?_⟩, (z5 [] [0, 1]), by dsimp only; omega⟩; (try dsimp only)
   exact ⟨by omega, by rw [List.length_append]; simp; omega, h3⟩
 ·rw [List.drop_of_length_le (by omega)] at h3
  have h3 : f = R := h3
  subst h3
  conv => whnf
  repeat' (refine zm ?_ ?_; (focus ((try simp only [qA]) <;> (try simp only [wA]) <;> omega)); conv => whnf)
  exact (zu [] [1])
theorem FnGetKeyScan_v (code : List Int) (hl0 : code.length ≤ 9223372036854775807) (hb : ∀ x ∈ code, 0 ≤ x ∧ x ≤ 255) : zr Try.prog 18 0 [.c (.nums .u8 code)] [] 0 (.c (.bool true)) [] := by
 refine spi (fn := Try.f18) _ ?_
 conv => whnf
 repeat' first | (refine zk (fun h => ?_) (fun h => ?_) <;> (try simp only [qA] at h) <;> (try simp only [wA] at h) <;> conv => whnf) | refine zc ?_
 ·rfl
 refine zbw [] [] (zm4 code (by omega) (zie hb)) ⟨rfl, rfl, rfl, (by repeat first | exact trivial | refine ⟨rfl, ?_⟩), ⟨rfl, rfl, rfl⟩, ?_⟩
 rintro m res hout ⟨root, ps, key, hp, hps, hkb, rfl, rfl, rfl⟩
 refine ⟨⟨rfl, rfl, rfl⟩, ?_⟩
 conv => whnf
 have hvt := zbi root ps hp
 cases g : vTree root ps with
 |false =>
  have h1 := zra root key ps hp g
  have h2 := zpe root key ps hp g
  rw [g] at hvt
  repeat' first
   |(refine zn ?_ ?_; (focus (first | rfl | exact beq_self_eq_true _)); conv => whnf)
   |(refine zm ?_ ?_; (focus (first | rfl | exact bne_self_eq_false _)); conv => whnf)
   |refine zh ?_
   |(refine zp (h1) rfl rfl ?_; conv => whnf)
   |(refine zp (h2) rfl rfl ?_; conv => whnf)
   |(refine zp (hvt) rfl rfl ?_; conv => whnf)
  all_goals rfl
 |true =>
  have h1 := zom root key ps hp g
  have h2 := zrq root key ps hp g
  have h3 := zxn root key (key + 1) 5 ps hp g
  have hlen := (zdx g).len
  have hsc := zvn (k := key) (zaa.row (za0 g).fit.2.2.2.2).asc
  change scI key (key + 1) 5 (psF root ps) [] = if key ∈ (psF root ps).map Pr.key then [⟨key, zei (psF root ps) key⟩] else [] at hsc
  rw [hsc] at h3
  rw [g] at hvt
  unfold gkV at h1 h2
  have hBm : ((psF root ps).map Pr.key).contains key = true ↔ key ∈ (psF root ps).map Pr.key := List.contains_iff_mem
  generalize zei (psF root ps) key = VV at *
  generalize hBB : ((psF root ps).map Pr.key).contains key = BB at *
  generalize (psF root ps).map Pr.key = KS at *
  generalize psF root ps = L at *
  cases BB with
  |true =>
   rw [if_pos (hBm.1 rfl)] at h3
   have he := zhp [⟨key, VV⟩] (by simp)
   repeat' first
    |(refine zm ?_ ?_; (focus (first | rfl | exact bne_self_eq_false _)); conv => whnf)
    |refine zh ?_
    |(refine zg (by (try simp only [wA, wL]) <;> omega) (by (try simp only [wA, wL]) <;> omega) ?_; conv => whnf)
    |(refine zp (h1) rfl rfl ?_; conv => whnf)
    |(refine zp (h2) rfl rfl ?_; conv => whnf)
    |(refine zp (hvt) rfl rfl ?_; conv => whnf)
    |(refine z8 (h3) rfl ?_; conv => whnf)
    |(refine zbo (he) rfl rfl rfl ?_; conv => whnf)
   all_goals rfl
  |false =>
   rw [if_neg (fun q => by have := hBm.2 q; cases this)] at h3
   repeat' first
    |(refine zn ?_ ?_; (focus (first | rfl | exact beq_self_eq_true _)); conv => whnf)
    |(refine zm ?_ ?_; (focus (first | rfl | exact bne_self_eq_false _)); conv => whnf)
    |refine zh ?_
    |(refine zg (by (try simp only [wA, wL]) <;> omega) (by (try simp only [wA, wL]) <;> omega) ?_; conv => whnf)
    |(refine zp (h1) rfl rfl ?_; conv => whnf)
    |(refine zp (h2) rfl rfl ?_; conv => whnf)
    |(refine zp (hvt) rfl rfl ?_; conv => whnf)
    |(refine z8 (h3) rfl ?_; conv => whnf)
   all_goals rfl
end Go.VL
