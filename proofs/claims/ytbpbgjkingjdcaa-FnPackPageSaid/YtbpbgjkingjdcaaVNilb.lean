/- V-logic: Nilb -/
import Derived.Test.YtbpbgjkingjdcaaVEF
namespace Go.VL
set_option linter.unusedVariables false
set_option linter.unusedSimpArgs false
theorem z4a {P : Program} {f m : Nat} {args pre : List V} {x : C} {res : V} {hout : List (Nat × O)} (hi : zz 1 args = true) (hp : zz 0 pre = true) (hs : x.isSl = true) (h0 : x.len = 0)
  (h : zr P f 2 args [(0, .box (pre ++ [.slc 1]) [] []), (1, .arr x)] m res hout) : zr P f 1 args [(0, .box (pre ++ [.nil]) [] [])] m res hout := by
 refine ⟨h.1, fun W I g argv hI hh hl ha => ?_⟩
 obtain ⟨b0, cl, hg0⟩ : ∃ b cl, g 0 = some (b, cl) := by
  obtain ⟨_, r⟩ := hh.obj 0 _ (List.mem_singleton.2 rfl)
  cases r with
  |box _ _ _ b cl cells ty hg => exact ⟨b, cl, hg⟩
 let g' : Gam := fun i => if i = 0 then g 0 else none
 have g0 : g' 0 = g 0 := rfl
 have g1 : g' 1 = none := rfl
 have dom1 : ∀ b, Dom g' W [(0, .box (pre ++ [.slc 1]) [] []), (1, .arr x)] b → Dom g W [(0, .box (pre ++ [.nil]) [] [])] b := by
  rintro b ⟨id, o, hm, hb⟩
  rcases List.mem_cons.1 hm with e | e
  ·cases e
   rcases hb with ⟨c, hb⟩ | hb
   ·exact ⟨0, _, List.mem_singleton.2 rfl, .inl ⟨c, by rw [← g0]; exact hb⟩⟩
   ·exact hb.elim
  ·cases List.mem_singleton.1 e
   rcases hb with ⟨c, hb⟩ | hb
   ·rw [g1] at hb; cases hb
   ·exact hb.elim
 have own0 : ∀ b, Own g' W 0 (.box (pre ++ [.slc 1]) [] []) b → Own g W 0 (.box (pre ++ [.nil]) [] []) b := by
  rintro b (⟨c, hb⟩ | hb)
  ·exact .inl ⟨c, by rw [← g0]; exact hb⟩
  ·exact hb.elim
 have own1 : ∀ b, ¬ Own g' W 1 (.arr x) b := by
  rintro b (⟨c, hb⟩ | hb)
  ·rw [g1] at hb; cases hb
  ·exact hb
 have hho : HOk I g' 2 W [(0, .box (pre ++ [.slc 1]) [] []), (1, .arr x)] := by
  refine ⟨fun id o hm => ?_, fun id o b hm hb => ?_, by simp, fun id o id' o' b hm hm' hb hb' => ?_⟩
  ·rcases List.mem_cons.1 hm with e | e
   ·cases e
    refine ⟨by omega, ?_⟩
    obtain ⟨_, r⟩ := hh.obj 0 _ (List.mem_singleton.2 rfl)
    cases r with
    |box _ _ _ b cl cells ty hg hb hl h1 h2 h3 =>
     refine .box _ _ _ b cl cells ty (by rw [g0]; exact hg) hb (by simpa using hl) (fun i y v hy hv => ?_) (fun i y hy => by cases hy) (fun i y v hy => by cases hy)
     by_cases c : i < pre.length
     ·rw [List.getElem?_append_left c] at hy
      have r := h1 i y v (by rw [List.getElem?_append_left c]; exact hy) hv
      have hlt := zb3 hp y (List.mem_of_getElem? hy)
      exact r.move fun k hk => absurd (V.ids_of_lt hlt k hk) (Nat.not_lt_zero _)
     ·rw [List.getElem?_append_right (by omega)] at hy
      have e : i = pre.length := by
       rcases Nat.eq_zero_or_pos (i - pre.length) with q | q
       ·omega
       ·rw [List.getElem?_eq_none (by simp; omega)] at hy; cases hy
      subst e
      have hy : V.slc 1 = y := by simpa using hy
      subst hy
      have r := h1 pre.length .nil v (by simp) hv
      rw [RV.nil_inv' r]
      exact .slc0 1 (by omega) rfl
   ·cases List.mem_singleton.1 e
    exact ⟨by omega, .none x rfl hs h0⟩
  ·rcases List.mem_cons.1 hm with e | e
   ·cases e; exact hh.apart 0 _ b (List.mem_singleton.2 rfl) (own0 b hb)
   ·cases List.mem_singleton.1 e; exact absurd hb (own1 b)
  ·rcases List.mem_cons.1 hm with e | e
   ·cases e
    rcases List.mem_cons.1 hm' with e | e
    ·cases e; rfl
    ·cases List.mem_singleton.1 e; exact absurd hb' (own1 b)
   ·cases List.mem_singleton.1 e; exact absurd hb (own1 b)
 refine (h.2 W I g' argv hI hho hl fun i y v hy hv => ?_).mono fun e w' => ?_
 ·have r := ha i y v hy hv
  have hlt := zb3 hi y (List.mem_of_getElem? hy)
  exact r.move fun k hk => by
   have := V.ids_of_lt hlt k hk
   obtain rfl : k = 0 := by omega
   exact ⟨by omega, rfl⟩
 ·rintro ⟨v, I', g'', e1, e2, e3, e4, e5, e6, e7, e8, e9⟩
  refine ⟨v, I', g'', e1, e2, fun b hb => ?_, e4, e5, e6, fun id o o' hm hm' hb => ?_, fun b hb => ?_, ?_⟩
  ·rcases e3 b hb with q | q | q
   ·exact .inl q
   ·exact .inr (.inl q)
   ·exact .inr (.inr (dom1 b q))
  ·cases List.mem_singleton.1 hm
   exact e7 0 _ o' (List.mem_cons_self ..) hm' hb
  ·rcases e8 b hb with q | q
   ·exact .inl q
   ·exact .inr (dom1 b q)
  ·exact ⟨e9.os, e9.tape, e9.output, e9.size, fun b h1 h2 => e9.block b h1 fun h3 => h2 (dom1 b h3)⟩
end Go.VL
