/- V-logic: TrLj -/
import Derived.Test.YtbpbgjkingjdcaaVTrEb
import Derived.Test.YtbpbgjkingjdcaaVTrFb
import Derived.Test.YtbpbgjkingjdcaaVTrZb
namespace Go.VL
open Go.Proofs
set_option maxRecDepth 10000
set_option linter.unusedSimpArgs false
set_option linter.unusedVariables false
theorem z4r {list : List Pr} (h : RowOk list 0 99) (hl : list.length ≤ 24) : vTree 0 (zf8 list) = true ∧ htF 0 (zf8 list) = ldH list.length ∧ psF 0 (zf8 list) = list := by
 have hv := z2h h hl
 obtain ⟨h1, h2⟩ := z2p h hl
 have h3 : VT 0 (zf8 list) (ldH list.length) := h1.vt (zzr list hl) (by unfold ldH; split <;> (try split) <;> omega)
 refine ⟨hv, h3.ht, ?_⟩
 unfold psF
 rw [h3.ht]; exact h2
theorem FnFillOfPages_v (code : List Int) (hl0 : code.length ≤ 9223372036854775807) (hb : ∀ x ∈ code, 0 ≤ x ∧ x ≤ 255) : zr Try.prog 3 0 [.c (.nums .u8 code)] [] 0 (.c (.bool true)) [] := by
 refine spi (fn := Try.f3) _ ?_
 conv => whnf
 repeat' first | (refine zk (fun h => ?_) (fun h => ?_) <;> (try simp only [qA] at h) <;> (try simp only [wA] at h) <;> conv => whnf) | refine zc ?_
 ·rfl
 refine zbw [] [] (z3o code (by omega) (zie hb)) ⟨rfl, rfl, rfl, (by repeat first | exact trivial | refine ⟨rfl, ?_⟩), ⟨rfl, rfl, rfl⟩, ?_⟩
 rintro m res hout ⟨root, ps, hp, hps, rfl, rfl, rfl⟩
 refine ⟨⟨rfl, rfl, rfl⟩, ?_⟩
 conv => whnf
 cases g : vTree root ps with
 |false =>
  have h1 := z36 root ps hp g
  have h2 := z34 root ps hp g
  have h3 := zws root ps hp g
  repeat' first
   |(refine zn ?_ ?_; (focus (first | rfl | exact beq_self_eq_true _)); conv => whnf)
   |(refine zm ?_ ?_; (focus (first | rfl | exact bne_self_eq_false _)); conv => whnf)
   |refine zh ?_
   |(refine zp (h1) rfl rfl ?_; conv => whnf)
   |(refine zp (h2) rfl rfl ?_; conv => whnf)
   |(refine zp (h3) rfl rfl ?_; conv => whnf)
  all_goals rfl
 |true =>
  have h1 := z4p root ps hp g
  have h2 := z37 root ps hp g
  have h3 := zdn (zih root ps hp g) rfl
  change zr _ _ _ _ _ _ (.c (.prs (psF root ps))) _ at h3
  have hlb := zuj g (zdx g).len
  have h0 := z4s hlb
  have hlen := hlb.len
  by_cases c : (psF root ps).length ≤ 24
  ·have hrow := zaa.row (za0 g).fit.2.2.2.2
   change RowOk (psF root ps) 0 99 at hrow
   have h4 := z4k (psF root ps) (zln.2 ⟨hrow, c⟩)
   obtain ⟨v1, v2, v3⟩ := z4r hrow c
   have hp2 := (zdx v1).pb
   have hlb2 := zuj v1 (zdx v1).len
   have hlv : (lvF (zf8 (psF root ps)) (htF 0 (zf8 (psF root ps))) 0).length ≤ (lvF ps (htF root ps) root).length := by
    rw [v2, z4t c]
    have := hlb.four
    have := hlb.pos
    unfold ldN
    split <;> omega
   have hfl := z4q (r1 := root) (p1 := ps) hlb2 (by rw [v3]) hlv hlb2.pos
   have h5 := zdn (zlp 0 _ hp2 v1) rfl
   have h6 := zdn (zlp root ps hp g) rfl
   change zr _ _ _ _ _ _ (.c (.nums .i64 (lvF (zf8 (psF root ps)) (htF 0 (zf8 (psF root ps))) 0))) _ at h5
   change zr _ _ _ _ _ _ (.c (.nums .i64 (lvF ps (htF root ps) root))) _ at h6
   have h7 := z4p 0 _ hp2 v1
   clear v1 v2 v3 hlb hlb2 hrow
   generalize zf8 (psF root ps) = qs at *
   generalize lvF qs (htF 0 qs) 0 = L1 at *
   generalize lvF ps (htF root ps) root = L2 at *
   generalize ziy 0 qs = F1 at *
   generalize ziy root ps = F2 at *
   generalize psF root ps = L at *
   repeat' first
    |(refine za (by kernel_rfl) ?_; conv => whnf)
    |(refine zm ?_ ?_; (focus (first | rfl | exact bne_self_eq_false _)); conv => whnf)
    |(refine zn ?_ ?_; (focus ((try simp only [qA]) <;> (try simp only [wA]) <;> omega)); conv => whnf)
    |(refine zm ?_ ?_; (focus ((try simp only [qA]) <;> (try simp only [wA]) <;> omega)); conv => whnf)
    |refine zc ?_
    |(refine zp (h1) rfl rfl ?_; conv => whnf)
    |(refine zp (h2) rfl rfl ?_; conv => whnf)
    |(refine zp (h3) rfl rfl ?_; conv => whnf)
    |(refine zp (h4) rfl rfl ?_; conv => whnf)
    |(refine zw (h5) rfl rfl ?_; conv => whnf)
    |(refine zw (h6) rfl rfl ?_; conv => whnf)
    |(refine zw (h7) rfl rfl ?_; conv => whnf)
    |(refine ze ?_; conv => whnf)
   all_goals first | rfl | exact beq_self_eq_true _ | (exfalso; simp at h; done)
  ·generalize ziy root ps = F2 at *
   generalize psF root ps = L at *
   repeat' first
    |(refine zm ?_ ?_; (focus (first | rfl | exact bne_self_eq_false _)); conv => whnf)
    |(refine zn ?_ ?_; (focus ((try simp only [qA]) <;> (try simp only [wA]) <;> omega)); conv => whnf)
    |(refine zm ?_ ?_; (focus ((try simp only [qA]) <;> (try simp only [wA]) <;> omega)); conv => whnf)
    |refine zh ?_
    |(refine zp (h1) rfl rfl ?_; conv => whnf)
    |(refine zp (h2) rfl rfl ?_; conv => whnf)
    |(refine zp (h3) rfl rfl ?_; conv => whnf)
   all_goals first | rfl | exact beq_self_eq_true _ | (exfalso; simp at h; done)
end Go.VL
