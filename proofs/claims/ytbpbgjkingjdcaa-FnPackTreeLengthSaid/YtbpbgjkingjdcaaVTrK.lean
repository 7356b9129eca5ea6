/- V-logic: TrK -/
import Derived.Test.YtbpbgjkingjdcaaVPD
import Derived.Test.YtbpbgjkingjdcaaVTrJ
namespace Go.VL
open Go.Proofs
set_option maxRecDepth 10000
set_option linter.unusedSimpArgs false
set_option linter.unusedVariables false
theorem zx7 (root : Int) (ps : List Pg) (x : Pr) (hp : pB ps) (r : Int × List Pg) (hr : zqc root ps x = some r) : zr Try.prog 91 0 [trV root ps, prV x] [] 1 (.tup [.agg [.c (.int .i64 r.1), .slc 0], .tt]) [(0, .arr (.pgs r.2))] := by
 obtain ⟨h1, h2, h3, h4⟩ := zrm hr
 have v := za0 h1
 have hb := zsq.1 h2
 have l16 := v.l16
 have l3 := v.h3
 have hv1 := zay root ps hp
 have hvr := zhe [x] (by simp)
 have hpu := zq2 root ps x hp (by omega) (htF root ps) (by omega) v.v0 hb.2 hb.1.1 hb.1.2
 rw [← h3] at hpu
 have q := za0 h4
 have q16 := q.l16
 have hv2 := zay r.1 r.2 (q.v0.pB (by omega))
 rw [h1] at hv1
 rw [h2] at hvr
 rw [h4] at hv2
 clear h1 h2 h3 h4 v hb q hr
 refine spi (fn := Try.f91) _ ?_
 conv => whnf
 repeat' first
  |(refine zm ?_ ?_; (focus ((try simp only [qA]) <;> (try simp only [wA]) <;> omega)); conv => whnf)
  |(refine zp (hv1) rfl rfl ?_; conv => whnf)
  |(refine zbo (hvr) rfl rfl rfl ?_; conv => whnf)
  |(refine zbe (hpu) rfl rfl rfl rfl ?_; conv => whnf)
  |(refine zbo (hv2) rfl rfl rfl ?_; conv => whnf)
 exact (zu [] [5])
theorem zzh (root : Int) (ps : List Pg) (x : Pr) (hp : pB ps) (hr : zqc root ps x = none) : zr Try.prog 91 0 [trV root ps, prV x] [] 0 (.tup [.agg [.c (.int .i64 0), .nil], .ff]) [] := by
 have hv1 := zay root ps hp
 have hvr := zhe [x] (by simp)
 by_cases h1 : vTree root ps = true
 ·rw [h1] at hv1
  by_cases h2 : zdb [x] = true
  ·have v := za0 h1
   have hb := zsq.1 h2
   have l16 := v.l16
   have l3 := v.h3
   have hpu := zq2 root ps x hp (by omega) (htF root ps) (by omega) v.v0 hb.2 hb.1.1 hb.1.2
   have hok := (zvr v.v0 hb.2 hb.1.1 hb.1.2).vt
   have h3 : vTree (zer root ps (htF root ps) x).1 (zer root ps (htF root ps) x).2 = false := by
    cases h : vTree (zer root ps (htF root ps) x).1 (zer root ps (htF root ps) x).2 with
    |false => rfl
    |true => unfold zqc at hr; rw [if_pos ⟨h1, h2, h⟩] at hr; cases hr
   have hle : (zer root ps (htF root ps) x).2.length ≤ 1000 := by
    have := (zvr v.v0 hb.2 hb.1.1 hb.1.2).len
    obtain ⟨d, hd⟩ : ∃ d, htF root ps = d + 1 := ⟨htF root ps - 1, by have := v.h1; omega⟩
    have q := (zqu hb.2 (hd ▸ v.fit) (hd ▸ v.nd) hb.1.1 hb.1.2).le
    rw [← hd] at q
    split at this <;> omega
   have hv2 := zay (zer root ps (htF root ps) x).1 (zer root ps (htF root ps) x).2 (hok.pB (by omega))
   rw [h3] at hv2
   rw [h2] at hvr
   generalize zer root ps (htF root ps) x = r at *
   clear h1 h2 v hb hok h3 hr
   refine spi (fn := Try.f91) _ ?_
   conv => whnf
   repeat' first
    |(refine zn ?_ ?_; (focus ((try simp only [qA]) <;> (try simp only [wA]) <;> omega)); conv => whnf)
    |(refine zm ?_ ?_; (focus ((try simp only [qA]) <;> (try simp only [wA]) <;> omega)); conv => whnf)
    |(refine zp (hv1) rfl rfl ?_; conv => whnf)
    |(refine zbo (hvr) rfl rfl rfl ?_; conv => whnf)
    |(refine zbe (hpu) rfl rfl rfl rfl ?_; conv => whnf)
    |(refine zbo (hv2) rfl rfl rfl ?_; conv => whnf)
   exact (zu [] [])
  ·have h2 : zdb [x] = false := by simpa using h2
   rw [h2] at hvr
   clear h1 hr h2
   refine spi (fn := Try.f91) _ ?_
   conv => whnf
   repeat' first
    |(refine zn ?_ ?_; (focus ((try simp only [qA]) <;> (try simp only [wA]) <;> omega)); conv => whnf)
    |(refine zm ?_ ?_; (focus ((try simp only [qA]) <;> (try simp only [wA]) <;> omega)); conv => whnf)
    |(refine zp (hv1) rfl rfl ?_; conv => whnf)
    |(refine zbo (hvr) rfl rfl rfl ?_; conv => whnf)
   exact (zu [] [])
 ·have h1 : vTree root ps = false := by simpa using h1
  rw [h1] at hv1
  clear h1 hr
  refine spi (fn := Try.f91) _ ?_
  conv => whnf
  repeat' first | (refine zn ?_ ?_; (focus ((try simp only [qA]) <;> (try simp only [wA]) <;> omega)); conv => whnf) | (refine zp (hv1) rfl rfl ?_; conv => whnf)
  exact (zu [] [])
end Go.VL
