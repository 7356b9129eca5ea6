/- laws.FnExactFindLink returns true for every input and leaves its arguments as they were: the two FindLink answer alike. No condition. -/
import Derived.Test.YtkdgodkamaicjaaVBridge
import Derived.Test.YtkdgodkamaicjaaVChG
import Derived.Test.YtkdgodkamaicjaaRows
import Derived.WalkKit
import Derived.ProofKit
import Derived.OpenShut
import Derived.ShutString
import Derived.ChangeOld
import Derived.Below
namespace Go.Proofs.Ytkdgodkamaicjaa.fnExactFindLink
open Go.ChangeShapes Go.WideShapes Go.ChangeAt Go.RowKit
set_option linter.unusedVariables false

theorem own : ownKnob Try.prog.godebug = none := by kernel_rfl
theorem laidOut : laidOutB Try.prog = true := by kernel_rfl

theorem walk (v : Value) (n1 n2 : Int) (c : List Go.VL.Lk) (w : World) (hl : c.length ≤ 9223372036854775807) (hk : ∀ l ∈ c, l.keys.length ≤ 9223372036854775807) (hv : Go.VL.RC (fun b => b < w.heap.size) w (.lks c) v) :
    Calls Try.prog 4 #[v, .int .i64 n1, .int .i64 n2] w fun e w' => e = .returned (.bool true) ∧ Below w.heap.size w w' :=
  Go.VL.calls_of_spec (argv := [v, .int .i64 n1, .int .i64 n2]) (Go.VL.FnExactFindLink_v c n1 n2 hl hk) rfl fun i x u hx hu => by
    match i, hx, hu with
    | 0, hx, hu => cases hx; cases hu; exact .c _ _ hv
    | 1, hx, hu => cases hx; cases hu; exact .c _ _ (.int _ _)
    | 2, hx, hu => cases hx; cases hu; exact .c _ _ (.int _ _)

set_option maxRecDepth 100000 in
theorem lifted (os : Os) (started : os.Started) (H : Type) (enc : TypeId × Value → H) :
    ReturnsInHanded {} Try.checked os 4 .any (Rows.fnExactFindLinkSpec.pre6 enc Try.prog Try.f4 Rows.fnExactFindLinkRow.domain false) (Rows.fnExactFindLinkSpec.post enc Try.prog Try.f4 false true false false) := by
  refine returnsInHanded_of_change (C := Try.checked) own started (by kernel_rfl) Try.func4
    (ChangeSpec.witness6 (enc := enc) (C := Try.checked) false ⟨#[], #[.slice none 0 0, .int .i64 0, .int .i64 0], []⟩ 8 (by kernel_rfl) (by kernel_rfl) (by kernel_rfl) (by kernel_rfl)) ?_
  intro W base args ds gs before hval0 hW hcnd _
  have hval : ∀ (j : Nat) t v, Try.f4.params[j]? = some t → args[j]? = some v → Value.okWide Try.prog W .any base t v := hval0
  have hW' := hW
  obtain ⟨p, q, hA0, hV, rfl, hfz, hnd⟩ := hW
  have hA : DataW.TrodAll enc Try.prog W 0 (fun _ => true) true Try.f4.params.toList args.toList ds p := hA0
  rw [Try.params4] at hA hval
  obtain ⟨v0, vs0, d0, ds0, p0, q0, hargs, rfl, rfl, h0, r0⟩ := trodAll_cons hA
  obtain ⟨v1, vs1, d1, ds1, p1, q1, rfl, rfl, rfl, h1, r1⟩ := trodAll_cons r0
  obtain ⟨v2, vs2, d2, ds2, p2, q2, rfl, rfl, rfl, h2, r2⟩ := trodAll_cons r1
  obtain ⟨rfl, rfl, rfl⟩ := trodAll_nil r2
  obtain rfl : args = #[v0, v1, v2] := by cases args; simp_all
  obtain ⟨rfl, rfl⟩ := trodVars_none hV
  obtain ⟨a0, len0, cap0, rfl⟩ := okWide_slice Try.underlying22 (hval 0 22 v0 rfl rfl)
  have k0 := h0
  have k1 := h1
  have k2 := h2
  have lt1 : ∀ x ∈ p1, x.block < W.heap.size := by obtain ⟨m, hm⟩ := k1; exact DataW.trod_lt m _ _ _ hm
  have lt2 : ∀ x ∈ p2, x.block < W.heap.size := by obtain ⟨m, hm⟩ := k2; exact DataW.trod_lt m _ _ _ hm
  obtain ⟨n1, rfl, _⟩ := open_int Try.underlying3 (hval 1 3 v1 rfl rfl) h1
  obtain ⟨n2, rfl, _⟩ := open_int Try.underlying3 (hval 2 3 v2 rfl rfl) h2
  have lt0 : ∀ x ∈ p0, x.block < W.heap.size := by obtain ⟨m, hm⟩ := k0; exact DataW.trod_lt m _ _ _ hm
  obtain ⟨c0, l0, m0, w0⟩ : ∃ c : List Go.VL.Lk, c.length ≤ 9223372036854775807 ∧ (∀ l ∈ c, l.keys.length ≤ 9223372036854775807) ∧ Go.VL.RC (fun b => b < W.heap.size) W (.lks c) (.slice a0 len0 cap0) := by
    obtain ⟨fuel, hf⟩ := h0
    exact Go.VL.rc_links (ti := 31) (te := 3) (tk := 3) Try.underlying22 Try.underlying42 (by kernel_rfl) ⟨rfl, rfl, by kernel_rfl, Try.underlying31, Try.underlying3, by kernel_rfl⟩ ⟨rfl, rfl, by kernel_rfl, Try.underlying3⟩ ⟨rfl, rfl⟩ hf
  clear hA0 hval0
  refine (walk _ n1 n2 c0 W l0 m0 w0).mono fun e W' ⟨he, bel⟩ => ?_
  subst he
  exact ⟨_, rfl, _, _, _, [], _, [], hW', trodAll_mk1 (shut_bool Try.underlying4 _), (trodAll_cons_mk (Below.trod laidOut (by kernel_rfl) (of_decide_eq_true (by kernel_rfl)) k0 bel lt0) (trodAll_cons_mk (Below.trod laidOut (by kernel_rfl) (of_decide_eq_true (by kernel_rfl)) k1 bel lt1) (trodAll_cons_mk (Below.trod laidOut (by kernel_rfl) (of_decide_eq_true (by kernel_rfl)) k2 bel lt2) trodAll_mk0))), rfl, bel.frame _, fun h => by cases h⟩

theorem over : Rows.fnExactFindLinkRow.holds Try.pinned (OpenSpec.ofChange Rows.fnExactFindLinkSpec) :=
  OpenClaim.holds_of_wide 4 Try.f4 rfl rfl rfl rfl rfl rfl rfl ⟨rfl, rfl, rfl, rfl, rfl⟩ rfl rfl rfl rfl rfl (by kernel_rfl) Try.func4 (by kernel_rfl)
    (of_decide_eq_true (by kernel_rfl)) (by unfold Func.isWrapper; first | (rw [if_pos (by decide +kernel)]; kernel_rfl) | (rw [if_neg (by decide +kernel)]; exact ⟨rfl, rfl⟩))
    (fun os started H enc _ => lifted os started H enc)

theorem proved : Rows.FnExactFindLinkSaid := over
#print axioms proved
end Go.Proofs.Ytkdgodkamaicjaa.fnExactFindLink
