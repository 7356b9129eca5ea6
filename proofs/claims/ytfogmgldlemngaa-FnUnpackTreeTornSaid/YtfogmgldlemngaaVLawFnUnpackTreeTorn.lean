/- laws.FnUnpackTreeTorn returns true for every input and leaves its argument as it was: Torn trees are none. No condition. -/
import Derived.Test.YtfogmgldlemngaaVBR
import Derived.Test.YtfogmgldlemngaaVJS
import Derived.Test.YtfogmgldlemngaaVW5
import Derived.Test.YtfogmgldlemngaaRows
import Derived.WalkKit
import Derived.ProofKit
import Derived.OpenShut
import Derived.ShutString
import Derived.ChangeOld
import Derived.Below
namespace Go.Proofs.Ytfogmgldlemngaa.fnUnpackTreeTorn
open Go.ChangeShapes Go.WideShapes Go.ChangeAt Go.RowKit
set_option linter.unusedVariables false

theorem own : ownKnob Try.prog.godebug = none := by kernel_rfl
theorem laidOut : laidOutB Try.prog = true := Go.VL.js_laid

theorem walk (v : Value) (c : List Int) (w : World) (hl : c.length ≤ 9223372036854775807) (hk : ∀ x ∈ c, 0 ≤ x ∧ x ≤ 255) (hv : Go.VL.RC (fun b => b < w.heap.size) w (.nums .u8 c) v) :
    Calls Try.prog 3 #[v] w fun e w' => e = .returned (.bool true) ∧ Below w.heap.size w w' :=
  Go.VL.calls_of_spec (argv := [v]) (Go.VL.FnUnpackTreeTorn_v c hl hk) rfl fun i x u hx hu => by
    match i, hx, hu with
    | 0, hx, hu => cases hx; cases hu; exact .c _ _ hv

set_option maxRecDepth 100000 in
theorem lifted (os : Os) (started : os.Started) (H : Type) (enc : TypeId × Value → H) :
    ReturnsInHanded {} Try.checked os 3 .any (Rows.fnUnpackTreeTornSpec.pre6 enc Try.prog Try.f3 Rows.fnUnpackTreeTornRow.domain false) (Rows.fnUnpackTreeTornSpec.post enc Try.prog Try.f3 false true false false) := by
  refine returnsInHanded_of_change (C := Try.checked) own started (by kernel_rfl) Try.func3
    (ChangeSpec.witness6 (enc := enc) (C := Try.checked) false ⟨#[], #[.slice none 0 0], []⟩ 8 (by kernel_rfl) (by kernel_rfl) (by kernel_rfl) (by kernel_rfl)) ?_
  intro W base args ds gs before hval0 hW hcnd _
  have hval : ∀ (j : Nat) t v, Try.f3.params[j]? = some t → args[j]? = some v → Value.okWide Try.prog W .any base t v := hval0
  have hW' := hW
  obtain ⟨p, q, hA0, hV, rfl, hfz, hnd⟩ := hW
  have hA : DataW.TrodAll enc Try.prog W 0 (fun _ => true) true Try.f3.params.toList args.toList ds p := hA0
  rw [Try.params3] at hA hval
  obtain ⟨v0, vs0, d0, ds0, p0, q0, hargs, rfl, rfl, h0, r0⟩ := trodAll_cons hA
  obtain ⟨rfl, rfl, rfl⟩ := trodAll_nil r0
  obtain rfl : args = #[v0] := by cases args; simp_all
  obtain ⟨rfl, rfl⟩ := trodVars_none hV
  obtain ⟨a0, len0, cap0, rfl⟩ := okWide_slice Try.underlying22 (hval 0 22 v0 rfl rfl)
  have k0 := h0
  have lt0 : ∀ x ∈ p0, x.block < W.heap.size := by obtain ⟨m, hm⟩ := k0; exact DataW.trod_lt m _ _ _ hm
  obtain ⟨c0, l0, m0, w0⟩ : ∃ c : List Int, c.length ≤ 9223372036854775807 ∧ (∀ x ∈ c, 0 ≤ x ∧ x ≤ 255) ∧ Go.VL.RC (fun b => b < W.heap.size) W (.nums .u8 c) (.slice a0 len0 cap0) := by
    obtain ⟨fuel, hf⟩ := h0
    exact Go.VL.rc_bytes Try.underlying22 Try.underlying5 (by kernel_rfl) hf
  clear hA0 hval0
  refine (walk _ c0 W l0 m0 w0).mono fun e W' ⟨he, bel⟩ => ?_
  subst he
  exact ⟨_, rfl, _, _, _, [], _, [], hW', trodAll_mk1 (shut_bool Try.underlying4 _), (trodAll_cons_mk (Below.trod laidOut (by kernel_rfl) (of_decide_eq_true (by kernel_rfl)) k0 bel lt0) trodAll_mk0), rfl, bel.frame _, fun h => by cases h⟩

theorem j0 : (Rows.fnUnpackTreeTornRow.wf (OpenSpec.ofChange Rows.fnUnpackTreeTornSpec)) = true := by kernel_rfl
theorem j1 : (laidOutB Try.prog) = true := Go.VL.js_laid
theorem j2 : (mapsRowed Try.prog) = true := Go.VL.js_maps
theorem j3 : (Try.f3.params.all (Try.prog.readableRec ·)) = true := by kernel_rfl
theorem j4 : (namedTie Try.prog Rows.fnUnpackTreeTornRow.named Rows.fnUnpackTreeTornSpec.vars) = true := by kernel_rfl
theorem j5 : ((Rows.fnUnpackTreeTornRow.stops == [])) = true := by kernel_rfl
theorem j6 : ((Try.prog.stops == [])) = true := by kernel_rfl
theorem j7 : ((Rows.fnUnpackTreeTornRow.knobs == [])) = true := by kernel_rfl
theorem j8 : ((Try.prog.stopKnobs == [])) = true := by kernel_rfl
theorem j9 : ((Rows.fnUnpackTreeTornRow.inPlace == Try.prog.inPlace 3)) = true := by kernel_rfl
theorem j10 : ((Rows.fnUnpackTreeTornRow.unfollowed == Try.prog.unfollowed 3)) = true := by kernel_rfl
theorem j11 : ((Rows.fnUnpackTreeTornRow.recurses == Try.prog.recurses 3)) = true := by kernel_rfl
theorem j12 : ((Rows.fnUnpackTreeTornRow.named == Try.prog.varsNamed 3)) = true := by kernel_rfl
theorem j13 : ((Rows.fnUnpackTreeTornRow.maps == (Try.f3.params.toList ++ Rows.fnUnpackTreeTornSpec.plain.varTypes Try.prog).any (Try.prog.mapsRec ·))) = true := by kernel_rfl
theorem j14 : ((Rows.fnUnpackTreeTornRow.ifaces == (Try.f3.params.toList ++ Rows.fnUnpackTreeTornSpec.plain.varTypes Try.prog).any (Try.prog.ifacesRec ·))) = true := by kernel_rfl
theorem j15 : ((Rows.fnUnpackTreeTornRow.mapsOut == Try.prog.mapsAmong Try.f3.resultTypes.toList)) = true := by kernel_rfl
theorem j16 : ((Rows.fnUnpackTreeTornRow.loops == (Try.f3.params.toList ++ Rows.fnUnpackTreeTornSpec.plain.varTypes Try.prog).any (Try.prog.loopsFrom ·))) = true := by kernel_rfl
theorem j17 : ((Rows.fnUnpackTreeTornRow.wideKeys == (Try.f3.params.toList ++ Rows.fnUnpackTreeTornSpec.plain.varTypes Try.prog ++ Try.f3.resultTypes.toList).any (Try.prog.wideKeysFrom ·))) = true := by kernel_rfl
theorem j18 : (Rows.fnUnpackTreeTornSpec.vars.all (Try.prog.varReadable ·)) = true := by kernel_rfl
theorem j19 : (Try.f3.resultTypes.all (fun t => Try.prog.readableRec t && decide (t < Try.prog.types.size))) = true := by kernel_rfl
theorem j20 : ((Rows.fnUnpackTreeTornRow.ifacesOut == Try.f3.resultTypes.toList.any (Try.prog.ifacesRec ·))) = true := by kernel_rfl
theorem j21 : ((Rows.fnUnpackTreeTornRow.loopsOut == Try.f3.resultTypes.toList.any (Try.prog.loopsFrom ·))) = true := by kernel_rfl
theorem j22 : ((Rows.fnUnpackTreeTornRow.plainKeys == Try.prog.plainKeys)) = true := by kernel_rfl
theorem j23 : (Rows.fnUnpackTreeTornRow.shortTexts.isNone) = true := by kernel_rfl
theorem j24 : (Try.prog.stopsHeard) = true := Go.VL.js_heard
theorem j25 : (Try.prog.mayEnter) = true := Go.VL.js_enter
theorem j26 : ((Rows.fnUnpackTreeTornRow.lifted == Try.prog.liftsFinal)) = true := by rw [Go.VL.js_lifts]; rfl
theorem j27 : ((Try.prog.make == some Rows.fnUnpackTreeTornRow.make)) = true := by rw [Go.VL.js_make]; rfl
theorem j28 : ((Rows.fnUnpackTreeTornRow.kinds == (if Rows.fnUnpackTreeTornRow.domain.isEmpty then [] else Try.f3.params.toList.map fun t => match Try.prog.underlying t with | some (.int k) => some k | _ => none))) = true := by kernel_rfl
theorem j29 : ((Rows.fnUnpackTreeTornRow.pinned == Rows.fnUnpackTreeTornRow.pinnedBy)) = true := by kernel_rfl
theorem j30 : ((Rows.fnUnpackTreeTornRow.veiled == (Try.f3.params.toList ++ Rows.fnUnpackTreeTornSpec.plain.varTypes Try.prog ++ Try.f3.resultTypes.toList).any (Try.prog.veiledRec ·))) = true := by kernel_rfl
theorem j31 : (Rows.fnUnpackTreeTornRow.veiledFits Try.prog Try.f3.params.toList (Try.f3.params.toList ++ Rows.fnUnpackTreeTornSpec.plain.varTypes Try.prog ++ Try.f3.resultTypes.toList)) = true := by kernel_rfl
set_option maxRecDepth 100000 in
theorem jf : joinedFacts Try.prog 3 Try.f3 Rows.fnUnpackTreeTornSpec Rows.fnUnpackTreeTornRow = true := by
  unfold joinedFacts
  simp only [Bool.and_eq_true]
  exact ⟨⟨⟨⟨⟨⟨⟨⟨⟨⟨⟨⟨⟨⟨⟨⟨⟨⟨⟨⟨⟨⟨⟨⟨⟨⟨⟨⟨⟨⟨⟨j0, j1⟩, j2⟩, j3⟩, j4⟩, j5⟩, j6⟩, j7⟩, j8⟩, j9⟩, j10⟩, j11⟩, j12⟩, j13⟩, j14⟩, j15⟩, j16⟩, j17⟩, j18⟩, j19⟩, j20⟩, j21⟩, j22⟩, j23⟩, j24⟩, j25⟩, j26⟩, j27⟩, j28⟩, j29⟩, j30⟩, j31⟩

theorem over : Rows.fnUnpackTreeTornRow.holds Try.pinned (OpenSpec.ofChange Rows.fnUnpackTreeTornSpec) :=
  OpenClaim.holds_of_wide 3 Try.f3 rfl rfl rfl rfl rfl rfl rfl ⟨rfl, rfl, rfl, rfl, rfl⟩ rfl rfl rfl rfl rfl (by kernel_rfl) Try.func3 jf
    (of_decide_eq_true (by kernel_rfl)) (by unfold Func.isWrapper; first | (rw [if_pos (by decide +kernel)]; kernel_rfl) | (rw [if_neg (by decide +kernel)]; exact ⟨rfl, rfl⟩))
    (fun os started H enc _ => lifted os started H enc)

theorem proved : Rows.FnUnpackTreeTornSaid := over
#print axioms proved
end Go.Proofs.Ytfogmgldlemngaa.fnUnpackTreeTorn
