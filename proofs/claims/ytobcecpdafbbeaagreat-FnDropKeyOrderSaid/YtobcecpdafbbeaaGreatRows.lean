/-
  No cell of these rows narrows 'for every input' (looked for: loops, veiled, ifaces, maps, wideKeys, modest, calm, conditions, laid).
  DERIVED. THE GIVEN ROWS OF THIS SEAT. 21 by the template 'for every input the law returns true; each argument reads behind the call as it read before'; 0 by the template 'total and deterministic' (their statements: YtobcecpdafbbeaaGreatTotals.lean).
  GIVEN WITH THE SEED: the statements are not yours to turn. If you find one false, say at which input.
  Laid BY PROGRAM, IN A SANDBOX (cutbox-rows.mjs): the forced cells as the released guide's own fill.sh prints them over the translation aa723881a605cf8c… (all of the seat's roots in one cut). By AI agents, Wed Nov 11 2026. No macro, syntax, notation, axiom, sorry.
-/
import Derived.Test.YtobcecpdafbbeaaGreatChecked
import GoSem.Claim
import GoSem.ClaimJoined
import GoSem.ClaimMapViews
import Derived.JoinedTies
import Derived.KernelRfl
namespace Go.Proofs.YtobcecpdafbbeaaGreat
/- THE CELL 'sum', in the pinned program and in every row, IS THE sha256 OF THE DUMP (.gsa) THAT YtobcecpdafbbeaaGreatProg.lean LOADS. Nothing in Lean hashes anything: it is a label: what it is worth is what the hold of that sum in a sandbox is worth. -/
noncomputable def Tryz.pinned : Pinned := { name := "ytobcecpdafbbeaagreat", sum := "aa723881a605cf8cb30044273ca5773f4037181e7f8876586e7a662b5aaffd7d", checked := Tryz.checked }
namespace Rows
def none {H : Type} : Left H := { results := [], args := [] }

/-- 'laws.FnRunHeldPath': WHATEVER THE INPUT: true; the input reads as it did. -/
def fnRunHeldPathSpec : ChangeSpec := { name := "fnRunHeldPath", fn := fun _ => fun
  | [d] => { results := [.lit (.bool true)], args := [d] }
  | _ => none }
def fnRunHeldPathRow : OpenClaim := { program := "ytobcecpdafbbeaagreat", sum := "aa723881a605cf8cb30044273ca5773f4037181e7f8876586e7a662b5aaffd7d", func := "loop.example/pagetree/laws.FnRunHeldPath", spec := "fnRunHeldPath", inPlace := ["slices.overlaps[loop.example/pagetree/impl.Pair]", "slices.overlaps[int]"], unfollowed := true, recurses := true, apart := false }
def FnRunHeldPathSaid : Prop := fnRunHeldPathRow.holds Tryz.pinned (OpenSpec.ofChange fnRunHeldPathSpec)

/-- ITS FALSE NEIGHBOUR: 'it returns false'. Refute it at one input. -/
def fnRunHeldPathWrong : ChangeSpec := { name := "fnRunHeldPath", fn := fun _ => fun
  | [d] => { results := [.lit (.bool false)], args := [d] }
  | _ => none }
def FnRunHeldPathWrongFalsely : Prop := fnRunHeldPathRow.holds Tryz.pinned (OpenSpec.ofChange fnRunHeldPathWrong)

/-- 'laws.FnRunHeld': WHATEVER THE INPUT: true; the input reads as it did. -/
def fnRunHeldSpec : ChangeSpec := { name := "fnRunHeld", fn := fun _ => fun
  | [d] => { results := [.lit (.bool true)], args := [d] }
  | _ => none }
def fnRunHeldRow : OpenClaim := { program := "ytobcecpdafbbeaagreat", sum := "aa723881a605cf8cb30044273ca5773f4037181e7f8876586e7a662b5aaffd7d", func := "loop.example/pagetree/laws.FnRunHeld", spec := "fnRunHeld", inPlace := ["slices.overlaps[loop.example/pagetree/impl.Pair]", "slices.overlaps[int]"], unfollowed := true, recurses := true, apart := false }
def FnRunHeldSaid : Prop := fnRunHeldRow.holds Tryz.pinned (OpenSpec.ofChange fnRunHeldSpec)

/-- ITS FALSE NEIGHBOUR: 'it returns false'. Refute it at one input. -/
def fnRunHeldWrong : ChangeSpec := { name := "fnRunHeld", fn := fun _ => fun
  | [d] => { results := [.lit (.bool false)], args := [d] }
  | _ => none }
def FnRunHeldWrongFalsely : Prop := fnRunHeldRow.holds Tryz.pinned (OpenSpec.ofChange fnRunHeldWrong)

/-- 'laws.FnRunDoneReads': WHATEVER THE INPUT: true; the input reads as it did. -/
def fnRunDoneReadsSpec : ChangeSpec := { name := "fnRunDoneReads", fn := fun _ => fun
  | [d] => { results := [.lit (.bool true)], args := [d] }
  | _ => none }
def fnRunDoneReadsRow : OpenClaim := { program := "ytobcecpdafbbeaagreat", sum := "aa723881a605cf8cb30044273ca5773f4037181e7f8876586e7a662b5aaffd7d", func := "loop.example/pagetree/laws.FnRunDoneReads", spec := "fnRunDoneReads", inPlace := ["slices.overlaps[loop.example/pagetree/impl.Pair]", "slices.overlaps[int]"], unfollowed := true, recurses := true, apart := false }
def FnRunDoneReadsSaid : Prop := fnRunDoneReadsRow.holds Tryz.pinned (OpenSpec.ofChange fnRunDoneReadsSpec)

/-- ITS FALSE NEIGHBOUR: 'it returns false'. Refute it at one input. -/
def fnRunDoneReadsWrong : ChangeSpec := { name := "fnRunDoneReads", fn := fun _ => fun
  | [d] => { results := [.lit (.bool false)], args := [d] }
  | _ => none }
def FnRunDoneReadsWrongFalsely : Prop := fnRunDoneReadsRow.holds Tryz.pinned (OpenSpec.ofChange fnRunDoneReadsWrong)

/-- 'laws.FnDropKeyNone': WHATEVER THE INPUT: true; the input reads as it did. -/
def fnDropKeyNoneSpec : ChangeSpec := { name := "fnDropKeyNone", fn := fun _ => fun
  | [d] => { results := [.lit (.bool true)], args := [d] }
  | _ => none }
def fnDropKeyNoneRow : OpenClaim := { program := "ytobcecpdafbbeaagreat", sum := "aa723881a605cf8cb30044273ca5773f4037181e7f8876586e7a662b5aaffd7d", func := "loop.example/pagetree/laws.FnDropKeyNone", spec := "fnDropKeyNone", unfollowed := true, recurses := true, apart := false }
def FnDropKeyNoneSaid : Prop := fnDropKeyNoneRow.holds Tryz.pinned (OpenSpec.ofChange fnDropKeyNoneSpec)

/-- ITS FALSE NEIGHBOUR: 'it returns false'. Refute it at one input. -/
def fnDropKeyNoneWrong : ChangeSpec := { name := "fnDropKeyNone", fn := fun _ => fun
  | [d] => { results := [.lit (.bool false)], args := [d] }
  | _ => none }
def FnDropKeyNoneWrongFalsely : Prop := fnDropKeyNoneRow.holds Tryz.pinned (OpenSpec.ofChange fnDropKeyNoneWrong)

/-- 'laws.FnDropKeyOrder': WHATEVER THE INPUT: true; the input reads as it did. -/
def fnDropKeyOrderSpec : ChangeSpec := { name := "fnDropKeyOrder", fn := fun _ => fun
  | [d] => { results := [.lit (.bool true)], args := [d] }
  | _ => none }
def fnDropKeyOrderRow : OpenClaim := { program := "ytobcecpdafbbeaagreat", sum := "aa723881a605cf8cb30044273ca5773f4037181e7f8876586e7a662b5aaffd7d", func := "loop.example/pagetree/laws.FnDropKeyOrder", spec := "fnDropKeyOrder", unfollowed := true, recurses := true, apart := false }
def FnDropKeyOrderSaid : Prop := fnDropKeyOrderRow.holds Tryz.pinned (OpenSpec.ofChange fnDropKeyOrderSpec)

/-- ITS FALSE NEIGHBOUR: 'it returns false'. Refute it at one input. -/
def fnDropKeyOrderWrong : ChangeSpec := { name := "fnDropKeyOrder", fn := fun _ => fun
  | [d] => { results := [.lit (.bool false)], args := [d] }
  | _ => none }
def FnDropKeyOrderWrongFalsely : Prop := fnDropKeyOrderRow.holds Tryz.pinned (OpenSpec.ofChange fnDropKeyOrderWrong)

/-- 'laws.FnDropKey': WHATEVER THE INPUT: true; the input reads as it did. -/
def fnDropKeySpec : ChangeSpec := { name := "fnDropKey", fn := fun _ => fun
  | [d] => { results := [.lit (.bool true)], args := [d] }
  | _ => none }
def fnDropKeyRow : OpenClaim := { program := "ytobcecpdafbbeaagreat", sum := "aa723881a605cf8cb30044273ca5773f4037181e7f8876586e7a662b5aaffd7d", func := "loop.example/pagetree/laws.FnDropKey", spec := "fnDropKey", unfollowed := true, recurses := true, apart := false }
def FnDropKeySaid : Prop := fnDropKeyRow.holds Tryz.pinned (OpenSpec.ofChange fnDropKeySpec)

/-- ITS FALSE NEIGHBOUR: 'it returns false'. Refute it at one input. -/
def fnDropKeyWrong : ChangeSpec := { name := "fnDropKey", fn := fun _ => fun
  | [d] => { results := [.lit (.bool false)], args := [d] }
  | _ => none }
def FnDropKeyWrongFalsely : Prop := fnDropKeyRow.holds Tryz.pinned (OpenSpec.ofChange fnDropKeyWrong)

/-- 'laws.FnDropAllEmpty': WHATEVER THE INPUT: true; the input reads as it did. -/
def fnDropAllEmptySpec : ChangeSpec := { name := "fnDropAllEmpty", fn := fun _ => fun
  | [d] => { results := [.lit (.bool true)], args := [d] }
  | _ => none }
def fnDropAllEmptyRow : OpenClaim := { program := "ytobcecpdafbbeaagreat", sum := "aa723881a605cf8cb30044273ca5773f4037181e7f8876586e7a662b5aaffd7d", func := "loop.example/pagetree/laws.FnDropAllEmpty", spec := "fnDropAllEmpty", unfollowed := true, recurses := true, apart := false }
def FnDropAllEmptySaid : Prop := fnDropAllEmptyRow.holds Tryz.pinned (OpenSpec.ofChange fnDropAllEmptySpec)

/-- ITS FALSE NEIGHBOUR: 'it returns false'. Refute it at one input. -/
def fnDropAllEmptyWrong : ChangeSpec := { name := "fnDropAllEmpty", fn := fun _ => fun
  | [d] => { results := [.lit (.bool false)], args := [d] }
  | _ => none }
def FnDropAllEmptyWrongFalsely : Prop := fnDropAllEmptyRow.holds Tryz.pinned (OpenSpec.ofChange fnDropAllEmptyWrong)

/-- 'laws.FnDropAllPairs': WHATEVER THE INPUT: true; the input reads as it did. -/
def fnDropAllPairsSpec : ChangeSpec := { name := "fnDropAllPairs", fn := fun _ => fun
  | [d] => { results := [.lit (.bool true)], args := [d] }
  | _ => none }
def fnDropAllPairsRow : OpenClaim := { program := "ytobcecpdafbbeaagreat", sum := "aa723881a605cf8cb30044273ca5773f4037181e7f8876586e7a662b5aaffd7d", func := "loop.example/pagetree/laws.FnDropAllPairs", spec := "fnDropAllPairs", unfollowed := true, recurses := true, apart := false }
def FnDropAllPairsSaid : Prop := fnDropAllPairsRow.holds Tryz.pinned (OpenSpec.ofChange fnDropAllPairsSpec)

/-- ITS FALSE NEIGHBOUR: 'it returns false'. Refute it at one input. -/
def fnDropAllPairsWrong : ChangeSpec := { name := "fnDropAllPairs", fn := fun _ => fun
  | [d] => { results := [.lit (.bool false)], args := [d] }
  | _ => none }
def FnDropAllPairsWrongFalsely : Prop := fnDropAllPairsRow.holds Tryz.pinned (OpenSpec.ofChange fnDropAllPairsWrong)

/-- 'laws.FnExactRunDone': WHATEVER THE INPUT: true; the input reads as it did. -/
def fnExactRunDoneSpec : ChangeSpec := { name := "fnExactRunDone", fn := fun _ => fun
  | [d1, d2, d3] => { results := [.lit (.bool true)], args := [d1, d2, d3] }
  | _ => none }
def fnExactRunDoneRow : OpenClaim := { program := "ytobcecpdafbbeaagreat", sum := "aa723881a605cf8cb30044273ca5773f4037181e7f8876586e7a662b5aaffd7d", func := "loop.example/pagetree/laws.FnExactRunDone", spec := "fnExactRunDone", inPlace := ["slices.overlaps[loop.example/pagetree/impl.Pair]", "slices.overlaps[int]"], unfollowed := true, recurses := true, apart := false }
def FnExactRunDoneSaid : Prop := fnExactRunDoneRow.holds Tryz.pinned (OpenSpec.ofChange fnExactRunDoneSpec)

/-- ITS FALSE NEIGHBOUR: 'it returns false'. Refute it at one input. -/
def fnExactRunDoneWrong : ChangeSpec := { name := "fnExactRunDone", fn := fun _ => fun
  | [d1, d2, d3] => { results := [.lit (.bool false)], args := [d1, d2, d3] }
  | _ => none }
def FnExactRunDoneWrongFalsely : Prop := fnExactRunDoneRow.holds Tryz.pinned (OpenSpec.ofChange fnExactRunDoneWrong)

/-- 'laws.FnExactRunResults': WHATEVER THE INPUT: true; the input reads as it did. -/
def fnExactRunResultsSpec : ChangeSpec := { name := "fnExactRunResults", fn := fun _ => fun
  | [d1, d2, d3] => { results := [.lit (.bool true)], args := [d1, d2, d3] }
  | _ => none }
def fnExactRunResultsRow : OpenClaim := { program := "ytobcecpdafbbeaagreat", sum := "aa723881a605cf8cb30044273ca5773f4037181e7f8876586e7a662b5aaffd7d", func := "loop.example/pagetree/laws.FnExactRunResults", spec := "fnExactRunResults", inPlace := ["slices.overlaps[loop.example/pagetree/impl.Pair]", "slices.overlaps[int]"], unfollowed := true, recurses := true, apart := false }
def FnExactRunResultsSaid : Prop := fnExactRunResultsRow.holds Tryz.pinned (OpenSpec.ofChange fnExactRunResultsSpec)

/-- ITS FALSE NEIGHBOUR: 'it returns false'. Refute it at one input. -/
def fnExactRunResultsWrong : ChangeSpec := { name := "fnExactRunResults", fn := fun _ => fun
  | [d1, d2, d3] => { results := [.lit (.bool false)], args := [d1, d2, d3] }
  | _ => none }
def FnExactRunResultsWrongFalsely : Prop := fnExactRunResultsRow.holds Tryz.pinned (OpenSpec.ofChange fnExactRunResultsWrong)

/-- 'laws.FnExactRunTree': WHATEVER THE INPUT: true; the input reads as it did. -/
def fnExactRunTreeSpec : ChangeSpec := { name := "fnExactRunTree", fn := fun _ => fun
  | [d1, d2, d3] => { results := [.lit (.bool true)], args := [d1, d2, d3] }
  | _ => none }
def fnExactRunTreeRow : OpenClaim := { program := "ytobcecpdafbbeaagreat", sum := "aa723881a605cf8cb30044273ca5773f4037181e7f8876586e7a662b5aaffd7d", func := "loop.example/pagetree/laws.FnExactRunTree", spec := "fnExactRunTree", inPlace := ["slices.overlaps[loop.example/pagetree/impl.Pair]", "slices.overlaps[int]"], unfollowed := true, recurses := true, apart := false }
def FnExactRunTreeSaid : Prop := fnExactRunTreeRow.holds Tryz.pinned (OpenSpec.ofChange fnExactRunTreeSpec)

/-- ITS FALSE NEIGHBOUR: 'it returns false'. Refute it at one input. -/
def fnExactRunTreeWrong : ChangeSpec := { name := "fnExactRunTree", fn := fun _ => fun
  | [d1, d2, d3] => { results := [.lit (.bool false)], args := [d1, d2, d3] }
  | _ => none }
def FnExactRunTreeWrongFalsely : Prop := fnExactRunTreeRow.holds Tryz.pinned (OpenSpec.ofChange fnExactRunTreeWrong)

/-- 'laws.FnExactRunHeld': WHATEVER THE INPUT: true; the input reads as it did. -/
def fnExactRunHeldSpec : ChangeSpec := { name := "fnExactRunHeld", fn := fun _ => fun
  | [d1, d2, d3] => { results := [.lit (.bool true)], args := [d1, d2, d3] }
  | _ => none }
def fnExactRunHeldRow : OpenClaim := { program := "ytobcecpdafbbeaagreat", sum := "aa723881a605cf8cb30044273ca5773f4037181e7f8876586e7a662b5aaffd7d", func := "loop.example/pagetree/laws.FnExactRunHeld", spec := "fnExactRunHeld", inPlace := ["slices.overlaps[loop.example/pagetree/impl.Pair]", "slices.overlaps[int]"], unfollowed := true, recurses := true, apart := false }
def FnExactRunHeldSaid : Prop := fnExactRunHeldRow.holds Tryz.pinned (OpenSpec.ofChange fnExactRunHeldSpec)

/-- ITS FALSE NEIGHBOUR: 'it returns false'. Refute it at one input. -/
def fnExactRunHeldWrong : ChangeSpec := { name := "fnExactRunHeld", fn := fun _ => fun
  | [d1, d2, d3] => { results := [.lit (.bool false)], args := [d1, d2, d3] }
  | _ => none }
def FnExactRunHeldWrongFalsely : Prop := fnExactRunHeldRow.holds Tryz.pinned (OpenSpec.ofChange fnExactRunHeldWrong)

/-- 'laws.FnDropKeyPut': WHATEVER THE INPUT: true; the input reads as it did. -/
def fnDropKeyPutSpec : ChangeSpec := { name := "fnDropKeyPut", fn := fun _ => fun
  | [d] => { results := [.lit (.bool true)], args := [d] }
  | _ => none }
def fnDropKeyPutRow : OpenClaim := { program := "ytobcecpdafbbeaagreat", sum := "aa723881a605cf8cb30044273ca5773f4037181e7f8876586e7a662b5aaffd7d", func := "loop.example/pagetree/laws.FnDropKeyPut", spec := "fnDropKeyPut", inPlace := ["slices.overlaps[loop.example/pagetree/impl.Pair]", "slices.overlaps[int]"], unfollowed := true, recurses := true, apart := false }
def FnDropKeyPutSaid : Prop := fnDropKeyPutRow.holds Tryz.pinned (OpenSpec.ofChange fnDropKeyPutSpec)

/-- ITS FALSE NEIGHBOUR: 'it returns false'. Refute it at one input. -/
def fnDropKeyPutWrong : ChangeSpec := { name := "fnDropKeyPut", fn := fun _ => fun
  | [d] => { results := [.lit (.bool false)], args := [d] }
  | _ => none }
def FnDropKeyPutWrongFalsely : Prop := fnDropKeyPutRow.holds Tryz.pinned (OpenSpec.ofChange fnDropKeyPutWrong)

/-- 'laws.FnRunDoneShort': WHATEVER THE INPUT: true; the input reads as it did. -/
def fnRunDoneShortSpec : ChangeSpec := { name := "fnRunDoneShort", fn := fun _ => fun
  | [d] => { results := [.lit (.bool true)], args := [d] }
  | _ => none }
def fnRunDoneShortRow : OpenClaim := { program := "ytobcecpdafbbeaagreat", sum := "aa723881a605cf8cb30044273ca5773f4037181e7f8876586e7a662b5aaffd7d", func := "loop.example/pagetree/laws.FnRunDoneShort", spec := "fnRunDoneShort", inPlace := ["slices.overlaps[loop.example/pagetree/impl.Pair]", "slices.overlaps[int]"], unfollowed := true, recurses := true, apart := false }
def FnRunDoneShortSaid : Prop := fnRunDoneShortRow.holds Tryz.pinned (OpenSpec.ofChange fnRunDoneShortSpec)

/-- ITS FALSE NEIGHBOUR: 'it returns false'. Refute it at one input. -/
def fnRunDoneShortWrong : ChangeSpec := { name := "fnRunDoneShort", fn := fun _ => fun
  | [d] => { results := [.lit (.bool false)], args := [d] }
  | _ => none }
def FnRunDoneShortWrongFalsely : Prop := fnRunDoneShortRow.holds Tryz.pinned (OpenSpec.ofChange fnRunDoneShortWrong)

/-- 'laws.FnRunResults': WHATEVER THE INPUT: true; the input reads as it did. -/
def fnRunResultsSpec : ChangeSpec := { name := "fnRunResults", fn := fun _ => fun
  | [d] => { results := [.lit (.bool true)], args := [d] }
  | _ => none }
def fnRunResultsRow : OpenClaim := { program := "ytobcecpdafbbeaagreat", sum := "aa723881a605cf8cb30044273ca5773f4037181e7f8876586e7a662b5aaffd7d", func := "loop.example/pagetree/laws.FnRunResults", spec := "fnRunResults", inPlace := ["slices.overlaps[loop.example/pagetree/impl.Pair]", "slices.overlaps[int]"], unfollowed := true, recurses := true, apart := false }
def FnRunResultsSaid : Prop := fnRunResultsRow.holds Tryz.pinned (OpenSpec.ofChange fnRunResultsSpec)

/-- ITS FALSE NEIGHBOUR: 'it returns false'. Refute it at one input. -/
def fnRunResultsWrong : ChangeSpec := { name := "fnRunResults", fn := fun _ => fun
  | [d] => { results := [.lit (.bool false)], args := [d] }
  | _ => none }
def FnRunResultsWrongFalsely : Prop := fnRunResultsRow.holds Tryz.pinned (OpenSpec.ofChange fnRunResultsWrong)

/-- 'laws.FnRunDoneAlone': WHATEVER THE INPUT: true; the input reads as it did. -/
def fnRunDoneAloneSpec : ChangeSpec := { name := "fnRunDoneAlone", fn := fun _ => fun
  | [d] => { results := [.lit (.bool true)], args := [d] }
  | _ => none }
def fnRunDoneAloneRow : OpenClaim := { program := "ytobcecpdafbbeaagreat", sum := "aa723881a605cf8cb30044273ca5773f4037181e7f8876586e7a662b5aaffd7d", func := "loop.example/pagetree/laws.FnRunDoneAlone", spec := "fnRunDoneAlone", inPlace := ["slices.overlaps[loop.example/pagetree/impl.Pair]", "slices.overlaps[int]"], unfollowed := true, recurses := true, apart := false }
def FnRunDoneAloneSaid : Prop := fnRunDoneAloneRow.holds Tryz.pinned (OpenSpec.ofChange fnRunDoneAloneSpec)

/-- ITS FALSE NEIGHBOUR: 'it returns false'. Refute it at one input. -/
def fnRunDoneAloneWrong : ChangeSpec := { name := "fnRunDoneAlone", fn := fun _ => fun
  | [d] => { results := [.lit (.bool false)], args := [d] }
  | _ => none }
def FnRunDoneAloneWrongFalsely : Prop := fnRunDoneAloneRow.holds Tryz.pinned (OpenSpec.ofChange fnRunDoneAloneWrong)

/-- 'laws.FnRunResultsOpen': WHATEVER THE INPUT: true; the input reads as it did. -/
def fnRunResultsOpenSpec : ChangeSpec := { name := "fnRunResultsOpen", fn := fun _ => fun
  | [d] => { results := [.lit (.bool true)], args := [d] }
  | _ => none }
def fnRunResultsOpenRow : OpenClaim := { program := "ytobcecpdafbbeaagreat", sum := "aa723881a605cf8cb30044273ca5773f4037181e7f8876586e7a662b5aaffd7d", func := "loop.example/pagetree/laws.FnRunResultsOpen", spec := "fnRunResultsOpen", inPlace := ["slices.overlaps[loop.example/pagetree/impl.Pair]", "slices.overlaps[int]"], unfollowed := true, recurses := true, apart := false }
def FnRunResultsOpenSaid : Prop := fnRunResultsOpenRow.holds Tryz.pinned (OpenSpec.ofChange fnRunResultsOpenSpec)

/-- ITS FALSE NEIGHBOUR: 'it returns false'. Refute it at one input. -/
def fnRunResultsOpenWrong : ChangeSpec := { name := "fnRunResultsOpen", fn := fun _ => fun
  | [d] => { results := [.lit (.bool false)], args := [d] }
  | _ => none }
def FnRunResultsOpenWrongFalsely : Prop := fnRunResultsOpenRow.holds Tryz.pinned (OpenSpec.ofChange fnRunResultsOpenWrong)

/-- 'laws.FnRunTree': WHATEVER THE INPUT: true; the input reads as it did. -/
def fnRunTreeSpec : ChangeSpec := { name := "fnRunTree", fn := fun _ => fun
  | [d] => { results := [.lit (.bool true)], args := [d] }
  | _ => none }
def fnRunTreeRow : OpenClaim := { program := "ytobcecpdafbbeaagreat", sum := "aa723881a605cf8cb30044273ca5773f4037181e7f8876586e7a662b5aaffd7d", func := "loop.example/pagetree/laws.FnRunTree", spec := "fnRunTree", inPlace := ["slices.overlaps[loop.example/pagetree/impl.Pair]", "slices.overlaps[int]"], unfollowed := true, recurses := true, apart := false }
def FnRunTreeSaid : Prop := fnRunTreeRow.holds Tryz.pinned (OpenSpec.ofChange fnRunTreeSpec)

/-- ITS FALSE NEIGHBOUR: 'it returns false'. Refute it at one input. -/
def fnRunTreeWrong : ChangeSpec := { name := "fnRunTree", fn := fun _ => fun
  | [d] => { results := [.lit (.bool false)], args := [d] }
  | _ => none }
def FnRunTreeWrongFalsely : Prop := fnRunTreeRow.holds Tryz.pinned (OpenSpec.ofChange fnRunTreeWrong)

/-- 'laws.FnRunDone': WHATEVER THE INPUT: true; the input reads as it did. -/
def fnRunDoneSpec : ChangeSpec := { name := "fnRunDone", fn := fun _ => fun
  | [d] => { results := [.lit (.bool true)], args := [d] }
  | _ => none }
def fnRunDoneRow : OpenClaim := { program := "ytobcecpdafbbeaagreat", sum := "aa723881a605cf8cb30044273ca5773f4037181e7f8876586e7a662b5aaffd7d", func := "loop.example/pagetree/laws.FnRunDone", spec := "fnRunDone", inPlace := ["slices.overlaps[loop.example/pagetree/impl.Pair]", "slices.overlaps[int]"], unfollowed := true, recurses := true, apart := false }
def FnRunDoneSaid : Prop := fnRunDoneRow.holds Tryz.pinned (OpenSpec.ofChange fnRunDoneSpec)

/-- ITS FALSE NEIGHBOUR: 'it returns false'. Refute it at one input. -/
def fnRunDoneWrong : ChangeSpec := { name := "fnRunDone", fn := fun _ => fun
  | [d] => { results := [.lit (.bool false)], args := [d] }
  | _ => none }
def FnRunDoneWrongFalsely : Prop := fnRunDoneRow.holds Tryz.pinned (OpenSpec.ofChange fnRunDoneWrong)

/-- 'laws.FnRunTreeNone': WHATEVER THE INPUT: true; the input reads as it did. -/
def fnRunTreeNoneSpec : ChangeSpec := { name := "fnRunTreeNone", fn := fun _ => fun
  | [d] => { results := [.lit (.bool true)], args := [d] }
  | _ => none }
def fnRunTreeNoneRow : OpenClaim := { program := "ytobcecpdafbbeaagreat", sum := "aa723881a605cf8cb30044273ca5773f4037181e7f8876586e7a662b5aaffd7d", func := "loop.example/pagetree/laws.FnRunTreeNone", spec := "fnRunTreeNone", inPlace := ["slices.overlaps[loop.example/pagetree/impl.Pair]", "slices.overlaps[int]"], unfollowed := true, recurses := true, apart := false }
def FnRunTreeNoneSaid : Prop := fnRunTreeNoneRow.holds Tryz.pinned (OpenSpec.ofChange fnRunTreeNoneSpec)

/-- ITS FALSE NEIGHBOUR: 'it returns false'. Refute it at one input. -/
def fnRunTreeNoneWrong : ChangeSpec := { name := "fnRunTreeNone", fn := fun _ => fun
  | [d] => { results := [.lit (.bool false)], args := [d] }
  | _ => none }
def FnRunTreeNoneWrongFalsely : Prop := fnRunTreeNoneRow.holds Tryz.pinned (OpenSpec.ofChange fnRunTreeNoneWrong)

/-- 'laws.FnRunHeldDone': WHATEVER THE INPUT: true; the input reads as it did. -/
def fnRunHeldDoneSpec : ChangeSpec := { name := "fnRunHeldDone", fn := fun _ => fun
  | [d] => { results := [.lit (.bool true)], args := [d] }
  | _ => none }
def fnRunHeldDoneRow : OpenClaim := { program := "ytobcecpdafbbeaagreat", sum := "aa723881a605cf8cb30044273ca5773f4037181e7f8876586e7a662b5aaffd7d", func := "loop.example/pagetree/laws.FnRunHeldDone", spec := "fnRunHeldDone", inPlace := ["slices.overlaps[loop.example/pagetree/impl.Pair]", "slices.overlaps[int]"], unfollowed := true, recurses := true, apart := false }
def FnRunHeldDoneSaid : Prop := fnRunHeldDoneRow.holds Tryz.pinned (OpenSpec.ofChange fnRunHeldDoneSpec)

/-- ITS FALSE NEIGHBOUR: 'it returns false'. Refute it at one input. -/
def fnRunHeldDoneWrong : ChangeSpec := { name := "fnRunHeldDone", fn := fun _ => fun
  | [d] => { results := [.lit (.bool false)], args := [d] }
  | _ => none }
def FnRunHeldDoneWrongFalsely : Prop := fnRunHeldDoneRow.holds Tryz.pinned (OpenSpec.ofChange fnRunHeldDoneWrong)

/- THE SECOND FORM. 'bulk': how many values and letters a reading holds, each counted each time it is reached (what is shared counts as often as it is met; a slice's spare places count too). A statement '..UptoSaid' is the law's where the arguments, and the package variables that the reading takes, are together of bulk at most 1048576: NARROWER than '..Said'. Prove '..Said' where nothing that the law and all that it calls make is longer than what came in: it says more and counts as full. Else prove '..UptoSaid'. A law counts once. -/
mutual
def uptoBulk {H : Type} : DataW H → Nat
  | .lit (.string bytes) => bytes.length + 1
  | .lit _ => 1
  | .nil => 1
  | .ptr d => uptoBulk d + 1
  | .slice elems spare => uptoBulkAll elems + uptoBulkAll spare + 1
  | .agg parts => uptoBulkAll parts + 1
  | .iface _ d => uptoBulk d + 1
  | .map entries => uptoBulkEntries entries + 1
  | .held _ => 1
def uptoBulkAll {H : Type} : List (DataW H) → Nat
  | [] => 0
  | d :: r => uptoBulk d + uptoBulkAll r
def uptoBulkEntries {H : Type} : List (Lit × DataW H) → Nat
  | [] => 0
  | x :: r => uptoBulkEntry x + uptoBulkEntries r
def uptoBulkEntry {H : Type} : Lit × DataW H → Nat
  | (.string bytes, d) => bytes.length + uptoBulk d + 1
  | (_, d) => uptoBulk d + 1
 end
def uptoSmall : (H : Type) → List (DataW H) → Bool := fun _ ds => decide (uptoBulkAll ds ≤ 1048576)
def OpenSpec.upto (s : _root_.Go.ChangeSpec) : _root_.Go.OpenSpec := { _root_.Go.OpenSpec.ofChange s with cond := some uptoSmall }

/-- 'laws.FnRunHeldPath', WHERE WHAT IT READS IS OF BULK AT MOST 1048576: true; the input reads as it did. -/
def fnRunHeldPathUptoRow : OpenClaim := { program := "ytobcecpdafbbeaagreat", sum := "aa723881a605cf8cb30044273ca5773f4037181e7f8876586e7a662b5aaffd7d", func := "loop.example/pagetree/laws.FnRunHeldPath", spec := "fnRunHeldPath", inPlace := ["slices.overlaps[loop.example/pagetree/impl.Pair]", "slices.overlaps[int]"], unfollowed := true, recurses := true, apart := false, narrowed := true }
def FnRunHeldPathUptoSaid : Prop := fnRunHeldPathUptoRow.holds Tryz.pinned (OpenSpec.upto fnRunHeldPathSpec)

/-- 'laws.FnRunHeld', WHERE WHAT IT READS IS OF BULK AT MOST 1048576: true; the input reads as it did. -/
def fnRunHeldUptoRow : OpenClaim := { program := "ytobcecpdafbbeaagreat", sum := "aa723881a605cf8cb30044273ca5773f4037181e7f8876586e7a662b5aaffd7d", func := "loop.example/pagetree/laws.FnRunHeld", spec := "fnRunHeld", inPlace := ["slices.overlaps[loop.example/pagetree/impl.Pair]", "slices.overlaps[int]"], unfollowed := true, recurses := true, apart := false, narrowed := true }
def FnRunHeldUptoSaid : Prop := fnRunHeldUptoRow.holds Tryz.pinned (OpenSpec.upto fnRunHeldSpec)

/-- 'laws.FnRunDoneReads', WHERE WHAT IT READS IS OF BULK AT MOST 1048576: true; the input reads as it did. -/
def fnRunDoneReadsUptoRow : OpenClaim := { program := "ytobcecpdafbbeaagreat", sum := "aa723881a605cf8cb30044273ca5773f4037181e7f8876586e7a662b5aaffd7d", func := "loop.example/pagetree/laws.FnRunDoneReads", spec := "fnRunDoneReads", inPlace := ["slices.overlaps[loop.example/pagetree/impl.Pair]", "slices.overlaps[int]"], unfollowed := true, recurses := true, apart := false, narrowed := true }
def FnRunDoneReadsUptoSaid : Prop := fnRunDoneReadsUptoRow.holds Tryz.pinned (OpenSpec.upto fnRunDoneReadsSpec)

/-- 'laws.FnDropKeyNone', WHERE WHAT IT READS IS OF BULK AT MOST 1048576: true; the input reads as it did. -/
def fnDropKeyNoneUptoRow : OpenClaim := { program := "ytobcecpdafbbeaagreat", sum := "aa723881a605cf8cb30044273ca5773f4037181e7f8876586e7a662b5aaffd7d", func := "loop.example/pagetree/laws.FnDropKeyNone", spec := "fnDropKeyNone", unfollowed := true, recurses := true, apart := false, narrowed := true }
def FnDropKeyNoneUptoSaid : Prop := fnDropKeyNoneUptoRow.holds Tryz.pinned (OpenSpec.upto fnDropKeyNoneSpec)

/-- 'laws.FnDropKeyOrder', WHERE WHAT IT READS IS OF BULK AT MOST 1048576: true; the input reads as it did. -/
def fnDropKeyOrderUptoRow : OpenClaim := { program := "ytobcecpdafbbeaagreat", sum := "aa723881a605cf8cb30044273ca5773f4037181e7f8876586e7a662b5aaffd7d", func := "loop.example/pagetree/laws.FnDropKeyOrder", spec := "fnDropKeyOrder", unfollowed := true, recurses := true, apart := false, narrowed := true }
def FnDropKeyOrderUptoSaid : Prop := fnDropKeyOrderUptoRow.holds Tryz.pinned (OpenSpec.upto fnDropKeyOrderSpec)

/-- 'laws.FnDropKey', WHERE WHAT IT READS IS OF BULK AT MOST 1048576: true; the input reads as it did. -/
def fnDropKeyUptoRow : OpenClaim := { program := "ytobcecpdafbbeaagreat", sum := "aa723881a605cf8cb30044273ca5773f4037181e7f8876586e7a662b5aaffd7d", func := "loop.example/pagetree/laws.FnDropKey", spec := "fnDropKey", unfollowed := true, recurses := true, apart := false, narrowed := true }
def FnDropKeyUptoSaid : Prop := fnDropKeyUptoRow.holds Tryz.pinned (OpenSpec.upto fnDropKeySpec)

/-- 'laws.FnDropAllEmpty', WHERE WHAT IT READS IS OF BULK AT MOST 1048576: true; the input reads as it did. -/
def fnDropAllEmptyUptoRow : OpenClaim := { program := "ytobcecpdafbbeaagreat", sum := "aa723881a605cf8cb30044273ca5773f4037181e7f8876586e7a662b5aaffd7d", func := "loop.example/pagetree/laws.FnDropAllEmpty", spec := "fnDropAllEmpty", unfollowed := true, recurses := true, apart := false, narrowed := true }
def FnDropAllEmptyUptoSaid : Prop := fnDropAllEmptyUptoRow.holds Tryz.pinned (OpenSpec.upto fnDropAllEmptySpec)

/-- 'laws.FnDropAllPairs', WHERE WHAT IT READS IS OF BULK AT MOST 1048576: true; the input reads as it did. -/
def fnDropAllPairsUptoRow : OpenClaim := { program := "ytobcecpdafbbeaagreat", sum := "aa723881a605cf8cb30044273ca5773f4037181e7f8876586e7a662b5aaffd7d", func := "loop.example/pagetree/laws.FnDropAllPairs", spec := "fnDropAllPairs", unfollowed := true, recurses := true, apart := false, narrowed := true }
def FnDropAllPairsUptoSaid : Prop := fnDropAllPairsUptoRow.holds Tryz.pinned (OpenSpec.upto fnDropAllPairsSpec)

/-- 'laws.FnExactRunDone', WHERE WHAT IT READS IS OF BULK AT MOST 1048576: true; the input reads as it did. -/
def fnExactRunDoneUptoRow : OpenClaim := { program := "ytobcecpdafbbeaagreat", sum := "aa723881a605cf8cb30044273ca5773f4037181e7f8876586e7a662b5aaffd7d", func := "loop.example/pagetree/laws.FnExactRunDone", spec := "fnExactRunDone", inPlace := ["slices.overlaps[loop.example/pagetree/impl.Pair]", "slices.overlaps[int]"], unfollowed := true, recurses := true, apart := false, narrowed := true }
def FnExactRunDoneUptoSaid : Prop := fnExactRunDoneUptoRow.holds Tryz.pinned (OpenSpec.upto fnExactRunDoneSpec)

/-- 'laws.FnExactRunResults', WHERE WHAT IT READS IS OF BULK AT MOST 1048576: true; the input reads as it did. -/
def fnExactRunResultsUptoRow : OpenClaim := { program := "ytobcecpdafbbeaagreat", sum := "aa723881a605cf8cb30044273ca5773f4037181e7f8876586e7a662b5aaffd7d", func := "loop.example/pagetree/laws.FnExactRunResults", spec := "fnExactRunResults", inPlace := ["slices.overlaps[loop.example/pagetree/impl.Pair]", "slices.overlaps[int]"], unfollowed := true, recurses := true, apart := false, narrowed := true }
def FnExactRunResultsUptoSaid : Prop := fnExactRunResultsUptoRow.holds Tryz.pinned (OpenSpec.upto fnExactRunResultsSpec)

/-- 'laws.FnExactRunTree', WHERE WHAT IT READS IS OF BULK AT MOST 1048576: true; the input reads as it did. -/
def fnExactRunTreeUptoRow : OpenClaim := { program := "ytobcecpdafbbeaagreat", sum := "aa723881a605cf8cb30044273ca5773f4037181e7f8876586e7a662b5aaffd7d", func := "loop.example/pagetree/laws.FnExactRunTree", spec := "fnExactRunTree", inPlace := ["slices.overlaps[loop.example/pagetree/impl.Pair]", "slices.overlaps[int]"], unfollowed := true, recurses := true, apart := false, narrowed := true }
def FnExactRunTreeUptoSaid : Prop := fnExactRunTreeUptoRow.holds Tryz.pinned (OpenSpec.upto fnExactRunTreeSpec)

/-- 'laws.FnExactRunHeld', WHERE WHAT IT READS IS OF BULK AT MOST 1048576: true; the input reads as it did. -/
def fnExactRunHeldUptoRow : OpenClaim := { program := "ytobcecpdafbbeaagreat", sum := "aa723881a605cf8cb30044273ca5773f4037181e7f8876586e7a662b5aaffd7d", func := "loop.example/pagetree/laws.FnExactRunHeld", spec := "fnExactRunHeld", inPlace := ["slices.overlaps[loop.example/pagetree/impl.Pair]", "slices.overlaps[int]"], unfollowed := true, recurses := true, apart := false, narrowed := true }
def FnExactRunHeldUptoSaid : Prop := fnExactRunHeldUptoRow.holds Tryz.pinned (OpenSpec.upto fnExactRunHeldSpec)

/-- 'laws.FnDropKeyPut', WHERE WHAT IT READS IS OF BULK AT MOST 1048576: true; the input reads as it did. -/
def fnDropKeyPutUptoRow : OpenClaim := { program := "ytobcecpdafbbeaagreat", sum := "aa723881a605cf8cb30044273ca5773f4037181e7f8876586e7a662b5aaffd7d", func := "loop.example/pagetree/laws.FnDropKeyPut", spec := "fnDropKeyPut", inPlace := ["slices.overlaps[loop.example/pagetree/impl.Pair]", "slices.overlaps[int]"], unfollowed := true, recurses := true, apart := false, narrowed := true }
def FnDropKeyPutUptoSaid : Prop := fnDropKeyPutUptoRow.holds Tryz.pinned (OpenSpec.upto fnDropKeyPutSpec)

/-- 'laws.FnRunDoneShort', WHERE WHAT IT READS IS OF BULK AT MOST 1048576: true; the input reads as it did. -/
def fnRunDoneShortUptoRow : OpenClaim := { program := "ytobcecpdafbbeaagreat", sum := "aa723881a605cf8cb30044273ca5773f4037181e7f8876586e7a662b5aaffd7d", func := "loop.example/pagetree/laws.FnRunDoneShort", spec := "fnRunDoneShort", inPlace := ["slices.overlaps[loop.example/pagetree/impl.Pair]", "slices.overlaps[int]"], unfollowed := true, recurses := true, apart := false, narrowed := true }
def FnRunDoneShortUptoSaid : Prop := fnRunDoneShortUptoRow.holds Tryz.pinned (OpenSpec.upto fnRunDoneShortSpec)

/-- 'laws.FnRunResults', WHERE WHAT IT READS IS OF BULK AT MOST 1048576: true; the input reads as it did. -/
def fnRunResultsUptoRow : OpenClaim := { program := "ytobcecpdafbbeaagreat", sum := "aa723881a605cf8cb30044273ca5773f4037181e7f8876586e7a662b5aaffd7d", func := "loop.example/pagetree/laws.FnRunResults", spec := "fnRunResults", inPlace := ["slices.overlaps[loop.example/pagetree/impl.Pair]", "slices.overlaps[int]"], unfollowed := true, recurses := true, apart := false, narrowed := true }
def FnRunResultsUptoSaid : Prop := fnRunResultsUptoRow.holds Tryz.pinned (OpenSpec.upto fnRunResultsSpec)

/-- 'laws.FnRunDoneAlone', WHERE WHAT IT READS IS OF BULK AT MOST 1048576: true; the input reads as it did. -/
def fnRunDoneAloneUptoRow : OpenClaim := { program := "ytobcecpdafbbeaagreat", sum := "aa723881a605cf8cb30044273ca5773f4037181e7f8876586e7a662b5aaffd7d", func := "loop.example/pagetree/laws.FnRunDoneAlone", spec := "fnRunDoneAlone", inPlace := ["slices.overlaps[loop.example/pagetree/impl.Pair]", "slices.overlaps[int]"], unfollowed := true, recurses := true, apart := false, narrowed := true }
def FnRunDoneAloneUptoSaid : Prop := fnRunDoneAloneUptoRow.holds Tryz.pinned (OpenSpec.upto fnRunDoneAloneSpec)

/-- 'laws.FnRunResultsOpen', WHERE WHAT IT READS IS OF BULK AT MOST 1048576: true; the input reads as it did. -/
def fnRunResultsOpenUptoRow : OpenClaim := { program := "ytobcecpdafbbeaagreat", sum := "aa723881a605cf8cb30044273ca5773f4037181e7f8876586e7a662b5aaffd7d", func := "loop.example/pagetree/laws.FnRunResultsOpen", spec := "fnRunResultsOpen", inPlace := ["slices.overlaps[loop.example/pagetree/impl.Pair]", "slices.overlaps[int]"], unfollowed := true, recurses := true, apart := false, narrowed := true }
def FnRunResultsOpenUptoSaid : Prop := fnRunResultsOpenUptoRow.holds Tryz.pinned (OpenSpec.upto fnRunResultsOpenSpec)

/-- 'laws.FnRunTree', WHERE WHAT IT READS IS OF BULK AT MOST 1048576: true; the input reads as it did. -/
def fnRunTreeUptoRow : OpenClaim := { program := "ytobcecpdafbbeaagreat", sum := "aa723881a605cf8cb30044273ca5773f4037181e7f8876586e7a662b5aaffd7d", func := "loop.example/pagetree/laws.FnRunTree", spec := "fnRunTree", inPlace := ["slices.overlaps[loop.example/pagetree/impl.Pair]", "slices.overlaps[int]"], unfollowed := true, recurses := true, apart := false, narrowed := true }
def FnRunTreeUptoSaid : Prop := fnRunTreeUptoRow.holds Tryz.pinned (OpenSpec.upto fnRunTreeSpec)

/-- 'laws.FnRunDone', WHERE WHAT IT READS IS OF BULK AT MOST 1048576: true; the input reads as it did. -/
def fnRunDoneUptoRow : OpenClaim := { program := "ytobcecpdafbbeaagreat", sum := "aa723881a605cf8cb30044273ca5773f4037181e7f8876586e7a662b5aaffd7d", func := "loop.example/pagetree/laws.FnRunDone", spec := "fnRunDone", inPlace := ["slices.overlaps[loop.example/pagetree/impl.Pair]", "slices.overlaps[int]"], unfollowed := true, recurses := true, apart := false, narrowed := true }
def FnRunDoneUptoSaid : Prop := fnRunDoneUptoRow.holds Tryz.pinned (OpenSpec.upto fnRunDoneSpec)

/-- 'laws.FnRunTreeNone', WHERE WHAT IT READS IS OF BULK AT MOST 1048576: true; the input reads as it did. -/
def fnRunTreeNoneUptoRow : OpenClaim := { program := "ytobcecpdafbbeaagreat", sum := "aa723881a605cf8cb30044273ca5773f4037181e7f8876586e7a662b5aaffd7d", func := "loop.example/pagetree/laws.FnRunTreeNone", spec := "fnRunTreeNone", inPlace := ["slices.overlaps[loop.example/pagetree/impl.Pair]", "slices.overlaps[int]"], unfollowed := true, recurses := true, apart := false, narrowed := true }
def FnRunTreeNoneUptoSaid : Prop := fnRunTreeNoneUptoRow.holds Tryz.pinned (OpenSpec.upto fnRunTreeNoneSpec)

/-- 'laws.FnRunHeldDone', WHERE WHAT IT READS IS OF BULK AT MOST 1048576: true; the input reads as it did. -/
def fnRunHeldDoneUptoRow : OpenClaim := { program := "ytobcecpdafbbeaagreat", sum := "aa723881a605cf8cb30044273ca5773f4037181e7f8876586e7a662b5aaffd7d", func := "loop.example/pagetree/laws.FnRunHeldDone", spec := "fnRunHeldDone", inPlace := ["slices.overlaps[loop.example/pagetree/impl.Pair]", "slices.overlaps[int]"], unfollowed := true, recurses := true, apart := false, narrowed := true }
def FnRunHeldDoneUptoSaid : Prop := fnRunHeldDoneUptoRow.holds Tryz.pinned (OpenSpec.upto fnRunHeldDoneSpec)

end Rows
end Go.Proofs.YtobcecpdafbbeaaGreat
