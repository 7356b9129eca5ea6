/-
  No cell of these rows narrows 'for every input' (looked for: loops, veiled, ifaces, maps, wideKeys, modest, calm, conditions, laid).
  DERIVED. THE GIVEN ROWS OF THIS SEAT. 28 by the template 'for every input the law returns true; each argument reads behind the call as it read before'; 0 by the template 'total and deterministic' (their statements: YtbpbgjkingjdcaaTotals.lean).
  GIVEN WITH THE SEED: the statements are not yours to turn. If you find one false, say at which input.
  Laid BY PROGRAM, IN A SANDBOX (cutbox-rows.mjs): the forced cells as the released guide's own fill.sh prints them over the translation 5ad4769fca5043a0… (all of the seat's roots in one cut). By AI agents, Wed Nov 11 2026. No macro, syntax, notation, axiom, sorry.
-/
import Derived.Test.YtbpbgjkingjdcaaChecked
import GoSem.Claim
import GoSem.ClaimJoined
import GoSem.ClaimMapViews
import Derived.JoinedTies
import Derived.KernelRfl
namespace Go.Proofs.Ytbpbgjkingjdcaa
/- THE CELL 'sum', in the pinned program and in every row, IS THE sha256 OF THE DUMP (.gsa) THAT YtbpbgjkingjdcaaProg.lean LOADS. Nothing in Lean hashes anything: it is a label: what it is worth is what the hold of that sum in a sandbox is worth. -/
noncomputable def Try.pinned : Pinned := { name := "ytbpbgjkingjdcaa", sum := "5ad4769fca5043a0c2c87f4c23003a31ad4bbc245077eee20fc4a123833372a5", checked := Try.checked }
namespace Rows
def none {H : Type} : Left H := { results := [], args := [] }

/-- 'laws.FnFillOfPages': WHATEVER THE INPUT: true; the input reads as it did. -/
def fnFillOfPagesSpec : ChangeSpec := { name := "fnFillOfPages", fn := fun _ => fun
  | [d] => { results := [.lit (.bool true)], args := [d] }
  | _ => none }
def fnFillOfPagesRow : OpenClaim := { program := "ytbpbgjkingjdcaa", sum := "5ad4769fca5043a0c2c87f4c23003a31ad4bbc245077eee20fc4a123833372a5", func := "loop.example/pagetree/laws.FnFillOfPages", spec := "fnFillOfPages", recurses := true, apart := false }
def FnFillOfPagesSaid : Prop := fnFillOfPagesRow.holds Try.pinned (OpenSpec.ofChange fnFillOfPagesSpec)

/-- ITS FALSE NEIGHBOUR: 'it returns false'. Refute it at one input. -/
def fnFillOfPagesWrong : ChangeSpec := { name := "fnFillOfPages", fn := fun _ => fun
  | [d] => { results := [.lit (.bool false)], args := [d] }
  | _ => none }
def FnFillOfPagesWrongFalsely : Prop := fnFillOfPagesRow.holds Try.pinned (OpenSpec.ofChange fnFillOfPagesWrong)

/-- 'laws.FnPackPage': WHATEVER THE INPUT: true; the input reads as it did. -/
def fnPackPageSpec : ChangeSpec := { name := "fnPackPage", fn := fun _ => fun
  | [d] => { results := [.lit (.bool true)], args := [d] }
  | _ => none }
def fnPackPageRow : OpenClaim := { program := "ytbpbgjkingjdcaa", sum := "5ad4769fca5043a0c2c87f4c23003a31ad4bbc245077eee20fc4a123833372a5", func := "loop.example/pagetree/laws.FnPackPage", spec := "fnPackPage", recurses := true, apart := false }
def FnPackPageSaid : Prop := fnPackPageRow.holds Try.pinned (OpenSpec.ofChange fnPackPageSpec)

/-- ITS FALSE NEIGHBOUR: 'it returns false'. Refute it at one input. -/
def fnPackPageWrong : ChangeSpec := { name := "fnPackPage", fn := fun _ => fun
  | [d] => { results := [.lit (.bool false)], args := [d] }
  | _ => none }
def FnPackPageWrongFalsely : Prop := fnPackPageRow.holds Try.pinned (OpenSpec.ofChange fnPackPageWrong)

/-- 'laws.FnPutAllLoad': WHATEVER THE INPUT: true; the input reads as it did. -/
def fnPutAllLoadSpec : ChangeSpec := { name := "fnPutAllLoad", fn := fun _ => fun
  | [d] => { results := [.lit (.bool true)], args := [d] }
  | _ => none }
def fnPutAllLoadRow : OpenClaim := { program := "ytbpbgjkingjdcaa", sum := "5ad4769fca5043a0c2c87f4c23003a31ad4bbc245077eee20fc4a123833372a5", func := "loop.example/pagetree/laws.FnPutAllLoad", spec := "fnPutAllLoad", inPlace := ["slices.overlaps[loop.example/pagetree/impl.Pair]", "slices.overlaps[int]"], unfollowed := true, recurses := true, apart := false }
def FnPutAllLoadSaid : Prop := fnPutAllLoadRow.holds Try.pinned (OpenSpec.ofChange fnPutAllLoadSpec)

/-- ITS FALSE NEIGHBOUR: 'it returns false'. Refute it at one input. -/
def fnPutAllLoadWrong : ChangeSpec := { name := "fnPutAllLoad", fn := fun _ => fun
  | [d] => { results := [.lit (.bool false)], args := [d] }
  | _ => none }
def FnPutAllLoadWrongFalsely : Prop := fnPutAllLoadRow.holds Try.pinned (OpenSpec.ofChange fnPutAllLoadWrong)

/-- 'laws.FnPackTreeLength': WHATEVER THE INPUT: true; the input reads as it did. -/
def fnPackTreeLengthSpec : ChangeSpec := { name := "fnPackTreeLength", fn := fun _ => fun
  | [d] => { results := [.lit (.bool true)], args := [d] }
  | _ => none }
def fnPackTreeLengthRow : OpenClaim := { program := "ytbpbgjkingjdcaa", sum := "5ad4769fca5043a0c2c87f4c23003a31ad4bbc245077eee20fc4a123833372a5", func := "loop.example/pagetree/laws.FnPackTreeLength", spec := "fnPackTreeLength", recurses := true, apart := false }
def FnPackTreeLengthSaid : Prop := fnPackTreeLengthRow.holds Try.pinned (OpenSpec.ofChange fnPackTreeLengthSpec)

/-- ITS FALSE NEIGHBOUR: 'it returns false'. Refute it at one input. -/
def fnPackTreeLengthWrong : ChangeSpec := { name := "fnPackTreeLength", fn := fun _ => fun
  | [d] => { results := [.lit (.bool false)], args := [d] }
  | _ => none }
def FnPackTreeLengthWrongFalsely : Prop := fnPackTreeLengthRow.holds Try.pinned (OpenSpec.ofChange fnPackTreeLengthWrong)

/-- 'laws.FnPathToKey': WHATEVER THE INPUT: true; the input reads as it did. -/
def fnPathToKeySpec : ChangeSpec := { name := "fnPathToKey", fn := fun _ => fun
  | [d] => { results := [.lit (.bool true)], args := [d] }
  | _ => none }
def fnPathToKeyRow : OpenClaim := { program := "ytbpbgjkingjdcaa", sum := "5ad4769fca5043a0c2c87f4c23003a31ad4bbc245077eee20fc4a123833372a5", func := "loop.example/pagetree/laws.FnPathToKey", spec := "fnPathToKey", unfollowed := true, recurses := true, apart := false }
def FnPathToKeySaid : Prop := fnPathToKeyRow.holds Try.pinned (OpenSpec.ofChange fnPathToKeySpec)

/-- ITS FALSE NEIGHBOUR: 'it returns false'. Refute it at one input. -/
def fnPathToKeyWrong : ChangeSpec := { name := "fnPathToKey", fn := fun _ => fun
  | [d] => { results := [.lit (.bool false)], args := [d] }
  | _ => none }
def FnPathToKeyWrongFalsely : Prop := fnPathToKeyRow.holds Try.pinned (OpenSpec.ofChange fnPathToKeyWrong)

/-- 'laws.FnSplitsForPath': WHATEVER THE INPUT: true; the input reads as it did. -/
def fnSplitsForPathSpec : ChangeSpec := { name := "fnSplitsForPath", fn := fun _ => fun
  | [d] => { results := [.lit (.bool true)], args := [d] }
  | _ => none }
def fnSplitsForPathRow : OpenClaim := { program := "ytbpbgjkingjdcaa", sum := "5ad4769fca5043a0c2c87f4c23003a31ad4bbc245077eee20fc4a123833372a5", func := "loop.example/pagetree/laws.FnSplitsForPath", spec := "fnSplitsForPath", unfollowed := true, recurses := true, apart := false }
def FnSplitsForPathSaid : Prop := fnSplitsForPathRow.holds Try.pinned (OpenSpec.ofChange fnSplitsForPathSpec)

/-- ITS FALSE NEIGHBOUR: 'it returns false'. Refute it at one input. -/
def fnSplitsForPathWrong : ChangeSpec := { name := "fnSplitsForPath", fn := fun _ => fun
  | [d] => { results := [.lit (.bool false)], args := [d] }
  | _ => none }
def FnSplitsForPathWrongFalsely : Prop := fnSplitsForPathRow.holds Try.pinned (OpenSpec.ofChange fnSplitsForPathWrong)

/-- 'laws.FnUnpackPage': WHATEVER THE INPUT: true; the input reads as it did. -/
def fnUnpackPageSpec : ChangeSpec := { name := "fnUnpackPage", fn := fun _ => fun
  | [d] => { results := [.lit (.bool true)], args := [d] }
  | _ => none }
def fnUnpackPageRow : OpenClaim := { program := "ytbpbgjkingjdcaa", sum := "5ad4769fca5043a0c2c87f4c23003a31ad4bbc245077eee20fc4a123833372a5", func := "loop.example/pagetree/laws.FnUnpackPage", spec := "fnUnpackPage", recurses := true, apart := false }
def FnUnpackPageSaid : Prop := fnUnpackPageRow.holds Try.pinned (OpenSpec.ofChange fnUnpackPageSpec)

/-- ITS FALSE NEIGHBOUR: 'it returns false'. Refute it at one input. -/
def fnUnpackPageWrong : ChangeSpec := { name := "fnUnpackPage", fn := fun _ => fun
  | [d] => { results := [.lit (.bool false)], args := [d] }
  | _ => none }
def FnUnpackPageWrongFalsely : Prop := fnUnpackPageRow.holds Try.pinned (OpenSpec.ofChange fnUnpackPageWrong)

/-- 'laws.FnSplitsFor': WHATEVER THE INPUT: true; the input reads as it did. -/
def fnSplitsForSpec : ChangeSpec := { name := "fnSplitsFor", fn := fun _ => fun
  | [d] => { results := [.lit (.bool true)], args := [d] }
  | _ => none }
def fnSplitsForRow : OpenClaim := { program := "ytbpbgjkingjdcaa", sum := "5ad4769fca5043a0c2c87f4c23003a31ad4bbc245077eee20fc4a123833372a5", func := "loop.example/pagetree/laws.FnSplitsFor", spec := "fnSplitsFor", unfollowed := true, recurses := true, apart := false }
def FnSplitsForSaid : Prop := fnSplitsForRow.holds Try.pinned (OpenSpec.ofChange fnSplitsForSpec)

/-- ITS FALSE NEIGHBOUR: 'it returns false'. Refute it at one input. -/
def fnSplitsForWrong : ChangeSpec := { name := "fnSplitsFor", fn := fun _ => fun
  | [d] => { results := [.lit (.bool false)], args := [d] }
  | _ => none }
def FnSplitsForWrongFalsely : Prop := fnSplitsForRow.holds Try.pinned (OpenSpec.ofChange fnSplitsForWrong)

/-- 'laws.FnPairsOf': WHATEVER THE INPUT: true; the input reads as it did. -/
def fnPairsOfSpec : ChangeSpec := { name := "fnPairsOf", fn := fun _ => fun
  | [d] => { results := [.lit (.bool true)], args := [d] }
  | _ => none }
def fnPairsOfRow : OpenClaim := { program := "ytbpbgjkingjdcaa", sum := "5ad4769fca5043a0c2c87f4c23003a31ad4bbc245077eee20fc4a123833372a5", func := "loop.example/pagetree/laws.FnPairsOf", spec := "fnPairsOf", unfollowed := true, recurses := true, apart := false }
def FnPairsOfSaid : Prop := fnPairsOfRow.holds Try.pinned (OpenSpec.ofChange fnPairsOfSpec)

/-- ITS FALSE NEIGHBOUR: 'it returns false'. Refute it at one input. -/
def fnPairsOfWrong : ChangeSpec := { name := "fnPairsOf", fn := fun _ => fun
  | [d] => { results := [.lit (.bool false)], args := [d] }
  | _ => none }
def FnPairsOfWrongFalsely : Prop := fnPairsOfRow.holds Try.pinned (OpenSpec.ofChange fnPairsOfWrong)

/-- 'laws.FnHeldLast': WHATEVER THE INPUT: true; the input reads as it did. -/
def fnHeldLastSpec : ChangeSpec := { name := "fnHeldLast", fn := fun _ => fun
  | [d] => { results := [.lit (.bool true)], args := [d] }
  | _ => none }
def fnHeldLastRow : OpenClaim := { program := "ytbpbgjkingjdcaa", sum := "5ad4769fca5043a0c2c87f4c23003a31ad4bbc245077eee20fc4a123833372a5", func := "loop.example/pagetree/laws.FnHeldLast", spec := "fnHeldLast", unfollowed := true, recurses := true, apart := false }
def FnHeldLastSaid : Prop := fnHeldLastRow.holds Try.pinned (OpenSpec.ofChange fnHeldLastSpec)

/-- ITS FALSE NEIGHBOUR: 'it returns false'. Refute it at one input. -/
def fnHeldLastWrong : ChangeSpec := { name := "fnHeldLast", fn := fun _ => fun
  | [d] => { results := [.lit (.bool false)], args := [d] }
  | _ => none }
def FnHeldLastWrongFalsely : Prop := fnHeldLastRow.holds Try.pinned (OpenSpec.ofChange fnHeldLastWrong)

/-- 'laws.FnLatchPath': WHATEVER THE INPUT: true; the input reads as it did. -/
def fnLatchPathSpec : ChangeSpec := { name := "fnLatchPath", fn := fun _ => fun
  | [d] => { results := [.lit (.bool true)], args := [d] }
  | _ => none }
def fnLatchPathRow : OpenClaim := { program := "ytbpbgjkingjdcaa", sum := "5ad4769fca5043a0c2c87f4c23003a31ad4bbc245077eee20fc4a123833372a5", func := "loop.example/pagetree/laws.FnLatchPath", spec := "fnLatchPath", unfollowed := true, recurses := true, apart := false }
def FnLatchPathSaid : Prop := fnLatchPathRow.holds Try.pinned (OpenSpec.ofChange fnLatchPathSpec)

/-- ITS FALSE NEIGHBOUR: 'it returns false'. Refute it at one input. -/
def fnLatchPathWrong : ChangeSpec := { name := "fnLatchPath", fn := fun _ => fun
  | [d] => { results := [.lit (.bool false)], args := [d] }
  | _ => none }
def FnLatchPathWrongFalsely : Prop := fnLatchPathRow.holds Try.pinned (OpenSpec.ofChange fnLatchPathWrong)

/-- 'laws.FnLatchPathRead': WHATEVER THE INPUT: true; the input reads as it did. -/
def fnLatchPathReadSpec : ChangeSpec := { name := "fnLatchPathRead", fn := fun _ => fun
  | [d] => { results := [.lit (.bool true)], args := [d] }
  | _ => none }
def fnLatchPathReadRow : OpenClaim := { program := "ytbpbgjkingjdcaa", sum := "5ad4769fca5043a0c2c87f4c23003a31ad4bbc245077eee20fc4a123833372a5", func := "loop.example/pagetree/laws.FnLatchPathRead", spec := "fnLatchPathRead", unfollowed := true, recurses := true, apart := false }
def FnLatchPathReadSaid : Prop := fnLatchPathReadRow.holds Try.pinned (OpenSpec.ofChange fnLatchPathReadSpec)

/-- ITS FALSE NEIGHBOUR: 'it returns false'. Refute it at one input. -/
def fnLatchPathReadWrong : ChangeSpec := { name := "fnLatchPathRead", fn := fun _ => fun
  | [d] => { results := [.lit (.bool false)], args := [d] }
  | _ => none }
def FnLatchPathReadWrongFalsely : Prop := fnLatchPathReadRow.holds Try.pinned (OpenSpec.ofChange fnLatchPathReadWrong)

/-- 'laws.FnLatchPathSafe': WHATEVER THE INPUT: true; the input reads as it did. -/
def fnLatchPathSafeSpec : ChangeSpec := { name := "fnLatchPathSafe", fn := fun _ => fun
  | [d] => { results := [.lit (.bool true)], args := [d] }
  | _ => none }
def fnLatchPathSafeRow : OpenClaim := { program := "ytbpbgjkingjdcaa", sum := "5ad4769fca5043a0c2c87f4c23003a31ad4bbc245077eee20fc4a123833372a5", func := "loop.example/pagetree/laws.FnLatchPathSafe", spec := "fnLatchPathSafe", unfollowed := true, recurses := true, apart := false }
def FnLatchPathSafeSaid : Prop := fnLatchPathSafeRow.holds Try.pinned (OpenSpec.ofChange fnLatchPathSafeSpec)

/-- ITS FALSE NEIGHBOUR: 'it returns false'. Refute it at one input. -/
def fnLatchPathSafeWrong : ChangeSpec := { name := "fnLatchPathSafe", fn := fun _ => fun
  | [d] => { results := [.lit (.bool false)], args := [d] }
  | _ => none }
def FnLatchPathSafeWrongFalsely : Prop := fnLatchPathSafeRow.holds Try.pinned (OpenSpec.ofChange fnLatchPathSafeWrong)

/-- 'laws.FnSplitsForNone': WHATEVER THE INPUT: true; the input reads as it did. -/
def fnSplitsForNoneSpec : ChangeSpec := { name := "fnSplitsForNone", fn := fun _ => fun
  | [d] => { results := [.lit (.bool true)], args := [d] }
  | _ => none }
def fnSplitsForNoneRow : OpenClaim := { program := "ytbpbgjkingjdcaa", sum := "5ad4769fca5043a0c2c87f4c23003a31ad4bbc245077eee20fc4a123833372a5", func := "loop.example/pagetree/laws.FnSplitsForNone", spec := "fnSplitsForNone", unfollowed := true, recurses := true, apart := false }
def FnSplitsForNoneSaid : Prop := fnSplitsForNoneRow.holds Try.pinned (OpenSpec.ofChange fnSplitsForNoneSpec)

/-- ITS FALSE NEIGHBOUR: 'it returns false'. Refute it at one input. -/
def fnSplitsForNoneWrong : ChangeSpec := { name := "fnSplitsForNone", fn := fun _ => fun
  | [d] => { results := [.lit (.bool false)], args := [d] }
  | _ => none }
def FnSplitsForNoneWrongFalsely : Prop := fnSplitsForNoneRow.holds Try.pinned (OpenSpec.ofChange fnSplitsForNoneWrong)

/-- 'laws.FnGetKey': WHATEVER THE INPUT: true; the input reads as it did. -/
def fnGetKeySpec : ChangeSpec := { name := "fnGetKey", fn := fun _ => fun
  | [d] => { results := [.lit (.bool true)], args := [d] }
  | _ => none }
def fnGetKeyRow : OpenClaim := { program := "ytbpbgjkingjdcaa", sum := "5ad4769fca5043a0c2c87f4c23003a31ad4bbc245077eee20fc4a123833372a5", func := "loop.example/pagetree/laws.FnGetKey", spec := "fnGetKey", unfollowed := true, recurses := true, apart := false }
def FnGetKeySaid : Prop := fnGetKeyRow.holds Try.pinned (OpenSpec.ofChange fnGetKeySpec)

/-- ITS FALSE NEIGHBOUR: 'it returns false'. Refute it at one input. -/
def fnGetKeyWrong : ChangeSpec := { name := "fnGetKey", fn := fun _ => fun
  | [d] => { results := [.lit (.bool false)], args := [d] }
  | _ => none }
def FnGetKeyWrongFalsely : Prop := fnGetKeyRow.holds Try.pinned (OpenSpec.ofChange fnGetKeyWrong)

/-- 'laws.FnGetKeyScan': WHATEVER THE INPUT: true; the input reads as it did. -/
def fnGetKeyScanSpec : ChangeSpec := { name := "fnGetKeyScan", fn := fun _ => fun
  | [d] => { results := [.lit (.bool true)], args := [d] }
  | _ => none }
def fnGetKeyScanRow : OpenClaim := { program := "ytbpbgjkingjdcaa", sum := "5ad4769fca5043a0c2c87f4c23003a31ad4bbc245077eee20fc4a123833372a5", func := "loop.example/pagetree/laws.FnGetKeyScan", spec := "fnGetKeyScan", unfollowed := true, recurses := true, apart := false }
def FnGetKeyScanSaid : Prop := fnGetKeyScanRow.holds Try.pinned (OpenSpec.ofChange fnGetKeyScanSpec)

/-- ITS FALSE NEIGHBOUR: 'it returns false'. Refute it at one input. -/
def fnGetKeyScanWrong : ChangeSpec := { name := "fnGetKeyScan", fn := fun _ => fun
  | [d] => { results := [.lit (.bool false)], args := [d] }
  | _ => none }
def FnGetKeyScanWrongFalsely : Prop := fnGetKeyScanRow.holds Try.pinned (OpenSpec.ofChange fnGetKeyScanWrong)

/-- 'laws.FnUnpackTreeTorn': WHATEVER THE INPUT: true; the input reads as it did. -/
def fnUnpackTreeTornSpec : ChangeSpec := { name := "fnUnpackTreeTorn", fn := fun _ => fun
  | [d] => { results := [.lit (.bool true)], args := [d] }
  | _ => none }
def fnUnpackTreeTornRow : OpenClaim := { program := "ytbpbgjkingjdcaa", sum := "5ad4769fca5043a0c2c87f4c23003a31ad4bbc245077eee20fc4a123833372a5", func := "loop.example/pagetree/laws.FnUnpackTreeTorn", spec := "fnUnpackTreeTorn", recurses := true, apart := false }
def FnUnpackTreeTornSaid : Prop := fnUnpackTreeTornRow.holds Try.pinned (OpenSpec.ofChange fnUnpackTreeTornSpec)

/-- ITS FALSE NEIGHBOUR: 'it returns false'. Refute it at one input. -/
def fnUnpackTreeTornWrong : ChangeSpec := { name := "fnUnpackTreeTorn", fn := fun _ => fun
  | [d] => { results := [.lit (.bool false)], args := [d] }
  | _ => none }
def FnUnpackTreeTornWrongFalsely : Prop := fnUnpackTreeTornRow.holds Try.pinned (OpenSpec.ofChange fnUnpackTreeTornWrong)

/-- 'laws.FnPackTree': WHATEVER THE INPUT: true; the input reads as it did. -/
def fnPackTreeSpec : ChangeSpec := { name := "fnPackTree", fn := fun _ => fun
  | [d] => { results := [.lit (.bool true)], args := [d] }
  | _ => none }
def fnPackTreeRow : OpenClaim := { program := "ytbpbgjkingjdcaa", sum := "5ad4769fca5043a0c2c87f4c23003a31ad4bbc245077eee20fc4a123833372a5", func := "loop.example/pagetree/laws.FnPackTree", spec := "fnPackTree", recurses := true, apart := false }
def FnPackTreeSaid : Prop := fnPackTreeRow.holds Try.pinned (OpenSpec.ofChange fnPackTreeSpec)

/-- ITS FALSE NEIGHBOUR: 'it returns false'. Refute it at one input. -/
def fnPackTreeWrong : ChangeSpec := { name := "fnPackTree", fn := fun _ => fun
  | [d] => { results := [.lit (.bool false)], args := [d] }
  | _ => none }
def FnPackTreeWrongFalsely : Prop := fnPackTreeRow.holds Try.pinned (OpenSpec.ofChange fnPackTreeWrong)

/-- 'laws.FnUnpackTree': WHATEVER THE INPUT: true; the input reads as it did. -/
def fnUnpackTreeSpec : ChangeSpec := { name := "fnUnpackTree", fn := fun _ => fun
  | [d] => { results := [.lit (.bool true)], args := [d] }
  | _ => none }
def fnUnpackTreeRow : OpenClaim := { program := "ytbpbgjkingjdcaa", sum := "5ad4769fca5043a0c2c87f4c23003a31ad4bbc245077eee20fc4a123833372a5", func := "loop.example/pagetree/laws.FnUnpackTree", spec := "fnUnpackTree", recurses := true, apart := false }
def FnUnpackTreeSaid : Prop := fnUnpackTreeRow.holds Try.pinned (OpenSpec.ofChange fnUnpackTreeSpec)

/-- ITS FALSE NEIGHBOUR: 'it returns false'. Refute it at one input. -/
def fnUnpackTreeWrong : ChangeSpec := { name := "fnUnpackTree", fn := fun _ => fun
  | [d] => { results := [.lit (.bool false)], args := [d] }
  | _ => none }
def FnUnpackTreeWrongFalsely : Prop := fnUnpackTreeRow.holds Try.pinned (OpenSpec.ofChange fnUnpackTreeWrong)

/-- 'laws.FnJoinsFor': WHATEVER THE INPUT: true; the input reads as it did. -/
def fnJoinsForSpec : ChangeSpec := { name := "fnJoinsFor", fn := fun _ => fun
  | [d] => { results := [.lit (.bool true)], args := [d] }
  | _ => none }
def fnJoinsForRow : OpenClaim := { program := "ytbpbgjkingjdcaa", sum := "5ad4769fca5043a0c2c87f4c23003a31ad4bbc245077eee20fc4a123833372a5", func := "loop.example/pagetree/laws.FnJoinsFor", spec := "fnJoinsFor", unfollowed := true, recurses := true, apart := false }
def FnJoinsForSaid : Prop := fnJoinsForRow.holds Try.pinned (OpenSpec.ofChange fnJoinsForSpec)

/-- ITS FALSE NEIGHBOUR: 'it returns false'. Refute it at one input. -/
def fnJoinsForWrong : ChangeSpec := { name := "fnJoinsFor", fn := fun _ => fun
  | [d] => { results := [.lit (.bool false)], args := [d] }
  | _ => none }
def FnJoinsForWrongFalsely : Prop := fnJoinsForRow.holds Try.pinned (OpenSpec.ofChange fnJoinsForWrong)

/-- 'laws.FnJoinsForFull': WHATEVER THE INPUT: true; the input reads as it did. -/
def fnJoinsForFullSpec : ChangeSpec := { name := "fnJoinsForFull", fn := fun _ => fun
  | [d] => { results := [.lit (.bool true)], args := [d] }
  | _ => none }
def fnJoinsForFullRow : OpenClaim := { program := "ytbpbgjkingjdcaa", sum := "5ad4769fca5043a0c2c87f4c23003a31ad4bbc245077eee20fc4a123833372a5", func := "loop.example/pagetree/laws.FnJoinsForFull", spec := "fnJoinsForFull", unfollowed := true, recurses := true, apart := false }
def FnJoinsForFullSaid : Prop := fnJoinsForFullRow.holds Try.pinned (OpenSpec.ofChange fnJoinsForFullSpec)

/-- ITS FALSE NEIGHBOUR: 'it returns false'. Refute it at one input. -/
def fnJoinsForFullWrong : ChangeSpec := { name := "fnJoinsForFull", fn := fun _ => fun
  | [d] => { results := [.lit (.bool false)], args := [d] }
  | _ => none }
def FnJoinsForFullWrongFalsely : Prop := fnJoinsForFullRow.holds Try.pinned (OpenSpec.ofChange fnJoinsForFullWrong)

/-- 'laws.FnDropKeyPages': WHATEVER THE INPUT: true; the input reads as it did. -/
def fnDropKeyPagesSpec : ChangeSpec := { name := "fnDropKeyPages", fn := fun _ => fun
  | [d] => { results := [.lit (.bool true)], args := [d] }
  | _ => none }
def fnDropKeyPagesRow : OpenClaim := { program := "ytbpbgjkingjdcaa", sum := "5ad4769fca5043a0c2c87f4c23003a31ad4bbc245077eee20fc4a123833372a5", func := "loop.example/pagetree/laws.FnDropKeyPages", spec := "fnDropKeyPages", unfollowed := true, recurses := true, apart := false }
def FnDropKeyPagesSaid : Prop := fnDropKeyPagesRow.holds Try.pinned (OpenSpec.ofChange fnDropKeyPagesSpec)

/-- ITS FALSE NEIGHBOUR: 'it returns false'. Refute it at one input. -/
def fnDropKeyPagesWrong : ChangeSpec := { name := "fnDropKeyPages", fn := fun _ => fun
  | [d] => { results := [.lit (.bool false)], args := [d] }
  | _ => none }
def FnDropKeyPagesWrongFalsely : Prop := fnDropKeyPagesRow.holds Try.pinned (OpenSpec.ofChange fnDropKeyPagesWrong)

/-- 'laws.FnPutKeyTwice': WHATEVER THE INPUT: true; the input reads as it did. -/
def fnPutKeyTwiceSpec : ChangeSpec := { name := "fnPutKeyTwice", fn := fun _ => fun
  | [d] => { results := [.lit (.bool true)], args := [d] }
  | _ => none }
def fnPutKeyTwiceRow : OpenClaim := { program := "ytbpbgjkingjdcaa", sum := "5ad4769fca5043a0c2c87f4c23003a31ad4bbc245077eee20fc4a123833372a5", func := "loop.example/pagetree/laws.FnPutKeyTwice", spec := "fnPutKeyTwice", inPlace := ["slices.overlaps[loop.example/pagetree/impl.Pair]", "slices.overlaps[int]"], unfollowed := true, recurses := true, apart := false }
def FnPutKeyTwiceSaid : Prop := fnPutKeyTwiceRow.holds Try.pinned (OpenSpec.ofChange fnPutKeyTwiceSpec)

/-- ITS FALSE NEIGHBOUR: 'it returns false'. Refute it at one input. -/
def fnPutKeyTwiceWrong : ChangeSpec := { name := "fnPutKeyTwice", fn := fun _ => fun
  | [d] => { results := [.lit (.bool false)], args := [d] }
  | _ => none }
def FnPutKeyTwiceWrongFalsely : Prop := fnPutKeyTwiceRow.holds Try.pinned (OpenSpec.ofChange fnPutKeyTwiceWrong)

/-- 'laws.FnHeldLastDrop': WHATEVER THE INPUT: true; the input reads as it did. -/
def fnHeldLastDropSpec : ChangeSpec := { name := "fnHeldLastDrop", fn := fun _ => fun
  | [d] => { results := [.lit (.bool true)], args := [d] }
  | _ => none }
def fnHeldLastDropRow : OpenClaim := { program := "ytbpbgjkingjdcaa", sum := "5ad4769fca5043a0c2c87f4c23003a31ad4bbc245077eee20fc4a123833372a5", func := "loop.example/pagetree/laws.FnHeldLastDrop", spec := "fnHeldLastDrop", unfollowed := true, recurses := true, apart := false }
def FnHeldLastDropSaid : Prop := fnHeldLastDropRow.holds Try.pinned (OpenSpec.ofChange fnHeldLastDropSpec)

/-- ITS FALSE NEIGHBOUR: 'it returns false'. Refute it at one input. -/
def fnHeldLastDropWrong : ChangeSpec := { name := "fnHeldLastDrop", fn := fun _ => fun
  | [d] => { results := [.lit (.bool false)], args := [d] }
  | _ => none }
def FnHeldLastDropWrongFalsely : Prop := fnHeldLastDropRow.holds Try.pinned (OpenSpec.ofChange fnHeldLastDropWrong)

/-- 'laws.FnDropAll': WHATEVER THE INPUT: true; the input reads as it did. -/
def fnDropAllSpec : ChangeSpec := { name := "fnDropAll", fn := fun _ => fun
  | [d] => { results := [.lit (.bool true)], args := [d] }
  | _ => none }
def fnDropAllRow : OpenClaim := { program := "ytbpbgjkingjdcaa", sum := "5ad4769fca5043a0c2c87f4c23003a31ad4bbc245077eee20fc4a123833372a5", func := "loop.example/pagetree/laws.FnDropAll", spec := "fnDropAll", unfollowed := true, recurses := true, apart := false }
def FnDropAllSaid : Prop := fnDropAllRow.holds Try.pinned (OpenSpec.ofChange fnDropAllSpec)

/-- ITS FALSE NEIGHBOUR: 'it returns false'. Refute it at one input. -/
def fnDropAllWrong : ChangeSpec := { name := "fnDropAll", fn := fun _ => fun
  | [d] => { results := [.lit (.bool false)], args := [d] }
  | _ => none }
def FnDropAllWrongFalsely : Prop := fnDropAllRow.holds Try.pinned (OpenSpec.ofChange fnDropAllWrong)

/-- 'laws.FnPutKeyPages': WHATEVER THE INPUT: true; the input reads as it did. -/
def fnPutKeyPagesSpec : ChangeSpec := { name := "fnPutKeyPages", fn := fun _ => fun
  | [d] => { results := [.lit (.bool true)], args := [d] }
  | _ => none }
def fnPutKeyPagesRow : OpenClaim := { program := "ytbpbgjkingjdcaa", sum := "5ad4769fca5043a0c2c87f4c23003a31ad4bbc245077eee20fc4a123833372a5", func := "loop.example/pagetree/laws.FnPutKeyPages", spec := "fnPutKeyPages", inPlace := ["slices.overlaps[loop.example/pagetree/impl.Pair]", "slices.overlaps[int]"], unfollowed := true, recurses := true, apart := false }
def FnPutKeyPagesSaid : Prop := fnPutKeyPagesRow.holds Try.pinned (OpenSpec.ofChange fnPutKeyPagesSpec)

/-- ITS FALSE NEIGHBOUR: 'it returns false'. Refute it at one input. -/
def fnPutKeyPagesWrong : ChangeSpec := { name := "fnPutKeyPages", fn := fun _ => fun
  | [d] => { results := [.lit (.bool false)], args := [d] }
  | _ => none }
def FnPutKeyPagesWrongFalsely : Prop := fnPutKeyPagesRow.holds Try.pinned (OpenSpec.ofChange fnPutKeyPagesWrong)

/-- 'laws.FnPutAll': WHATEVER THE INPUT: true; the input reads as it did. -/
def fnPutAllSpec : ChangeSpec := { name := "fnPutAll", fn := fun _ => fun
  | [d] => { results := [.lit (.bool true)], args := [d] }
  | _ => none }
def fnPutAllRow : OpenClaim := { program := "ytbpbgjkingjdcaa", sum := "5ad4769fca5043a0c2c87f4c23003a31ad4bbc245077eee20fc4a123833372a5", func := "loop.example/pagetree/laws.FnPutAll", spec := "fnPutAll", inPlace := ["slices.overlaps[loop.example/pagetree/impl.Pair]", "slices.overlaps[int]"], unfollowed := true, recurses := true, apart := false }
def FnPutAllSaid : Prop := fnPutAllRow.holds Try.pinned (OpenSpec.ofChange fnPutAllSpec)

/-- ITS FALSE NEIGHBOUR: 'it returns false'. Refute it at one input. -/
def fnPutAllWrong : ChangeSpec := { name := "fnPutAll", fn := fun _ => fun
  | [d] => { results := [.lit (.bool false)], args := [d] }
  | _ => none }
def FnPutAllWrongFalsely : Prop := fnPutAllRow.holds Try.pinned (OpenSpec.ofChange fnPutAllWrong)

/-- 'laws.FnPutKeyGet': WHATEVER THE INPUT: true; the input reads as it did. -/
def fnPutKeyGetSpec : ChangeSpec := { name := "fnPutKeyGet", fn := fun _ => fun
  | [d] => { results := [.lit (.bool true)], args := [d] }
  | _ => none }
def fnPutKeyGetRow : OpenClaim := { program := "ytbpbgjkingjdcaa", sum := "5ad4769fca5043a0c2c87f4c23003a31ad4bbc245077eee20fc4a123833372a5", func := "loop.example/pagetree/laws.FnPutKeyGet", spec := "fnPutKeyGet", inPlace := ["slices.overlaps[loop.example/pagetree/impl.Pair]", "slices.overlaps[int]"], unfollowed := true, recurses := true, apart := false }
def FnPutKeyGetSaid : Prop := fnPutKeyGetRow.holds Try.pinned (OpenSpec.ofChange fnPutKeyGetSpec)

/-- ITS FALSE NEIGHBOUR: 'it returns false'. Refute it at one input. -/
def fnPutKeyGetWrong : ChangeSpec := { name := "fnPutKeyGet", fn := fun _ => fun
  | [d] => { results := [.lit (.bool false)], args := [d] }
  | _ => none }
def FnPutKeyGetWrongFalsely : Prop := fnPutKeyGetRow.holds Try.pinned (OpenSpec.ofChange fnPutKeyGetWrong)

/- THE SECOND FORM. 'bulk': how many values and letters a reading holds, each counted each time it is reached (what is shared counts as often as it is met; a slice's spare places count too). A statement '..UptoSaid' is the law's where the arguments, and the package variables that the reading takes, are together of bulk at most 1048576: NARROWER than '..Said'. Prove '..Said' where nothing that the law and all that it calls make is longer than what came in: it says more and counts as full. Else prove '..UptoSaid'. A law counts once. -/
mutual
def uptoBulk {H : Type} : DataW H → Nat
  | .lit (.string bytes) => bytes.length + 1
  | .lit _ => 1
  | .nil => 1
  | .ptr d => uptoBulk d + 1
  | .slice elems spare => uptoBulkAll elems + uptoBulkAll spare + 1
  | .agg parts => uptoBulkAll parts + 1
  | .iface _ d => uptoBulk d + 1
  | .map entries => uptoBulkEntries entries + 1
  | .held _ => 1
def uptoBulkAll {H : Type} : List (DataW H) → Nat
  | [] => 0
  | d :: r => uptoBulk d + uptoBulkAll r
def uptoBulkEntries {H : Type} : List (Lit × DataW H) → Nat
  | [] => 0
  | x :: r => uptoBulkEntry x + uptoBulkEntries r
def uptoBulkEntry {H : Type} : Lit × DataW H → Nat
  | (.string bytes, d) => bytes.length + uptoBulk d + 1
  | (_, d) => uptoBulk d + 1
 end
def uptoSmall : (H : Type) → List (DataW H) → Bool := fun _ ds => decide (uptoBulkAll ds ≤ 1048576)
def OpenSpec.upto (s : _root_.Go.ChangeSpec) : _root_.Go.OpenSpec := { _root_.Go.OpenSpec.ofChange s with cond := some uptoSmall }

/-- 'laws.FnFillOfPages', WHERE WHAT IT READS IS OF BULK AT MOST 1048576: true; the input reads as it did. -/
def fnFillOfPagesUptoRow : OpenClaim := { program := "ytbpbgjkingjdcaa", sum := "5ad4769fca5043a0c2c87f4c23003a31ad4bbc245077eee20fc4a123833372a5", func := "loop.example/pagetree/laws.FnFillOfPages", spec := "fnFillOfPages", recurses := true, apart := false, narrowed := true }
def FnFillOfPagesUptoSaid : Prop := fnFillOfPagesUptoRow.holds Try.pinned (OpenSpec.upto fnFillOfPagesSpec)

/-- 'laws.FnPackPage', WHERE WHAT IT READS IS OF BULK AT MOST 1048576: true; the input reads as it did. -/
def fnPackPageUptoRow : OpenClaim := { program := "ytbpbgjkingjdcaa", sum := "5ad4769fca5043a0c2c87f4c23003a31ad4bbc245077eee20fc4a123833372a5", func := "loop.example/pagetree/laws.FnPackPage", spec := "fnPackPage", recurses := true, apart := false, narrowed := true }
def FnPackPageUptoSaid : Prop := fnPackPageUptoRow.holds Try.pinned (OpenSpec.upto fnPackPageSpec)

/-- 'laws.FnPutAllLoad', WHERE WHAT IT READS IS OF BULK AT MOST 1048576: true; the input reads as it did. -/
def fnPutAllLoadUptoRow : OpenClaim := { program := "ytbpbgjkingjdcaa", sum := "5ad4769fca5043a0c2c87f4c23003a31ad4bbc245077eee20fc4a123833372a5", func := "loop.example/pagetree/laws.FnPutAllLoad", spec := "fnPutAllLoad", inPlace := ["slices.overlaps[loop.example/pagetree/impl.Pair]", "slices.overlaps[int]"], unfollowed := true, recurses := true, apart := false, narrowed := true }
def FnPutAllLoadUptoSaid : Prop := fnPutAllLoadUptoRow.holds Try.pinned (OpenSpec.upto fnPutAllLoadSpec)

/-- 'laws.FnPackTreeLength', WHERE WHAT IT READS IS OF BULK AT MOST 1048576: true; the input reads as it did. -/
def fnPackTreeLengthUptoRow : OpenClaim := { program := "ytbpbgjkingjdcaa", sum := "5ad4769fca5043a0c2c87f4c23003a31ad4bbc245077eee20fc4a123833372a5", func := "loop.example/pagetree/laws.FnPackTreeLength", spec := "fnPackTreeLength", recurses := true, apart := false, narrowed := true }
def FnPackTreeLengthUptoSaid : Prop := fnPackTreeLengthUptoRow.holds Try.pinned (OpenSpec.upto fnPackTreeLengthSpec)

/-- 'laws.FnPathToKey', WHERE WHAT IT READS IS OF BULK AT MOST 1048576: true; the input reads as it did. -/
def fnPathToKeyUptoRow : OpenClaim := { program := "ytbpbgjkingjdcaa", sum := "5ad4769fca5043a0c2c87f4c23003a31ad4bbc245077eee20fc4a123833372a5", func := "loop.example/pagetree/laws.FnPathToKey", spec := "fnPathToKey", unfollowed := true, recurses := true, apart := false, narrowed := true }
def FnPathToKeyUptoSaid : Prop := fnPathToKeyUptoRow.holds Try.pinned (OpenSpec.upto fnPathToKeySpec)

/-- 'laws.FnSplitsForPath', WHERE WHAT IT READS IS OF BULK AT MOST 1048576: true; the input reads as it did. -/
def fnSplitsForPathUptoRow : OpenClaim := { program := "ytbpbgjkingjdcaa", sum := "5ad4769fca5043a0c2c87f4c23003a31ad4bbc245077eee20fc4a123833372a5", func := "loop.example/pagetree/laws.FnSplitsForPath", spec := "fnSplitsForPath", unfollowed := true, recurses := true, apart := false, narrowed := true }
def FnSplitsForPathUptoSaid : Prop := fnSplitsForPathUptoRow.holds Try.pinned (OpenSpec.upto fnSplitsForPathSpec)

/-- 'laws.FnUnpackPage', WHERE WHAT IT READS IS OF BULK AT MOST 1048576: true; the input reads as it did. -/
def fnUnpackPageUptoRow : OpenClaim := { program := "ytbpbgjkingjdcaa", sum := "5ad4769fca5043a0c2c87f4c23003a31ad4bbc245077eee20fc4a123833372a5", func := "loop.example/pagetree/laws.FnUnpackPage", spec := "fnUnpackPage", recurses := true, apart := false, narrowed := true }
def FnUnpackPageUptoSaid : Prop := fnUnpackPageUptoRow.holds Try.pinned (OpenSpec.upto fnUnpackPageSpec)

/-- 'laws.FnSplitsFor', WHERE WHAT IT READS IS OF BULK AT MOST 1048576: true; the input reads as it did. -/
def fnSplitsForUptoRow : OpenClaim := { program := "ytbpbgjkingjdcaa", sum := "5ad4769fca5043a0c2c87f4c23003a31ad4bbc245077eee20fc4a123833372a5", func := "loop.example/pagetree/laws.FnSplitsFor", spec := "fnSplitsFor", unfollowed := true, recurses := true, apart := false, narrowed := true }
def FnSplitsForUptoSaid : Prop := fnSplitsForUptoRow.holds Try.pinned (OpenSpec.upto fnSplitsForSpec)

/-- 'laws.FnPairsOf', WHERE WHAT IT READS IS OF BULK AT MOST 1048576: true; the input reads as it did. -/
def fnPairsOfUptoRow : OpenClaim := { program := "ytbpbgjkingjdcaa", sum := "5ad4769fca5043a0c2c87f4c23003a31ad4bbc245077eee20fc4a123833372a5", func := "loop.example/pagetree/laws.FnPairsOf", spec := "fnPairsOf", unfollowed := true, recurses := true, apart := false, narrowed := true }
def FnPairsOfUptoSaid : Prop := fnPairsOfUptoRow.holds Try.pinned (OpenSpec.upto fnPairsOfSpec)

/-- 'laws.FnHeldLast', WHERE WHAT IT READS IS OF BULK AT MOST 1048576: true; the input reads as it did. -/
def fnHeldLastUptoRow : OpenClaim := { program := "ytbpbgjkingjdcaa", sum := "5ad4769fca5043a0c2c87f4c23003a31ad4bbc245077eee20fc4a123833372a5", func := "loop.example/pagetree/laws.FnHeldLast", spec := "fnHeldLast", unfollowed := true, recurses := true, apart := false, narrowed := true }
def FnHeldLastUptoSaid : Prop := fnHeldLastUptoRow.holds Try.pinned (OpenSpec.upto fnHeldLastSpec)

/-- 'laws.FnLatchPath', WHERE WHAT IT READS IS OF BULK AT MOST 1048576: true; the input reads as it did. -/
def fnLatchPathUptoRow : OpenClaim := { program := "ytbpbgjkingjdcaa", sum := "5ad4769fca5043a0c2c87f4c23003a31ad4bbc245077eee20fc4a123833372a5", func := "loop.example/pagetree/laws.FnLatchPath", spec := "fnLatchPath", unfollowed := true, recurses := true, apart := false, narrowed := true }
def FnLatchPathUptoSaid : Prop := fnLatchPathUptoRow.holds Try.pinned (OpenSpec.upto fnLatchPathSpec)

/-- 'laws.FnLatchPathRead', WHERE WHAT IT READS IS OF BULK AT MOST 1048576: true; the input reads as it did. -/
def fnLatchPathReadUptoRow : OpenClaim := { program := "ytbpbgjkingjdcaa", sum := "5ad4769fca5043a0c2c87f4c23003a31ad4bbc245077eee20fc4a123833372a5", func := "loop.example/pagetree/laws.FnLatchPathRead", spec := "fnLatchPathRead", unfollowed := true, recurses := true, apart := false, narrowed := true }
def FnLatchPathReadUptoSaid : Prop := fnLatchPathReadUptoRow.holds Try.pinned (OpenSpec.upto fnLatchPathReadSpec)

/-- 'laws.FnLatchPathSafe', WHERE WHAT IT READS IS OF BULK AT MOST 1048576: true; the input reads as it did. -/
def fnLatchPathSafeUptoRow : OpenClaim := { program := "ytbpbgjkingjdcaa", sum := "5ad4769fca5043a0c2c87f4c23003a31ad4bbc245077eee20fc4a123833372a5", func := "loop.example/pagetree/laws.FnLatchPathSafe", spec := "fnLatchPathSafe", unfollowed := true, recurses := true, apart := false, narrowed := true }
def FnLatchPathSafeUptoSaid : Prop := fnLatchPathSafeUptoRow.holds Try.pinned (OpenSpec.upto fnLatchPathSafeSpec)

/-- 'laws.FnSplitsForNone', WHERE WHAT IT READS IS OF BULK AT MOST 1048576: true; the input reads as it did. -/
def fnSplitsForNoneUptoRow : OpenClaim := { program := "ytbpbgjkingjdcaa", sum := "5ad4769fca5043a0c2c87f4c23003a31ad4bbc245077eee20fc4a123833372a5", func := "loop.example/pagetree/laws.FnSplitsForNone", spec := "fnSplitsForNone", unfollowed := true, recurses := true, apart := false, narrowed := true }
def FnSplitsForNoneUptoSaid : Prop := fnSplitsForNoneUptoRow.holds Try.pinned (OpenSpec.upto fnSplitsForNoneSpec)

/-- 'laws.FnGetKey', WHERE WHAT IT READS IS OF BULK AT MOST 1048576: true; the input reads as it did. -/
def fnGetKeyUptoRow : OpenClaim := { program := "ytbpbgjkingjdcaa", sum := "5ad4769fca5043a0c2c87f4c23003a31ad4bbc245077eee20fc4a123833372a5", func := "loop.example/pagetree/laws.FnGetKey", spec := "fnGetKey", unfollowed := true, recurses := true, apart := false, narrowed := true }
def FnGetKeyUptoSaid : Prop := fnGetKeyUptoRow.holds Try.pinned (OpenSpec.upto fnGetKeySpec)

/-- 'laws.FnGetKeyScan', WHERE WHAT IT READS IS OF BULK AT MOST 1048576: true; the input reads as it did. -/
def fnGetKeyScanUptoRow : OpenClaim := { program := "ytbpbgjkingjdcaa", sum := "5ad4769fca5043a0c2c87f4c23003a31ad4bbc245077eee20fc4a123833372a5", func := "loop.example/pagetree/laws.FnGetKeyScan", spec := "fnGetKeyScan", unfollowed := true, recurses := true, apart := false, narrowed := true }
def FnGetKeyScanUptoSaid : Prop := fnGetKeyScanUptoRow.holds Try.pinned (OpenSpec.upto fnGetKeyScanSpec)

/-- 'laws.FnUnpackTreeTorn', WHERE WHAT IT READS IS OF BULK AT MOST 1048576: true; the input reads as it did. -/
def fnUnpackTreeTornUptoRow : OpenClaim := { program := "ytbpbgjkingjdcaa", sum := "5ad4769fca5043a0c2c87f4c23003a31ad4bbc245077eee20fc4a123833372a5", func := "loop.example/pagetree/laws.FnUnpackTreeTorn", spec := "fnUnpackTreeTorn", recurses := true, apart := false, narrowed := true }
def FnUnpackTreeTornUptoSaid : Prop := fnUnpackTreeTornUptoRow.holds Try.pinned (OpenSpec.upto fnUnpackTreeTornSpec)

/-- 'laws.FnPackTree', WHERE WHAT IT READS IS OF BULK AT MOST 1048576: true; the input reads as it did. -/
def fnPackTreeUptoRow : OpenClaim := { program := "ytbpbgjkingjdcaa", sum := "5ad4769fca5043a0c2c87f4c23003a31ad4bbc245077eee20fc4a123833372a5", func := "loop.example/pagetree/laws.FnPackTree", spec := "fnPackTree", recurses := true, apart := false, narrowed := true }
def FnPackTreeUptoSaid : Prop := fnPackTreeUptoRow.holds Try.pinned (OpenSpec.upto fnPackTreeSpec)

/-- 'laws.FnUnpackTree', WHERE WHAT IT READS IS OF BULK AT MOST 1048576: true; the input reads as it did. -/
def fnUnpackTreeUptoRow : OpenClaim := { program := "ytbpbgjkingjdcaa", sum := "5ad4769fca5043a0c2c87f4c23003a31ad4bbc245077eee20fc4a123833372a5", func := "loop.example/pagetree/laws.FnUnpackTree", spec := "fnUnpackTree", recurses := true, apart := false, narrowed := true }
def FnUnpackTreeUptoSaid : Prop := fnUnpackTreeUptoRow.holds Try.pinned (OpenSpec.upto fnUnpackTreeSpec)

/-- 'laws.FnJoinsFor', WHERE WHAT IT READS IS OF BULK AT MOST 1048576: true; the input reads as it did. -/
def fnJoinsForUptoRow : OpenClaim := { program := "ytbpbgjkingjdcaa", sum := "5ad4769fca5043a0c2c87f4c23003a31ad4bbc245077eee20fc4a123833372a5", func := "loop.example/pagetree/laws.FnJoinsFor", spec := "fnJoinsFor", unfollowed := true, recurses := true, apart := false, narrowed := true }
def FnJoinsForUptoSaid : Prop := fnJoinsForUptoRow.holds Try.pinned (OpenSpec.upto fnJoinsForSpec)

/-- 'laws.FnJoinsForFull', WHERE WHAT IT READS IS OF BULK AT MOST 1048576: true; the input reads as it did. -/
def fnJoinsForFullUptoRow : OpenClaim := { program := "ytbpbgjkingjdcaa", sum := "5ad4769fca5043a0c2c87f4c23003a31ad4bbc245077eee20fc4a123833372a5", func := "loop.example/pagetree/laws.FnJoinsForFull", spec := "fnJoinsForFull", unfollowed := true, recurses := true, apart := false, narrowed := true }
def FnJoinsForFullUptoSaid : Prop := fnJoinsForFullUptoRow.holds Try.pinned (OpenSpec.upto fnJoinsForFullSpec)

/-- 'laws.FnDropKeyPages', WHERE WHAT IT READS IS OF BULK AT MOST 1048576: true; the input reads as it did. -/
def fnDropKeyPagesUptoRow : OpenClaim := { program := "ytbpbgjkingjdcaa", sum := "5ad4769fca5043a0c2c87f4c23003a31ad4bbc245077eee20fc4a123833372a5", func := "loop.example/pagetree/laws.FnDropKeyPages", spec := "fnDropKeyPages", unfollowed := true, recurses := true, apart := false, narrowed := true }
def FnDropKeyPagesUptoSaid : Prop := fnDropKeyPagesUptoRow.holds Try.pinned (OpenSpec.upto fnDropKeyPagesSpec)

/-- 'laws.FnPutKeyTwice', WHERE WHAT IT READS IS OF BULK AT MOST 1048576: true; the input reads as it did. -/
def fnPutKeyTwiceUptoRow : OpenClaim := { program := "ytbpbgjkingjdcaa", sum := "5ad4769fca5043a0c2c87f4c23003a31ad4bbc245077eee20fc4a123833372a5", func := "loop.example/pagetree/laws.FnPutKeyTwice", spec := "fnPutKeyTwice", inPlace := ["slices.overlaps[loop.example/pagetree/impl.Pair]", "slices.overlaps[int]"], unfollowed := true, recurses := true, apart := false, narrowed := true }
def FnPutKeyTwiceUptoSaid : Prop := fnPutKeyTwiceUptoRow.holds Try.pinned (OpenSpec.upto fnPutKeyTwiceSpec)

/-- 'laws.FnHeldLastDrop', WHERE WHAT IT READS IS OF BULK AT MOST 1048576: true; the input reads as it did. -/
def fnHeldLastDropUptoRow : OpenClaim := { program := "ytbpbgjkingjdcaa", sum := "5ad4769fca5043a0c2c87f4c23003a31ad4bbc245077eee20fc4a123833372a5", func := "loop.example/pagetree/laws.FnHeldLastDrop", spec := "fnHeldLastDrop", unfollowed := true, recurses := true, apart := false, narrowed := true }
def FnHeldLastDropUptoSaid : Prop := fnHeldLastDropUptoRow.holds Try.pinned (OpenSpec.upto fnHeldLastDropSpec)

/-- 'laws.FnDropAll', WHERE WHAT IT READS IS OF BULK AT MOST 1048576: true; the input reads as it did. -/
def fnDropAllUptoRow : OpenClaim := { program := "ytbpbgjkingjdcaa", sum := "5ad4769fca5043a0c2c87f4c23003a31ad4bbc245077eee20fc4a123833372a5", func := "loop.example/pagetree/laws.FnDropAll", spec := "fnDropAll", unfollowed := true, recurses := true, apart := false, narrowed := true }
def FnDropAllUptoSaid : Prop := fnDropAllUptoRow.holds Try.pinned (OpenSpec.upto fnDropAllSpec)

/-- 'laws.FnPutKeyPages', WHERE WHAT IT READS IS OF BULK AT MOST 1048576: true; the input reads as it did. -/
def fnPutKeyPagesUptoRow : OpenClaim := { program := "ytbpbgjkingjdcaa", sum := "5ad4769fca5043a0c2c87f4c23003a31ad4bbc245077eee20fc4a123833372a5", func := "loop.example/pagetree/laws.FnPutKeyPages", spec := "fnPutKeyPages", inPlace := ["slices.overlaps[loop.example/pagetree/impl.Pair]", "slices.overlaps[int]"], unfollowed := true, recurses := true, apart := false, narrowed := true }
def FnPutKeyPagesUptoSaid : Prop := fnPutKeyPagesUptoRow.holds Try.pinned (OpenSpec.upto fnPutKeyPagesSpec)

/-- 'laws.FnPutAll', WHERE WHAT IT READS IS OF BULK AT MOST 1048576: true; the input reads as it did. -/
def fnPutAllUptoRow : OpenClaim := { program := "ytbpbgjkingjdcaa", sum := "5ad4769fca5043a0c2c87f4c23003a31ad4bbc245077eee20fc4a123833372a5", func := "loop.example/pagetree/laws.FnPutAll", spec := "fnPutAll", inPlace := ["slices.overlaps[loop.example/pagetree/impl.Pair]", "slices.overlaps[int]"], unfollowed := true, recurses := true, apart := false, narrowed := true }
def FnPutAllUptoSaid : Prop := fnPutAllUptoRow.holds Try.pinned (OpenSpec.upto fnPutAllSpec)

/-- 'laws.FnPutKeyGet', WHERE WHAT IT READS IS OF BULK AT MOST 1048576: true; the input reads as it did. -/
def fnPutKeyGetUptoRow : OpenClaim := { program := "ytbpbgjkingjdcaa", sum := "5ad4769fca5043a0c2c87f4c23003a31ad4bbc245077eee20fc4a123833372a5", func := "loop.example/pagetree/laws.FnPutKeyGet", spec := "fnPutKeyGet", inPlace := ["slices.overlaps[loop.example/pagetree/impl.Pair]", "slices.overlaps[int]"], unfollowed := true, recurses := true, apart := false, narrowed := true }
def FnPutKeyGetUptoSaid : Prop := fnPutKeyGetUptoRow.holds Try.pinned (OpenSpec.upto fnPutKeyGetSpec)

end Rows
end Go.Proofs.Ytbpbgjkingjdcaa
