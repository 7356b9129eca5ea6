/-
  No cell of these rows narrows 'for every input' (looked for: loops, veiled, ifaces, maps, wideKeys, modest, calm, conditions, laid).
  DERIVED. THE GIVEN ROWS OF THIS SEAT. 7 by the template 'for every input the law returns true; each argument reads behind the call as it read before'; 0 by the template 'total and deterministic' (their statements: YtdbhfajlffaneaaGreatTotals.lean).
  GIVEN WITH THE SEED: the statements are not yours to turn. If you find one false, say at which input.
  Laid BY PROGRAM, IN A SANDBOX (cutbox-rows.mjs): the forced cells as the released guide's own fill.sh prints them over the translation 3dc02ad333c787d5… (all of the seat's roots in one cut). By AI agents, Wed Nov 11 2026. No macro, syntax, notation, axiom, sorry.
-/
import Derived.Test.YtdbhfajlffaneaaGreatChecked
import GoSem.Claim
import GoSem.ClaimJoined
import GoSem.ClaimMapViews
import Derived.JoinedTies
import Derived.KernelRfl
namespace Go.Proofs.YtdbhfajlffaneaaGreat
/- THE CELL 'sum', in the pinned program and in every row, IS THE sha256 OF THE DUMP (.gsa) THAT YtdbhfajlffaneaaGreatProg.lean LOADS. Nothing in Lean hashes anything: it is a label: what it is worth is what the hold of that sum in a sandbox is worth. -/
noncomputable def Tryz.pinned : Pinned := { name := "ytdbhfajlffaneaagreat", sum := "3dc02ad333c787d517423731ab34175665e2737b49de5ee4b0c6339c5bdb201b", checked := Tryz.checked }
namespace Rows
def none {H : Type} : Left H := { results := [], args := [] }

/-- 'laws.FnDropAllEmpty': WHATEVER THE INPUT: true; the input reads as it did. -/
def fnDropAllEmptySpec : ChangeSpec := { name := "fnDropAllEmpty", fn := fun _ => fun
  | [d] => { results := [.lit (.bool true)], args := [d] }
  | _ => none }
def fnDropAllEmptyRow : OpenClaim := { program := "ytdbhfajlffaneaagreat", sum := "3dc02ad333c787d517423731ab34175665e2737b49de5ee4b0c6339c5bdb201b", func := "loop.example/pagetree/laws.FnDropAllEmpty", spec := "fnDropAllEmpty", unfollowed := true, recurses := true, apart := false }
def FnDropAllEmptySaid : Prop := fnDropAllEmptyRow.holds Tryz.pinned (OpenSpec.ofChange fnDropAllEmptySpec)

/-- ITS FALSE NEIGHBOUR: 'it returns false'. Refute it at one input. -/
def fnDropAllEmptyWrong : ChangeSpec := { name := "fnDropAllEmpty", fn := fun _ => fun
  | [d] => { results := [.lit (.bool false)], args := [d] }
  | _ => none }
def FnDropAllEmptyWrongFalsely : Prop := fnDropAllEmptyRow.holds Tryz.pinned (OpenSpec.ofChange fnDropAllEmptyWrong)

/-- 'laws.FnDropAllPairs': WHATEVER THE INPUT: true; the input reads as it did. -/
def fnDropAllPairsSpec : ChangeSpec := { name := "fnDropAllPairs", fn := fun _ => fun
  | [d] => { results := [.lit (.bool true)], args := [d] }
  | _ => none }
def fnDropAllPairsRow : OpenClaim := { program := "ytdbhfajlffaneaagreat", sum := "3dc02ad333c787d517423731ab34175665e2737b49de5ee4b0c6339c5bdb201b", func := "loop.example/pagetree/laws.FnDropAllPairs", spec := "fnDropAllPairs", unfollowed := true, recurses := true, apart := false }
def FnDropAllPairsSaid : Prop := fnDropAllPairsRow.holds Tryz.pinned (OpenSpec.ofChange fnDropAllPairsSpec)

/-- ITS FALSE NEIGHBOUR: 'it returns false'. Refute it at one input. -/
def fnDropAllPairsWrong : ChangeSpec := { name := "fnDropAllPairs", fn := fun _ => fun
  | [d] => { results := [.lit (.bool false)], args := [d] }
  | _ => none }
def FnDropAllPairsWrongFalsely : Prop := fnDropAllPairsRow.holds Tryz.pinned (OpenSpec.ofChange fnDropAllPairsWrong)

/-- 'laws.FnExactRunDone': WHATEVER THE INPUT: true; the input reads as it did. -/
def fnExactRunDoneSpec : ChangeSpec := { name := "fnExactRunDone", fn := fun _ => fun
  | [d1, d2, d3] => { results := [.lit (.bool true)], args := [d1, d2, d3] }
  | _ => none }
def fnExactRunDoneRow : OpenClaim := { program := "ytdbhfajlffaneaagreat", sum := "3dc02ad333c787d517423731ab34175665e2737b49de5ee4b0c6339c5bdb201b", func := "loop.example/pagetree/laws.FnExactRunDone", spec := "fnExactRunDone", inPlace := ["slices.overlaps[loop.example/pagetree/impl.Pair]", "slices.overlaps[int]"], unfollowed := true, recurses := true, apart := false }
def FnExactRunDoneSaid : Prop := fnExactRunDoneRow.holds Tryz.pinned (OpenSpec.ofChange fnExactRunDoneSpec)

/-- ITS FALSE NEIGHBOUR: 'it returns false'. Refute it at one input. -/
def fnExactRunDoneWrong : ChangeSpec := { name := "fnExactRunDone", fn := fun _ => fun
  | [d1, d2, d3] => { results := [.lit (.bool false)], args := [d1, d2, d3] }
  | _ => none }
def FnExactRunDoneWrongFalsely : Prop := fnExactRunDoneRow.holds Tryz.pinned (OpenSpec.ofChange fnExactRunDoneWrong)

/-- 'laws.FnExactRunResults': WHATEVER THE INPUT: true; the input reads as it did. -/
def fnExactRunResultsSpec : ChangeSpec := { name := "fnExactRunResults", fn := fun _ => fun
  | [d1, d2, d3] => { results := [.lit (.bool true)], args := [d1, d2, d3] }
  | _ => none }
def fnExactRunResultsRow : OpenClaim := { program := "ytdbhfajlffaneaagreat", sum := "3dc02ad333c787d517423731ab34175665e2737b49de5ee4b0c6339c5bdb201b", func := "loop.example/pagetree/laws.FnExactRunResults", spec := "fnExactRunResults", inPlace := ["slices.overlaps[loop.example/pagetree/impl.Pair]", "slices.overlaps[int]"], unfollowed := true, recurses := true, apart := false }
def FnExactRunResultsSaid : Prop := fnExactRunResultsRow.holds Tryz.pinned (OpenSpec.ofChange fnExactRunResultsSpec)

/-- ITS FALSE NEIGHBOUR: 'it returns false'. Refute it at one input. -/
def fnExactRunResultsWrong : ChangeSpec := { name := "fnExactRunResults", fn := fun _ => fun
  | [d1, d2, d3] => { results := [.lit (.bool false)], args := [d1, d2, d3] }
  | _ => none }
def FnExactRunResultsWrongFalsely : Prop := fnExactRunResultsRow.holds Tryz.pinned (OpenSpec.ofChange fnExactRunResultsWrong)

/-- 'laws.FnExactRunTree': WHATEVER THE INPUT: true; the input reads as it did. -/
def fnExactRunTreeSpec : ChangeSpec := { name := "fnExactRunTree", fn := fun _ => fun
  | [d1, d2, d3] => { results := [.lit (.bool true)], args := [d1, d2, d3] }
  | _ => none }
def fnExactRunTreeRow : OpenClaim := { program := "ytdbhfajlffaneaagreat", sum := "3dc02ad333c787d517423731ab34175665e2737b49de5ee4b0c6339c5bdb201b", func := "loop.example/pagetree/laws.FnExactRunTree", spec := "fnExactRunTree", inPlace := ["slices.overlaps[loop.example/pagetree/impl.Pair]", "slices.overlaps[int]"], unfollowed := true, recurses := true, apart := false }
def FnExactRunTreeSaid : Prop := fnExactRunTreeRow.holds Tryz.pinned (OpenSpec.ofChange fnExactRunTreeSpec)

/-- ITS FALSE NEIGHBOUR: 'it returns false'. Refute it at one input. -/
def fnExactRunTreeWrong : ChangeSpec := { name := "fnExactRunTree", fn := fun _ => fun
  | [d1, d2, d3] => { results := [.lit (.bool false)], args := [d1, d2, d3] }
  | _ => none }
def FnExactRunTreeWrongFalsely : Prop := fnExactRunTreeRow.holds Tryz.pinned (OpenSpec.ofChange fnExactRunTreeWrong)

/-- 'laws.FnExactRunHeld': WHATEVER THE INPUT: true; the input reads as it did. -/
def fnExactRunHeldSpec : ChangeSpec := { name := "fnExactRunHeld", fn := fun _ => fun
  | [d1, d2, d3] => { results := [.lit (.bool true)], args := [d1, d2, d3] }
  | _ => none }
def fnExactRunHeldRow : OpenClaim := { program := "ytdbhfajlffaneaagreat", sum := "3dc02ad333c787d517423731ab34175665e2737b49de5ee4b0c6339c5bdb201b", func := "loop.example/pagetree/laws.FnExactRunHeld", spec := "fnExactRunHeld", inPlace := ["slices.overlaps[loop.example/pagetree/impl.Pair]", "slices.overlaps[int]"], unfollowed := true, recurses := true, apart := false }
def FnExactRunHeldSaid : Prop := fnExactRunHeldRow.holds Tryz.pinned (OpenSpec.ofChange fnExactRunHeldSpec)

/-- ITS FALSE NEIGHBOUR: 'it returns false'. Refute it at one input. -/
def fnExactRunHeldWrong : ChangeSpec := { name := "fnExactRunHeld", fn := fun _ => fun
  | [d1, d2, d3] => { results := [.lit (.bool false)], args := [d1, d2, d3] }
  | _ => none }
def FnExactRunHeldWrongFalsely : Prop := fnExactRunHeldRow.holds Tryz.pinned (OpenSpec.ofChange fnExactRunHeldWrong)

/-- 'laws.FnDropKeyPut': WHATEVER THE INPUT: true; the input reads as it did. -/
def fnDropKeyPutSpec : ChangeSpec := { name := "fnDropKeyPut", fn := fun _ => fun
  | [d] => { results := [.lit (.bool true)], args := [d] }
  | _ => none }
def fnDropKeyPutRow : OpenClaim := { program := "ytdbhfajlffaneaagreat", sum := "3dc02ad333c787d517423731ab34175665e2737b49de5ee4b0c6339c5bdb201b", func := "loop.example/pagetree/laws.FnDropKeyPut", spec := "fnDropKeyPut", inPlace := ["slices.overlaps[loop.example/pagetree/impl.Pair]", "slices.overlaps[int]"], unfollowed := true, recurses := true, apart := false }
def FnDropKeyPutSaid : Prop := fnDropKeyPutRow.holds Tryz.pinned (OpenSpec.ofChange fnDropKeyPutSpec)

/-- ITS FALSE NEIGHBOUR: 'it returns false'. Refute it at one input. -/
def fnDropKeyPutWrong : ChangeSpec := { name := "fnDropKeyPut", fn := fun _ => fun
  | [d] => { results := [.lit (.bool false)], args := [d] }
  | _ => none }
def FnDropKeyPutWrongFalsely : Prop := fnDropKeyPutRow.holds Tryz.pinned (OpenSpec.ofChange fnDropKeyPutWrong)

/- THE SECOND FORM. 'bulk': how many values and letters a reading holds, each counted each time it is reached (what is shared counts as often as it is met; a slice's spare places count too). A statement '..UptoSaid' is the law's where the arguments, and the package variables that the reading takes, are together of bulk at most 1048576: NARROWER than '..Said'. Prove '..Said' where nothing that the law and all that it calls make is longer than what came in: it says more and counts as full. Else prove '..UptoSaid'. A law counts once. -/
mutual
def uptoBulk {H : Type} : DataW H → Nat
  | .lit (.string bytes) => bytes.length + 1
  | .lit _ => 1
  | .nil => 1
  | .ptr d => uptoBulk d + 1
  | .slice elems spare => uptoBulkAll elems + uptoBulkAll spare + 1
  | .agg parts => uptoBulkAll parts + 1
  | .iface _ d => uptoBulk d + 1
  | .map entries => uptoBulkEntries entries + 1
  | .held _ => 1
def uptoBulkAll {H : Type} : List (DataW H) → Nat
  | [] => 0
  | d :: r => uptoBulk d + uptoBulkAll r
def uptoBulkEntries {H : Type} : List (Lit × DataW H) → Nat
  | [] => 0
  | x :: r => uptoBulkEntry x + uptoBulkEntries r
def uptoBulkEntry {H : Type} : Lit × DataW H → Nat
  | (.string bytes, d) => bytes.length + uptoBulk d + 1
  | (_, d) => uptoBulk d + 1
 end
def uptoSmall : (H : Type) → List (DataW H) → Bool := fun _ ds => decide (uptoBulkAll ds ≤ 1048576)
def OpenSpec.upto (s : _root_.Go.ChangeSpec) : _root_.Go.OpenSpec := { _root_.Go.OpenSpec.ofChange s with cond := some uptoSmall }

/-- 'laws.FnDropAllEmpty', WHERE WHAT IT READS IS OF BULK AT MOST 1048576: true; the input reads as it did. -/
def fnDropAllEmptyUptoRow : OpenClaim := { program := "ytdbhfajlffaneaagreat", sum := "3dc02ad333c787d517423731ab34175665e2737b49de5ee4b0c6339c5bdb201b", func := "loop.example/pagetree/laws.FnDropAllEmpty", spec := "fnDropAllEmpty", unfollowed := true, recurses := true, apart := false, narrowed := true }
def FnDropAllEmptyUptoSaid : Prop := fnDropAllEmptyUptoRow.holds Tryz.pinned (OpenSpec.upto fnDropAllEmptySpec)

/-- 'laws.FnDropAllPairs', WHERE WHAT IT READS IS OF BULK AT MOST 1048576: true; the input reads as it did. -/
def fnDropAllPairsUptoRow : OpenClaim := { program := "ytdbhfajlffaneaagreat", sum := "3dc02ad333c787d517423731ab34175665e2737b49de5ee4b0c6339c5bdb201b", func := "loop.example/pagetree/laws.FnDropAllPairs", spec := "fnDropAllPairs", unfollowed := true, recurses := true, apart := false, narrowed := true }
def FnDropAllPairsUptoSaid : Prop := fnDropAllPairsUptoRow.holds Tryz.pinned (OpenSpec.upto fnDropAllPairsSpec)

/-- 'laws.FnExactRunDone', WHERE WHAT IT READS IS OF BULK AT MOST 1048576: true; the input reads as it did. -/
def fnExactRunDoneUptoRow : OpenClaim := { program := "ytdbhfajlffaneaagreat", sum := "3dc02ad333c787d517423731ab34175665e2737b49de5ee4b0c6339c5bdb201b", func := "loop.example/pagetree/laws.FnExactRunDone", spec := "fnExactRunDone", inPlace := ["slices.overlaps[loop.example/pagetree/impl.Pair]", "slices.overlaps[int]"], unfollowed := true, recurses := true, apart := false, narrowed := true }
def FnExactRunDoneUptoSaid : Prop := fnExactRunDoneUptoRow.holds Tryz.pinned (OpenSpec.upto fnExactRunDoneSpec)

/-- 'laws.FnExactRunResults', WHERE WHAT IT READS IS OF BULK AT MOST 1048576: true; the input reads as it did. -/
def fnExactRunResultsUptoRow : OpenClaim := { program := "ytdbhfajlffaneaagreat", sum := "3dc02ad333c787d517423731ab34175665e2737b49de5ee4b0c6339c5bdb201b", func := "loop.example/pagetree/laws.FnExactRunResults", spec := "fnExactRunResults", inPlace := ["slices.overlaps[loop.example/pagetree/impl.Pair]", "slices.overlaps[int]"], unfollowed := true, recurses := true, apart := false, narrowed := true }
def FnExactRunResultsUptoSaid : Prop := fnExactRunResultsUptoRow.holds Tryz.pinned (OpenSpec.upto fnExactRunResultsSpec)

/-- 'laws.FnExactRunTree', WHERE WHAT IT READS IS OF BULK AT MOST 1048576: true; the input reads as it did. -/
def fnExactRunTreeUptoRow : OpenClaim := { program := "ytdbhfajlffaneaagreat", sum := "3dc02ad333c787d517423731ab34175665e2737b49de5ee4b0c6339c5bdb201b", func := "loop.example/pagetree/laws.FnExactRunTree", spec := "fnExactRunTree", inPlace := ["slices.overlaps[loop.example/pagetree/impl.Pair]", "slices.overlaps[int]"], unfollowed := true, recurses := true, apart := false, narrowed := true }
def FnExactRunTreeUptoSaid : Prop := fnExactRunTreeUptoRow.holds Tryz.pinned (OpenSpec.upto fnExactRunTreeSpec)

/-- 'laws.FnExactRunHeld', WHERE WHAT IT READS IS OF BULK AT MOST 1048576: true; the input reads as it did. -/
def fnExactRunHeldUptoRow : OpenClaim := { program := "ytdbhfajlffaneaagreat", sum := "3dc02ad333c787d517423731ab34175665e2737b49de5ee4b0c6339c5bdb201b", func := "loop.example/pagetree/laws.FnExactRunHeld", spec := "fnExactRunHeld", inPlace := ["slices.overlaps[loop.example/pagetree/impl.Pair]", "slices.overlaps[int]"], unfollowed := true, recurses := true, apart := false, narrowed := true }
def FnExactRunHeldUptoSaid : Prop := fnExactRunHeldUptoRow.holds Tryz.pinned (OpenSpec.upto fnExactRunHeldSpec)

/-- 'laws.FnDropKeyPut', WHERE WHAT IT READS IS OF BULK AT MOST 1048576: true; the input reads as it did. -/
def fnDropKeyPutUptoRow : OpenClaim := { program := "ytdbhfajlffaneaagreat", sum := "3dc02ad333c787d517423731ab34175665e2737b49de5ee4b0c6339c5bdb201b", func := "loop.example/pagetree/laws.FnDropKeyPut", spec := "fnDropKeyPut", inPlace := ["slices.overlaps[loop.example/pagetree/impl.Pair]", "slices.overlaps[int]"], unfollowed := true, recurses := true, apart := false, narrowed := true }
def FnDropKeyPutUptoSaid : Prop := fnDropKeyPutUptoRow.holds Tryz.pinned (OpenSpec.upto fnDropKeyPutSpec)

end Rows
end Go.Proofs.YtdbhfajlffaneaaGreat
