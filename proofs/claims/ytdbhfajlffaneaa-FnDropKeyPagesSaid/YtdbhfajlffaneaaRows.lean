/-
  No cell of these rows narrows 'for every input' (looked for: loops, veiled, ifaces, maps, wideKeys, modest, calm, conditions, laid).
  DERIVED. THE GIVEN ROWS OF THIS SEAT. 5 by the template 'for every input the law returns true; each argument reads behind the call as it read before'; 0 by the template 'total and deterministic' (their statements: YtdbhfajlffaneaaTotals.lean).
  GIVEN WITH THE SEED: the statements are not yours to turn. If you find one false, say at which input.
  Laid BY PROGRAM, IN A SANDBOX (cutbox-rows.mjs): the forced cells as the released guide's own fill.sh prints them over the translation 8762896e0b6e62eb… (all of the seat's roots in one cut). By AI agents, Wed Nov 11 2026. No macro, syntax, notation, axiom, sorry.
-/
import Derived.Test.YtdbhfajlffaneaaChecked
import GoSem.Claim
import GoSem.ClaimJoined
import GoSem.ClaimMapViews
import Derived.JoinedTies
import Derived.KernelRfl
namespace Go.Proofs.Ytdbhfajlffaneaa
/- THE CELL 'sum', in the pinned program and in every row, IS THE sha256 OF THE DUMP (.gsa) THAT YtdbhfajlffaneaaProg.lean LOADS. Nothing in Lean hashes anything: it is a label: what it is worth is what the hold of that sum in a sandbox is worth. -/
noncomputable def Try.pinned : Pinned := { name := "ytdbhfajlffaneaa", sum := "8762896e0b6e62eb009604c6d397181ce85f04e9af076bdac3d1d32ddf670117", checked := Try.checked }
namespace Rows
def none {H : Type} : Left H := { results := [], args := [] }

/-- 'laws.FnJoinsFor': WHATEVER THE INPUT: true; the input reads as it did. -/
def fnJoinsForSpec : ChangeSpec := { name := "fnJoinsFor", fn := fun _ => fun
  | [d] => { results := [.lit (.bool true)], args := [d] }
  | _ => none }
def fnJoinsForRow : OpenClaim := { program := "ytdbhfajlffaneaa", sum := "8762896e0b6e62eb009604c6d397181ce85f04e9af076bdac3d1d32ddf670117", func := "loop.example/pagetree/laws.FnJoinsFor", spec := "fnJoinsFor", unfollowed := true, recurses := true, apart := false }
def FnJoinsForSaid : Prop := fnJoinsForRow.holds Try.pinned (OpenSpec.ofChange fnJoinsForSpec)

/-- ITS FALSE NEIGHBOUR: 'it returns false'. Refute it at one input. -/
def fnJoinsForWrong : ChangeSpec := { name := "fnJoinsFor", fn := fun _ => fun
  | [d] => { results := [.lit (.bool false)], args := [d] }
  | _ => none }
def FnJoinsForWrongFalsely : Prop := fnJoinsForRow.holds Try.pinned (OpenSpec.ofChange fnJoinsForWrong)

/-- 'laws.FnJoinsForFull': WHATEVER THE INPUT: true; the input reads as it did. -/
def fnJoinsForFullSpec : ChangeSpec := { name := "fnJoinsForFull", fn := fun _ => fun
  | [d] => { results := [.lit (.bool true)], args := [d] }
  | _ => none }
def fnJoinsForFullRow : OpenClaim := { program := "ytdbhfajlffaneaa", sum := "8762896e0b6e62eb009604c6d397181ce85f04e9af076bdac3d1d32ddf670117", func := "loop.example/pagetree/laws.FnJoinsForFull", spec := "fnJoinsForFull", unfollowed := true, recurses := true, apart := false }
def FnJoinsForFullSaid : Prop := fnJoinsForFullRow.holds Try.pinned (OpenSpec.ofChange fnJoinsForFullSpec)

/-- ITS FALSE NEIGHBOUR: 'it returns false'. Refute it at one input. -/
def fnJoinsForFullWrong : ChangeSpec := { name := "fnJoinsForFull", fn := fun _ => fun
  | [d] => { results := [.lit (.bool false)], args := [d] }
  | _ => none }
def FnJoinsForFullWrongFalsely : Prop := fnJoinsForFullRow.holds Try.pinned (OpenSpec.ofChange fnJoinsForFullWrong)

/-- 'laws.FnDropKeyPages': WHATEVER THE INPUT: true; the input reads as it did. -/
def fnDropKeyPagesSpec : ChangeSpec := { name := "fnDropKeyPages", fn := fun _ => fun
  | [d] => { results := [.lit (.bool true)], args := [d] }
  | _ => none }
def fnDropKeyPagesRow : OpenClaim := { program := "ytdbhfajlffaneaa", sum := "8762896e0b6e62eb009604c6d397181ce85f04e9af076bdac3d1d32ddf670117", func := "loop.example/pagetree/laws.FnDropKeyPages", spec := "fnDropKeyPages", unfollowed := true, recurses := true, apart := false }
def FnDropKeyPagesSaid : Prop := fnDropKeyPagesRow.holds Try.pinned (OpenSpec.ofChange fnDropKeyPagesSpec)

/-- ITS FALSE NEIGHBOUR: 'it returns false'. Refute it at one input. -/
def fnDropKeyPagesWrong : ChangeSpec := { name := "fnDropKeyPages", fn := fun _ => fun
  | [d] => { results := [.lit (.bool false)], args := [d] }
  | _ => none }
def FnDropKeyPagesWrongFalsely : Prop := fnDropKeyPagesRow.holds Try.pinned (OpenSpec.ofChange fnDropKeyPagesWrong)

/-- 'laws.FnHeldLastDrop': WHATEVER THE INPUT: true; the input reads as it did. -/
def fnHeldLastDropSpec : ChangeSpec := { name := "fnHeldLastDrop", fn := fun _ => fun
  | [d] => { results := [.lit (.bool true)], args := [d] }
  | _ => none }
def fnHeldLastDropRow : OpenClaim := { program := "ytdbhfajlffaneaa", sum := "8762896e0b6e62eb009604c6d397181ce85f04e9af076bdac3d1d32ddf670117", func := "loop.example/pagetree/laws.FnHeldLastDrop", spec := "fnHeldLastDrop", unfollowed := true, recurses := true, apart := false }
def FnHeldLastDropSaid : Prop := fnHeldLastDropRow.holds Try.pinned (OpenSpec.ofChange fnHeldLastDropSpec)

/-- ITS FALSE NEIGHBOUR: 'it returns false'. Refute it at one input. -/
def fnHeldLastDropWrong : ChangeSpec := { name := "fnHeldLastDrop", fn := fun _ => fun
  | [d] => { results := [.lit (.bool false)], args := [d] }
  | _ => none }
def FnHeldLastDropWrongFalsely : Prop := fnHeldLastDropRow.holds Try.pinned (OpenSpec.ofChange fnHeldLastDropWrong)

/-- 'laws.FnDropAll': WHATEVER THE INPUT: true; the input reads as it did. -/
def fnDropAllSpec : ChangeSpec := { name := "fnDropAll", fn := fun _ => fun
  | [d] => { results := [.lit (.bool true)], args := [d] }
  | _ => none }
def fnDropAllRow : OpenClaim := { program := "ytdbhfajlffaneaa", sum := "8762896e0b6e62eb009604c6d397181ce85f04e9af076bdac3d1d32ddf670117", func := "loop.example/pagetree/laws.FnDropAll", spec := "fnDropAll", unfollowed := true, recurses := true, apart := false }
def FnDropAllSaid : Prop := fnDropAllRow.holds Try.pinned (OpenSpec.ofChange fnDropAllSpec)

/-- ITS FALSE NEIGHBOUR: 'it returns false'. Refute it at one input. -/
def fnDropAllWrong : ChangeSpec := { name := "fnDropAll", fn := fun _ => fun
  | [d] => { results := [.lit (.bool false)], args := [d] }
  | _ => none }
def FnDropAllWrongFalsely : Prop := fnDropAllRow.holds Try.pinned (OpenSpec.ofChange fnDropAllWrong)

/- THE SECOND FORM. 'bulk': how many values and letters a reading holds, each counted each time it is reached (what is shared counts as often as it is met; a slice's spare places count too). A statement '..UptoSaid' is the law's where the arguments, and the package variables that the reading takes, are together of bulk at most 1048576: NARROWER than '..Said'. Prove '..Said' where nothing that the law and all that it calls make is longer than what came in: it says more and counts as full. Else prove '..UptoSaid'. A law counts once. -/
mutual
def uptoBulk {H : Type} : DataW H → Nat
  | .lit (.string bytes) => bytes.length + 1
  | .lit _ => 1
  | .nil => 1
  | .ptr d => uptoBulk d + 1
  | .slice elems spare => uptoBulkAll elems + uptoBulkAll spare + 1
  | .agg parts => uptoBulkAll parts + 1
  | .iface _ d => uptoBulk d + 1
  | .map entries => uptoBulkEntries entries + 1
  | .held _ => 1
def uptoBulkAll {H : Type} : List (DataW H) → Nat
  | [] => 0
  | d :: r => uptoBulk d + uptoBulkAll r
def uptoBulkEntries {H : Type} : List (Lit × DataW H) → Nat
  | [] => 0
  | x :: r => uptoBulkEntry x + uptoBulkEntries r
def uptoBulkEntry {H : Type} : Lit × DataW H → Nat
  | (.string bytes, d) => bytes.length + uptoBulk d + 1
  | (_, d) => uptoBulk d + 1
 end
def uptoSmall : (H : Type) → List (DataW H) → Bool := fun _ ds => decide (uptoBulkAll ds ≤ 1048576)
def OpenSpec.upto (s : _root_.Go.ChangeSpec) : _root_.Go.OpenSpec := { _root_.Go.OpenSpec.ofChange s with cond := some uptoSmall }

/-- 'laws.FnJoinsFor', WHERE WHAT IT READS IS OF BULK AT MOST 1048576: true; the input reads as it did. -/
def fnJoinsForUptoRow : OpenClaim := { program := "ytdbhfajlffaneaa", sum := "8762896e0b6e62eb009604c6d397181ce85f04e9af076bdac3d1d32ddf670117", func := "loop.example/pagetree/laws.FnJoinsFor", spec := "fnJoinsFor", unfollowed := true, recurses := true, apart := false, narrowed := true }
def FnJoinsForUptoSaid : Prop := fnJoinsForUptoRow.holds Try.pinned (OpenSpec.upto fnJoinsForSpec)

/-- 'laws.FnJoinsForFull', WHERE WHAT IT READS IS OF BULK AT MOST 1048576: true; the input reads as it did. -/
def fnJoinsForFullUptoRow : OpenClaim := { program := "ytdbhfajlffaneaa", sum := "8762896e0b6e62eb009604c6d397181ce85f04e9af076bdac3d1d32ddf670117", func := "loop.example/pagetree/laws.FnJoinsForFull", spec := "fnJoinsForFull", unfollowed := true, recurses := true, apart := false, narrowed := true }
def FnJoinsForFullUptoSaid : Prop := fnJoinsForFullUptoRow.holds Try.pinned (OpenSpec.upto fnJoinsForFullSpec)

/-- 'laws.FnDropKeyPages', WHERE WHAT IT READS IS OF BULK AT MOST 1048576: true; the input reads as it did. -/
def fnDropKeyPagesUptoRow : OpenClaim := { program := "ytdbhfajlffaneaa", sum := "8762896e0b6e62eb009604c6d397181ce85f04e9af076bdac3d1d32ddf670117", func := "loop.example/pagetree/laws.FnDropKeyPages", spec := "fnDropKeyPages", unfollowed := true, recurses := true, apart := false, narrowed := true }
def FnDropKeyPagesUptoSaid : Prop := fnDropKeyPagesUptoRow.holds Try.pinned (OpenSpec.upto fnDropKeyPagesSpec)

/-- 'laws.FnHeldLastDrop', WHERE WHAT IT READS IS OF BULK AT MOST 1048576: true; the input reads as it did. -/
def fnHeldLastDropUptoRow : OpenClaim := { program := "ytdbhfajlffaneaa", sum := "8762896e0b6e62eb009604c6d397181ce85f04e9af076bdac3d1d32ddf670117", func := "loop.example/pagetree/laws.FnHeldLastDrop", spec := "fnHeldLastDrop", unfollowed := true, recurses := true, apart := false, narrowed := true }
def FnHeldLastDropUptoSaid : Prop := fnHeldLastDropUptoRow.holds Try.pinned (OpenSpec.upto fnHeldLastDropSpec)

/-- 'laws.FnDropAll', WHERE WHAT IT READS IS OF BULK AT MOST 1048576: true; the input reads as it did. -/
def fnDropAllUptoRow : OpenClaim := { program := "ytdbhfajlffaneaa", sum := "8762896e0b6e62eb009604c6d397181ce85f04e9af076bdac3d1d32ddf670117", func := "loop.example/pagetree/laws.FnDropAll", spec := "fnDropAll", unfollowed := true, recurses := true, apart := false, narrowed := true }
def FnDropAllUptoSaid : Prop := fnDropAllUptoRow.holds Try.pinned (OpenSpec.upto fnDropAllSpec)

end Rows
end Go.Proofs.Ytdbhfajlffaneaa
