/-
  No cell of these rows narrows 'for every input' (looked for: loops, veiled, ifaces, maps, wideKeys, modest, calm, conditions, laid).
  DERIVED. THE GIVEN ROWS OF THIS SEAT. 4 by the template 'for every input the law returns true; each argument reads behind the call as it read before'; 0 by the template 'total and deterministic' (their statements: YtkdgodkamaicjaaTotals.lean).
  GIVEN WITH THE SEED: the statements are not yours to turn. If you find one false, say at which input.
  Laid BY PROGRAM, IN A SANDBOX (cutbox-rows.mjs): the forced cells as the released guide's own fill.sh prints them over the translation c2ec64d7bae9587c… (all of the seat's roots in one cut). By AI agents, Wed Nov 11 2026. No macro, syntax, notation, axiom, sorry.
-/
import Derived.Test.YtkdgodkamaicjaaChecked
import GoSem.Claim
import GoSem.ClaimJoined
import GoSem.ClaimMapViews
import Derived.JoinedTies
import Derived.KernelRfl
namespace Go.Proofs.Ytkdgodkamaicjaa
/- THE CELL 'sum', in the pinned program and in every row, IS THE sha256 OF THE DUMP (.gsa) THAT YtkdgodkamaicjaaProg.lean LOADS. Nothing in Lean hashes anything: it is a label: what it is worth is what the hold of that sum in a sandbox is worth. -/
noncomputable def Try.pinned : Pinned := { name := "ytkdgodkamaicjaa", sum := "c2ec64d7bae9587c45ea857f536f57ddc9d425a5d661d7f4c87b82ac308307e4", checked := Try.checked }
namespace Rows
def none {H : Type} : Left H := { results := [], args := [] }

/-- 'laws.FnExactValidChain': WHATEVER THE INPUT: true; the input reads as it did. -/
def fnExactValidChainSpec : ChangeSpec := { name := "fnExactValidChain", fn := fun _ => fun
  | [d] => { results := [.lit (.bool true)], args := [d] }
  | _ => none }
def fnExactValidChainRow : OpenClaim := { program := "ytkdgodkamaicjaa", sum := "c2ec64d7bae9587c45ea857f536f57ddc9d425a5d661d7f4c87b82ac308307e4", func := "loop.example/pagetree/laws.FnExactValidChain", spec := "fnExactValidChain", apart := false }
def FnExactValidChainSaid : Prop := fnExactValidChainRow.holds Try.pinned (OpenSpec.ofChange fnExactValidChainSpec)

/-- ITS FALSE NEIGHBOUR: 'it returns false'. Refute it at one input. -/
def fnExactValidChainWrong : ChangeSpec := { name := "fnExactValidChain", fn := fun _ => fun
  | [d] => { results := [.lit (.bool false)], args := [d] }
  | _ => none }
def FnExactValidChainWrongFalsely : Prop := fnExactValidChainRow.holds Try.pinned (OpenSpec.ofChange fnExactValidChainWrong)

/-- 'laws.FnExactFindLink': WHATEVER THE INPUT: true; the input reads as it did. -/
def fnExactFindLinkSpec : ChangeSpec := { name := "fnExactFindLink", fn := fun _ => fun
  | [d1, d2, d3] => { results := [.lit (.bool true)], args := [d1, d2, d3] }
  | _ => none }
def fnExactFindLinkRow : OpenClaim := { program := "ytkdgodkamaicjaa", sum := "c2ec64d7bae9587c45ea857f536f57ddc9d425a5d661d7f4c87b82ac308307e4", func := "loop.example/pagetree/laws.FnExactFindLink", spec := "fnExactFindLink", apart := false }
def FnExactFindLinkSaid : Prop := fnExactFindLinkRow.holds Try.pinned (OpenSpec.ofChange fnExactFindLinkSpec)

/-- ITS FALSE NEIGHBOUR: 'it returns false'. Refute it at one input. -/
def fnExactFindLinkWrong : ChangeSpec := { name := "fnExactFindLink", fn := fun _ => fun
  | [d1, d2, d3] => { results := [.lit (.bool false)], args := [d1, d2, d3] }
  | _ => none }
def FnExactFindLinkWrongFalsely : Prop := fnExactFindLinkRow.holds Try.pinned (OpenSpec.ofChange fnExactFindLinkWrong)

/-- 'laws.FnExactChainKeys': WHATEVER THE INPUT: true; the input reads as it did. -/
def fnExactChainKeysSpec : ChangeSpec := { name := "fnExactChainKeys", fn := fun _ => fun
  | [d] => { results := [.lit (.bool true)], args := [d] }
  | _ => none }
def fnExactChainKeysRow : OpenClaim := { program := "ytkdgodkamaicjaa", sum := "c2ec64d7bae9587c45ea857f536f57ddc9d425a5d661d7f4c87b82ac308307e4", func := "loop.example/pagetree/laws.FnExactChainKeys", spec := "fnExactChainKeys", apart := false }
def FnExactChainKeysSaid : Prop := fnExactChainKeysRow.holds Try.pinned (OpenSpec.ofChange fnExactChainKeysSpec)

/-- ITS FALSE NEIGHBOUR: 'it returns false'. Refute it at one input. -/
def fnExactChainKeysWrong : ChangeSpec := { name := "fnExactChainKeys", fn := fun _ => fun
  | [d] => { results := [.lit (.bool false)], args := [d] }
  | _ => none }
def FnExactChainKeysWrongFalsely : Prop := fnExactChainKeysRow.holds Try.pinned (OpenSpec.ofChange fnExactChainKeysWrong)

/-- 'laws.FnValidChain': WHATEVER THE INPUT: true; the input reads as it did. -/
def fnValidChainSpec : ChangeSpec := { name := "fnValidChain", fn := fun _ => fun
  | [d] => { results := [.lit (.bool true)], args := [d] }
  | _ => none }
def fnValidChainRow : OpenClaim := { program := "ytkdgodkamaicjaa", sum := "c2ec64d7bae9587c45ea857f536f57ddc9d425a5d661d7f4c87b82ac308307e4", func := "loop.example/pagetree/laws.FnValidChain", spec := "fnValidChain", apart := false }
def FnValidChainSaid : Prop := fnValidChainRow.holds Try.pinned (OpenSpec.ofChange fnValidChainSpec)

/-- ITS FALSE NEIGHBOUR: 'it returns false'. Refute it at one input. -/
def fnValidChainWrong : ChangeSpec := { name := "fnValidChain", fn := fun _ => fun
  | [d] => { results := [.lit (.bool false)], args := [d] }
  | _ => none }
def FnValidChainWrongFalsely : Prop := fnValidChainRow.holds Try.pinned (OpenSpec.ofChange fnValidChainWrong)

/- THE SECOND FORM. 'bulk': how many values and letters a reading holds, each counted each time it is reached (what is shared counts as often as it is met; a slice's spare places count too). A statement '..UptoSaid' is the law's where the arguments, and the package variables that the reading takes, are together of bulk at most 1048576: NARROWER than '..Said'. Prove '..Said' where nothing that the law and all that it calls make is longer than what came in: it says more and counts as full. Else prove '..UptoSaid'. A law counts once. -/
mutual
def uptoBulk {H : Type} : DataW H → Nat
  | .lit (.string bytes) => bytes.length + 1
  | .lit _ => 1
  | .nil => 1
  | .ptr d => uptoBulk d + 1
  | .slice elems spare => uptoBulkAll elems + uptoBulkAll spare + 1
  | .agg parts => uptoBulkAll parts + 1
  | .iface _ d => uptoBulk d + 1
  | .map entries => uptoBulkEntries entries + 1
  | .held _ => 1
def uptoBulkAll {H : Type} : List (DataW H) → Nat
  | [] => 0
  | d :: r => uptoBulk d + uptoBulkAll r
def uptoBulkEntries {H : Type} : List (Lit × DataW H) → Nat
  | [] => 0
  | x :: r => uptoBulkEntry x + uptoBulkEntries r
def uptoBulkEntry {H : Type} : Lit × DataW H → Nat
  | (.string bytes, d) => bytes.length + uptoBulk d + 1
  | (_, d) => uptoBulk d + 1
 end
def uptoSmall : (H : Type) → List (DataW H) → Bool := fun _ ds => decide (uptoBulkAll ds ≤ 1048576)
def OpenSpec.upto (s : _root_.Go.ChangeSpec) : _root_.Go.OpenSpec := { _root_.Go.OpenSpec.ofChange s with cond := some uptoSmall }

/-- 'laws.FnExactValidChain', WHERE WHAT IT READS IS OF BULK AT MOST 1048576: true; the input reads as it did. -/
def fnExactValidChainUptoRow : OpenClaim := { program := "ytkdgodkamaicjaa", sum := "c2ec64d7bae9587c45ea857f536f57ddc9d425a5d661d7f4c87b82ac308307e4", func := "loop.example/pagetree/laws.FnExactValidChain", spec := "fnExactValidChain", apart := false, narrowed := true }
def FnExactValidChainUptoSaid : Prop := fnExactValidChainUptoRow.holds Try.pinned (OpenSpec.upto fnExactValidChainSpec)

/-- 'laws.FnExactFindLink', WHERE WHAT IT READS IS OF BULK AT MOST 1048576: true; the input reads as it did. -/
def fnExactFindLinkUptoRow : OpenClaim := { program := "ytkdgodkamaicjaa", sum := "c2ec64d7bae9587c45ea857f536f57ddc9d425a5d661d7f4c87b82ac308307e4", func := "loop.example/pagetree/laws.FnExactFindLink", spec := "fnExactFindLink", apart := false, narrowed := true }
def FnExactFindLinkUptoSaid : Prop := fnExactFindLinkUptoRow.holds Try.pinned (OpenSpec.upto fnExactFindLinkSpec)

/-- 'laws.FnExactChainKeys', WHERE WHAT IT READS IS OF BULK AT MOST 1048576: true; the input reads as it did. -/
def fnExactChainKeysUptoRow : OpenClaim := { program := "ytkdgodkamaicjaa", sum := "c2ec64d7bae9587c45ea857f536f57ddc9d425a5d661d7f4c87b82ac308307e4", func := "loop.example/pagetree/laws.FnExactChainKeys", spec := "fnExactChainKeys", apart := false, narrowed := true }
def FnExactChainKeysUptoSaid : Prop := fnExactChainKeysUptoRow.holds Try.pinned (OpenSpec.upto fnExactChainKeysSpec)

/-- 'laws.FnValidChain', WHERE WHAT IT READS IS OF BULK AT MOST 1048576: true; the input reads as it did. -/
def fnValidChainUptoRow : OpenClaim := { program := "ytkdgodkamaicjaa", sum := "c2ec64d7bae9587c45ea857f536f57ddc9d425a5d661d7f4c87b82ac308307e4", func := "loop.example/pagetree/laws.FnValidChain", spec := "fnValidChain", apart := false, narrowed := true }
def FnValidChainUptoSaid : Prop := fnValidChainUptoRow.holds Try.pinned (OpenSpec.upto fnValidChainSpec)

end Rows
end Go.Proofs.Ytkdgodkamaicjaa
