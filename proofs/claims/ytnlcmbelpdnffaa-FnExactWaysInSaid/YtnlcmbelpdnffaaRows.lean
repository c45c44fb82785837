/-
  No cell of these rows narrows 'for every input' (looked for: loops, veiled, ifaces, maps, wideKeys, modest, calm, conditions, laid).
  DERIVED. THE GIVEN ROWS OF THIS SEAT. 11 by the template 'for every input the law returns true; each argument reads behind the call as it read before'; 0 by the template 'total and deterministic' (their statements: YtnlcmbelpdnffaaTotals.lean).
  GIVEN WITH THE SEED: the statements are not yours to turn. If you find one false, say at which input.
  Laid BY PROGRAM, IN A SANDBOX (cutbox-rows.mjs): the forced cells as the released guide's own fill.sh prints them over the translation e14f90dc92ea3bf9… (all of the seat's roots in one cut). By AI agents, Wed Nov 11 2026. No macro, syntax, notation, axiom, sorry.
-/
import Derived.Test.YtnlcmbelpdnffaaChecked
import GoSem.Claim
import GoSem.ClaimJoined
import GoSem.ClaimMapViews
import Derived.JoinedTies
import Derived.KernelRfl
namespace Go.Proofs.Ytnlcmbelpdnffaa
/- THE CELL 'sum', in the pinned program and in every row, IS THE sha256 OF THE DUMP (.gsa) THAT YtnlcmbelpdnffaaProg.lean LOADS. Nothing in Lean hashes anything: it is a label: what it is worth is what the hold of that sum in a sandbox is worth. -/
noncomputable def Try.pinned : Pinned := { name := "ytnlcmbelpdnffaa", sum := "e14f90dc92ea3bf9c88f8a6e1400e6dbc6cc14a862df06c391a2b92020172fb9", checked := Try.checked }
namespace Rows
def none {H : Type} : Left H := { results := [], args := [] }

/-- 'laws.FnExactConstants': WHATEVER THE INPUT: true; the input reads as it did. -/
def fnExactConstantsSpec : ChangeSpec := { name := "fnExactConstants", fn := fun _ => fun
  | [] => { results := [.lit (.bool true)], args := [] }
  | _ => none }
def fnExactConstantsRow : OpenClaim := { program := "ytnlcmbelpdnffaa", sum := "e14f90dc92ea3bf9c88f8a6e1400e6dbc6cc14a862df06c391a2b92020172fb9", func := "loop.example/g00871/laws.FnExactConstants", spec := "fnExactConstants", apart := false }
def FnExactConstantsSaid : Prop := fnExactConstantsRow.holds Try.pinned (OpenSpec.ofChange fnExactConstantsSpec)

/-- ITS FALSE NEIGHBOUR: 'it returns false'. Refute it at one input. -/
def fnExactConstantsWrong : ChangeSpec := { name := "fnExactConstants", fn := fun _ => fun
  | [] => { results := [.lit (.bool false)], args := [] }
  | _ => none }
def FnExactConstantsWrongFalsely : Prop := fnExactConstantsRow.holds Try.pinned (OpenSpec.ofChange fnExactConstantsWrong)

/-- 'laws.FnExactBagsWidth': WHATEVER THE INPUT: true; the input reads as it did. -/
def fnExactBagsWidthSpec : ChangeSpec := { name := "fnExactBagsWidth", fn := fun _ => fun
  | [d] => { results := [.lit (.bool true)], args := [d] }
  | _ => none }
def fnExactBagsWidthRow : OpenClaim := { program := "ytnlcmbelpdnffaa", sum := "e14f90dc92ea3bf9c88f8a6e1400e6dbc6cc14a862df06c391a2b92020172fb9", func := "loop.example/g00871/laws.FnExactBagsWidth", spec := "fnExactBagsWidth", unfollowed := true, recurses := true, apart := false }
def FnExactBagsWidthSaid : Prop := fnExactBagsWidthRow.holds Try.pinned (OpenSpec.ofChange fnExactBagsWidthSpec)

/-- ITS FALSE NEIGHBOUR: 'it returns false'. Refute it at one input. -/
def fnExactBagsWidthWrong : ChangeSpec := { name := "fnExactBagsWidth", fn := fun _ => fun
  | [d] => { results := [.lit (.bool false)], args := [d] }
  | _ => none }
def FnExactBagsWidthWrongFalsely : Prop := fnExactBagsWidthRow.holds Try.pinned (OpenSpec.ofChange fnExactBagsWidthWrong)

/-- 'laws.FnExactWidthOf': WHATEVER THE INPUT: true; the input reads as it did. -/
def fnExactWidthOfSpec : ChangeSpec := { name := "fnExactWidthOf", fn := fun _ => fun
  | [d] => { results := [.lit (.bool true)], args := [d] }
  | _ => none }
def fnExactWidthOfRow : OpenClaim := { program := "ytnlcmbelpdnffaa", sum := "e14f90dc92ea3bf9c88f8a6e1400e6dbc6cc14a862df06c391a2b92020172fb9", func := "loop.example/g00871/laws.FnExactWidthOf", spec := "fnExactWidthOf", apart := false }
def FnExactWidthOfSaid : Prop := fnExactWidthOfRow.holds Try.pinned (OpenSpec.ofChange fnExactWidthOfSpec)

/-- ITS FALSE NEIGHBOUR: 'it returns false'. Refute it at one input. -/
def fnExactWidthOfWrong : ChangeSpec := { name := "fnExactWidthOf", fn := fun _ => fun
  | [d] => { results := [.lit (.bool false)], args := [d] }
  | _ => none }
def FnExactWidthOfWrongFalsely : Prop := fnExactWidthOfRow.holds Try.pinned (OpenSpec.ofChange fnExactWidthOfWrong)

/-- 'laws.FnExactGraphOk': WHATEVER THE INPUT: true; the input reads as it did. -/
def fnExactGraphOkSpec : ChangeSpec := { name := "fnExactGraphOk", fn := fun _ => fun
  | [d] => { results := [.lit (.bool true)], args := [d] }
  | _ => none }
def fnExactGraphOkRow : OpenClaim := { program := "ytnlcmbelpdnffaa", sum := "e14f90dc92ea3bf9c88f8a6e1400e6dbc6cc14a862df06c391a2b92020172fb9", func := "loop.example/g00871/laws.FnExactGraphOk", spec := "fnExactGraphOk", apart := false }
def FnExactGraphOkSaid : Prop := fnExactGraphOkRow.holds Try.pinned (OpenSpec.ofChange fnExactGraphOkSpec)

/-- ITS FALSE NEIGHBOUR: 'it returns false'. Refute it at one input. -/
def fnExactGraphOkWrong : ChangeSpec := { name := "fnExactGraphOk", fn := fun _ => fun
  | [d] => { results := [.lit (.bool false)], args := [d] }
  | _ => none }
def FnExactGraphOkWrongFalsely : Prop := fnExactGraphOkRow.holds Try.pinned (OpenSpec.ofChange fnExactGraphOkWrong)

/-- 'laws.FnExactSetOk': WHATEVER THE INPUT: true; the input reads as it did. -/
def fnExactSetOkSpec : ChangeSpec := { name := "fnExactSetOk", fn := fun _ => fun
  | [d1, d2] => { results := [.lit (.bool true)], args := [d1, d2] }
  | _ => none }
def fnExactSetOkRow : OpenClaim := { program := "ytnlcmbelpdnffaa", sum := "e14f90dc92ea3bf9c88f8a6e1400e6dbc6cc14a862df06c391a2b92020172fb9", func := "loop.example/g00871/laws.FnExactSetOk", spec := "fnExactSetOk", apart := false }
def FnExactSetOkSaid : Prop := fnExactSetOkRow.holds Try.pinned (OpenSpec.ofChange fnExactSetOkSpec)

/-- ITS FALSE NEIGHBOUR: 'it returns false'. Refute it at one input. -/
def fnExactSetOkWrong : ChangeSpec := { name := "fnExactSetOk", fn := fun _ => fun
  | [d1, d2] => { results := [.lit (.bool false)], args := [d1, d2] }
  | _ => none }
def FnExactSetOkWrongFalsely : Prop := fnExactSetOkRow.holds Try.pinned (OpenSpec.ofChange fnExactSetOkWrong)

/-- 'laws.FnExactEdgeIn': WHATEVER THE INPUT: true; the input reads as it did. -/
def fnExactEdgeInSpec : ChangeSpec := { name := "fnExactEdgeIn", fn := fun _ => fun
  | [d1, d2, d3] => { results := [.lit (.bool true)], args := [d1, d2, d3] }
  | _ => none }
def fnExactEdgeInRow : OpenClaim := { program := "ytnlcmbelpdnffaa", sum := "e14f90dc92ea3bf9c88f8a6e1400e6dbc6cc14a862df06c391a2b92020172fb9", func := "loop.example/g00871/laws.FnExactEdgeIn", spec := "fnExactEdgeIn", apart := false }
def FnExactEdgeInSaid : Prop := fnExactEdgeInRow.holds Try.pinned (OpenSpec.ofChange fnExactEdgeInSpec)

/-- ITS FALSE NEIGHBOUR: 'it returns false'. Refute it at one input. -/
def fnExactEdgeInWrong : ChangeSpec := { name := "fnExactEdgeIn", fn := fun _ => fun
  | [d1, d2, d3] => { results := [.lit (.bool false)], args := [d1, d2, d3] }
  | _ => none }
def FnExactEdgeInWrongFalsely : Prop := fnExactEdgeInRow.holds Try.pinned (OpenSpec.ofChange fnExactEdgeInWrong)

/-- 'laws.FnExactWaysIn': WHATEVER THE INPUT: true; the input reads as it did. -/
def fnExactWaysInSpec : ChangeSpec := { name := "fnExactWaysIn", fn := fun _ => fun
  | [d] => { results := [.lit (.bool true)], args := [d] }
  | _ => none }
def fnExactWaysInRow : OpenClaim := { program := "ytnlcmbelpdnffaa", sum := "e14f90dc92ea3bf9c88f8a6e1400e6dbc6cc14a862df06c391a2b92020172fb9", func := "loop.example/g00871/laws.FnExactWaysIn", spec := "fnExactWaysIn", unfollowed := true, recurses := true, apart := false }
def FnExactWaysInSaid : Prop := fnExactWaysInRow.holds Try.pinned (OpenSpec.ofChange fnExactWaysInSpec)

/-- ITS FALSE NEIGHBOUR: 'it returns false'. Refute it at one input. -/
def fnExactWaysInWrong : ChangeSpec := { name := "fnExactWaysIn", fn := fun _ => fun
  | [d] => { results := [.lit (.bool false)], args := [d] }
  | _ => none }
def FnExactWaysInWrongFalsely : Prop := fnExactWaysInRow.holds Try.pinned (OpenSpec.ofChange fnExactWaysInWrong)

/-- 'laws.FnExactLoopOk': WHATEVER THE INPUT: true; the input reads as it did. -/
def fnExactLoopOkSpec : ChangeSpec := { name := "fnExactLoopOk", fn := fun _ => fun
  | [d1, d2] => { results := [.lit (.bool true)], args := [d1, d2] }
  | _ => none }
def fnExactLoopOkRow : OpenClaim := { program := "ytnlcmbelpdnffaa", sum := "e14f90dc92ea3bf9c88f8a6e1400e6dbc6cc14a862df06c391a2b92020172fb9", func := "loop.example/g00871/laws.FnExactLoopOk", spec := "fnExactLoopOk", apart := false }
def FnExactLoopOkSaid : Prop := fnExactLoopOkRow.holds Try.pinned (OpenSpec.ofChange fnExactLoopOkSpec)

/-- ITS FALSE NEIGHBOUR: 'it returns false'. Refute it at one input. -/
def fnExactLoopOkWrong : ChangeSpec := { name := "fnExactLoopOk", fn := fun _ => fun
  | [d1, d2] => { results := [.lit (.bool false)], args := [d1, d2] }
  | _ => none }
def FnExactLoopOkWrongFalsely : Prop := fnExactLoopOkRow.holds Try.pinned (OpenSpec.ofChange fnExactLoopOkWrong)

/-- 'laws.FnExactManyEdges': WHATEVER THE INPUT: true; the input reads as it did. -/
def fnExactManyEdgesSpec : ChangeSpec := { name := "fnExactManyEdges", fn := fun _ => fun
  | [d] => { results := [.lit (.bool true)], args := [d] }
  | _ => none }
def fnExactManyEdgesRow : OpenClaim := { program := "ytnlcmbelpdnffaa", sum := "e14f90dc92ea3bf9c88f8a6e1400e6dbc6cc14a862df06c391a2b92020172fb9", func := "loop.example/g00871/laws.FnExactManyEdges", spec := "fnExactManyEdges", apart := false }
def FnExactManyEdgesSaid : Prop := fnExactManyEdgesRow.holds Try.pinned (OpenSpec.ofChange fnExactManyEdgesSpec)

/-- ITS FALSE NEIGHBOUR: 'it returns false'. Refute it at one input. -/
def fnExactManyEdgesWrong : ChangeSpec := { name := "fnExactManyEdges", fn := fun _ => fun
  | [d] => { results := [.lit (.bool false)], args := [d] }
  | _ => none }
def FnExactManyEdgesWrongFalsely : Prop := fnExactManyEdgesRow.holds Try.pinned (OpenSpec.ofChange fnExactManyEdgesWrong)

/-- 'laws.FnExactSameGraph': WHATEVER THE INPUT: true; the input reads as it did. -/
def fnExactSameGraphSpec : ChangeSpec := { name := "fnExactSameGraph", fn := fun _ => fun
  | [d1, d2] => { results := [.lit (.bool true)], args := [d1, d2] }
  | _ => none }
def fnExactSameGraphRow : OpenClaim := { program := "ytnlcmbelpdnffaa", sum := "e14f90dc92ea3bf9c88f8a6e1400e6dbc6cc14a862df06c391a2b92020172fb9", func := "loop.example/g00871/laws.FnExactSameGraph", spec := "fnExactSameGraph", unfollowed := true, recurses := true, apart := false }
def FnExactSameGraphSaid : Prop := fnExactSameGraphRow.holds Try.pinned (OpenSpec.ofChange fnExactSameGraphSpec)

/-- ITS FALSE NEIGHBOUR: 'it returns false'. Refute it at one input. -/
def fnExactSameGraphWrong : ChangeSpec := { name := "fnExactSameGraph", fn := fun _ => fun
  | [d1, d2] => { results := [.lit (.bool false)], args := [d1, d2] }
  | _ => none }
def FnExactSameGraphWrongFalsely : Prop := fnExactSameGraphRow.holds Try.pinned (OpenSpec.ofChange fnExactSameGraphWrong)

/-- 'laws.FnExactEdgesOf': WHATEVER THE INPUT: true; the input reads as it did. -/
def fnExactEdgesOfSpec : ChangeSpec := { name := "fnExactEdgesOf", fn := fun _ => fun
  | [d] => { results := [.lit (.bool true)], args := [d] }
  | _ => none }
def fnExactEdgesOfRow : OpenClaim := { program := "ytnlcmbelpdnffaa", sum := "e14f90dc92ea3bf9c88f8a6e1400e6dbc6cc14a862df06c391a2b92020172fb9", func := "loop.example/g00871/laws.FnExactEdgesOf", spec := "fnExactEdgesOf", apart := false }
def FnExactEdgesOfSaid : Prop := fnExactEdgesOfRow.holds Try.pinned (OpenSpec.ofChange fnExactEdgesOfSpec)

/-- ITS FALSE NEIGHBOUR: 'it returns false'. Refute it at one input. -/
def fnExactEdgesOfWrong : ChangeSpec := { name := "fnExactEdgesOf", fn := fun _ => fun
  | [d] => { results := [.lit (.bool false)], args := [d] }
  | _ => none }
def FnExactEdgesOfWrongFalsely : Prop := fnExactEdgesOfRow.holds Try.pinned (OpenSpec.ofChange fnExactEdgesOfWrong)

/- THE SECOND FORM. 'bulk': how many values and letters a reading holds, each counted each time it is reached (what is shared counts as often as it is met; a slice's spare places count too). A statement '..UptoSaid' is the law's where the arguments, and the package variables that the reading takes, are together of bulk at most 1048576: NARROWER than '..Said'. Prove '..Said' where nothing that the law and all that it calls make is longer than what came in: it says more and counts as full. Else prove '..UptoSaid'. A law counts once. -/
mutual
def uptoBulk {H : Type} : DataW H → Nat
  | .lit (.string bytes) => bytes.length + 1
  | .lit _ => 1
  | .nil => 1
  | .ptr d => uptoBulk d + 1
  | .slice elems spare => uptoBulkAll elems + uptoBulkAll spare + 1
  | .agg parts => uptoBulkAll parts + 1
  | .iface _ d => uptoBulk d + 1
  | .map entries => uptoBulkEntries entries + 1
  | .held _ => 1
def uptoBulkAll {H : Type} : List (DataW H) → Nat
  | [] => 0
  | d :: r => uptoBulk d + uptoBulkAll r
def uptoBulkEntries {H : Type} : List (Lit × DataW H) → Nat
  | [] => 0
  | x :: r => uptoBulkEntry x + uptoBulkEntries r
def uptoBulkEntry {H : Type} : Lit × DataW H → Nat
  | (.string bytes, d) => bytes.length + uptoBulk d + 1
  | (_, d) => uptoBulk d + 1
 end
def uptoSmall : (H : Type) → List (DataW H) → Bool := fun _ ds => decide (uptoBulkAll ds ≤ 1048576)
def OpenSpec.upto (s : _root_.Go.ChangeSpec) : _root_.Go.OpenSpec := { _root_.Go.OpenSpec.ofChange s with cond := some uptoSmall }

/-- 'laws.FnExactConstants', WHERE WHAT IT READS IS OF BULK AT MOST 1048576: true; the input reads as it did. -/
def fnExactConstantsUptoRow : OpenClaim := { program := "ytnlcmbelpdnffaa", sum := "e14f90dc92ea3bf9c88f8a6e1400e6dbc6cc14a862df06c391a2b92020172fb9", func := "loop.example/g00871/laws.FnExactConstants", spec := "fnExactConstants", apart := false, narrowed := true }
def FnExactConstantsUptoSaid : Prop := fnExactConstantsUptoRow.holds Try.pinned (OpenSpec.upto fnExactConstantsSpec)

/-- 'laws.FnExactBagsWidth', WHERE WHAT IT READS IS OF BULK AT MOST 1048576: true; the input reads as it did. -/
def fnExactBagsWidthUptoRow : OpenClaim := { program := "ytnlcmbelpdnffaa", sum := "e14f90dc92ea3bf9c88f8a6e1400e6dbc6cc14a862df06c391a2b92020172fb9", func := "loop.example/g00871/laws.FnExactBagsWidth", spec := "fnExactBagsWidth", unfollowed := true, recurses := true, apart := false, narrowed := true }
def FnExactBagsWidthUptoSaid : Prop := fnExactBagsWidthUptoRow.holds Try.pinned (OpenSpec.upto fnExactBagsWidthSpec)

/-- 'laws.FnExactWidthOf', WHERE WHAT IT READS IS OF BULK AT MOST 1048576: true; the input reads as it did. -/
def fnExactWidthOfUptoRow : OpenClaim := { program := "ytnlcmbelpdnffaa", sum := "e14f90dc92ea3bf9c88f8a6e1400e6dbc6cc14a862df06c391a2b92020172fb9", func := "loop.example/g00871/laws.FnExactWidthOf", spec := "fnExactWidthOf", apart := false, narrowed := true }
def FnExactWidthOfUptoSaid : Prop := fnExactWidthOfUptoRow.holds Try.pinned (OpenSpec.upto fnExactWidthOfSpec)

/-- 'laws.FnExactGraphOk', WHERE WHAT IT READS IS OF BULK AT MOST 1048576: true; the input reads as it did. -/
def fnExactGraphOkUptoRow : OpenClaim := { program := "ytnlcmbelpdnffaa", sum := "e14f90dc92ea3bf9c88f8a6e1400e6dbc6cc14a862df06c391a2b92020172fb9", func := "loop.example/g00871/laws.FnExactGraphOk", spec := "fnExactGraphOk", apart := false, narrowed := true }
def FnExactGraphOkUptoSaid : Prop := fnExactGraphOkUptoRow.holds Try.pinned (OpenSpec.upto fnExactGraphOkSpec)

/-- 'laws.FnExactSetOk', WHERE WHAT IT READS IS OF BULK AT MOST 1048576: true; the input reads as it did. -/
def fnExactSetOkUptoRow : OpenClaim := { program := "ytnlcmbelpdnffaa", sum := "e14f90dc92ea3bf9c88f8a6e1400e6dbc6cc14a862df06c391a2b92020172fb9", func := "loop.example/g00871/laws.FnExactSetOk", spec := "fnExactSetOk", apart := false, narrowed := true }
def FnExactSetOkUptoSaid : Prop := fnExactSetOkUptoRow.holds Try.pinned (OpenSpec.upto fnExactSetOkSpec)

/-- 'laws.FnExactEdgeIn', WHERE WHAT IT READS IS OF BULK AT MOST 1048576: true; the input reads as it did. -/
def fnExactEdgeInUptoRow : OpenClaim := { program := "ytnlcmbelpdnffaa", sum := "e14f90dc92ea3bf9c88f8a6e1400e6dbc6cc14a862df06c391a2b92020172fb9", func := "loop.example/g00871/laws.FnExactEdgeIn", spec := "fnExactEdgeIn", apart := false, narrowed := true }
def FnExactEdgeInUptoSaid : Prop := fnExactEdgeInUptoRow.holds Try.pinned (OpenSpec.upto fnExactEdgeInSpec)

/-- 'laws.FnExactWaysIn', WHERE WHAT IT READS IS OF BULK AT MOST 1048576: true; the input reads as it did. -/
def fnExactWaysInUptoRow : OpenClaim := { program := "ytnlcmbelpdnffaa", sum := "e14f90dc92ea3bf9c88f8a6e1400e6dbc6cc14a862df06c391a2b92020172fb9", func := "loop.example/g00871/laws.FnExactWaysIn", spec := "fnExactWaysIn", unfollowed := true, recurses := true, apart := false, narrowed := true }
def FnExactWaysInUptoSaid : Prop := fnExactWaysInUptoRow.holds Try.pinned (OpenSpec.upto fnExactWaysInSpec)

/-- 'laws.FnExactLoopOk', WHERE WHAT IT READS IS OF BULK AT MOST 1048576: true; the input reads as it did. -/
def fnExactLoopOkUptoRow : OpenClaim := { program := "ytnlcmbelpdnffaa", sum := "e14f90dc92ea3bf9c88f8a6e1400e6dbc6cc14a862df06c391a2b92020172fb9", func := "loop.example/g00871/laws.FnExactLoopOk", spec := "fnExactLoopOk", apart := false, narrowed := true }
def FnExactLoopOkUptoSaid : Prop := fnExactLoopOkUptoRow.holds Try.pinned (OpenSpec.upto fnExactLoopOkSpec)

/-- 'laws.FnExactManyEdges', WHERE WHAT IT READS IS OF BULK AT MOST 1048576: true; the input reads as it did. -/
def fnExactManyEdgesUptoRow : OpenClaim := { program := "ytnlcmbelpdnffaa", sum := "e14f90dc92ea3bf9c88f8a6e1400e6dbc6cc14a862df06c391a2b92020172fb9", func := "loop.example/g00871/laws.FnExactManyEdges", spec := "fnExactManyEdges", apart := false, narrowed := true }
def FnExactManyEdgesUptoSaid : Prop := fnExactManyEdgesUptoRow.holds Try.pinned (OpenSpec.upto fnExactManyEdgesSpec)

/-- 'laws.FnExactSameGraph', WHERE WHAT IT READS IS OF BULK AT MOST 1048576: true; the input reads as it did. -/
def fnExactSameGraphUptoRow : OpenClaim := { program := "ytnlcmbelpdnffaa", sum := "e14f90dc92ea3bf9c88f8a6e1400e6dbc6cc14a862df06c391a2b92020172fb9", func := "loop.example/g00871/laws.FnExactSameGraph", spec := "fnExactSameGraph", unfollowed := true, recurses := true, apart := false, narrowed := true }
def FnExactSameGraphUptoSaid : Prop := fnExactSameGraphUptoRow.holds Try.pinned (OpenSpec.upto fnExactSameGraphSpec)

/-- 'laws.FnExactEdgesOf', WHERE WHAT IT READS IS OF BULK AT MOST 1048576: true; the input reads as it did. -/
def fnExactEdgesOfUptoRow : OpenClaim := { program := "ytnlcmbelpdnffaa", sum := "e14f90dc92ea3bf9c88f8a6e1400e6dbc6cc14a862df06c391a2b92020172fb9", func := "loop.example/g00871/laws.FnExactEdgesOf", spec := "fnExactEdgesOf", apart := false, narrowed := true }
def FnExactEdgesOfUptoSaid : Prop := fnExactEdgesOfUptoRow.holds Try.pinned (OpenSpec.upto fnExactEdgesOfSpec)

end Rows
end Go.Proofs.Ytnlcmbelpdnffaa
