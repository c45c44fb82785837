/-
  NARROWER THAN 'FOR EVERY INPUT', by the rows' own cells (each row's printed sentence says how): FnExactOddChainOk: laid · FnExactForcedBy: laid · FnExactOddChain: laid · FnExactComparabilityIn: laid · FnExactPermutationIn: laid · FnExactPermsOf: laid · FnNoPerms: laid · FnForced: laid · FnLayers: laid · FnPaths: laid · FnPathWidth: laid.
  DERIVED. THE GIVEN ROWS OF THIS SEAT. 11 by the template 'for every input the law returns true; each argument reads behind the call as it read before'; 0 by the template 'total and deterministic' (their statements: YtggjmnihnjdoaaaDoorTotals.lean).
  GIVEN WITH THE SEED: the statements are not yours to turn. If you find one false, say at which input.
  Laid BY PROGRAM, IN A SANDBOX (cutbox-rows.mjs): the forced cells as the released guide's own fill.sh prints them over the translation 85462d2965590194… (all of the seat's roots in one cut). By AI agents, Wed Nov 11 2026. No macro, syntax, notation, axiom, sorry.
-/
import Derived.Test.YtggjmnihnjdoaaaDoorChecked
import GoSem.Claim
import GoSem.ClaimJoined
import GoSem.ClaimMapViews
import Derived.JoinedTies
import Derived.KernelRfl
namespace Go.Proofs.YtggjmnihnjdoaaaDoor
/- THE CELL 'sum', in the pinned program and in every row, IS THE sha256 OF THE DUMP (.gsa) THAT YtggjmnihnjdoaaaDoorProg.lean LOADS. Nothing in Lean hashes anything: it is a label: what it is worth is what the hold of that sum in a sandbox is worth. -/
noncomputable def Tryd.pinned : Pinned := { name := "ytggjmnihnjdoaaadoor", sum := "85462d2965590194343176a59288f7ed5c3cc2b5692e3ee07ed03ce1d023974c", checked := Tryd.checked }
namespace Rows
def none {H : Type} : Left H := { results := [], args := [] }

/- WHAT THE LISTED PACKAGE-LEVEL VARIABLES READ AS WHEN THE CALL BEGINS. Each datum BY PROGRAM (the guide's laid-datum.mjs) off the statement by which the dump's own 'gosem.cut.vars' lays the variable. In a bare row this is a premise. The card (YtggjmnihnjdoaaaDoorCards.lean) ties it to the program's text. -/
def laid_math_bits_deBruijn32tab {H : Type} : DataW H := .agg [.lit (.int .u8 0), .lit (.int .u8 1), .lit (.int .u8 28), .lit (.int .u8 2), .lit (.int .u8 29), .lit (.int .u8 14), .lit (.int .u8 24), .lit (.int .u8 3), .lit (.int .u8 30), .lit (.int .u8 22), .lit (.int .u8 20), .lit (.int .u8 15), .lit (.int .u8 25), .lit (.int .u8 17), .lit (.int .u8 4), .lit (.int .u8 8), .lit (.int .u8 31), .lit (.int .u8 27), .lit (.int .u8 13), .lit (.int .u8 23), .lit (.int .u8 21), .lit (.int .u8 19), .lit (.int .u8 16), .lit (.int .u8 7), .lit (.int .u8 26), .lit (.int .u8 12), .lit (.int .u8 18), .lit (.int .u8 6), .lit (.int .u8 11), .lit (.int .u8 5), .lit (.int .u8 10), .lit (.int .u8 9)]

/-- 'laws.FnExactOddChainOk': WHATEVER THE INPUT: true; the input reads as it did. -/
def fnExactOddChainOkSpec : ChangeSpec := { name := "fnExactOddChainOk", fn := fun _ => fun
  | [d1, d2] => { results := [.lit (.bool true)], args := [d1, d2] }
  | _ => none }
def fnExactOddChainOkRow : OpenClaim := { program := "ytggjmnihnjdoaaadoor", sum := "85462d2965590194343176a59288f7ed5c3cc2b5692e3ee07ed03ce1d023974c", func := "loop.example/g00871/laws.FnExactOddChainOk", spec := "fnExactOddChainOk", unfollowed := true, recurses := true, named := ["math/bits.deBruijn32tab"], plainKeys := false, apart := false, laid := [("math/bits.deBruijn32tab", laid_math_bits_deBruijn32tab)] }
def FnExactOddChainOkSaid : Prop := fnExactOddChainOkRow.holds Tryd.pinned (OpenSpec.ofChange fnExactOddChainOkSpec)

/-- ITS FALSE NEIGHBOUR: 'it returns false'. Refute it at one input. -/
def fnExactOddChainOkWrong : ChangeSpec := { name := "fnExactOddChainOk", fn := fun _ => fun
  | [d1, d2] => { results := [.lit (.bool false)], args := [d1, d2] }
  | _ => none }
def FnExactOddChainOkWrongFalsely : Prop := fnExactOddChainOkRow.holds Tryd.pinned (OpenSpec.ofChange fnExactOddChainOkWrong)

/-- 'laws.FnExactForcedBy': WHATEVER THE INPUT: true; the input reads as it did. -/
def fnExactForcedBySpec : ChangeSpec := { name := "fnExactForcedBy", fn := fun _ => fun
  | [d1, d2, d3] => { results := [.lit (.bool true)], args := [d1, d2, d3] }
  | _ => none }
def fnExactForcedByRow : OpenClaim := { program := "ytggjmnihnjdoaaadoor", sum := "85462d2965590194343176a59288f7ed5c3cc2b5692e3ee07ed03ce1d023974c", func := "loop.example/g00871/laws.FnExactForcedBy", spec := "fnExactForcedBy", unfollowed := true, recurses := true, named := ["math/bits.deBruijn32tab"], plainKeys := false, apart := false, laid := [("math/bits.deBruijn32tab", laid_math_bits_deBruijn32tab)] }
def FnExactForcedBySaid : Prop := fnExactForcedByRow.holds Tryd.pinned (OpenSpec.ofChange fnExactForcedBySpec)

/-- ITS FALSE NEIGHBOUR: 'it returns false'. Refute it at one input. -/
def fnExactForcedByWrong : ChangeSpec := { name := "fnExactForcedBy", fn := fun _ => fun
  | [d1, d2, d3] => { results := [.lit (.bool false)], args := [d1, d2, d3] }
  | _ => none }
def FnExactForcedByWrongFalsely : Prop := fnExactForcedByRow.holds Tryd.pinned (OpenSpec.ofChange fnExactForcedByWrong)

/-- 'laws.FnExactOddChain': WHATEVER THE INPUT: true; the input reads as it did. -/
def fnExactOddChainSpec : ChangeSpec := { name := "fnExactOddChain", fn := fun _ => fun
  | [d] => { results := [.lit (.bool true)], args := [d] }
  | _ => none }
def fnExactOddChainRow : OpenClaim := { program := "ytggjmnihnjdoaaadoor", sum := "85462d2965590194343176a59288f7ed5c3cc2b5692e3ee07ed03ce1d023974c", func := "loop.example/g00871/laws.FnExactOddChain", spec := "fnExactOddChain", unfollowed := true, recurses := true, named := ["math/bits.deBruijn32tab"], plainKeys := false, apart := false, laid := [("math/bits.deBruijn32tab", laid_math_bits_deBruijn32tab)] }
def FnExactOddChainSaid : Prop := fnExactOddChainRow.holds Tryd.pinned (OpenSpec.ofChange fnExactOddChainSpec)

/-- ITS FALSE NEIGHBOUR: 'it returns false'. Refute it at one input. -/
def fnExactOddChainWrong : ChangeSpec := { name := "fnExactOddChain", fn := fun _ => fun
  | [d] => { results := [.lit (.bool false)], args := [d] }
  | _ => none }
def FnExactOddChainWrongFalsely : Prop := fnExactOddChainRow.holds Tryd.pinned (OpenSpec.ofChange fnExactOddChainWrong)

/-- 'laws.FnExactComparabilityIn': WHATEVER THE INPUT: true; the input reads as it did. -/
def fnExactComparabilityInSpec : ChangeSpec := { name := "fnExactComparabilityIn", fn := fun _ => fun
  | [d] => { results := [.lit (.bool true)], args := [d] }
  | _ => none }
def fnExactComparabilityInRow : OpenClaim := { program := "ytggjmnihnjdoaaadoor", sum := "85462d2965590194343176a59288f7ed5c3cc2b5692e3ee07ed03ce1d023974c", func := "loop.example/g00871/laws.FnExactComparabilityIn", spec := "fnExactComparabilityIn", unfollowed := true, recurses := true, named := ["math/bits.deBruijn32tab"], plainKeys := false, apart := false, laid := [("math/bits.deBruijn32tab", laid_math_bits_deBruijn32tab)] }
def FnExactComparabilityInSaid : Prop := fnExactComparabilityInRow.holds Tryd.pinned (OpenSpec.ofChange fnExactComparabilityInSpec)

/-- ITS FALSE NEIGHBOUR: 'it returns false'. Refute it at one input. -/
def fnExactComparabilityInWrong : ChangeSpec := { name := "fnExactComparabilityIn", fn := fun _ => fun
  | [d] => { results := [.lit (.bool false)], args := [d] }
  | _ => none }
def FnExactComparabilityInWrongFalsely : Prop := fnExactComparabilityInRow.holds Tryd.pinned (OpenSpec.ofChange fnExactComparabilityInWrong)

/-- 'laws.FnExactPermutationIn': WHATEVER THE INPUT: true; the input reads as it did. -/
def fnExactPermutationInSpec : ChangeSpec := { name := "fnExactPermutationIn", fn := fun _ => fun
  | [d] => { results := [.lit (.bool true)], args := [d] }
  | _ => none }
def fnExactPermutationInRow : OpenClaim := { program := "ytggjmnihnjdoaaadoor", sum := "85462d2965590194343176a59288f7ed5c3cc2b5692e3ee07ed03ce1d023974c", func := "loop.example/g00871/laws.FnExactPermutationIn", spec := "fnExactPermutationIn", unfollowed := true, recurses := true, named := ["math/bits.deBruijn32tab"], plainKeys := false, apart := false, laid := [("math/bits.deBruijn32tab", laid_math_bits_deBruijn32tab)] }
def FnExactPermutationInSaid : Prop := fnExactPermutationInRow.holds Tryd.pinned (OpenSpec.ofChange fnExactPermutationInSpec)

/-- ITS FALSE NEIGHBOUR: 'it returns false'. Refute it at one input. -/
def fnExactPermutationInWrong : ChangeSpec := { name := "fnExactPermutationIn", fn := fun _ => fun
  | [d] => { results := [.lit (.bool false)], args := [d] }
  | _ => none }
def FnExactPermutationInWrongFalsely : Prop := fnExactPermutationInRow.holds Tryd.pinned (OpenSpec.ofChange fnExactPermutationInWrong)

/-- 'laws.FnExactPermsOf': WHATEVER THE INPUT: true; the input reads as it did. -/
def fnExactPermsOfSpec : ChangeSpec := { name := "fnExactPermsOf", fn := fun _ => fun
  | [d] => { results := [.lit (.bool true)], args := [d] }
  | _ => none }
def fnExactPermsOfRow : OpenClaim := { program := "ytggjmnihnjdoaaadoor", sum := "85462d2965590194343176a59288f7ed5c3cc2b5692e3ee07ed03ce1d023974c", func := "loop.example/g00871/laws.FnExactPermsOf", spec := "fnExactPermsOf", unfollowed := true, recurses := true, named := ["math/bits.deBruijn32tab"], plainKeys := false, apart := false, laid := [("math/bits.deBruijn32tab", laid_math_bits_deBruijn32tab)] }
def FnExactPermsOfSaid : Prop := fnExactPermsOfRow.holds Tryd.pinned (OpenSpec.ofChange fnExactPermsOfSpec)

/-- ITS FALSE NEIGHBOUR: 'it returns false'. Refute it at one input. -/
def fnExactPermsOfWrong : ChangeSpec := { name := "fnExactPermsOf", fn := fun _ => fun
  | [d] => { results := [.lit (.bool false)], args := [d] }
  | _ => none }
def FnExactPermsOfWrongFalsely : Prop := fnExactPermsOfRow.holds Tryd.pinned (OpenSpec.ofChange fnExactPermsOfWrong)

/-- 'laws.FnNoPerms': WHATEVER THE INPUT: true; the input reads as it did. -/
def fnNoPermsSpec : ChangeSpec := { name := "fnNoPerms", fn := fun _ => fun
  | [d] => { results := [.lit (.bool true)], args := [d] }
  | _ => none }
def fnNoPermsRow : OpenClaim := { program := "ytggjmnihnjdoaaadoor", sum := "85462d2965590194343176a59288f7ed5c3cc2b5692e3ee07ed03ce1d023974c", func := "loop.example/g00871/laws.FnNoPerms", spec := "fnNoPerms", unfollowed := true, recurses := true, named := ["math/bits.deBruijn32tab"], plainKeys := false, apart := false, laid := [("math/bits.deBruijn32tab", laid_math_bits_deBruijn32tab)] }
def FnNoPermsSaid : Prop := fnNoPermsRow.holds Tryd.pinned (OpenSpec.ofChange fnNoPermsSpec)

/-- ITS FALSE NEIGHBOUR: 'it returns false'. Refute it at one input. -/
def fnNoPermsWrong : ChangeSpec := { name := "fnNoPerms", fn := fun _ => fun
  | [d] => { results := [.lit (.bool false)], args := [d] }
  | _ => none }
def FnNoPermsWrongFalsely : Prop := fnNoPermsRow.holds Tryd.pinned (OpenSpec.ofChange fnNoPermsWrong)

/-- 'laws.FnForced': WHATEVER THE INPUT: true; the input reads as it did. -/
def fnForcedSpec : ChangeSpec := { name := "fnForced", fn := fun _ => fun
  | [d] => { results := [.lit (.bool true)], args := [d] }
  | _ => none }
def fnForcedRow : OpenClaim := { program := "ytggjmnihnjdoaaadoor", sum := "85462d2965590194343176a59288f7ed5c3cc2b5692e3ee07ed03ce1d023974c", func := "loop.example/g00871/laws.FnForced", spec := "fnForced", unfollowed := true, recurses := true, named := ["math/bits.deBruijn32tab"], plainKeys := false, apart := false, laid := [("math/bits.deBruijn32tab", laid_math_bits_deBruijn32tab)] }
def FnForcedSaid : Prop := fnForcedRow.holds Tryd.pinned (OpenSpec.ofChange fnForcedSpec)

/-- ITS FALSE NEIGHBOUR: 'it returns false'. Refute it at one input. -/
def fnForcedWrong : ChangeSpec := { name := "fnForced", fn := fun _ => fun
  | [d] => { results := [.lit (.bool false)], args := [d] }
  | _ => none }
def FnForcedWrongFalsely : Prop := fnForcedRow.holds Tryd.pinned (OpenSpec.ofChange fnForcedWrong)

/-- 'laws.FnLayers': WHATEVER THE INPUT: true; the input reads as it did. -/
def fnLayersSpec : ChangeSpec := { name := "fnLayers", fn := fun _ => fun
  | [d] => { results := [.lit (.bool true)], args := [d] }
  | _ => none }
def fnLayersRow : OpenClaim := { program := "ytggjmnihnjdoaaadoor", sum := "85462d2965590194343176a59288f7ed5c3cc2b5692e3ee07ed03ce1d023974c", func := "loop.example/g00871/laws.FnLayers", spec := "fnLayers", unfollowed := true, recurses := true, named := ["math/bits.deBruijn32tab"], plainKeys := false, apart := false, laid := [("math/bits.deBruijn32tab", laid_math_bits_deBruijn32tab)] }
def FnLayersSaid : Prop := fnLayersRow.holds Tryd.pinned (OpenSpec.ofChange fnLayersSpec)

/-- ITS FALSE NEIGHBOUR: 'it returns false'. Refute it at one input. -/
def fnLayersWrong : ChangeSpec := { name := "fnLayers", fn := fun _ => fun
  | [d] => { results := [.lit (.bool false)], args := [d] }
  | _ => none }
def FnLayersWrongFalsely : Prop := fnLayersRow.holds Tryd.pinned (OpenSpec.ofChange fnLayersWrong)

/-- 'laws.FnPaths': WHATEVER THE INPUT: true; the input reads as it did. -/
def fnPathsSpec : ChangeSpec := { name := "fnPaths", fn := fun _ => fun
  | [d] => { results := [.lit (.bool true)], args := [d] }
  | _ => none }
def fnPathsRow : OpenClaim := { program := "ytggjmnihnjdoaaadoor", sum := "85462d2965590194343176a59288f7ed5c3cc2b5692e3ee07ed03ce1d023974c", func := "loop.example/g00871/laws.FnPaths", spec := "fnPaths", named := ["math/bits.deBruijn32tab"], plainKeys := false, apart := false, laid := [("math/bits.deBruijn32tab", laid_math_bits_deBruijn32tab)] }
def FnPathsSaid : Prop := fnPathsRow.holds Tryd.pinned (OpenSpec.ofChange fnPathsSpec)

/-- ITS FALSE NEIGHBOUR: 'it returns false'. Refute it at one input. -/
def fnPathsWrong : ChangeSpec := { name := "fnPaths", fn := fun _ => fun
  | [d] => { results := [.lit (.bool false)], args := [d] }
  | _ => none }
def FnPathsWrongFalsely : Prop := fnPathsRow.holds Tryd.pinned (OpenSpec.ofChange fnPathsWrong)

/-- 'laws.FnPathWidth': WHATEVER THE INPUT: true; the input reads as it did. -/
def fnPathWidthSpec : ChangeSpec := { name := "fnPathWidth", fn := fun _ => fun
  | [d] => { results := [.lit (.bool true)], args := [d] }
  | _ => none }
def fnPathWidthRow : OpenClaim := { program := "ytggjmnihnjdoaaadoor", sum := "85462d2965590194343176a59288f7ed5c3cc2b5692e3ee07ed03ce1d023974c", func := "loop.example/g00871/laws.FnPathWidth", spec := "fnPathWidth", recurses := true, named := ["math/bits.deBruijn32tab"], plainKeys := false, apart := false, laid := [("math/bits.deBruijn32tab", laid_math_bits_deBruijn32tab)] }
def FnPathWidthSaid : Prop := fnPathWidthRow.holds Tryd.pinned (OpenSpec.ofChange fnPathWidthSpec)

/-- ITS FALSE NEIGHBOUR: 'it returns false'. Refute it at one input. -/
def fnPathWidthWrong : ChangeSpec := { name := "fnPathWidth", fn := fun _ => fun
  | [d] => { results := [.lit (.bool false)], args := [d] }
  | _ => none }
def FnPathWidthWrongFalsely : Prop := fnPathWidthRow.holds Tryd.pinned (OpenSpec.ofChange fnPathWidthWrong)

/- THE SECOND FORM. 'bulk': how many values and letters a reading holds, each counted each time it is reached (what is shared counts as often as it is met; a slice's spare places count too). A statement '..UptoSaid' is the law's where the arguments, and the package variables that the reading takes, are together of bulk at most 1048576: NARROWER than '..Said'. Prove '..Said' where nothing that the law and all that it calls make is longer than what came in: it says more and counts as full. Else prove '..UptoSaid'. A law counts once. -/
mutual
def uptoBulk {H : Type} : DataW H → Nat
  | .lit (.string bytes) => bytes.length + 1
  | .lit _ => 1
  | .nil => 1
  | .ptr d => uptoBulk d + 1
  | .slice elems spare => uptoBulkAll elems + uptoBulkAll spare + 1
  | .agg parts => uptoBulkAll parts + 1
  | .iface _ d => uptoBulk d + 1
  | .map entries => uptoBulkEntries entries + 1
  | .held _ => 1
def uptoBulkAll {H : Type} : List (DataW H) → Nat
  | [] => 0
  | d :: r => uptoBulk d + uptoBulkAll r
def uptoBulkEntries {H : Type} : List (Lit × DataW H) → Nat
  | [] => 0
  | x :: r => uptoBulkEntry x + uptoBulkEntries r
def uptoBulkEntry {H : Type} : Lit × DataW H → Nat
  | (.string bytes, d) => bytes.length + uptoBulk d + 1
  | (_, d) => uptoBulk d + 1
 end
def uptoSmall : (H : Type) → List (DataW H) → Bool := fun _ ds => decide (uptoBulkAll ds ≤ 1048576)
def OpenSpec.upto (s : _root_.Go.ChangeSpec) : _root_.Go.OpenSpec := { _root_.Go.OpenSpec.ofChange s with cond := some uptoSmall }

/-- 'laws.FnExactOddChainOk', WHERE WHAT IT READS IS OF BULK AT MOST 1048576: true; the input reads as it did. -/
def fnExactOddChainOkUptoRow : OpenClaim := { program := "ytggjmnihnjdoaaadoor", sum := "85462d2965590194343176a59288f7ed5c3cc2b5692e3ee07ed03ce1d023974c", func := "loop.example/g00871/laws.FnExactOddChainOk", spec := "fnExactOddChainOk", unfollowed := true, recurses := true, named := ["math/bits.deBruijn32tab"], plainKeys := false, apart := false, laid := [("math/bits.deBruijn32tab", laid_math_bits_deBruijn32tab)], narrowed := true }
def FnExactOddChainOkUptoSaid : Prop := fnExactOddChainOkUptoRow.holds Tryd.pinned (OpenSpec.upto fnExactOddChainOkSpec)

/-- 'laws.FnExactForcedBy', WHERE WHAT IT READS IS OF BULK AT MOST 1048576: true; the input reads as it did. -/
def fnExactForcedByUptoRow : OpenClaim := { program := "ytggjmnihnjdoaaadoor", sum := "85462d2965590194343176a59288f7ed5c3cc2b5692e3ee07ed03ce1d023974c", func := "loop.example/g00871/laws.FnExactForcedBy", spec := "fnExactForcedBy", unfollowed := true, recurses := true, named := ["math/bits.deBruijn32tab"], plainKeys := false, apart := false, laid := [("math/bits.deBruijn32tab", laid_math_bits_deBruijn32tab)], narrowed := true }
def FnExactForcedByUptoSaid : Prop := fnExactForcedByUptoRow.holds Tryd.pinned (OpenSpec.upto fnExactForcedBySpec)

/-- 'laws.FnExactOddChain', WHERE WHAT IT READS IS OF BULK AT MOST 1048576: true; the input reads as it did. -/
def fnExactOddChainUptoRow : OpenClaim := { program := "ytggjmnihnjdoaaadoor", sum := "85462d2965590194343176a59288f7ed5c3cc2b5692e3ee07ed03ce1d023974c", func := "loop.example/g00871/laws.FnExactOddChain", spec := "fnExactOddChain", unfollowed := true, recurses := true, named := ["math/bits.deBruijn32tab"], plainKeys := false, apart := false, laid := [("math/bits.deBruijn32tab", laid_math_bits_deBruijn32tab)], narrowed := true }
def FnExactOddChainUptoSaid : Prop := fnExactOddChainUptoRow.holds Tryd.pinned (OpenSpec.upto fnExactOddChainSpec)

/-- 'laws.FnExactComparabilityIn', WHERE WHAT IT READS IS OF BULK AT MOST 1048576: true; the input reads as it did. -/
def fnExactComparabilityInUptoRow : OpenClaim := { program := "ytggjmnihnjdoaaadoor", sum := "85462d2965590194343176a59288f7ed5c3cc2b5692e3ee07ed03ce1d023974c", func := "loop.example/g00871/laws.FnExactComparabilityIn", spec := "fnExactComparabilityIn", unfollowed := true, recurses := true, named := ["math/bits.deBruijn32tab"], plainKeys := false, apart := false, laid := [("math/bits.deBruijn32tab", laid_math_bits_deBruijn32tab)], narrowed := true }
def FnExactComparabilityInUptoSaid : Prop := fnExactComparabilityInUptoRow.holds Tryd.pinned (OpenSpec.upto fnExactComparabilityInSpec)

/-- 'laws.FnExactPermutationIn', WHERE WHAT IT READS IS OF BULK AT MOST 1048576: true; the input reads as it did. -/
def fnExactPermutationInUptoRow : OpenClaim := { program := "ytggjmnihnjdoaaadoor", sum := "85462d2965590194343176a59288f7ed5c3cc2b5692e3ee07ed03ce1d023974c", func := "loop.example/g00871/laws.FnExactPermutationIn", spec := "fnExactPermutationIn", unfollowed := true, recurses := true, named := ["math/bits.deBruijn32tab"], plainKeys := false, apart := false, laid := [("math/bits.deBruijn32tab", laid_math_bits_deBruijn32tab)], narrowed := true }
def FnExactPermutationInUptoSaid : Prop := fnExactPermutationInUptoRow.holds Tryd.pinned (OpenSpec.upto fnExactPermutationInSpec)

/-- 'laws.FnExactPermsOf', WHERE WHAT IT READS IS OF BULK AT MOST 1048576: true; the input reads as it did. -/
def fnExactPermsOfUptoRow : OpenClaim := { program := "ytggjmnihnjdoaaadoor", sum := "85462d2965590194343176a59288f7ed5c3cc2b5692e3ee07ed03ce1d023974c", func := "loop.example/g00871/laws.FnExactPermsOf", spec := "fnExactPermsOf", unfollowed := true, recurses := true, named := ["math/bits.deBruijn32tab"], plainKeys := false, apart := false, laid := [("math/bits.deBruijn32tab", laid_math_bits_deBruijn32tab)], narrowed := true }
def FnExactPermsOfUptoSaid : Prop := fnExactPermsOfUptoRow.holds Tryd.pinned (OpenSpec.upto fnExactPermsOfSpec)

/-- 'laws.FnNoPerms', WHERE WHAT IT READS IS OF BULK AT MOST 1048576: true; the input reads as it did. -/
def fnNoPermsUptoRow : OpenClaim := { program := "ytggjmnihnjdoaaadoor", sum := "85462d2965590194343176a59288f7ed5c3cc2b5692e3ee07ed03ce1d023974c", func := "loop.example/g00871/laws.FnNoPerms", spec := "fnNoPerms", unfollowed := true, recurses := true, named := ["math/bits.deBruijn32tab"], plainKeys := false, apart := false, laid := [("math/bits.deBruijn32tab", laid_math_bits_deBruijn32tab)], narrowed := true }
def FnNoPermsUptoSaid : Prop := fnNoPermsUptoRow.holds Tryd.pinned (OpenSpec.upto fnNoPermsSpec)

/-- 'laws.FnForced', WHERE WHAT IT READS IS OF BULK AT MOST 1048576: true; the input reads as it did. -/
def fnForcedUptoRow : OpenClaim := { program := "ytggjmnihnjdoaaadoor", sum := "85462d2965590194343176a59288f7ed5c3cc2b5692e3ee07ed03ce1d023974c", func := "loop.example/g00871/laws.FnForced", spec := "fnForced", unfollowed := true, recurses := true, named := ["math/bits.deBruijn32tab"], plainKeys := false, apart := false, laid := [("math/bits.deBruijn32tab", laid_math_bits_deBruijn32tab)], narrowed := true }
def FnForcedUptoSaid : Prop := fnForcedUptoRow.holds Tryd.pinned (OpenSpec.upto fnForcedSpec)

/-- 'laws.FnLayers', WHERE WHAT IT READS IS OF BULK AT MOST 1048576: true; the input reads as it did. -/
def fnLayersUptoRow : OpenClaim := { program := "ytggjmnihnjdoaaadoor", sum := "85462d2965590194343176a59288f7ed5c3cc2b5692e3ee07ed03ce1d023974c", func := "loop.example/g00871/laws.FnLayers", spec := "fnLayers", unfollowed := true, recurses := true, named := ["math/bits.deBruijn32tab"], plainKeys := false, apart := false, laid := [("math/bits.deBruijn32tab", laid_math_bits_deBruijn32tab)], narrowed := true }
def FnLayersUptoSaid : Prop := fnLayersUptoRow.holds Tryd.pinned (OpenSpec.upto fnLayersSpec)

/-- 'laws.FnPaths', WHERE WHAT IT READS IS OF BULK AT MOST 1048576: true; the input reads as it did. -/
def fnPathsUptoRow : OpenClaim := { program := "ytggjmnihnjdoaaadoor", sum := "85462d2965590194343176a59288f7ed5c3cc2b5692e3ee07ed03ce1d023974c", func := "loop.example/g00871/laws.FnPaths", spec := "fnPaths", named := ["math/bits.deBruijn32tab"], plainKeys := false, apart := false, laid := [("math/bits.deBruijn32tab", laid_math_bits_deBruijn32tab)], narrowed := true }
def FnPathsUptoSaid : Prop := fnPathsUptoRow.holds Tryd.pinned (OpenSpec.upto fnPathsSpec)

/-- 'laws.FnPathWidth', WHERE WHAT IT READS IS OF BULK AT MOST 1048576: true; the input reads as it did. -/
def fnPathWidthUptoRow : OpenClaim := { program := "ytggjmnihnjdoaaadoor", sum := "85462d2965590194343176a59288f7ed5c3cc2b5692e3ee07ed03ce1d023974c", func := "loop.example/g00871/laws.FnPathWidth", spec := "fnPathWidth", recurses := true, named := ["math/bits.deBruijn32tab"], plainKeys := false, apart := false, laid := [("math/bits.deBruijn32tab", laid_math_bits_deBruijn32tab)], narrowed := true }
def FnPathWidthUptoSaid : Prop := fnPathWidthUptoRow.holds Tryd.pinned (OpenSpec.upto fnPathWidthSpec)

end Rows
end Go.Proofs.YtggjmnihnjdoaaaDoor
