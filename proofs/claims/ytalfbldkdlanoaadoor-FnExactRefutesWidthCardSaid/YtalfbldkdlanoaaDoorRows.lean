/-
  NARROWER THAN 'FOR EVERY INPUT', by the rows' own cells (each row's printed sentence says how): FnExactPathWidth: laid · FnExactOrderOfBags: laid · FnExactPathAtMost: laid · FnExactTouchesAll: laid · FnExactByDegree: laid · FnExactByFill: laid · FnExactSidesOf: laid · FnExactBrambleOrder: laid · FnExactRefutesWidth: laid · FnPaths: laid · FnPathWidth: laid · FnExactSeparation: laid.
  DERIVED. THE GIVEN ROWS OF THIS SEAT. 12 by the template 'for every input the law returns true; each argument reads behind the call as it read before'; 0 by the template 'total and deterministic' (their statements: YtalfbldkdlanoaaDoorTotals.lean).
  GIVEN WITH THE SEED: the statements are not yours to turn. If you find one false, say at which input.
  Laid BY PROGRAM, IN A SANDBOX (cutbox-rows.mjs): the forced cells as the released guide's own fill.sh prints them over the translation 2754f70ecc652695… (all of the seat's roots in one cut). By AI agents, Wed Nov 11 2026. No macro, syntax, notation, axiom, sorry.
-/
import Derived.Test.YtalfbldkdlanoaaDoorChecked
import GoSem.Claim
import GoSem.ClaimJoined
import GoSem.ClaimMapViews
import Derived.JoinedTies
import Derived.KernelRfl
namespace Go.Proofs.YtalfbldkdlanoaaDoor
/- THE CELL 'sum', in the pinned program and in every row, IS THE sha256 OF THE DUMP (.gsa) THAT YtalfbldkdlanoaaDoorProg.lean LOADS. Nothing in Lean hashes anything: it is a label: what it is worth is what the hold of that sum in a sandbox is worth. -/
noncomputable def Tryd.pinned : Pinned := { name := "ytalfbldkdlanoaadoor", sum := "2754f70ecc6526951a22dcb885559a76da57d94bfc0521ad5d035c8b7ff4704e", checked := Tryd.checked }
namespace Rows
def none {H : Type} : Left H := { results := [], args := [] }

/- WHAT THE LISTED PACKAGE-LEVEL VARIABLES READ AS WHEN THE CALL BEGINS. Each datum BY PROGRAM (the guide's laid-datum.mjs) off the statement by which the dump's own 'gosem.cut.vars' lays the variable. In a bare row this is a premise. The card (YtalfbldkdlanoaaDoorCards.lean) ties it to the program's text. -/
def laid_math_bits_deBruijn32tab {H : Type} : DataW H := .agg [.lit (.int .u8 0), .lit (.int .u8 1), .lit (.int .u8 28), .lit (.int .u8 2), .lit (.int .u8 29), .lit (.int .u8 14), .lit (.int .u8 24), .lit (.int .u8 3), .lit (.int .u8 30), .lit (.int .u8 22), .lit (.int .u8 20), .lit (.int .u8 15), .lit (.int .u8 25), .lit (.int .u8 17), .lit (.int .u8 4), .lit (.int .u8 8), .lit (.int .u8 31), .lit (.int .u8 27), .lit (.int .u8 13), .lit (.int .u8 23), .lit (.int .u8 21), .lit (.int .u8 19), .lit (.int .u8 16), .lit (.int .u8 7), .lit (.int .u8 26), .lit (.int .u8 12), .lit (.int .u8 18), .lit (.int .u8 6), .lit (.int .u8 11), .lit (.int .u8 5), .lit (.int .u8 10), .lit (.int .u8 9)]

/-- 'laws.FnExactPathWidth': WHATEVER THE INPUT: true; the input reads as it did. -/
def fnExactPathWidthSpec : ChangeSpec := { name := "fnExactPathWidth", fn := fun _ => fun
  | [d] => { results := [.lit (.bool true)], args := [d] }
  | _ => none }
def fnExactPathWidthRow : OpenClaim := { program := "ytalfbldkdlanoaadoor", sum := "2754f70ecc6526951a22dcb885559a76da57d94bfc0521ad5d035c8b7ff4704e", func := "loop.example/g00871/laws.FnExactPathWidth", spec := "fnExactPathWidth", named := ["math/bits.deBruijn32tab"], apart := false, laid := [("math/bits.deBruijn32tab", laid_math_bits_deBruijn32tab)] }
def FnExactPathWidthSaid : Prop := fnExactPathWidthRow.holds Tryd.pinned (OpenSpec.ofChange fnExactPathWidthSpec)

/-- ITS FALSE NEIGHBOUR: 'it returns false'. Refute it at one input. -/
def fnExactPathWidthWrong : ChangeSpec := { name := "fnExactPathWidth", fn := fun _ => fun
  | [d] => { results := [.lit (.bool false)], args := [d] }
  | _ => none }
def FnExactPathWidthWrongFalsely : Prop := fnExactPathWidthRow.holds Tryd.pinned (OpenSpec.ofChange fnExactPathWidthWrong)

/-- 'laws.FnExactOrderOfBags': WHATEVER THE INPUT: true; the input reads as it did. -/
def fnExactOrderOfBagsSpec : ChangeSpec := { name := "fnExactOrderOfBags", fn := fun _ => fun
  | [d1, d2] => { results := [.lit (.bool true)], args := [d1, d2] }
  | _ => none }
def fnExactOrderOfBagsRow : OpenClaim := { program := "ytalfbldkdlanoaadoor", sum := "2754f70ecc6526951a22dcb885559a76da57d94bfc0521ad5d035c8b7ff4704e", func := "loop.example/g00871/laws.FnExactOrderOfBags", spec := "fnExactOrderOfBags", named := ["math/bits.deBruijn32tab"], apart := false, laid := [("math/bits.deBruijn32tab", laid_math_bits_deBruijn32tab)] }
def FnExactOrderOfBagsSaid : Prop := fnExactOrderOfBagsRow.holds Tryd.pinned (OpenSpec.ofChange fnExactOrderOfBagsSpec)

/-- ITS FALSE NEIGHBOUR: 'it returns false'. Refute it at one input. -/
def fnExactOrderOfBagsWrong : ChangeSpec := { name := "fnExactOrderOfBags", fn := fun _ => fun
  | [d1, d2] => { results := [.lit (.bool false)], args := [d1, d2] }
  | _ => none }
def FnExactOrderOfBagsWrongFalsely : Prop := fnExactOrderOfBagsRow.holds Tryd.pinned (OpenSpec.ofChange fnExactOrderOfBagsWrong)

/-- 'laws.FnExactPathAtMost': WHATEVER THE INPUT: true; the input reads as it did. -/
def fnExactPathAtMostSpec : ChangeSpec := { name := "fnExactPathAtMost", fn := fun _ => fun
  | [d1, d2] => { results := [.lit (.bool true)], args := [d1, d2] }
  | _ => none }
def fnExactPathAtMostRow : OpenClaim := { program := "ytalfbldkdlanoaadoor", sum := "2754f70ecc6526951a22dcb885559a76da57d94bfc0521ad5d035c8b7ff4704e", func := "loop.example/g00871/laws.FnExactPathAtMost", spec := "fnExactPathAtMost", named := ["math/bits.deBruijn32tab"], apart := false, laid := [("math/bits.deBruijn32tab", laid_math_bits_deBruijn32tab)] }
def FnExactPathAtMostSaid : Prop := fnExactPathAtMostRow.holds Tryd.pinned (OpenSpec.ofChange fnExactPathAtMostSpec)

/-- ITS FALSE NEIGHBOUR: 'it returns false'. Refute it at one input. -/
def fnExactPathAtMostWrong : ChangeSpec := { name := "fnExactPathAtMost", fn := fun _ => fun
  | [d1, d2] => { results := [.lit (.bool false)], args := [d1, d2] }
  | _ => none }
def FnExactPathAtMostWrongFalsely : Prop := fnExactPathAtMostRow.holds Tryd.pinned (OpenSpec.ofChange fnExactPathAtMostWrong)

/-- 'laws.FnExactTouchesAll': WHATEVER THE INPUT: true; the input reads as it did. -/
def fnExactTouchesAllSpec : ChangeSpec := { name := "fnExactTouchesAll", fn := fun _ => fun
  | [d1, d2, d3] => { results := [.lit (.bool true)], args := [d1, d2, d3] }
  | _ => none }
def fnExactTouchesAllRow : OpenClaim := { program := "ytalfbldkdlanoaadoor", sum := "2754f70ecc6526951a22dcb885559a76da57d94bfc0521ad5d035c8b7ff4704e", func := "loop.example/g00871/laws.FnExactTouchesAll", spec := "fnExactTouchesAll", unfollowed := true, recurses := true, named := ["math/bits.deBruijn32tab"], apart := false, laid := [("math/bits.deBruijn32tab", laid_math_bits_deBruijn32tab)] }
def FnExactTouchesAllSaid : Prop := fnExactTouchesAllRow.holds Tryd.pinned (OpenSpec.ofChange fnExactTouchesAllSpec)

/-- ITS FALSE NEIGHBOUR: 'it returns false'. Refute it at one input. -/
def fnExactTouchesAllWrong : ChangeSpec := { name := "fnExactTouchesAll", fn := fun _ => fun
  | [d1, d2, d3] => { results := [.lit (.bool false)], args := [d1, d2, d3] }
  | _ => none }
def FnExactTouchesAllWrongFalsely : Prop := fnExactTouchesAllRow.holds Tryd.pinned (OpenSpec.ofChange fnExactTouchesAllWrong)

/-- 'laws.FnExactByDegree': WHATEVER THE INPUT: true; the input reads as it did. -/
def fnExactByDegreeSpec : ChangeSpec := { name := "fnExactByDegree", fn := fun _ => fun
  | [d] => { results := [.lit (.bool true)], args := [d] }
  | _ => none }
def fnExactByDegreeRow : OpenClaim := { program := "ytalfbldkdlanoaadoor", sum := "2754f70ecc6526951a22dcb885559a76da57d94bfc0521ad5d035c8b7ff4704e", func := "loop.example/g00871/laws.FnExactByDegree", spec := "fnExactByDegree", unfollowed := true, recurses := true, named := ["math/bits.deBruijn32tab"], apart := false, laid := [("math/bits.deBruijn32tab", laid_math_bits_deBruijn32tab)] }
def FnExactByDegreeSaid : Prop := fnExactByDegreeRow.holds Tryd.pinned (OpenSpec.ofChange fnExactByDegreeSpec)

/-- ITS FALSE NEIGHBOUR: 'it returns false'. Refute it at one input. -/
def fnExactByDegreeWrong : ChangeSpec := { name := "fnExactByDegree", fn := fun _ => fun
  | [d] => { results := [.lit (.bool false)], args := [d] }
  | _ => none }
def FnExactByDegreeWrongFalsely : Prop := fnExactByDegreeRow.holds Tryd.pinned (OpenSpec.ofChange fnExactByDegreeWrong)

/-- 'laws.FnExactByFill': WHATEVER THE INPUT: true; the input reads as it did. -/
def fnExactByFillSpec : ChangeSpec := { name := "fnExactByFill", fn := fun _ => fun
  | [d] => { results := [.lit (.bool true)], args := [d] }
  | _ => none }
def fnExactByFillRow : OpenClaim := { program := "ytalfbldkdlanoaadoor", sum := "2754f70ecc6526951a22dcb885559a76da57d94bfc0521ad5d035c8b7ff4704e", func := "loop.example/g00871/laws.FnExactByFill", spec := "fnExactByFill", unfollowed := true, recurses := true, named := ["math/bits.deBruijn32tab"], apart := false, laid := [("math/bits.deBruijn32tab", laid_math_bits_deBruijn32tab)] }
def FnExactByFillSaid : Prop := fnExactByFillRow.holds Tryd.pinned (OpenSpec.ofChange fnExactByFillSpec)

/-- ITS FALSE NEIGHBOUR: 'it returns false'. Refute it at one input. -/
def fnExactByFillWrong : ChangeSpec := { name := "fnExactByFill", fn := fun _ => fun
  | [d] => { results := [.lit (.bool false)], args := [d] }
  | _ => none }
def FnExactByFillWrongFalsely : Prop := fnExactByFillRow.holds Tryd.pinned (OpenSpec.ofChange fnExactByFillWrong)

/-- 'laws.FnExactSidesOf': WHATEVER THE INPUT: true; the input reads as it did. -/
def fnExactSidesOfSpec : ChangeSpec := { name := "fnExactSidesOf", fn := fun _ => fun
  | [d] => { results := [.lit (.bool true)], args := [d] }
  | _ => none }
def fnExactSidesOfRow : OpenClaim := { program := "ytalfbldkdlanoaadoor", sum := "2754f70ecc6526951a22dcb885559a76da57d94bfc0521ad5d035c8b7ff4704e", func := "loop.example/g00871/laws.FnExactSidesOf", spec := "fnExactSidesOf", named := ["math/bits.deBruijn32tab"], apart := false, laid := [("math/bits.deBruijn32tab", laid_math_bits_deBruijn32tab)] }
def FnExactSidesOfSaid : Prop := fnExactSidesOfRow.holds Tryd.pinned (OpenSpec.ofChange fnExactSidesOfSpec)

/-- ITS FALSE NEIGHBOUR: 'it returns false'. Refute it at one input. -/
def fnExactSidesOfWrong : ChangeSpec := { name := "fnExactSidesOf", fn := fun _ => fun
  | [d] => { results := [.lit (.bool false)], args := [d] }
  | _ => none }
def FnExactSidesOfWrongFalsely : Prop := fnExactSidesOfRow.holds Tryd.pinned (OpenSpec.ofChange fnExactSidesOfWrong)

/-- 'laws.FnExactBrambleOrder': WHATEVER THE INPUT: true; the input reads as it did. -/
def fnExactBrambleOrderSpec : ChangeSpec := { name := "fnExactBrambleOrder", fn := fun _ => fun
  | [d1, d2] => { results := [.lit (.bool true)], args := [d1, d2] }
  | _ => none }
def fnExactBrambleOrderRow : OpenClaim := { program := "ytalfbldkdlanoaadoor", sum := "2754f70ecc6526951a22dcb885559a76da57d94bfc0521ad5d035c8b7ff4704e", func := "loop.example/g00871/laws.FnExactBrambleOrder", spec := "fnExactBrambleOrder", unfollowed := true, recurses := true, named := ["math/bits.deBruijn32tab"], apart := false, laid := [("math/bits.deBruijn32tab", laid_math_bits_deBruijn32tab)] }
def FnExactBrambleOrderSaid : Prop := fnExactBrambleOrderRow.holds Tryd.pinned (OpenSpec.ofChange fnExactBrambleOrderSpec)

/-- ITS FALSE NEIGHBOUR: 'it returns false'. Refute it at one input. -/
def fnExactBrambleOrderWrong : ChangeSpec := { name := "fnExactBrambleOrder", fn := fun _ => fun
  | [d1, d2] => { results := [.lit (.bool false)], args := [d1, d2] }
  | _ => none }
def FnExactBrambleOrderWrongFalsely : Prop := fnExactBrambleOrderRow.holds Tryd.pinned (OpenSpec.ofChange fnExactBrambleOrderWrong)

/-- 'laws.FnExactRefutesWidth': WHATEVER THE INPUT: true; the input reads as it did. -/
def fnExactRefutesWidthSpec : ChangeSpec := { name := "fnExactRefutesWidth", fn := fun _ => fun
  | [d1, d2, d3] => { results := [.lit (.bool true)], args := [d1, d2, d3] }
  | _ => none }
def fnExactRefutesWidthRow : OpenClaim := { program := "ytalfbldkdlanoaadoor", sum := "2754f70ecc6526951a22dcb885559a76da57d94bfc0521ad5d035c8b7ff4704e", func := "loop.example/g00871/laws.FnExactRefutesWidth", spec := "fnExactRefutesWidth", unfollowed := true, recurses := true, named := ["math/bits.deBruijn32tab"], apart := false, laid := [("math/bits.deBruijn32tab", laid_math_bits_deBruijn32tab)] }
def FnExactRefutesWidthSaid : Prop := fnExactRefutesWidthRow.holds Tryd.pinned (OpenSpec.ofChange fnExactRefutesWidthSpec)

/-- ITS FALSE NEIGHBOUR: 'it returns false'. Refute it at one input. -/
def fnExactRefutesWidthWrong : ChangeSpec := { name := "fnExactRefutesWidth", fn := fun _ => fun
  | [d1, d2, d3] => { results := [.lit (.bool false)], args := [d1, d2, d3] }
  | _ => none }
def FnExactRefutesWidthWrongFalsely : Prop := fnExactRefutesWidthRow.holds Tryd.pinned (OpenSpec.ofChange fnExactRefutesWidthWrong)

/-- 'laws.FnPaths': WHATEVER THE INPUT: true; the input reads as it did. -/
def fnPathsSpec : ChangeSpec := { name := "fnPaths", fn := fun _ => fun
  | [d] => { results := [.lit (.bool true)], args := [d] }
  | _ => none }
def fnPathsRow : OpenClaim := { program := "ytalfbldkdlanoaadoor", sum := "2754f70ecc6526951a22dcb885559a76da57d94bfc0521ad5d035c8b7ff4704e", func := "loop.example/g00871/laws.FnPaths", spec := "fnPaths", named := ["math/bits.deBruijn32tab"], apart := false, laid := [("math/bits.deBruijn32tab", laid_math_bits_deBruijn32tab)] }
def FnPathsSaid : Prop := fnPathsRow.holds Tryd.pinned (OpenSpec.ofChange fnPathsSpec)

/-- ITS FALSE NEIGHBOUR: 'it returns false'. Refute it at one input. -/
def fnPathsWrong : ChangeSpec := { name := "fnPaths", fn := fun _ => fun
  | [d] => { results := [.lit (.bool false)], args := [d] }
  | _ => none }
def FnPathsWrongFalsely : Prop := fnPathsRow.holds Tryd.pinned (OpenSpec.ofChange fnPathsWrong)

/-- 'laws.FnPathWidth': WHATEVER THE INPUT: true; the input reads as it did. -/
def fnPathWidthSpec : ChangeSpec := { name := "fnPathWidth", fn := fun _ => fun
  | [d] => { results := [.lit (.bool true)], args := [d] }
  | _ => none }
def fnPathWidthRow : OpenClaim := { program := "ytalfbldkdlanoaadoor", sum := "2754f70ecc6526951a22dcb885559a76da57d94bfc0521ad5d035c8b7ff4704e", func := "loop.example/g00871/laws.FnPathWidth", spec := "fnPathWidth", recurses := true, named := ["math/bits.deBruijn32tab"], apart := false, laid := [("math/bits.deBruijn32tab", laid_math_bits_deBruijn32tab)] }
def FnPathWidthSaid : Prop := fnPathWidthRow.holds Tryd.pinned (OpenSpec.ofChange fnPathWidthSpec)

/-- ITS FALSE NEIGHBOUR: 'it returns false'. Refute it at one input. -/
def fnPathWidthWrong : ChangeSpec := { name := "fnPathWidth", fn := fun _ => fun
  | [d] => { results := [.lit (.bool false)], args := [d] }
  | _ => none }
def FnPathWidthWrongFalsely : Prop := fnPathWidthRow.holds Tryd.pinned (OpenSpec.ofChange fnPathWidthWrong)

/-- 'laws.FnExactSeparation': WHATEVER THE INPUT: true; the input reads as it did. -/
def fnExactSeparationSpec : ChangeSpec := { name := "fnExactSeparation", fn := fun _ => fun
  | [d1, d2] => { results := [.lit (.bool true)], args := [d1, d2] }
  | _ => none }
def fnExactSeparationRow : OpenClaim := { program := "ytalfbldkdlanoaadoor", sum := "2754f70ecc6526951a22dcb885559a76da57d94bfc0521ad5d035c8b7ff4704e", func := "loop.example/g00871/laws.FnExactSeparation", spec := "fnExactSeparation", unfollowed := true, recurses := true, named := ["math/bits.deBruijn32tab"], apart := false, laid := [("math/bits.deBruijn32tab", laid_math_bits_deBruijn32tab)] }
def FnExactSeparationSaid : Prop := fnExactSeparationRow.holds Tryd.pinned (OpenSpec.ofChange fnExactSeparationSpec)

/-- ITS FALSE NEIGHBOUR: 'it returns false'. Refute it at one input. -/
def fnExactSeparationWrong : ChangeSpec := { name := "fnExactSeparation", fn := fun _ => fun
  | [d1, d2] => { results := [.lit (.bool false)], args := [d1, d2] }
  | _ => none }
def FnExactSeparationWrongFalsely : Prop := fnExactSeparationRow.holds Tryd.pinned (OpenSpec.ofChange fnExactSeparationWrong)

/- THE SECOND FORM. 'bulk': how many values and letters a reading holds, each counted each time it is reached (what is shared counts as often as it is met; a slice's spare places count too). A statement '..UptoSaid' is the law's where the arguments, and the package variables that the reading takes, are together of bulk at most 1048576: NARROWER than '..Said'. Prove '..Said' where nothing that the law and all that it calls make is longer than what came in: it says more and counts as full. Else prove '..UptoSaid'. A law counts once. -/
mutual
def uptoBulk {H : Type} : DataW H → Nat
  | .lit (.string bytes) => bytes.length + 1
  | .lit _ => 1
  | .nil => 1
  | .ptr d => uptoBulk d + 1
  | .slice elems spare => uptoBulkAll elems + uptoBulkAll spare + 1
  | .agg parts => uptoBulkAll parts + 1
  | .iface _ d => uptoBulk d + 1
  | .map entries => uptoBulkEntries entries + 1
  | .held _ => 1
def uptoBulkAll {H : Type} : List (DataW H) → Nat
  | [] => 0
  | d :: r => uptoBulk d + uptoBulkAll r
def uptoBulkEntries {H : Type} : List (Lit × DataW H) → Nat
  | [] => 0
  | x :: r => uptoBulkEntry x + uptoBulkEntries r
def uptoBulkEntry {H : Type} : Lit × DataW H → Nat
  | (.string bytes, d) => bytes.length + uptoBulk d + 1
  | (_, d) => uptoBulk d + 1
 end
def uptoSmall : (H : Type) → List (DataW H) → Bool := fun _ ds => decide (uptoBulkAll ds ≤ 1048576)
def OpenSpec.upto (s : _root_.Go.ChangeSpec) : _root_.Go.OpenSpec := { _root_.Go.OpenSpec.ofChange s with cond := some uptoSmall }

/-- 'laws.FnExactPathWidth', WHERE WHAT IT READS IS OF BULK AT MOST 1048576: true; the input reads as it did. -/
def fnExactPathWidthUptoRow : OpenClaim := { program := "ytalfbldkdlanoaadoor", sum := "2754f70ecc6526951a22dcb885559a76da57d94bfc0521ad5d035c8b7ff4704e", func := "loop.example/g00871/laws.FnExactPathWidth", spec := "fnExactPathWidth", named := ["math/bits.deBruijn32tab"], apart := false, laid := [("math/bits.deBruijn32tab", laid_math_bits_deBruijn32tab)], narrowed := true }
def FnExactPathWidthUptoSaid : Prop := fnExactPathWidthUptoRow.holds Tryd.pinned (OpenSpec.upto fnExactPathWidthSpec)

/-- 'laws.FnExactOrderOfBags', WHERE WHAT IT READS IS OF BULK AT MOST 1048576: true; the input reads as it did. -/
def fnExactOrderOfBagsUptoRow : OpenClaim := { program := "ytalfbldkdlanoaadoor", sum := "2754f70ecc6526951a22dcb885559a76da57d94bfc0521ad5d035c8b7ff4704e", func := "loop.example/g00871/laws.FnExactOrderOfBags", spec := "fnExactOrderOfBags", named := ["math/bits.deBruijn32tab"], apart := false, laid := [("math/bits.deBruijn32tab", laid_math_bits_deBruijn32tab)], narrowed := true }
def FnExactOrderOfBagsUptoSaid : Prop := fnExactOrderOfBagsUptoRow.holds Tryd.pinned (OpenSpec.upto fnExactOrderOfBagsSpec)

/-- 'laws.FnExactPathAtMost', WHERE WHAT IT READS IS OF BULK AT MOST 1048576: true; the input reads as it did. -/
def fnExactPathAtMostUptoRow : OpenClaim := { program := "ytalfbldkdlanoaadoor", sum := "2754f70ecc6526951a22dcb885559a76da57d94bfc0521ad5d035c8b7ff4704e", func := "loop.example/g00871/laws.FnExactPathAtMost", spec := "fnExactPathAtMost", named := ["math/bits.deBruijn32tab"], apart := false, laid := [("math/bits.deBruijn32tab", laid_math_bits_deBruijn32tab)], narrowed := true }
def FnExactPathAtMostUptoSaid : Prop := fnExactPathAtMostUptoRow.holds Tryd.pinned (OpenSpec.upto fnExactPathAtMostSpec)

/-- 'laws.FnExactTouchesAll', WHERE WHAT IT READS IS OF BULK AT MOST 1048576: true; the input reads as it did. -/
def fnExactTouchesAllUptoRow : OpenClaim := { program := "ytalfbldkdlanoaadoor", sum := "2754f70ecc6526951a22dcb885559a76da57d94bfc0521ad5d035c8b7ff4704e", func := "loop.example/g00871/laws.FnExactTouchesAll", spec := "fnExactTouchesAll", unfollowed := true, recurses := true, named := ["math/bits.deBruijn32tab"], apart := false, laid := [("math/bits.deBruijn32tab", laid_math_bits_deBruijn32tab)], narrowed := true }
def FnExactTouchesAllUptoSaid : Prop := fnExactTouchesAllUptoRow.holds Tryd.pinned (OpenSpec.upto fnExactTouchesAllSpec)

/-- 'laws.FnExactByDegree', WHERE WHAT IT READS IS OF BULK AT MOST 1048576: true; the input reads as it did. -/
def fnExactByDegreeUptoRow : OpenClaim := { program := "ytalfbldkdlanoaadoor", sum := "2754f70ecc6526951a22dcb885559a76da57d94bfc0521ad5d035c8b7ff4704e", func := "loop.example/g00871/laws.FnExactByDegree", spec := "fnExactByDegree", unfollowed := true, recurses := true, named := ["math/bits.deBruijn32tab"], apart := false, laid := [("math/bits.deBruijn32tab", laid_math_bits_deBruijn32tab)], narrowed := true }
def FnExactByDegreeUptoSaid : Prop := fnExactByDegreeUptoRow.holds Tryd.pinned (OpenSpec.upto fnExactByDegreeSpec)

/-- 'laws.FnExactByFill', WHERE WHAT IT READS IS OF BULK AT MOST 1048576: true; the input reads as it did. -/
def fnExactByFillUptoRow : OpenClaim := { program := "ytalfbldkdlanoaadoor", sum := "2754f70ecc6526951a22dcb885559a76da57d94bfc0521ad5d035c8b7ff4704e", func := "loop.example/g00871/laws.FnExactByFill", spec := "fnExactByFill", unfollowed := true, recurses := true, named := ["math/bits.deBruijn32tab"], apart := false, laid := [("math/bits.deBruijn32tab", laid_math_bits_deBruijn32tab)], narrowed := true }
def FnExactByFillUptoSaid : Prop := fnExactByFillUptoRow.holds Tryd.pinned (OpenSpec.upto fnExactByFillSpec)

/-- 'laws.FnExactSidesOf', WHERE WHAT IT READS IS OF BULK AT MOST 1048576: true; the input reads as it did. -/
def fnExactSidesOfUptoRow : OpenClaim := { program := "ytalfbldkdlanoaadoor", sum := "2754f70ecc6526951a22dcb885559a76da57d94bfc0521ad5d035c8b7ff4704e", func := "loop.example/g00871/laws.FnExactSidesOf", spec := "fnExactSidesOf", named := ["math/bits.deBruijn32tab"], apart := false, laid := [("math/bits.deBruijn32tab", laid_math_bits_deBruijn32tab)], narrowed := true }
def FnExactSidesOfUptoSaid : Prop := fnExactSidesOfUptoRow.holds Tryd.pinned (OpenSpec.upto fnExactSidesOfSpec)

/-- 'laws.FnExactBrambleOrder', WHERE WHAT IT READS IS OF BULK AT MOST 1048576: true; the input reads as it did. -/
def fnExactBrambleOrderUptoRow : OpenClaim := { program := "ytalfbldkdlanoaadoor", sum := "2754f70ecc6526951a22dcb885559a76da57d94bfc0521ad5d035c8b7ff4704e", func := "loop.example/g00871/laws.FnExactBrambleOrder", spec := "fnExactBrambleOrder", unfollowed := true, recurses := true, named := ["math/bits.deBruijn32tab"], apart := false, laid := [("math/bits.deBruijn32tab", laid_math_bits_deBruijn32tab)], narrowed := true }
def FnExactBrambleOrderUptoSaid : Prop := fnExactBrambleOrderUptoRow.holds Tryd.pinned (OpenSpec.upto fnExactBrambleOrderSpec)

/-- 'laws.FnExactRefutesWidth', WHERE WHAT IT READS IS OF BULK AT MOST 1048576: true; the input reads as it did. -/
def fnExactRefutesWidthUptoRow : OpenClaim := { program := "ytalfbldkdlanoaadoor", sum := "2754f70ecc6526951a22dcb885559a76da57d94bfc0521ad5d035c8b7ff4704e", func := "loop.example/g00871/laws.FnExactRefutesWidth", spec := "fnExactRefutesWidth", unfollowed := true, recurses := true, named := ["math/bits.deBruijn32tab"], apart := false, laid := [("math/bits.deBruijn32tab", laid_math_bits_deBruijn32tab)], narrowed := true }
def FnExactRefutesWidthUptoSaid : Prop := fnExactRefutesWidthUptoRow.holds Tryd.pinned (OpenSpec.upto fnExactRefutesWidthSpec)

/-- 'laws.FnPaths', WHERE WHAT IT READS IS OF BULK AT MOST 1048576: true; the input reads as it did. -/
def fnPathsUptoRow : OpenClaim := { program := "ytalfbldkdlanoaadoor", sum := "2754f70ecc6526951a22dcb885559a76da57d94bfc0521ad5d035c8b7ff4704e", func := "loop.example/g00871/laws.FnPaths", spec := "fnPaths", named := ["math/bits.deBruijn32tab"], apart := false, laid := [("math/bits.deBruijn32tab", laid_math_bits_deBruijn32tab)], narrowed := true }
def FnPathsUptoSaid : Prop := fnPathsUptoRow.holds Tryd.pinned (OpenSpec.upto fnPathsSpec)

/-- 'laws.FnPathWidth', WHERE WHAT IT READS IS OF BULK AT MOST 1048576: true; the input reads as it did. -/
def fnPathWidthUptoRow : OpenClaim := { program := "ytalfbldkdlanoaadoor", sum := "2754f70ecc6526951a22dcb885559a76da57d94bfc0521ad5d035c8b7ff4704e", func := "loop.example/g00871/laws.FnPathWidth", spec := "fnPathWidth", recurses := true, named := ["math/bits.deBruijn32tab"], apart := false, laid := [("math/bits.deBruijn32tab", laid_math_bits_deBruijn32tab)], narrowed := true }
def FnPathWidthUptoSaid : Prop := fnPathWidthUptoRow.holds Tryd.pinned (OpenSpec.upto fnPathWidthSpec)

/-- 'laws.FnExactSeparation', WHERE WHAT IT READS IS OF BULK AT MOST 1048576: true; the input reads as it did. -/
def fnExactSeparationUptoRow : OpenClaim := { program := "ytalfbldkdlanoaadoor", sum := "2754f70ecc6526951a22dcb885559a76da57d94bfc0521ad5d035c8b7ff4704e", func := "loop.example/g00871/laws.FnExactSeparation", spec := "fnExactSeparation", unfollowed := true, recurses := true, named := ["math/bits.deBruijn32tab"], apart := false, laid := [("math/bits.deBruijn32tab", laid_math_bits_deBruijn32tab)], narrowed := true }
def FnExactSeparationUptoSaid : Prop := fnExactSeparationUptoRow.holds Tryd.pinned (OpenSpec.upto fnExactSeparationSpec)

end Rows
end Go.Proofs.YtalfbldkdlanoaaDoor
