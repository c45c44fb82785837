/-
  NARROWER THAN 'FOR EVERY INPUT', by the rows' own cells (each row's printed sentence says how): FnExactCliqueOk: laid · FnExactTouchIn: laid · FnExactUpOk: laid · FnExactConnectedIn: laid · FnExactDegeneracyOf: laid · FnExactChordalIn: laid · FnExactTransitiveIn: laid · FnExactDistancesFrom: laid · FnExactPerfectOrder: laid · FnExactBrambleOk: laid · FnExactAroundPath: laid · FnExactPathOf: laid.
  DERIVED. THE GIVEN ROWS OF THIS SEAT. 12 by the template 'for every input the law returns true; each argument reads behind the call as it read before'; 0 by the template 'total and deterministic' (their statements: YtlnhfafnhclolaaDoorTotals.lean).
  GIVEN WITH THE SEED: the statements are not yours to turn. If you find one false, say at which input.
  Laid BY PROGRAM, IN A SANDBOX (cutbox-rows.mjs): the forced cells as the released guide's own fill.sh prints them over the translation 7b695fd560c2ae22… (all of the seat's roots in one cut). By AI agents, Wed Nov 11 2026. No macro, syntax, notation, axiom, sorry.
-/
import Derived.Test.YtlnhfafnhclolaaDoorChecked
import GoSem.Claim
import GoSem.ClaimJoined
import GoSem.ClaimMapViews
import Derived.JoinedTies
import Derived.KernelRfl
namespace Go.Proofs.YtlnhfafnhclolaaDoor
/- THE CELL 'sum', in the pinned program and in every row, IS THE sha256 OF THE DUMP (.gsa) THAT YtlnhfafnhclolaaDoorProg.lean LOADS. Nothing in Lean hashes anything: it is a label: what it is worth is what the hold of that sum in a sandbox is worth. -/
noncomputable def Tryd.pinned : Pinned := { name := "ytlnhfafnhclolaadoor", sum := "7b695fd560c2ae22cd430e600be03a2137e70ec9011f4674399dce2568e3630a", checked := Tryd.checked }
namespace Rows
def none {H : Type} : Left H := { results := [], args := [] }

/- WHAT THE LISTED PACKAGE-LEVEL VARIABLES READ AS WHEN THE CALL BEGINS. Each datum BY PROGRAM (the guide's laid-datum.mjs) off the statement by which the dump's own 'gosem.cut.vars' lays the variable. In a bare row this is a premise. The card (YtlnhfafnhclolaaDoorCards.lean) ties it to the program's text. -/
def laid_math_bits_deBruijn32tab {H : Type} : DataW H := .agg [.lit (.int .u8 0), .lit (.int .u8 1), .lit (.int .u8 28), .lit (.int .u8 2), .lit (.int .u8 29), .lit (.int .u8 14), .lit (.int .u8 24), .lit (.int .u8 3), .lit (.int .u8 30), .lit (.int .u8 22), .lit (.int .u8 20), .lit (.int .u8 15), .lit (.int .u8 25), .lit (.int .u8 17), .lit (.int .u8 4), .lit (.int .u8 8), .lit (.int .u8 31), .lit (.int .u8 27), .lit (.int .u8 13), .lit (.int .u8 23), .lit (.int .u8 21), .lit (.int .u8 19), .lit (.int .u8 16), .lit (.int .u8 7), .lit (.int .u8 26), .lit (.int .u8 12), .lit (.int .u8 18), .lit (.int .u8 6), .lit (.int .u8 11), .lit (.int .u8 5), .lit (.int .u8 10), .lit (.int .u8 9)]

/-- 'laws.FnExactCliqueOk': WHATEVER THE INPUT: true; the input reads as it did. -/
def fnExactCliqueOkSpec : ChangeSpec := { name := "fnExactCliqueOk", fn := fun _ => fun
  | [d1, d2] => { results := [.lit (.bool true)], args := [d1, d2] }
  | _ => none }
def fnExactCliqueOkRow : OpenClaim := { program := "ytlnhfafnhclolaadoor", sum := "7b695fd560c2ae22cd430e600be03a2137e70ec9011f4674399dce2568e3630a", func := "loop.example/g00871/laws.FnExactCliqueOk", spec := "fnExactCliqueOk", named := ["math/bits.deBruijn32tab"], apart := false, laid := [("math/bits.deBruijn32tab", laid_math_bits_deBruijn32tab)] }
def FnExactCliqueOkSaid : Prop := fnExactCliqueOkRow.holds Tryd.pinned (OpenSpec.ofChange fnExactCliqueOkSpec)

/-- ITS FALSE NEIGHBOUR: 'it returns false'. Refute it at one input. -/
def fnExactCliqueOkWrong : ChangeSpec := { name := "fnExactCliqueOk", fn := fun _ => fun
  | [d1, d2] => { results := [.lit (.bool false)], args := [d1, d2] }
  | _ => none }
def FnExactCliqueOkWrongFalsely : Prop := fnExactCliqueOkRow.holds Tryd.pinned (OpenSpec.ofChange fnExactCliqueOkWrong)

/-- 'laws.FnExactTouchIn': WHATEVER THE INPUT: true; the input reads as it did. -/
def fnExactTouchInSpec : ChangeSpec := { name := "fnExactTouchIn", fn := fun _ => fun
  | [d1, d2, d3] => { results := [.lit (.bool true)], args := [d1, d2, d3] }
  | _ => none }
def fnExactTouchInRow : OpenClaim := { program := "ytlnhfafnhclolaadoor", sum := "7b695fd560c2ae22cd430e600be03a2137e70ec9011f4674399dce2568e3630a", func := "loop.example/g00871/laws.FnExactTouchIn", spec := "fnExactTouchIn", named := ["math/bits.deBruijn32tab"], apart := false, laid := [("math/bits.deBruijn32tab", laid_math_bits_deBruijn32tab)] }
def FnExactTouchInSaid : Prop := fnExactTouchInRow.holds Tryd.pinned (OpenSpec.ofChange fnExactTouchInSpec)

/-- ITS FALSE NEIGHBOUR: 'it returns false'. Refute it at one input. -/
def fnExactTouchInWrong : ChangeSpec := { name := "fnExactTouchIn", fn := fun _ => fun
  | [d1, d2, d3] => { results := [.lit (.bool false)], args := [d1, d2, d3] }
  | _ => none }
def FnExactTouchInWrongFalsely : Prop := fnExactTouchInRow.holds Tryd.pinned (OpenSpec.ofChange fnExactTouchInWrong)

/-- 'laws.FnExactUpOk': WHATEVER THE INPUT: true; the input reads as it did. -/
def fnExactUpOkSpec : ChangeSpec := { name := "fnExactUpOk", fn := fun _ => fun
  | [d1, d2] => { results := [.lit (.bool true)], args := [d1, d2] }
  | _ => none }
def fnExactUpOkRow : OpenClaim := { program := "ytlnhfafnhclolaadoor", sum := "7b695fd560c2ae22cd430e600be03a2137e70ec9011f4674399dce2568e3630a", func := "loop.example/g00871/laws.FnExactUpOk", spec := "fnExactUpOk", named := ["math/bits.deBruijn32tab"], apart := false, laid := [("math/bits.deBruijn32tab", laid_math_bits_deBruijn32tab)] }
def FnExactUpOkSaid : Prop := fnExactUpOkRow.holds Tryd.pinned (OpenSpec.ofChange fnExactUpOkSpec)

/-- ITS FALSE NEIGHBOUR: 'it returns false'. Refute it at one input. -/
def fnExactUpOkWrong : ChangeSpec := { name := "fnExactUpOk", fn := fun _ => fun
  | [d1, d2] => { results := [.lit (.bool false)], args := [d1, d2] }
  | _ => none }
def FnExactUpOkWrongFalsely : Prop := fnExactUpOkRow.holds Tryd.pinned (OpenSpec.ofChange fnExactUpOkWrong)

/-- 'laws.FnExactConnectedIn': WHATEVER THE INPUT: true; the input reads as it did. -/
def fnExactConnectedInSpec : ChangeSpec := { name := "fnExactConnectedIn", fn := fun _ => fun
  | [d1, d2] => { results := [.lit (.bool true)], args := [d1, d2] }
  | _ => none }
def fnExactConnectedInRow : OpenClaim := { program := "ytlnhfafnhclolaadoor", sum := "7b695fd560c2ae22cd430e600be03a2137e70ec9011f4674399dce2568e3630a", func := "loop.example/g00871/laws.FnExactConnectedIn", spec := "fnExactConnectedIn", named := ["math/bits.deBruijn32tab"], apart := false, laid := [("math/bits.deBruijn32tab", laid_math_bits_deBruijn32tab)] }
def FnExactConnectedInSaid : Prop := fnExactConnectedInRow.holds Tryd.pinned (OpenSpec.ofChange fnExactConnectedInSpec)

/-- ITS FALSE NEIGHBOUR: 'it returns false'. Refute it at one input. -/
def fnExactConnectedInWrong : ChangeSpec := { name := "fnExactConnectedIn", fn := fun _ => fun
  | [d1, d2] => { results := [.lit (.bool false)], args := [d1, d2] }
  | _ => none }
def FnExactConnectedInWrongFalsely : Prop := fnExactConnectedInRow.holds Tryd.pinned (OpenSpec.ofChange fnExactConnectedInWrong)

/-- 'laws.FnExactDegeneracyOf': WHATEVER THE INPUT: true; the input reads as it did. -/
def fnExactDegeneracyOfSpec : ChangeSpec := { name := "fnExactDegeneracyOf", fn := fun _ => fun
  | [d] => { results := [.lit (.bool true)], args := [d] }
  | _ => none }
def fnExactDegeneracyOfRow : OpenClaim := { program := "ytlnhfafnhclolaadoor", sum := "7b695fd560c2ae22cd430e600be03a2137e70ec9011f4674399dce2568e3630a", func := "loop.example/g00871/laws.FnExactDegeneracyOf", spec := "fnExactDegeneracyOf", named := ["math/bits.deBruijn32tab"], apart := false, laid := [("math/bits.deBruijn32tab", laid_math_bits_deBruijn32tab)] }
def FnExactDegeneracyOfSaid : Prop := fnExactDegeneracyOfRow.holds Tryd.pinned (OpenSpec.ofChange fnExactDegeneracyOfSpec)

/-- ITS FALSE NEIGHBOUR: 'it returns false'. Refute it at one input. -/
def fnExactDegeneracyOfWrong : ChangeSpec := { name := "fnExactDegeneracyOf", fn := fun _ => fun
  | [d] => { results := [.lit (.bool false)], args := [d] }
  | _ => none }
def FnExactDegeneracyOfWrongFalsely : Prop := fnExactDegeneracyOfRow.holds Tryd.pinned (OpenSpec.ofChange fnExactDegeneracyOfWrong)

/-- 'laws.FnExactChordalIn': WHATEVER THE INPUT: true; the input reads as it did. -/
def fnExactChordalInSpec : ChangeSpec := { name := "fnExactChordalIn", fn := fun _ => fun
  | [d] => { results := [.lit (.bool true)], args := [d] }
  | _ => none }
def fnExactChordalInRow : OpenClaim := { program := "ytlnhfafnhclolaadoor", sum := "7b695fd560c2ae22cd430e600be03a2137e70ec9011f4674399dce2568e3630a", func := "loop.example/g00871/laws.FnExactChordalIn", spec := "fnExactChordalIn", named := ["math/bits.deBruijn32tab"], apart := false, laid := [("math/bits.deBruijn32tab", laid_math_bits_deBruijn32tab)] }
def FnExactChordalInSaid : Prop := fnExactChordalInRow.holds Tryd.pinned (OpenSpec.ofChange fnExactChordalInSpec)

/-- ITS FALSE NEIGHBOUR: 'it returns false'. Refute it at one input. -/
def fnExactChordalInWrong : ChangeSpec := { name := "fnExactChordalIn", fn := fun _ => fun
  | [d] => { results := [.lit (.bool false)], args := [d] }
  | _ => none }
def FnExactChordalInWrongFalsely : Prop := fnExactChordalInRow.holds Tryd.pinned (OpenSpec.ofChange fnExactChordalInWrong)

/-- 'laws.FnExactTransitiveIn': WHATEVER THE INPUT: true; the input reads as it did. -/
def fnExactTransitiveInSpec : ChangeSpec := { name := "fnExactTransitiveIn", fn := fun _ => fun
  | [d1, d2] => { results := [.lit (.bool true)], args := [d1, d2] }
  | _ => none }
def fnExactTransitiveInRow : OpenClaim := { program := "ytlnhfafnhclolaadoor", sum := "7b695fd560c2ae22cd430e600be03a2137e70ec9011f4674399dce2568e3630a", func := "loop.example/g00871/laws.FnExactTransitiveIn", spec := "fnExactTransitiveIn", named := ["math/bits.deBruijn32tab"], apart := false, laid := [("math/bits.deBruijn32tab", laid_math_bits_deBruijn32tab)] }
def FnExactTransitiveInSaid : Prop := fnExactTransitiveInRow.holds Tryd.pinned (OpenSpec.ofChange fnExactTransitiveInSpec)

/-- ITS FALSE NEIGHBOUR: 'it returns false'. Refute it at one input. -/
def fnExactTransitiveInWrong : ChangeSpec := { name := "fnExactTransitiveIn", fn := fun _ => fun
  | [d1, d2] => { results := [.lit (.bool false)], args := [d1, d2] }
  | _ => none }
def FnExactTransitiveInWrongFalsely : Prop := fnExactTransitiveInRow.holds Tryd.pinned (OpenSpec.ofChange fnExactTransitiveInWrong)

/-- 'laws.FnExactDistancesFrom': WHATEVER THE INPUT: true; the input reads as it did. -/
def fnExactDistancesFromSpec : ChangeSpec := { name := "fnExactDistancesFrom", fn := fun _ => fun
  | [d1, d2] => { results := [.lit (.bool true)], args := [d1, d2] }
  | _ => none }
def fnExactDistancesFromRow : OpenClaim := { program := "ytlnhfafnhclolaadoor", sum := "7b695fd560c2ae22cd430e600be03a2137e70ec9011f4674399dce2568e3630a", func := "loop.example/g00871/laws.FnExactDistancesFrom", spec := "fnExactDistancesFrom", named := ["math/bits.deBruijn32tab"], apart := false, laid := [("math/bits.deBruijn32tab", laid_math_bits_deBruijn32tab)] }
def FnExactDistancesFromSaid : Prop := fnExactDistancesFromRow.holds Tryd.pinned (OpenSpec.ofChange fnExactDistancesFromSpec)

/-- ITS FALSE NEIGHBOUR: 'it returns false'. Refute it at one input. -/
def fnExactDistancesFromWrong : ChangeSpec := { name := "fnExactDistancesFrom", fn := fun _ => fun
  | [d1, d2] => { results := [.lit (.bool false)], args := [d1, d2] }
  | _ => none }
def FnExactDistancesFromWrongFalsely : Prop := fnExactDistancesFromRow.holds Tryd.pinned (OpenSpec.ofChange fnExactDistancesFromWrong)

/-- 'laws.FnExactPerfectOrder': WHATEVER THE INPUT: true; the input reads as it did. -/
def fnExactPerfectOrderSpec : ChangeSpec := { name := "fnExactPerfectOrder", fn := fun _ => fun
  | [d] => { results := [.lit (.bool true)], args := [d] }
  | _ => none }
def fnExactPerfectOrderRow : OpenClaim := { program := "ytlnhfafnhclolaadoor", sum := "7b695fd560c2ae22cd430e600be03a2137e70ec9011f4674399dce2568e3630a", func := "loop.example/g00871/laws.FnExactPerfectOrder", spec := "fnExactPerfectOrder", named := ["math/bits.deBruijn32tab"], apart := false, laid := [("math/bits.deBruijn32tab", laid_math_bits_deBruijn32tab)] }
def FnExactPerfectOrderSaid : Prop := fnExactPerfectOrderRow.holds Tryd.pinned (OpenSpec.ofChange fnExactPerfectOrderSpec)

/-- ITS FALSE NEIGHBOUR: 'it returns false'. Refute it at one input. -/
def fnExactPerfectOrderWrong : ChangeSpec := { name := "fnExactPerfectOrder", fn := fun _ => fun
  | [d] => { results := [.lit (.bool false)], args := [d] }
  | _ => none }
def FnExactPerfectOrderWrongFalsely : Prop := fnExactPerfectOrderRow.holds Tryd.pinned (OpenSpec.ofChange fnExactPerfectOrderWrong)

/-- 'laws.FnExactBrambleOk': WHATEVER THE INPUT: true; the input reads as it did. -/
def fnExactBrambleOkSpec : ChangeSpec := { name := "fnExactBrambleOk", fn := fun _ => fun
  | [d1, d2] => { results := [.lit (.bool true)], args := [d1, d2] }
  | _ => none }
def fnExactBrambleOkRow : OpenClaim := { program := "ytlnhfafnhclolaadoor", sum := "7b695fd560c2ae22cd430e600be03a2137e70ec9011f4674399dce2568e3630a", func := "loop.example/g00871/laws.FnExactBrambleOk", spec := "fnExactBrambleOk", named := ["math/bits.deBruijn32tab"], apart := false, laid := [("math/bits.deBruijn32tab", laid_math_bits_deBruijn32tab)] }
def FnExactBrambleOkSaid : Prop := fnExactBrambleOkRow.holds Tryd.pinned (OpenSpec.ofChange fnExactBrambleOkSpec)

/-- ITS FALSE NEIGHBOUR: 'it returns false'. Refute it at one input. -/
def fnExactBrambleOkWrong : ChangeSpec := { name := "fnExactBrambleOk", fn := fun _ => fun
  | [d1, d2] => { results := [.lit (.bool false)], args := [d1, d2] }
  | _ => none }
def FnExactBrambleOkWrongFalsely : Prop := fnExactBrambleOkRow.holds Tryd.pinned (OpenSpec.ofChange fnExactBrambleOkWrong)

/-- 'laws.FnExactAroundPath': WHATEVER THE INPUT: true; the input reads as it did. -/
def fnExactAroundPathSpec : ChangeSpec := { name := "fnExactAroundPath", fn := fun _ => fun
  | [d1, d2, d3, d4] => { results := [.lit (.bool true)], args := [d1, d2, d3, d4] }
  | _ => none }
def fnExactAroundPathRow : OpenClaim := { program := "ytlnhfafnhclolaadoor", sum := "7b695fd560c2ae22cd430e600be03a2137e70ec9011f4674399dce2568e3630a", func := "loop.example/g00871/laws.FnExactAroundPath", spec := "fnExactAroundPath", named := ["math/bits.deBruijn32tab"], apart := false, laid := [("math/bits.deBruijn32tab", laid_math_bits_deBruijn32tab)] }
def FnExactAroundPathSaid : Prop := fnExactAroundPathRow.holds Tryd.pinned (OpenSpec.ofChange fnExactAroundPathSpec)

/-- ITS FALSE NEIGHBOUR: 'it returns false'. Refute it at one input. -/
def fnExactAroundPathWrong : ChangeSpec := { name := "fnExactAroundPath", fn := fun _ => fun
  | [d1, d2, d3, d4] => { results := [.lit (.bool false)], args := [d1, d2, d3, d4] }
  | _ => none }
def FnExactAroundPathWrongFalsely : Prop := fnExactAroundPathRow.holds Tryd.pinned (OpenSpec.ofChange fnExactAroundPathWrong)

/-- 'laws.FnExactPathOf': WHATEVER THE INPUT: true; the input reads as it did. -/
def fnExactPathOfSpec : ChangeSpec := { name := "fnExactPathOf", fn := fun _ => fun
  | [d1, d2, d3] => { results := [.lit (.bool true)], args := [d1, d2, d3] }
  | _ => none }
def fnExactPathOfRow : OpenClaim := { program := "ytlnhfafnhclolaadoor", sum := "7b695fd560c2ae22cd430e600be03a2137e70ec9011f4674399dce2568e3630a", func := "loop.example/g00871/laws.FnExactPathOf", spec := "fnExactPathOf", named := ["math/bits.deBruijn32tab"], apart := false, laid := [("math/bits.deBruijn32tab", laid_math_bits_deBruijn32tab)] }
def FnExactPathOfSaid : Prop := fnExactPathOfRow.holds Tryd.pinned (OpenSpec.ofChange fnExactPathOfSpec)

/-- ITS FALSE NEIGHBOUR: 'it returns false'. Refute it at one input. -/
def fnExactPathOfWrong : ChangeSpec := { name := "fnExactPathOf", fn := fun _ => fun
  | [d1, d2, d3] => { results := [.lit (.bool false)], args := [d1, d2, d3] }
  | _ => none }
def FnExactPathOfWrongFalsely : Prop := fnExactPathOfRow.holds Tryd.pinned (OpenSpec.ofChange fnExactPathOfWrong)

/- THE SECOND FORM. 'bulk': how many values and letters a reading holds, each counted each time it is reached (what is shared counts as often as it is met; a slice's spare places count too). A statement '..UptoSaid' is the law's where the arguments, and the package variables that the reading takes, are together of bulk at most 1048576: NARROWER than '..Said'. Prove '..Said' where nothing that the law and all that it calls make is longer than what came in: it says more and counts as full. Else prove '..UptoSaid'. A law counts once. -/
mutual
def uptoBulk {H : Type} : DataW H → Nat
  | .lit (.string bytes) => bytes.length + 1
  | .lit _ => 1
  | .nil => 1
  | .ptr d => uptoBulk d + 1
  | .slice elems spare => uptoBulkAll elems + uptoBulkAll spare + 1
  | .agg parts => uptoBulkAll parts + 1
  | .iface _ d => uptoBulk d + 1
  | .map entries => uptoBulkEntries entries + 1
  | .held _ => 1
def uptoBulkAll {H : Type} : List (DataW H) → Nat
  | [] => 0
  | d :: r => uptoBulk d + uptoBulkAll r
def uptoBulkEntries {H : Type} : List (Lit × DataW H) → Nat
  | [] => 0
  | x :: r => uptoBulkEntry x + uptoBulkEntries r
def uptoBulkEntry {H : Type} : Lit × DataW H → Nat
  | (.string bytes, d) => bytes.length + uptoBulk d + 1
  | (_, d) => uptoBulk d + 1
 end
def uptoSmall : (H : Type) → List (DataW H) → Bool := fun _ ds => decide (uptoBulkAll ds ≤ 1048576)
def OpenSpec.upto (s : _root_.Go.ChangeSpec) : _root_.Go.OpenSpec := { _root_.Go.OpenSpec.ofChange s with cond := some uptoSmall }

/-- 'laws.FnExactCliqueOk', WHERE WHAT IT READS IS OF BULK AT MOST 1048576: true; the input reads as it did. -/
def fnExactCliqueOkUptoRow : OpenClaim := { program := "ytlnhfafnhclolaadoor", sum := "7b695fd560c2ae22cd430e600be03a2137e70ec9011f4674399dce2568e3630a", func := "loop.example/g00871/laws.FnExactCliqueOk", spec := "fnExactCliqueOk", named := ["math/bits.deBruijn32tab"], apart := false, laid := [("math/bits.deBruijn32tab", laid_math_bits_deBruijn32tab)], narrowed := true }
def FnExactCliqueOkUptoSaid : Prop := fnExactCliqueOkUptoRow.holds Tryd.pinned (OpenSpec.upto fnExactCliqueOkSpec)

/-- 'laws.FnExactTouchIn', WHERE WHAT IT READS IS OF BULK AT MOST 1048576: true; the input reads as it did. -/
def fnExactTouchInUptoRow : OpenClaim := { program := "ytlnhfafnhclolaadoor", sum := "7b695fd560c2ae22cd430e600be03a2137e70ec9011f4674399dce2568e3630a", func := "loop.example/g00871/laws.FnExactTouchIn", spec := "fnExactTouchIn", named := ["math/bits.deBruijn32tab"], apart := false, laid := [("math/bits.deBruijn32tab", laid_math_bits_deBruijn32tab)], narrowed := true }
def FnExactTouchInUptoSaid : Prop := fnExactTouchInUptoRow.holds Tryd.pinned (OpenSpec.upto fnExactTouchInSpec)

/-- 'laws.FnExactUpOk', WHERE WHAT IT READS IS OF BULK AT MOST 1048576: true; the input reads as it did. -/
def fnExactUpOkUptoRow : OpenClaim := { program := "ytlnhfafnhclolaadoor", sum := "7b695fd560c2ae22cd430e600be03a2137e70ec9011f4674399dce2568e3630a", func := "loop.example/g00871/laws.FnExactUpOk", spec := "fnExactUpOk", named := ["math/bits.deBruijn32tab"], apart := false, laid := [("math/bits.deBruijn32tab", laid_math_bits_deBruijn32tab)], narrowed := true }
def FnExactUpOkUptoSaid : Prop := fnExactUpOkUptoRow.holds Tryd.pinned (OpenSpec.upto fnExactUpOkSpec)

/-- 'laws.FnExactConnectedIn', WHERE WHAT IT READS IS OF BULK AT MOST 1048576: true; the input reads as it did. -/
def fnExactConnectedInUptoRow : OpenClaim := { program := "ytlnhfafnhclolaadoor", sum := "7b695fd560c2ae22cd430e600be03a2137e70ec9011f4674399dce2568e3630a", func := "loop.example/g00871/laws.FnExactConnectedIn", spec := "fnExactConnectedIn", named := ["math/bits.deBruijn32tab"], apart := false, laid := [("math/bits.deBruijn32tab", laid_math_bits_deBruijn32tab)], narrowed := true }
def FnExactConnectedInUptoSaid : Prop := fnExactConnectedInUptoRow.holds Tryd.pinned (OpenSpec.upto fnExactConnectedInSpec)

/-- 'laws.FnExactDegeneracyOf', WHERE WHAT IT READS IS OF BULK AT MOST 1048576: true; the input reads as it did. -/
def fnExactDegeneracyOfUptoRow : OpenClaim := { program := "ytlnhfafnhclolaadoor", sum := "7b695fd560c2ae22cd430e600be03a2137e70ec9011f4674399dce2568e3630a", func := "loop.example/g00871/laws.FnExactDegeneracyOf", spec := "fnExactDegeneracyOf", named := ["math/bits.deBruijn32tab"], apart := false, laid := [("math/bits.deBruijn32tab", laid_math_bits_deBruijn32tab)], narrowed := true }
def FnExactDegeneracyOfUptoSaid : Prop := fnExactDegeneracyOfUptoRow.holds Tryd.pinned (OpenSpec.upto fnExactDegeneracyOfSpec)

/-- 'laws.FnExactChordalIn', WHERE WHAT IT READS IS OF BULK AT MOST 1048576: true; the input reads as it did. -/
def fnExactChordalInUptoRow : OpenClaim := { program := "ytlnhfafnhclolaadoor", sum := "7b695fd560c2ae22cd430e600be03a2137e70ec9011f4674399dce2568e3630a", func := "loop.example/g00871/laws.FnExactChordalIn", spec := "fnExactChordalIn", named := ["math/bits.deBruijn32tab"], apart := false, laid := [("math/bits.deBruijn32tab", laid_math_bits_deBruijn32tab)], narrowed := true }
def FnExactChordalInUptoSaid : Prop := fnExactChordalInUptoRow.holds Tryd.pinned (OpenSpec.upto fnExactChordalInSpec)

/-- 'laws.FnExactTransitiveIn', WHERE WHAT IT READS IS OF BULK AT MOST 1048576: true; the input reads as it did. -/
def fnExactTransitiveInUptoRow : OpenClaim := { program := "ytlnhfafnhclolaadoor", sum := "7b695fd560c2ae22cd430e600be03a2137e70ec9011f4674399dce2568e3630a", func := "loop.example/g00871/laws.FnExactTransitiveIn", spec := "fnExactTransitiveIn", named := ["math/bits.deBruijn32tab"], apart := false, laid := [("math/bits.deBruijn32tab", laid_math_bits_deBruijn32tab)], narrowed := true }
def FnExactTransitiveInUptoSaid : Prop := fnExactTransitiveInUptoRow.holds Tryd.pinned (OpenSpec.upto fnExactTransitiveInSpec)

/-- 'laws.FnExactDistancesFrom', WHERE WHAT IT READS IS OF BULK AT MOST 1048576: true; the input reads as it did. -/
def fnExactDistancesFromUptoRow : OpenClaim := { program := "ytlnhfafnhclolaadoor", sum := "7b695fd560c2ae22cd430e600be03a2137e70ec9011f4674399dce2568e3630a", func := "loop.example/g00871/laws.FnExactDistancesFrom", spec := "fnExactDistancesFrom", named := ["math/bits.deBruijn32tab"], apart := false, laid := [("math/bits.deBruijn32tab", laid_math_bits_deBruijn32tab)], narrowed := true }
def FnExactDistancesFromUptoSaid : Prop := fnExactDistancesFromUptoRow.holds Tryd.pinned (OpenSpec.upto fnExactDistancesFromSpec)

/-- 'laws.FnExactPerfectOrder', WHERE WHAT IT READS IS OF BULK AT MOST 1048576: true; the input reads as it did. -/
def fnExactPerfectOrderUptoRow : OpenClaim := { program := "ytlnhfafnhclolaadoor", sum := "7b695fd560c2ae22cd430e600be03a2137e70ec9011f4674399dce2568e3630a", func := "loop.example/g00871/laws.FnExactPerfectOrder", spec := "fnExactPerfectOrder", named := ["math/bits.deBruijn32tab"], apart := false, laid := [("math/bits.deBruijn32tab", laid_math_bits_deBruijn32tab)], narrowed := true }
def FnExactPerfectOrderUptoSaid : Prop := fnExactPerfectOrderUptoRow.holds Tryd.pinned (OpenSpec.upto fnExactPerfectOrderSpec)

/-- 'laws.FnExactBrambleOk', WHERE WHAT IT READS IS OF BULK AT MOST 1048576: true; the input reads as it did. -/
def fnExactBrambleOkUptoRow : OpenClaim := { program := "ytlnhfafnhclolaadoor", sum := "7b695fd560c2ae22cd430e600be03a2137e70ec9011f4674399dce2568e3630a", func := "loop.example/g00871/laws.FnExactBrambleOk", spec := "fnExactBrambleOk", named := ["math/bits.deBruijn32tab"], apart := false, laid := [("math/bits.deBruijn32tab", laid_math_bits_deBruijn32tab)], narrowed := true }
def FnExactBrambleOkUptoSaid : Prop := fnExactBrambleOkUptoRow.holds Tryd.pinned (OpenSpec.upto fnExactBrambleOkSpec)

/-- 'laws.FnExactAroundPath', WHERE WHAT IT READS IS OF BULK AT MOST 1048576: true; the input reads as it did. -/
def fnExactAroundPathUptoRow : OpenClaim := { program := "ytlnhfafnhclolaadoor", sum := "7b695fd560c2ae22cd430e600be03a2137e70ec9011f4674399dce2568e3630a", func := "loop.example/g00871/laws.FnExactAroundPath", spec := "fnExactAroundPath", named := ["math/bits.deBruijn32tab"], apart := false, laid := [("math/bits.deBruijn32tab", laid_math_bits_deBruijn32tab)], narrowed := true }
def FnExactAroundPathUptoSaid : Prop := fnExactAroundPathUptoRow.holds Tryd.pinned (OpenSpec.upto fnExactAroundPathSpec)

/-- 'laws.FnExactPathOf', WHERE WHAT IT READS IS OF BULK AT MOST 1048576: true; the input reads as it did. -/
def fnExactPathOfUptoRow : OpenClaim := { program := "ytlnhfafnhclolaadoor", sum := "7b695fd560c2ae22cd430e600be03a2137e70ec9011f4674399dce2568e3630a", func := "loop.example/g00871/laws.FnExactPathOf", spec := "fnExactPathOf", named := ["math/bits.deBruijn32tab"], apart := false, laid := [("math/bits.deBruijn32tab", laid_math_bits_deBruijn32tab)], narrowed := true }
def FnExactPathOfUptoSaid : Prop := fnExactPathOfUptoRow.holds Tryd.pinned (OpenSpec.upto fnExactPathOfSpec)

end Rows
end Go.Proofs.YtlnhfafnhclolaaDoor
