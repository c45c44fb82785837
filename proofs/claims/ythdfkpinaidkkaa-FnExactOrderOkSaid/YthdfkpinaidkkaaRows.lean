/-
  No cell of these rows narrows 'for every input' (looked for: loops, veiled, ifaces, maps, wideKeys, modest, calm, conditions, laid).
  DERIVED. THE GIVEN ROWS OF THIS SEAT. 7 by the template 'for every input the law returns true; each argument reads behind the call as it read before'; 0 by the template 'total and deterministic' (their statements: YthdfkpinaidkkaaTotals.lean).
  GIVEN WITH THE SEED: the statements are not yours to turn. If you find one false, say at which input.
  Laid BY PROGRAM, IN A SANDBOX (cutbox-rows.mjs): the forced cells as the released guide's own fill.sh prints them over the translation c68eb18fba039262… (all of the seat's roots in one cut). By AI agents, Wed Nov 11 2026. No macro, syntax, notation, axiom, sorry.
-/
import Derived.Test.YthdfkpinaidkkaaChecked
import GoSem.Claim
import GoSem.ClaimJoined
import GoSem.ClaimMapViews
import Derived.JoinedTies
import Derived.KernelRfl
namespace Go.Proofs.Ythdfkpinaidkkaa
/- THE CELL 'sum', in the pinned program and in every row, IS THE sha256 OF THE DUMP (.gsa) THAT YthdfkpinaidkkaaProg.lean LOADS. Nothing in Lean hashes anything: it is a label: what it is worth is what the hold of that sum in a sandbox is worth. -/
noncomputable def Try.pinned : Pinned := { name := "ythdfkpinaidkkaa", sum := "c68eb18fba03926289a51d616aaaff758374cfc5373fb10f3ea6772587b6f84a", checked := Try.checked }
namespace Rows
def none {H : Type} : Left H := { results := [], args := [] }

/-- 'laws.FnExactRowsText': WHATEVER THE INPUT: true; the input reads as it did. -/
def fnExactRowsTextSpec : ChangeSpec := { name := "fnExactRowsText", fn := fun _ => fun
  | [d] => { results := [.lit (.bool true)], args := [d] }
  | _ => none }
def fnExactRowsTextRow : OpenClaim := { program := "ythdfkpinaidkkaa", sum := "c68eb18fba03926289a51d616aaaff758374cfc5373fb10f3ea6772587b6f84a", func := "loop.example/g00871/laws.FnExactRowsText", spec := "fnExactRowsText", apart := false }
def FnExactRowsTextSaid : Prop := fnExactRowsTextRow.holds Try.pinned (OpenSpec.ofChange fnExactRowsTextSpec)

/-- ITS FALSE NEIGHBOUR: 'it returns false'. Refute it at one input. -/
def fnExactRowsTextWrong : ChangeSpec := { name := "fnExactRowsText", fn := fun _ => fun
  | [d] => { results := [.lit (.bool false)], args := [d] }
  | _ => none }
def FnExactRowsTextWrongFalsely : Prop := fnExactRowsTextRow.holds Try.pinned (OpenSpec.ofChange fnExactRowsTextWrong)

/-- 'laws.FnExactMeetsOf': WHATEVER THE INPUT: true; the input reads as it did. -/
def fnExactMeetsOfSpec : ChangeSpec := { name := "fnExactMeetsOf", fn := fun _ => fun
  | [d] => { results := [.lit (.bool true)], args := [d] }
  | _ => none }
def fnExactMeetsOfRow : OpenClaim := { program := "ythdfkpinaidkkaa", sum := "c68eb18fba03926289a51d616aaaff758374cfc5373fb10f3ea6772587b6f84a", func := "loop.example/g00871/laws.FnExactMeetsOf", spec := "fnExactMeetsOf", unfollowed := true, recurses := true, apart := false }
def FnExactMeetsOfSaid : Prop := fnExactMeetsOfRow.holds Try.pinned (OpenSpec.ofChange fnExactMeetsOfSpec)

/-- ITS FALSE NEIGHBOUR: 'it returns false'. Refute it at one input. -/
def fnExactMeetsOfWrong : ChangeSpec := { name := "fnExactMeetsOf", fn := fun _ => fun
  | [d] => { results := [.lit (.bool false)], args := [d] }
  | _ => none }
def FnExactMeetsOfWrongFalsely : Prop := fnExactMeetsOfRow.holds Try.pinned (OpenSpec.ofChange fnExactMeetsOfWrong)

/-- 'laws.FnExactCodeOf': WHATEVER THE INPUT: true; the input reads as it did. -/
def fnExactCodeOfSpec : ChangeSpec := { name := "fnExactCodeOf", fn := fun _ => fun
  | [d] => { results := [.lit (.bool true)], args := [d] }
  | _ => none }
def fnExactCodeOfRow : OpenClaim := { program := "ythdfkpinaidkkaa", sum := "c68eb18fba03926289a51d616aaaff758374cfc5373fb10f3ea6772587b6f84a", func := "loop.example/g00871/laws.FnExactCodeOf", spec := "fnExactCodeOf", apart := false }
def FnExactCodeOfSaid : Prop := fnExactCodeOfRow.holds Try.pinned (OpenSpec.ofChange fnExactCodeOfSpec)

/-- ITS FALSE NEIGHBOUR: 'it returns false'. Refute it at one input. -/
def fnExactCodeOfWrong : ChangeSpec := { name := "fnExactCodeOf", fn := fun _ => fun
  | [d] => { results := [.lit (.bool false)], args := [d] }
  | _ => none }
def FnExactCodeOfWrongFalsely : Prop := fnExactCodeOfRow.holds Try.pinned (OpenSpec.ofChange fnExactCodeOfWrong)

/-- 'laws.FnExactPathBagsOk': WHATEVER THE INPUT: true; the input reads as it did. -/
def fnExactPathBagsOkSpec : ChangeSpec := { name := "fnExactPathBagsOk", fn := fun _ => fun
  | [d1, d2] => { results := [.lit (.bool true)], args := [d1, d2] }
  | _ => none }
def fnExactPathBagsOkRow : OpenClaim := { program := "ythdfkpinaidkkaa", sum := "c68eb18fba03926289a51d616aaaff758374cfc5373fb10f3ea6772587b6f84a", func := "loop.example/g00871/laws.FnExactPathBagsOk", spec := "fnExactPathBagsOk", apart := false }
def FnExactPathBagsOkSaid : Prop := fnExactPathBagsOkRow.holds Try.pinned (OpenSpec.ofChange fnExactPathBagsOkSpec)

/-- ITS FALSE NEIGHBOUR: 'it returns false'. Refute it at one input. -/
def fnExactPathBagsOkWrong : ChangeSpec := { name := "fnExactPathBagsOk", fn := fun _ => fun
  | [d1, d2] => { results := [.lit (.bool false)], args := [d1, d2] }
  | _ => none }
def FnExactPathBagsOkWrongFalsely : Prop := fnExactPathBagsOkRow.holds Try.pinned (OpenSpec.ofChange fnExactPathBagsOkWrong)

/-- 'laws.FnExactChordlessOk': WHATEVER THE INPUT: true; the input reads as it did. -/
def fnExactChordlessOkSpec : ChangeSpec := { name := "fnExactChordlessOk", fn := fun _ => fun
  | [d1, d2] => { results := [.lit (.bool true)], args := [d1, d2] }
  | _ => none }
def fnExactChordlessOkRow : OpenClaim := { program := "ythdfkpinaidkkaa", sum := "c68eb18fba03926289a51d616aaaff758374cfc5373fb10f3ea6772587b6f84a", func := "loop.example/g00871/laws.FnExactChordlessOk", spec := "fnExactChordlessOk", apart := false }
def FnExactChordlessOkSaid : Prop := fnExactChordlessOkRow.holds Try.pinned (OpenSpec.ofChange fnExactChordlessOkSpec)

/-- ITS FALSE NEIGHBOUR: 'it returns false'. Refute it at one input. -/
def fnExactChordlessOkWrong : ChangeSpec := { name := "fnExactChordlessOk", fn := fun _ => fun
  | [d1, d2] => { results := [.lit (.bool false)], args := [d1, d2] }
  | _ => none }
def FnExactChordlessOkWrongFalsely : Prop := fnExactChordlessOkRow.holds Try.pinned (OpenSpec.ofChange fnExactChordlessOkWrong)

/-- 'laws.FnExactOrderOk': WHATEVER THE INPUT: true; the input reads as it did. -/
def fnExactOrderOkSpec : ChangeSpec := { name := "fnExactOrderOk", fn := fun _ => fun
  | [d1, d2] => { results := [.lit (.bool true)], args := [d1, d2] }
  | _ => none }
def fnExactOrderOkRow : OpenClaim := { program := "ythdfkpinaidkkaa", sum := "c68eb18fba03926289a51d616aaaff758374cfc5373fb10f3ea6772587b6f84a", func := "loop.example/g00871/laws.FnExactOrderOk", spec := "fnExactOrderOk", unfollowed := true, recurses := true, apart := false }
def FnExactOrderOkSaid : Prop := fnExactOrderOkRow.holds Try.pinned (OpenSpec.ofChange fnExactOrderOkSpec)

/-- ITS FALSE NEIGHBOUR: 'it returns false'. Refute it at one input. -/
def fnExactOrderOkWrong : ChangeSpec := { name := "fnExactOrderOk", fn := fun _ => fun
  | [d1, d2] => { results := [.lit (.bool false)], args := [d1, d2] }
  | _ => none }
def FnExactOrderOkWrongFalsely : Prop := fnExactOrderOkRow.holds Try.pinned (OpenSpec.ofChange fnExactOrderOkWrong)

/-- 'laws.FnExactDegreesOf': WHATEVER THE INPUT: true; the input reads as it did. -/
def fnExactDegreesOfSpec : ChangeSpec := { name := "fnExactDegreesOf", fn := fun _ => fun
  | [d] => { results := [.lit (.bool true)], args := [d] }
  | _ => none }
def fnExactDegreesOfRow : OpenClaim := { program := "ythdfkpinaidkkaa", sum := "c68eb18fba03926289a51d616aaaff758374cfc5373fb10f3ea6772587b6f84a", func := "loop.example/g00871/laws.FnExactDegreesOf", spec := "fnExactDegreesOf", recurses := true, apart := false }
def FnExactDegreesOfSaid : Prop := fnExactDegreesOfRow.holds Try.pinned (OpenSpec.ofChange fnExactDegreesOfSpec)

/-- ITS FALSE NEIGHBOUR: 'it returns false'. Refute it at one input. -/
def fnExactDegreesOfWrong : ChangeSpec := { name := "fnExactDegreesOf", fn := fun _ => fun
  | [d] => { results := [.lit (.bool false)], args := [d] }
  | _ => none }
def FnExactDegreesOfWrongFalsely : Prop := fnExactDegreesOfRow.holds Try.pinned (OpenSpec.ofChange fnExactDegreesOfWrong)

/- THE SECOND FORM. 'bulk': how many values and letters a reading holds, each counted each time it is reached (what is shared counts as often as it is met; a slice's spare places count too). A statement '..UptoSaid' is the law's where the arguments, and the package variables that the reading takes, are together of bulk at most 1048576: NARROWER than '..Said'. Prove '..Said' where nothing that the law and all that it calls make is longer than what came in: it says more and counts as full. Else prove '..UptoSaid'. A law counts once. -/
mutual
def uptoBulk {H : Type} : DataW H → Nat
  | .lit (.string bytes) => bytes.length + 1
  | .lit _ => 1
  | .nil => 1
  | .ptr d => uptoBulk d + 1
  | .slice elems spare => uptoBulkAll elems + uptoBulkAll spare + 1
  | .agg parts => uptoBulkAll parts + 1
  | .iface _ d => uptoBulk d + 1
  | .map entries => uptoBulkEntries entries + 1
  | .held _ => 1
def uptoBulkAll {H : Type} : List (DataW H) → Nat
  | [] => 0
  | d :: r => uptoBulk d + uptoBulkAll r
def uptoBulkEntries {H : Type} : List (Lit × DataW H) → Nat
  | [] => 0
  | x :: r => uptoBulkEntry x + uptoBulkEntries r
def uptoBulkEntry {H : Type} : Lit × DataW H → Nat
  | (.string bytes, d) => bytes.length + uptoBulk d + 1
  | (_, d) => uptoBulk d + 1
 end
def uptoSmall : (H : Type) → List (DataW H) → Bool := fun _ ds => decide (uptoBulkAll ds ≤ 1048576)
def OpenSpec.upto (s : _root_.Go.ChangeSpec) : _root_.Go.OpenSpec := { _root_.Go.OpenSpec.ofChange s with cond := some uptoSmall }

/-- 'laws.FnExactRowsText', WHERE WHAT IT READS IS OF BULK AT MOST 1048576: true; the input reads as it did. -/
def fnExactRowsTextUptoRow : OpenClaim := { program := "ythdfkpinaidkkaa", sum := "c68eb18fba03926289a51d616aaaff758374cfc5373fb10f3ea6772587b6f84a", func := "loop.example/g00871/laws.FnExactRowsText", spec := "fnExactRowsText", apart := false, narrowed := true }
def FnExactRowsTextUptoSaid : Prop := fnExactRowsTextUptoRow.holds Try.pinned (OpenSpec.upto fnExactRowsTextSpec)

/-- 'laws.FnExactMeetsOf', WHERE WHAT IT READS IS OF BULK AT MOST 1048576: true; the input reads as it did. -/
def fnExactMeetsOfUptoRow : OpenClaim := { program := "ythdfkpinaidkkaa", sum := "c68eb18fba03926289a51d616aaaff758374cfc5373fb10f3ea6772587b6f84a", func := "loop.example/g00871/laws.FnExactMeetsOf", spec := "fnExactMeetsOf", unfollowed := true, recurses := true, apart := false, narrowed := true }
def FnExactMeetsOfUptoSaid : Prop := fnExactMeetsOfUptoRow.holds Try.pinned (OpenSpec.upto fnExactMeetsOfSpec)

/-- 'laws.FnExactCodeOf', WHERE WHAT IT READS IS OF BULK AT MOST 1048576: true; the input reads as it did. -/
def fnExactCodeOfUptoRow : OpenClaim := { program := "ythdfkpinaidkkaa", sum := "c68eb18fba03926289a51d616aaaff758374cfc5373fb10f3ea6772587b6f84a", func := "loop.example/g00871/laws.FnExactCodeOf", spec := "fnExactCodeOf", apart := false, narrowed := true }
def FnExactCodeOfUptoSaid : Prop := fnExactCodeOfUptoRow.holds Try.pinned (OpenSpec.upto fnExactCodeOfSpec)

/-- 'laws.FnExactPathBagsOk', WHERE WHAT IT READS IS OF BULK AT MOST 1048576: true; the input reads as it did. -/
def fnExactPathBagsOkUptoRow : OpenClaim := { program := "ythdfkpinaidkkaa", sum := "c68eb18fba03926289a51d616aaaff758374cfc5373fb10f3ea6772587b6f84a", func := "loop.example/g00871/laws.FnExactPathBagsOk", spec := "fnExactPathBagsOk", apart := false, narrowed := true }
def FnExactPathBagsOkUptoSaid : Prop := fnExactPathBagsOkUptoRow.holds Try.pinned (OpenSpec.upto fnExactPathBagsOkSpec)

/-- 'laws.FnExactChordlessOk', WHERE WHAT IT READS IS OF BULK AT MOST 1048576: true; the input reads as it did. -/
def fnExactChordlessOkUptoRow : OpenClaim := { program := "ythdfkpinaidkkaa", sum := "c68eb18fba03926289a51d616aaaff758374cfc5373fb10f3ea6772587b6f84a", func := "loop.example/g00871/laws.FnExactChordlessOk", spec := "fnExactChordlessOk", apart := false, narrowed := true }
def FnExactChordlessOkUptoSaid : Prop := fnExactChordlessOkUptoRow.holds Try.pinned (OpenSpec.upto fnExactChordlessOkSpec)

/-- 'laws.FnExactOrderOk', WHERE WHAT IT READS IS OF BULK AT MOST 1048576: true; the input reads as it did. -/
def fnExactOrderOkUptoRow : OpenClaim := { program := "ythdfkpinaidkkaa", sum := "c68eb18fba03926289a51d616aaaff758374cfc5373fb10f3ea6772587b6f84a", func := "loop.example/g00871/laws.FnExactOrderOk", spec := "fnExactOrderOk", unfollowed := true, recurses := true, apart := false, narrowed := true }
def FnExactOrderOkUptoSaid : Prop := fnExactOrderOkUptoRow.holds Try.pinned (OpenSpec.upto fnExactOrderOkSpec)

/-- 'laws.FnExactDegreesOf', WHERE WHAT IT READS IS OF BULK AT MOST 1048576: true; the input reads as it did. -/
def fnExactDegreesOfUptoRow : OpenClaim := { program := "ythdfkpinaidkkaa", sum := "c68eb18fba03926289a51d616aaaff758374cfc5373fb10f3ea6772587b6f84a", func := "loop.example/g00871/laws.FnExactDegreesOf", spec := "fnExactDegreesOf", recurses := true, apart := false, narrowed := true }
def FnExactDegreesOfUptoSaid : Prop := fnExactDegreesOfUptoRow.holds Try.pinned (OpenSpec.upto fnExactDegreesOfSpec)

end Rows
end Go.Proofs.Ythdfkpinaidkkaa
