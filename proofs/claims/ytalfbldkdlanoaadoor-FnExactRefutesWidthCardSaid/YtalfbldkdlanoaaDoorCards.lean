/-
  DERIVED. GIVEN WITH THE SEED: THE CARDS: each row of YtalfbldkdlanoaaDoorRows.lean that lists a variable, with what it lists TIED to the program's text (the seventh form; the later family's looks); each row that meets fmt, with fmt's text TOLD by the authors' own Lean function (tested against real Go, not proved from fmt's source: count such statements apart). THE CARD IS WHAT COUNTS. Prove the row's statement (the work); the ties are given (YtalfbldkdlanoaaDoorTie.lean); close each card by the builder's one call (the guide's Derived/Test/ToyasCard.lean, 'card_holds'). Laid BY PROGRAM, IN A SANDBOX (cutbox-door.mjs). By AI agents, Wed Nov 11 2026. No macro, syntax, notation, axiom, sorry.
-/
import Derived.Test.YtalfbldkdlanoaaDoorRows
import GoSem.ClaimSeven
namespace Go.Proofs.YtalfbldkdlanoaaDoor
namespace Rows

/-- THE TIED CARD OF 'laws.FnExactPathWidth'. -/
def fnExactPathWidthCard : Claim7 := { stood := { row := fnExactPathWidthRow, standIns := [], harness := (true, "ca31510f5b17b7d6de184ff46fad5baabe2b3d8c18a63d7e6f35f8f90f377c6a"), looks := false }, kinds := [], alts := [], laidByText := true, laidKinds := [.data], laidTests := true, laidLooks := .later }
def FnExactPathWidthCardSaid : Prop := Claim7.holds Tryd.pinned (.plain (OpenSpec.ofChange fnExactPathWidthSpec)) fnExactPathWidthCard

/-- THE TIED CARD OF 'laws.FnExactOrderOfBags'. -/
def fnExactOrderOfBagsCard : Claim7 := { stood := { row := fnExactOrderOfBagsRow, standIns := [], harness := (true, "ca31510f5b17b7d6de184ff46fad5baabe2b3d8c18a63d7e6f35f8f90f377c6a"), looks := false }, kinds := [], alts := [], laidByText := true, laidKinds := [.data], laidTests := true, laidLooks := .later }
def FnExactOrderOfBagsCardSaid : Prop := Claim7.holds Tryd.pinned (.plain (OpenSpec.ofChange fnExactOrderOfBagsSpec)) fnExactOrderOfBagsCard

/-- THE TIED CARD OF 'laws.FnExactPathAtMost'. -/
def fnExactPathAtMostCard : Claim7 := { stood := { row := fnExactPathAtMostRow, standIns := [], harness := (true, "ca31510f5b17b7d6de184ff46fad5baabe2b3d8c18a63d7e6f35f8f90f377c6a"), looks := false }, kinds := [], alts := [], laidByText := true, laidKinds := [.data], laidTests := true, laidLooks := .later }
def FnExactPathAtMostCardSaid : Prop := Claim7.holds Tryd.pinned (.plain (OpenSpec.ofChange fnExactPathAtMostSpec)) fnExactPathAtMostCard

/-- THE TIED CARD OF 'laws.FnExactTouchesAll'. -/
def fnExactTouchesAllCard : Claim7 := { stood := { row := fnExactTouchesAllRow, standIns := [], harness := (true, "ca31510f5b17b7d6de184ff46fad5baabe2b3d8c18a63d7e6f35f8f90f377c6a"), looks := false }, kinds := [], alts := [], laidByText := true, laidKinds := [.data], laidTests := true, laidLooks := .later }
def FnExactTouchesAllCardSaid : Prop := Claim7.holds Tryd.pinned (.plain (OpenSpec.ofChange fnExactTouchesAllSpec)) fnExactTouchesAllCard

/-- THE TIED CARD OF 'laws.FnExactByDegree'. -/
def fnExactByDegreeCard : Claim7 := { stood := { row := fnExactByDegreeRow, standIns := [], harness := (true, "ca31510f5b17b7d6de184ff46fad5baabe2b3d8c18a63d7e6f35f8f90f377c6a"), looks := false }, kinds := [], alts := [], laidByText := true, laidKinds := [.data], laidTests := true, laidLooks := .later }
def FnExactByDegreeCardSaid : Prop := Claim7.holds Tryd.pinned (.plain (OpenSpec.ofChange fnExactByDegreeSpec)) fnExactByDegreeCard

/-- THE TIED CARD OF 'laws.FnExactByFill'. -/
def fnExactByFillCard : Claim7 := { stood := { row := fnExactByFillRow, standIns := [], harness := (true, "ca31510f5b17b7d6de184ff46fad5baabe2b3d8c18a63d7e6f35f8f90f377c6a"), looks := false }, kinds := [], alts := [], laidByText := true, laidKinds := [.data], laidTests := true, laidLooks := .later }
def FnExactByFillCardSaid : Prop := Claim7.holds Tryd.pinned (.plain (OpenSpec.ofChange fnExactByFillSpec)) fnExactByFillCard

/-- THE TIED CARD OF 'laws.FnExactSidesOf'. -/
def fnExactSidesOfCard : Claim7 := { stood := { row := fnExactSidesOfRow, standIns := [], harness := (true, "ca31510f5b17b7d6de184ff46fad5baabe2b3d8c18a63d7e6f35f8f90f377c6a"), looks := false }, kinds := [], alts := [], laidByText := true, laidKinds := [.data], laidTests := true, laidLooks := .later }
def FnExactSidesOfCardSaid : Prop := Claim7.holds Tryd.pinned (.plain (OpenSpec.ofChange fnExactSidesOfSpec)) fnExactSidesOfCard

/-- THE TIED CARD OF 'laws.FnExactBrambleOrder'. -/
def fnExactBrambleOrderCard : Claim7 := { stood := { row := fnExactBrambleOrderRow, standIns := [], harness := (true, "ca31510f5b17b7d6de184ff46fad5baabe2b3d8c18a63d7e6f35f8f90f377c6a"), looks := false }, kinds := [], alts := [], laidByText := true, laidKinds := [.data], laidTests := true, laidLooks := .later }
def FnExactBrambleOrderCardSaid : Prop := Claim7.holds Tryd.pinned (.plain (OpenSpec.ofChange fnExactBrambleOrderSpec)) fnExactBrambleOrderCard

/-- THE TIED CARD OF 'laws.FnExactRefutesWidth'. -/
def fnExactRefutesWidthCard : Claim7 := { stood := { row := fnExactRefutesWidthRow, standIns := [], harness := (true, "ca31510f5b17b7d6de184ff46fad5baabe2b3d8c18a63d7e6f35f8f90f377c6a"), looks := false }, kinds := [], alts := [], laidByText := true, laidKinds := [.data], laidTests := true, laidLooks := .later }
def FnExactRefutesWidthCardSaid : Prop := Claim7.holds Tryd.pinned (.plain (OpenSpec.ofChange fnExactRefutesWidthSpec)) fnExactRefutesWidthCard

/-- THE TIED CARD OF 'laws.FnPaths'. -/
def fnPathsCard : Claim7 := { stood := { row := fnPathsRow, standIns := [], harness := (true, "ca31510f5b17b7d6de184ff46fad5baabe2b3d8c18a63d7e6f35f8f90f377c6a"), looks := false }, kinds := [], alts := [], laidByText := true, laidKinds := [.data], laidTests := true, laidLooks := .later }
def FnPathsCardSaid : Prop := Claim7.holds Tryd.pinned (.plain (OpenSpec.ofChange fnPathsSpec)) fnPathsCard

/-- THE TIED CARD OF 'laws.FnPathWidth'. -/
def fnPathWidthCard : Claim7 := { stood := { row := fnPathWidthRow, standIns := [], harness := (true, "ca31510f5b17b7d6de184ff46fad5baabe2b3d8c18a63d7e6f35f8f90f377c6a"), looks := false }, kinds := [], alts := [], laidByText := true, laidKinds := [.data], laidTests := true, laidLooks := .later }
def FnPathWidthCardSaid : Prop := Claim7.holds Tryd.pinned (.plain (OpenSpec.ofChange fnPathWidthSpec)) fnPathWidthCard

/-- THE TIED CARD OF 'laws.FnExactSeparation'. -/
def fnExactSeparationCard : Claim7 := { stood := { row := fnExactSeparationRow, standIns := [], harness := (true, "ca31510f5b17b7d6de184ff46fad5baabe2b3d8c18a63d7e6f35f8f90f377c6a"), looks := false }, kinds := [], alts := [], laidByText := true, laidKinds := [.data], laidTests := true, laidLooks := .later }
def FnExactSeparationCardSaid : Prop := Claim7.holds Tryd.pinned (.plain (OpenSpec.ofChange fnExactSeparationSpec)) fnExactSeparationCard

/-- THE SECOND FORM's CARD OF 'laws.FnExactPathWidth'. -/
def fnExactPathWidthUptoCard : Claim7 := { stood := { row := fnExactPathWidthUptoRow, standIns := [], harness := (true, "ca31510f5b17b7d6de184ff46fad5baabe2b3d8c18a63d7e6f35f8f90f377c6a"), looks := false }, kinds := [], alts := [], laidByText := true, laidKinds := [.data], laidTests := true, laidLooks := .later }
def FnExactPathWidthUptoCardSaid : Prop := Claim7.holds Tryd.pinned (.plain (OpenSpec.upto fnExactPathWidthSpec)) fnExactPathWidthUptoCard

/-- THE SECOND FORM's CARD OF 'laws.FnExactOrderOfBags'. -/
def fnExactOrderOfBagsUptoCard : Claim7 := { stood := { row := fnExactOrderOfBagsUptoRow, standIns := [], harness := (true, "ca31510f5b17b7d6de184ff46fad5baabe2b3d8c18a63d7e6f35f8f90f377c6a"), looks := false }, kinds := [], alts := [], laidByText := true, laidKinds := [.data], laidTests := true, laidLooks := .later }
def FnExactOrderOfBagsUptoCardSaid : Prop := Claim7.holds Tryd.pinned (.plain (OpenSpec.upto fnExactOrderOfBagsSpec)) fnExactOrderOfBagsUptoCard

/-- THE SECOND FORM's CARD OF 'laws.FnExactPathAtMost'. -/
def fnExactPathAtMostUptoCard : Claim7 := { stood := { row := fnExactPathAtMostUptoRow, standIns := [], harness := (true, "ca31510f5b17b7d6de184ff46fad5baabe2b3d8c18a63d7e6f35f8f90f377c6a"), looks := false }, kinds := [], alts := [], laidByText := true, laidKinds := [.data], laidTests := true, laidLooks := .later }
def FnExactPathAtMostUptoCardSaid : Prop := Claim7.holds Tryd.pinned (.plain (OpenSpec.upto fnExactPathAtMostSpec)) fnExactPathAtMostUptoCard

/-- THE SECOND FORM's CARD OF 'laws.FnExactTouchesAll'. -/
def fnExactTouchesAllUptoCard : Claim7 := { stood := { row := fnExactTouchesAllUptoRow, standIns := [], harness := (true, "ca31510f5b17b7d6de184ff46fad5baabe2b3d8c18a63d7e6f35f8f90f377c6a"), looks := false }, kinds := [], alts := [], laidByText := true, laidKinds := [.data], laidTests := true, laidLooks := .later }
def FnExactTouchesAllUptoCardSaid : Prop := Claim7.holds Tryd.pinned (.plain (OpenSpec.upto fnExactTouchesAllSpec)) fnExactTouchesAllUptoCard

/-- THE SECOND FORM's CARD OF 'laws.FnExactByDegree'. -/
def fnExactByDegreeUptoCard : Claim7 := { stood := { row := fnExactByDegreeUptoRow, standIns := [], harness := (true, "ca31510f5b17b7d6de184ff46fad5baabe2b3d8c18a63d7e6f35f8f90f377c6a"), looks := false }, kinds := [], alts := [], laidByText := true, laidKinds := [.data], laidTests := true, laidLooks := .later }
def FnExactByDegreeUptoCardSaid : Prop := Claim7.holds Tryd.pinned (.plain (OpenSpec.upto fnExactByDegreeSpec)) fnExactByDegreeUptoCard

/-- THE SECOND FORM's CARD OF 'laws.FnExactByFill'. -/
def fnExactByFillUptoCard : Claim7 := { stood := { row := fnExactByFillUptoRow, standIns := [], harness := (true, "ca31510f5b17b7d6de184ff46fad5baabe2b3d8c18a63d7e6f35f8f90f377c6a"), looks := false }, kinds := [], alts := [], laidByText := true, laidKinds := [.data], laidTests := true, laidLooks := .later }
def FnExactByFillUptoCardSaid : Prop := Claim7.holds Tryd.pinned (.plain (OpenSpec.upto fnExactByFillSpec)) fnExactByFillUptoCard

/-- THE SECOND FORM's CARD OF 'laws.FnExactSidesOf'. -/
def fnExactSidesOfUptoCard : Claim7 := { stood := { row := fnExactSidesOfUptoRow, standIns := [], harness := (true, "ca31510f5b17b7d6de184ff46fad5baabe2b3d8c18a63d7e6f35f8f90f377c6a"), looks := false }, kinds := [], alts := [], laidByText := true, laidKinds := [.data], laidTests := true, laidLooks := .later }
def FnExactSidesOfUptoCardSaid : Prop := Claim7.holds Tryd.pinned (.plain (OpenSpec.upto fnExactSidesOfSpec)) fnExactSidesOfUptoCard

/-- THE SECOND FORM's CARD OF 'laws.FnExactBrambleOrder'. -/
def fnExactBrambleOrderUptoCard : Claim7 := { stood := { row := fnExactBrambleOrderUptoRow, standIns := [], harness := (true, "ca31510f5b17b7d6de184ff46fad5baabe2b3d8c18a63d7e6f35f8f90f377c6a"), looks := false }, kinds := [], alts := [], laidByText := true, laidKinds := [.data], laidTests := true, laidLooks := .later }
def FnExactBrambleOrderUptoCardSaid : Prop := Claim7.holds Tryd.pinned (.plain (OpenSpec.upto fnExactBrambleOrderSpec)) fnExactBrambleOrderUptoCard

/-- THE SECOND FORM's CARD OF 'laws.FnExactRefutesWidth'. -/
def fnExactRefutesWidthUptoCard : Claim7 := { stood := { row := fnExactRefutesWidthUptoRow, standIns := [], harness := (true, "ca31510f5b17b7d6de184ff46fad5baabe2b3d8c18a63d7e6f35f8f90f377c6a"), looks := false }, kinds := [], alts := [], laidByText := true, laidKinds := [.data], laidTests := true, laidLooks := .later }
def FnExactRefutesWidthUptoCardSaid : Prop := Claim7.holds Tryd.pinned (.plain (OpenSpec.upto fnExactRefutesWidthSpec)) fnExactRefutesWidthUptoCard

/-- THE SECOND FORM's CARD OF 'laws.FnPaths'. -/
def fnPathsUptoCard : Claim7 := { stood := { row := fnPathsUptoRow, standIns := [], harness := (true, "ca31510f5b17b7d6de184ff46fad5baabe2b3d8c18a63d7e6f35f8f90f377c6a"), looks := false }, kinds := [], alts := [], laidByText := true, laidKinds := [.data], laidTests := true, laidLooks := .later }
def FnPathsUptoCardSaid : Prop := Claim7.holds Tryd.pinned (.plain (OpenSpec.upto fnPathsSpec)) fnPathsUptoCard

/-- THE SECOND FORM's CARD OF 'laws.FnPathWidth'. -/
def fnPathWidthUptoCard : Claim7 := { stood := { row := fnPathWidthUptoRow, standIns := [], harness := (true, "ca31510f5b17b7d6de184ff46fad5baabe2b3d8c18a63d7e6f35f8f90f377c6a"), looks := false }, kinds := [], alts := [], laidByText := true, laidKinds := [.data], laidTests := true, laidLooks := .later }
def FnPathWidthUptoCardSaid : Prop := Claim7.holds Tryd.pinned (.plain (OpenSpec.upto fnPathWidthSpec)) fnPathWidthUptoCard

/-- THE SECOND FORM's CARD OF 'laws.FnExactSeparation'. -/
def fnExactSeparationUptoCard : Claim7 := { stood := { row := fnExactSeparationUptoRow, standIns := [], harness := (true, "ca31510f5b17b7d6de184ff46fad5baabe2b3d8c18a63d7e6f35f8f90f377c6a"), looks := false }, kinds := [], alts := [], laidByText := true, laidKinds := [.data], laidTests := true, laidLooks := .later }
def FnExactSeparationUptoCardSaid : Prop := Claim7.holds Tryd.pinned (.plain (OpenSpec.upto fnExactSeparationSpec)) fnExactSeparationUptoCard
end Rows
end Go.Proofs.YtalfbldkdlanoaaDoor
