/-
  DERIVED. GIVEN WITH THE SEED: THE CARDS: each row of YtahibjikcijnfaaDoorRows.lean that lists a variable, with what it lists TIED to the program's text (the seventh form; the later family's looks); each row that meets fmt, with fmt's text TOLD by the authors' own Lean function (tested against real Go, not proved from fmt's source: count such statements apart). THE CARD IS WHAT COUNTS. Prove the row's statement (the work); the ties are given (YtahibjikcijnfaaDoorTie.lean); close each card by the builder's one call (the guide's Derived/Test/ToyasCard.lean, 'card_holds'). Laid BY PROGRAM, IN A SANDBOX (cutbox-door.mjs). By AI agents, Wed Nov 11 2026. No macro, syntax, notation, axiom, sorry.
-/
import Derived.Test.YtahibjikcijnfaaDoorRows
import GoSem.ClaimSeven
namespace Go.Proofs.YtahibjikcijnfaaDoor
namespace Rows

/-- THE TIED CARD OF 'laws.FnExactSeparation'. -/
def fnExactSeparationCard : Claim7 := { stood := { row := fnExactSeparationRow, standIns := [], harness := (true, "ac8f1c3045e7ef704084d47b35d7601b2471cfa4cf8fa725868201656b6d4b36"), looks := false }, kinds := [], alts := [], laidByText := true, laidKinds := [.data], laidTests := true, laidLooks := .later }
def FnExactSeparationCardSaid : Prop := Claim7.holds Tryd.pinned (.plain (OpenSpec.ofChange fnExactSeparationSpec)) fnExactSeparationCard

/-- THE TIED CARD OF 'laws.FnExactOrderWidth'. -/
def fnExactOrderWidthCard : Claim7 := { stood := { row := fnExactOrderWidthRow, standIns := [], harness := (true, "ac8f1c3045e7ef704084d47b35d7601b2471cfa4cf8fa725868201656b6d4b36"), looks := false }, kinds := [], alts := [], laidByText := true, laidKinds := [.data], laidTests := true, laidLooks := .later }
def FnExactOrderWidthCardSaid : Prop := Claim7.holds Tryd.pinned (.plain (OpenSpec.ofChange fnExactOrderWidthSpec)) fnExactOrderWidthCard

/-- THE TIED CARD OF 'laws.FnExactOddChainOk'. -/
def fnExactOddChainOkCard : Claim7 := { stood := { row := fnExactOddChainOkRow, standIns := [], harness := (true, "ac8f1c3045e7ef704084d47b35d7601b2471cfa4cf8fa725868201656b6d4b36"), looks := false }, kinds := [], alts := [], laidByText := true, laidKinds := [.data], laidTests := true, laidLooks := .later }
def FnExactOddChainOkCardSaid : Prop := Claim7.holds Tryd.pinned (.plain (OpenSpec.ofChange fnExactOddChainOkSpec)) fnExactOddChainOkCard

/-- THE TIED CARD OF 'laws.FnExactLongestUp'. -/
def fnExactLongestUpCard : Claim7 := { stood := { row := fnExactLongestUpRow, standIns := [], harness := (true, "ac8f1c3045e7ef704084d47b35d7601b2471cfa4cf8fa725868201656b6d4b36"), looks := false }, kinds := [], alts := [], laidByText := true, laidKinds := [.data], laidTests := true, laidLooks := .later }
def FnExactLongestUpCardSaid : Prop := Claim7.holds Tryd.pinned (.plain (OpenSpec.ofChange fnExactLongestUpSpec)) fnExactLongestUpCard

/-- THE TIED CARD OF 'laws.FnExactLayersUp'. -/
def fnExactLayersUpCard : Claim7 := { stood := { row := fnExactLayersUpRow, standIns := [], harness := (true, "ac8f1c3045e7ef704084d47b35d7601b2471cfa4cf8fa725868201656b6d4b36"), looks := false }, kinds := [], alts := [], laidByText := true, laidKinds := [.data], laidTests := true, laidLooks := .later }
def FnExactLayersUpCardSaid : Prop := Claim7.holds Tryd.pinned (.plain (OpenSpec.ofChange fnExactLayersUpSpec)) fnExactLayersUpCard

/-- THE TIED CARD OF 'laws.FnExactForcedBy'. -/
def fnExactForcedByCard : Claim7 := { stood := { row := fnExactForcedByRow, standIns := [], harness := (true, "ac8f1c3045e7ef704084d47b35d7601b2471cfa4cf8fa725868201656b6d4b36"), looks := false }, kinds := [], alts := [], laidByText := true, laidKinds := [.data], laidTests := true, laidLooks := .later }
def FnExactForcedByCardSaid : Prop := Claim7.holds Tryd.pinned (.plain (OpenSpec.ofChange fnExactForcedBySpec)) fnExactForcedByCard

/-- THE TIED CARD OF 'laws.FnExactOddChain'. -/
def fnExactOddChainCard : Claim7 := { stood := { row := fnExactOddChainRow, standIns := [], harness := (true, "ac8f1c3045e7ef704084d47b35d7601b2471cfa4cf8fa725868201656b6d4b36"), looks := false }, kinds := [], alts := [], laidByText := true, laidKinds := [.data], laidTests := true, laidLooks := .later }
def FnExactOddChainCardSaid : Prop := Claim7.holds Tryd.pinned (.plain (OpenSpec.ofChange fnExactOddChainSpec)) fnExactOddChainCard

/-- THE TIED CARD OF 'laws.FnExactComparabilityIn'. -/
def fnExactComparabilityInCard : Claim7 := { stood := { row := fnExactComparabilityInRow, standIns := [], harness := (true, "ac8f1c3045e7ef704084d47b35d7601b2471cfa4cf8fa725868201656b6d4b36"), looks := false }, kinds := [], alts := [], laidByText := true, laidKinds := [.data], laidTests := true, laidLooks := .later }
def FnExactComparabilityInCardSaid : Prop := Claim7.holds Tryd.pinned (.plain (OpenSpec.ofChange fnExactComparabilityInSpec)) fnExactComparabilityInCard

/-- THE TIED CARD OF 'laws.FnExactPermutationIn'. -/
def fnExactPermutationInCard : Claim7 := { stood := { row := fnExactPermutationInRow, standIns := [], harness := (true, "ac8f1c3045e7ef704084d47b35d7601b2471cfa4cf8fa725868201656b6d4b36"), looks := false }, kinds := [], alts := [], laidByText := true, laidKinds := [.data], laidTests := true, laidLooks := .later }
def FnExactPermutationInCardSaid : Prop := Claim7.holds Tryd.pinned (.plain (OpenSpec.ofChange fnExactPermutationInSpec)) fnExactPermutationInCard

/-- THE TIED CARD OF 'laws.FnExactPermsOf'. -/
def fnExactPermsOfCard : Claim7 := { stood := { row := fnExactPermsOfRow, standIns := [], harness := (true, "ac8f1c3045e7ef704084d47b35d7601b2471cfa4cf8fa725868201656b6d4b36"), looks := false }, kinds := [], alts := [], laidByText := true, laidKinds := [.data], laidTests := true, laidLooks := .later }
def FnExactPermsOfCardSaid : Prop := Claim7.holds Tryd.pinned (.plain (OpenSpec.ofChange fnExactPermsOfSpec)) fnExactPermsOfCard

/-- THE TIED CARD OF 'laws.FnLayers'. -/
def fnLayersCard : Claim7 := { stood := { row := fnLayersRow, standIns := [], harness := (true, "ac8f1c3045e7ef704084d47b35d7601b2471cfa4cf8fa725868201656b6d4b36"), looks := false }, kinds := [], alts := [], laidByText := true, laidKinds := [.data], laidTests := true, laidLooks := .later }
def FnLayersCardSaid : Prop := Claim7.holds Tryd.pinned (.plain (OpenSpec.ofChange fnLayersSpec)) fnLayersCard

/-- THE TIED CARD OF 'laws.FnPaths'. -/
def fnPathsCard : Claim7 := { stood := { row := fnPathsRow, standIns := [], harness := (true, "ac8f1c3045e7ef704084d47b35d7601b2471cfa4cf8fa725868201656b6d4b36"), looks := false }, kinds := [], alts := [], laidByText := true, laidKinds := [.data], laidTests := true, laidLooks := .later }
def FnPathsCardSaid : Prop := Claim7.holds Tryd.pinned (.plain (OpenSpec.ofChange fnPathsSpec)) fnPathsCard

/-- THE SECOND FORM's CARD OF 'laws.FnExactSeparation'. -/
def fnExactSeparationUptoCard : Claim7 := { stood := { row := fnExactSeparationUptoRow, standIns := [], harness := (true, "ac8f1c3045e7ef704084d47b35d7601b2471cfa4cf8fa725868201656b6d4b36"), looks := false }, kinds := [], alts := [], laidByText := true, laidKinds := [.data], laidTests := true, laidLooks := .later }
def FnExactSeparationUptoCardSaid : Prop := Claim7.holds Tryd.pinned (.plain (OpenSpec.upto fnExactSeparationSpec)) fnExactSeparationUptoCard

/-- THE SECOND FORM's CARD OF 'laws.FnExactOrderWidth'. -/
def fnExactOrderWidthUptoCard : Claim7 := { stood := { row := fnExactOrderWidthUptoRow, standIns := [], harness := (true, "ac8f1c3045e7ef704084d47b35d7601b2471cfa4cf8fa725868201656b6d4b36"), looks := false }, kinds := [], alts := [], laidByText := true, laidKinds := [.data], laidTests := true, laidLooks := .later }
def FnExactOrderWidthUptoCardSaid : Prop := Claim7.holds Tryd.pinned (.plain (OpenSpec.upto fnExactOrderWidthSpec)) fnExactOrderWidthUptoCard

/-- THE SECOND FORM's CARD OF 'laws.FnExactOddChainOk'. -/
def fnExactOddChainOkUptoCard : Claim7 := { stood := { row := fnExactOddChainOkUptoRow, standIns := [], harness := (true, "ac8f1c3045e7ef704084d47b35d7601b2471cfa4cf8fa725868201656b6d4b36"), looks := false }, kinds := [], alts := [], laidByText := true, laidKinds := [.data], laidTests := true, laidLooks := .later }
def FnExactOddChainOkUptoCardSaid : Prop := Claim7.holds Tryd.pinned (.plain (OpenSpec.upto fnExactOddChainOkSpec)) fnExactOddChainOkUptoCard

/-- THE SECOND FORM's CARD OF 'laws.FnExactLongestUp'. -/
def fnExactLongestUpUptoCard : Claim7 := { stood := { row := fnExactLongestUpUptoRow, standIns := [], harness := (true, "ac8f1c3045e7ef704084d47b35d7601b2471cfa4cf8fa725868201656b6d4b36"), looks := false }, kinds := [], alts := [], laidByText := true, laidKinds := [.data], laidTests := true, laidLooks := .later }
def FnExactLongestUpUptoCardSaid : Prop := Claim7.holds Tryd.pinned (.plain (OpenSpec.upto fnExactLongestUpSpec)) fnExactLongestUpUptoCard

/-- THE SECOND FORM's CARD OF 'laws.FnExactLayersUp'. -/
def fnExactLayersUpUptoCard : Claim7 := { stood := { row := fnExactLayersUpUptoRow, standIns := [], harness := (true, "ac8f1c3045e7ef704084d47b35d7601b2471cfa4cf8fa725868201656b6d4b36"), looks := false }, kinds := [], alts := [], laidByText := true, laidKinds := [.data], laidTests := true, laidLooks := .later }
def FnExactLayersUpUptoCardSaid : Prop := Claim7.holds Tryd.pinned (.plain (OpenSpec.upto fnExactLayersUpSpec)) fnExactLayersUpUptoCard

/-- THE SECOND FORM's CARD OF 'laws.FnExactForcedBy'. -/
def fnExactForcedByUptoCard : Claim7 := { stood := { row := fnExactForcedByUptoRow, standIns := [], harness := (true, "ac8f1c3045e7ef704084d47b35d7601b2471cfa4cf8fa725868201656b6d4b36"), looks := false }, kinds := [], alts := [], laidByText := true, laidKinds := [.data], laidTests := true, laidLooks := .later }
def FnExactForcedByUptoCardSaid : Prop := Claim7.holds Tryd.pinned (.plain (OpenSpec.upto fnExactForcedBySpec)) fnExactForcedByUptoCard

/-- THE SECOND FORM's CARD OF 'laws.FnExactOddChain'. -/
def fnExactOddChainUptoCard : Claim7 := { stood := { row := fnExactOddChainUptoRow, standIns := [], harness := (true, "ac8f1c3045e7ef704084d47b35d7601b2471cfa4cf8fa725868201656b6d4b36"), looks := false }, kinds := [], alts := [], laidByText := true, laidKinds := [.data], laidTests := true, laidLooks := .later }
def FnExactOddChainUptoCardSaid : Prop := Claim7.holds Tryd.pinned (.plain (OpenSpec.upto fnExactOddChainSpec)) fnExactOddChainUptoCard

/-- THE SECOND FORM's CARD OF 'laws.FnExactComparabilityIn'. -/
def fnExactComparabilityInUptoCard : Claim7 := { stood := { row := fnExactComparabilityInUptoRow, standIns := [], harness := (true, "ac8f1c3045e7ef704084d47b35d7601b2471cfa4cf8fa725868201656b6d4b36"), looks := false }, kinds := [], alts := [], laidByText := true, laidKinds := [.data], laidTests := true, laidLooks := .later }
def FnExactComparabilityInUptoCardSaid : Prop := Claim7.holds Tryd.pinned (.plain (OpenSpec.upto fnExactComparabilityInSpec)) fnExactComparabilityInUptoCard

/-- THE SECOND FORM's CARD OF 'laws.FnExactPermutationIn'. -/
def fnExactPermutationInUptoCard : Claim7 := { stood := { row := fnExactPermutationInUptoRow, standIns := [], harness := (true, "ac8f1c3045e7ef704084d47b35d7601b2471cfa4cf8fa725868201656b6d4b36"), looks := false }, kinds := [], alts := [], laidByText := true, laidKinds := [.data], laidTests := true, laidLooks := .later }
def FnExactPermutationInUptoCardSaid : Prop := Claim7.holds Tryd.pinned (.plain (OpenSpec.upto fnExactPermutationInSpec)) fnExactPermutationInUptoCard

/-- THE SECOND FORM's CARD OF 'laws.FnExactPermsOf'. -/
def fnExactPermsOfUptoCard : Claim7 := { stood := { row := fnExactPermsOfUptoRow, standIns := [], harness := (true, "ac8f1c3045e7ef704084d47b35d7601b2471cfa4cf8fa725868201656b6d4b36"), looks := false }, kinds := [], alts := [], laidByText := true, laidKinds := [.data], laidTests := true, laidLooks := .later }
def FnExactPermsOfUptoCardSaid : Prop := Claim7.holds Tryd.pinned (.plain (OpenSpec.upto fnExactPermsOfSpec)) fnExactPermsOfUptoCard

/-- THE SECOND FORM's CARD OF 'laws.FnLayers'. -/
def fnLayersUptoCard : Claim7 := { stood := { row := fnLayersUptoRow, standIns := [], harness := (true, "ac8f1c3045e7ef704084d47b35d7601b2471cfa4cf8fa725868201656b6d4b36"), looks := false }, kinds := [], alts := [], laidByText := true, laidKinds := [.data], laidTests := true, laidLooks := .later }
def FnLayersUptoCardSaid : Prop := Claim7.holds Tryd.pinned (.plain (OpenSpec.upto fnLayersSpec)) fnLayersUptoCard

/-- THE SECOND FORM's CARD OF 'laws.FnPaths'. -/
def fnPathsUptoCard : Claim7 := { stood := { row := fnPathsUptoRow, standIns := [], harness := (true, "ac8f1c3045e7ef704084d47b35d7601b2471cfa4cf8fa725868201656b6d4b36"), looks := false }, kinds := [], alts := [], laidByText := true, laidKinds := [.data], laidTests := true, laidLooks := .later }
def FnPathsUptoCardSaid : Prop := Claim7.holds Tryd.pinned (.plain (OpenSpec.upto fnPathsSpec)) fnPathsUptoCard
end Rows
end Go.Proofs.YtahibjikcijnfaaDoor
