/-
  DERIVED. GIVEN WITH THE SEED: THE CARDS: each row of YtggjmnihnjdoaaaDoorRows.lean that lists a variable, with what it lists TIED to the program's text (the seventh form; the later family's looks); each row that meets fmt, with fmt's text TOLD by the authors' own Lean function (tested against real Go, not proved from fmt's source: count such statements apart). THE CARD IS WHAT COUNTS. Prove the row's statement (the work); the ties are given (YtggjmnihnjdoaaaDoorTie.lean); close each card by the builder's one call (the guide's Derived/Test/ToyasCard.lean, 'card_holds'). Laid BY PROGRAM, IN A SANDBOX (cutbox-door.mjs). By AI agents, Wed Nov 11 2026. No macro, syntax, notation, axiom, sorry.
-/
import Derived.Test.YtggjmnihnjdoaaaDoorRows
import GoSem.ClaimSeven
namespace Go.Proofs.YtggjmnihnjdoaaaDoor
namespace Rows

/-- THE TIED CARD OF 'laws.FnExactOddChainOk'. -/
def fnExactOddChainOkCard : Claim7 := { stood := { row := fnExactOddChainOkRow, standIns := [], harness := (true, "31320c0a08935211c821bf26ca8282e43faea785d3b133feee91fea154079982"), looks := false }, kinds := [], alts := [], laidByText := true, laidKinds := [.data], laidTests := true, laidLooks := .later }
def FnExactOddChainOkCardSaid : Prop := Claim7.holds Tryd.pinned (.plain (OpenSpec.ofChange fnExactOddChainOkSpec)) fnExactOddChainOkCard

/-- THE TIED CARD OF 'laws.FnExactForcedBy'. -/
def fnExactForcedByCard : Claim7 := { stood := { row := fnExactForcedByRow, standIns := [], harness := (true, "31320c0a08935211c821bf26ca8282e43faea785d3b133feee91fea154079982"), looks := false }, kinds := [], alts := [], laidByText := true, laidKinds := [.data], laidTests := true, laidLooks := .later }
def FnExactForcedByCardSaid : Prop := Claim7.holds Tryd.pinned (.plain (OpenSpec.ofChange fnExactForcedBySpec)) fnExactForcedByCard

/-- THE TIED CARD OF 'laws.FnExactOddChain'. -/
def fnExactOddChainCard : Claim7 := { stood := { row := fnExactOddChainRow, standIns := [], harness := (true, "31320c0a08935211c821bf26ca8282e43faea785d3b133feee91fea154079982"), looks := false }, kinds := [], alts := [], laidByText := true, laidKinds := [.data], laidTests := true, laidLooks := .later }
def FnExactOddChainCardSaid : Prop := Claim7.holds Tryd.pinned (.plain (OpenSpec.ofChange fnExactOddChainSpec)) fnExactOddChainCard

/-- THE TIED CARD OF 'laws.FnExactComparabilityIn'. -/
def fnExactComparabilityInCard : Claim7 := { stood := { row := fnExactComparabilityInRow, standIns := [], harness := (true, "31320c0a08935211c821bf26ca8282e43faea785d3b133feee91fea154079982"), looks := false }, kinds := [], alts := [], laidByText := true, laidKinds := [.data], laidTests := true, laidLooks := .later }
def FnExactComparabilityInCardSaid : Prop := Claim7.holds Tryd.pinned (.plain (OpenSpec.ofChange fnExactComparabilityInSpec)) fnExactComparabilityInCard

/-- THE TIED CARD OF 'laws.FnExactPermutationIn'. -/
def fnExactPermutationInCard : Claim7 := { stood := { row := fnExactPermutationInRow, standIns := [], harness := (true, "31320c0a08935211c821bf26ca8282e43faea785d3b133feee91fea154079982"), looks := false }, kinds := [], alts := [], laidByText := true, laidKinds := [.data], laidTests := true, laidLooks := .later }
def FnExactPermutationInCardSaid : Prop := Claim7.holds Tryd.pinned (.plain (OpenSpec.ofChange fnExactPermutationInSpec)) fnExactPermutationInCard

/-- THE TIED CARD OF 'laws.FnExactPermsOf'. -/
def fnExactPermsOfCard : Claim7 := { stood := { row := fnExactPermsOfRow, standIns := [], harness := (true, "31320c0a08935211c821bf26ca8282e43faea785d3b133feee91fea154079982"), looks := false }, kinds := [], alts := [], laidByText := true, laidKinds := [.data], laidTests := true, laidLooks := .later }
def FnExactPermsOfCardSaid : Prop := Claim7.holds Tryd.pinned (.plain (OpenSpec.ofChange fnExactPermsOfSpec)) fnExactPermsOfCard

/-- THE TIED CARD OF 'laws.FnNoPerms'. -/
def fnNoPermsCard : Claim7 := { stood := { row := fnNoPermsRow, standIns := [], harness := (true, "31320c0a08935211c821bf26ca8282e43faea785d3b133feee91fea154079982"), looks := false }, kinds := [], alts := [], laidByText := true, laidKinds := [.data], laidTests := true, laidLooks := .later }
def FnNoPermsCardSaid : Prop := Claim7.holds Tryd.pinned (.plain (OpenSpec.ofChange fnNoPermsSpec)) fnNoPermsCard

/-- THE TIED CARD OF 'laws.FnForced'. -/
def fnForcedCard : Claim7 := { stood := { row := fnForcedRow, standIns := [], harness := (true, "31320c0a08935211c821bf26ca8282e43faea785d3b133feee91fea154079982"), looks := false }, kinds := [], alts := [], laidByText := true, laidKinds := [.data], laidTests := true, laidLooks := .later }
def FnForcedCardSaid : Prop := Claim7.holds Tryd.pinned (.plain (OpenSpec.ofChange fnForcedSpec)) fnForcedCard

/-- THE TIED CARD OF 'laws.FnLayers'. -/
def fnLayersCard : Claim7 := { stood := { row := fnLayersRow, standIns := [], harness := (true, "31320c0a08935211c821bf26ca8282e43faea785d3b133feee91fea154079982"), looks := false }, kinds := [], alts := [], laidByText := true, laidKinds := [.data], laidTests := true, laidLooks := .later }
def FnLayersCardSaid : Prop := Claim7.holds Tryd.pinned (.plain (OpenSpec.ofChange fnLayersSpec)) fnLayersCard

/-- THE TIED CARD OF 'laws.FnPaths'. -/
def fnPathsCard : Claim7 := { stood := { row := fnPathsRow, standIns := [], harness := (true, "31320c0a08935211c821bf26ca8282e43faea785d3b133feee91fea154079982"), looks := false }, kinds := [], alts := [], laidByText := true, laidKinds := [.data], laidTests := true, laidLooks := .later }
def FnPathsCardSaid : Prop := Claim7.holds Tryd.pinned (.plain (OpenSpec.ofChange fnPathsSpec)) fnPathsCard

/-- THE TIED CARD OF 'laws.FnPathWidth'. -/
def fnPathWidthCard : Claim7 := { stood := { row := fnPathWidthRow, standIns := [], harness := (true, "31320c0a08935211c821bf26ca8282e43faea785d3b133feee91fea154079982"), looks := false }, kinds := [], alts := [], laidByText := true, laidKinds := [.data], laidTests := true, laidLooks := .later }
def FnPathWidthCardSaid : Prop := Claim7.holds Tryd.pinned (.plain (OpenSpec.ofChange fnPathWidthSpec)) fnPathWidthCard

/-- THE SECOND FORM's CARD OF 'laws.FnExactOddChainOk'. -/
def fnExactOddChainOkUptoCard : Claim7 := { stood := { row := fnExactOddChainOkUptoRow, standIns := [], harness := (true, "31320c0a08935211c821bf26ca8282e43faea785d3b133feee91fea154079982"), looks := false }, kinds := [], alts := [], laidByText := true, laidKinds := [.data], laidTests := true, laidLooks := .later }
def FnExactOddChainOkUptoCardSaid : Prop := Claim7.holds Tryd.pinned (.plain (OpenSpec.upto fnExactOddChainOkSpec)) fnExactOddChainOkUptoCard

/-- THE SECOND FORM's CARD OF 'laws.FnExactForcedBy'. -/
def fnExactForcedByUptoCard : Claim7 := { stood := { row := fnExactForcedByUptoRow, standIns := [], harness := (true, "31320c0a08935211c821bf26ca8282e43faea785d3b133feee91fea154079982"), looks := false }, kinds := [], alts := [], laidByText := true, laidKinds := [.data], laidTests := true, laidLooks := .later }
def FnExactForcedByUptoCardSaid : Prop := Claim7.holds Tryd.pinned (.plain (OpenSpec.upto fnExactForcedBySpec)) fnExactForcedByUptoCard

/-- THE SECOND FORM's CARD OF 'laws.FnExactOddChain'. -/
def fnExactOddChainUptoCard : Claim7 := { stood := { row := fnExactOddChainUptoRow, standIns := [], harness := (true, "31320c0a08935211c821bf26ca8282e43faea785d3b133feee91fea154079982"), looks := false }, kinds := [], alts := [], laidByText := true, laidKinds := [.data], laidTests := true, laidLooks := .later }
def FnExactOddChainUptoCardSaid : Prop := Claim7.holds Tryd.pinned (.plain (OpenSpec.upto fnExactOddChainSpec)) fnExactOddChainUptoCard

/-- THE SECOND FORM's CARD OF 'laws.FnExactComparabilityIn'. -/
def fnExactComparabilityInUptoCard : Claim7 := { stood := { row := fnExactComparabilityInUptoRow, standIns := [], harness := (true, "31320c0a08935211c821bf26ca8282e43faea785d3b133feee91fea154079982"), looks := false }, kinds := [], alts := [], laidByText := true, laidKinds := [.data], laidTests := true, laidLooks := .later }
def FnExactComparabilityInUptoCardSaid : Prop := Claim7.holds Tryd.pinned (.plain (OpenSpec.upto fnExactComparabilityInSpec)) fnExactComparabilityInUptoCard

/-- THE SECOND FORM's CARD OF 'laws.FnExactPermutationIn'. -/
def fnExactPermutationInUptoCard : Claim7 := { stood := { row := fnExactPermutationInUptoRow, standIns := [], harness := (true, "31320c0a08935211c821bf26ca8282e43faea785d3b133feee91fea154079982"), looks := false }, kinds := [], alts := [], laidByText := true, laidKinds := [.data], laidTests := true, laidLooks := .later }
def FnExactPermutationInUptoCardSaid : Prop := Claim7.holds Tryd.pinned (.plain (OpenSpec.upto fnExactPermutationInSpec)) fnExactPermutationInUptoCard

/-- THE SECOND FORM's CARD OF 'laws.FnExactPermsOf'. -/
def fnExactPermsOfUptoCard : Claim7 := { stood := { row := fnExactPermsOfUptoRow, standIns := [], harness := (true, "31320c0a08935211c821bf26ca8282e43faea785d3b133feee91fea154079982"), looks := false }, kinds := [], alts := [], laidByText := true, laidKinds := [.data], laidTests := true, laidLooks := .later }
def FnExactPermsOfUptoCardSaid : Prop := Claim7.holds Tryd.pinned (.plain (OpenSpec.upto fnExactPermsOfSpec)) fnExactPermsOfUptoCard

/-- THE SECOND FORM's CARD OF 'laws.FnNoPerms'. -/
def fnNoPermsUptoCard : Claim7 := { stood := { row := fnNoPermsUptoRow, standIns := [], harness := (true, "31320c0a08935211c821bf26ca8282e43faea785d3b133feee91fea154079982"), looks := false }, kinds := [], alts := [], laidByText := true, laidKinds := [.data], laidTests := true, laidLooks := .later }
def FnNoPermsUptoCardSaid : Prop := Claim7.holds Tryd.pinned (.plain (OpenSpec.upto fnNoPermsSpec)) fnNoPermsUptoCard

/-- THE SECOND FORM's CARD OF 'laws.FnForced'. -/
def fnForcedUptoCard : Claim7 := { stood := { row := fnForcedUptoRow, standIns := [], harness := (true, "31320c0a08935211c821bf26ca8282e43faea785d3b133feee91fea154079982"), looks := false }, kinds := [], alts := [], laidByText := true, laidKinds := [.data], laidTests := true, laidLooks := .later }
def FnForcedUptoCardSaid : Prop := Claim7.holds Tryd.pinned (.plain (OpenSpec.upto fnForcedSpec)) fnForcedUptoCard

/-- THE SECOND FORM's CARD OF 'laws.FnLayers'. -/
def fnLayersUptoCard : Claim7 := { stood := { row := fnLayersUptoRow, standIns := [], harness := (true, "31320c0a08935211c821bf26ca8282e43faea785d3b133feee91fea154079982"), looks := false }, kinds := [], alts := [], laidByText := true, laidKinds := [.data], laidTests := true, laidLooks := .later }
def FnLayersUptoCardSaid : Prop := Claim7.holds Tryd.pinned (.plain (OpenSpec.upto fnLayersSpec)) fnLayersUptoCard

/-- THE SECOND FORM's CARD OF 'laws.FnPaths'. -/
def fnPathsUptoCard : Claim7 := { stood := { row := fnPathsUptoRow, standIns := [], harness := (true, "31320c0a08935211c821bf26ca8282e43faea785d3b133feee91fea154079982"), looks := false }, kinds := [], alts := [], laidByText := true, laidKinds := [.data], laidTests := true, laidLooks := .later }
def FnPathsUptoCardSaid : Prop := Claim7.holds Tryd.pinned (.plain (OpenSpec.upto fnPathsSpec)) fnPathsUptoCard

/-- THE SECOND FORM's CARD OF 'laws.FnPathWidth'. -/
def fnPathWidthUptoCard : Claim7 := { stood := { row := fnPathWidthUptoRow, standIns := [], harness := (true, "31320c0a08935211c821bf26ca8282e43faea785d3b133feee91fea154079982"), looks := false }, kinds := [], alts := [], laidByText := true, laidKinds := [.data], laidTests := true, laidLooks := .later }
def FnPathWidthUptoCardSaid : Prop := Claim7.holds Tryd.pinned (.plain (OpenSpec.upto fnPathWidthSpec)) fnPathWidthUptoCard
end Rows
end Go.Proofs.YtggjmnihnjdoaaaDoor
