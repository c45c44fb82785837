/-
  DERIVED. GIVEN WITH THE SEED: THE CARDS: each row of YtlnhfafnhclolaaDoorRows.lean that lists a variable, with what it lists TIED to the program's text (the seventh form; the later family's looks); each row that meets fmt, with fmt's text TOLD by the authors' own Lean function (tested against real Go, not proved from fmt's source: count such statements apart). THE CARD IS WHAT COUNTS. Prove the row's statement (the work); the ties are given (YtlnhfafnhclolaaDoorTie.lean); close each card by the builder's one call (the guide's Derived/Test/ToyasCard.lean, 'card_holds'). Laid BY PROGRAM, IN A SANDBOX (cutbox-door.mjs). By AI agents, Wed Nov 11 2026. No macro, syntax, notation, axiom, sorry.
-/
import Derived.Test.YtlnhfafnhclolaaDoorRows
import GoSem.ClaimSeven
namespace Go.Proofs.YtlnhfafnhclolaaDoor
namespace Rows

/-- THE TIED CARD OF 'laws.FnExactCliqueOk'. -/
def fnExactCliqueOkCard : Claim7 := { stood := { row := fnExactCliqueOkRow, standIns := [], harness := (true, "ae28c229b07fb5cade398a288285425cf321195e2c8af097e5a91c4956edc289"), looks := false }, kinds := [], alts := [], laidByText := true, laidKinds := [.data], laidTests := true, laidLooks := .later }
def FnExactCliqueOkCardSaid : Prop := Claim7.holds Tryd.pinned (.plain (OpenSpec.ofChange fnExactCliqueOkSpec)) fnExactCliqueOkCard

/-- THE TIED CARD OF 'laws.FnExactTouchIn'. -/
def fnExactTouchInCard : Claim7 := { stood := { row := fnExactTouchInRow, standIns := [], harness := (true, "ae28c229b07fb5cade398a288285425cf321195e2c8af097e5a91c4956edc289"), looks := false }, kinds := [], alts := [], laidByText := true, laidKinds := [.data], laidTests := true, laidLooks := .later }
def FnExactTouchInCardSaid : Prop := Claim7.holds Tryd.pinned (.plain (OpenSpec.ofChange fnExactTouchInSpec)) fnExactTouchInCard

/-- THE TIED CARD OF 'laws.FnExactUpOk'. -/
def fnExactUpOkCard : Claim7 := { stood := { row := fnExactUpOkRow, standIns := [], harness := (true, "ae28c229b07fb5cade398a288285425cf321195e2c8af097e5a91c4956edc289"), looks := false }, kinds := [], alts := [], laidByText := true, laidKinds := [.data], laidTests := true, laidLooks := .later }
def FnExactUpOkCardSaid : Prop := Claim7.holds Tryd.pinned (.plain (OpenSpec.ofChange fnExactUpOkSpec)) fnExactUpOkCard

/-- THE TIED CARD OF 'laws.FnExactConnectedIn'. -/
def fnExactConnectedInCard : Claim7 := { stood := { row := fnExactConnectedInRow, standIns := [], harness := (true, "ae28c229b07fb5cade398a288285425cf321195e2c8af097e5a91c4956edc289"), looks := false }, kinds := [], alts := [], laidByText := true, laidKinds := [.data], laidTests := true, laidLooks := .later }
def FnExactConnectedInCardSaid : Prop := Claim7.holds Tryd.pinned (.plain (OpenSpec.ofChange fnExactConnectedInSpec)) fnExactConnectedInCard

/-- THE TIED CARD OF 'laws.FnExactDegeneracyOf'. -/
def fnExactDegeneracyOfCard : Claim7 := { stood := { row := fnExactDegeneracyOfRow, standIns := [], harness := (true, "ae28c229b07fb5cade398a288285425cf321195e2c8af097e5a91c4956edc289"), looks := false }, kinds := [], alts := [], laidByText := true, laidKinds := [.data], laidTests := true, laidLooks := .later }
def FnExactDegeneracyOfCardSaid : Prop := Claim7.holds Tryd.pinned (.plain (OpenSpec.ofChange fnExactDegeneracyOfSpec)) fnExactDegeneracyOfCard

/-- THE TIED CARD OF 'laws.FnExactChordalIn'. -/
def fnExactChordalInCard : Claim7 := { stood := { row := fnExactChordalInRow, standIns := [], harness := (true, "ae28c229b07fb5cade398a288285425cf321195e2c8af097e5a91c4956edc289"), looks := false }, kinds := [], alts := [], laidByText := true, laidKinds := [.data], laidTests := true, laidLooks := .later }
def FnExactChordalInCardSaid : Prop := Claim7.holds Tryd.pinned (.plain (OpenSpec.ofChange fnExactChordalInSpec)) fnExactChordalInCard

/-- THE TIED CARD OF 'laws.FnExactTransitiveIn'. -/
def fnExactTransitiveInCard : Claim7 := { stood := { row := fnExactTransitiveInRow, standIns := [], harness := (true, "ae28c229b07fb5cade398a288285425cf321195e2c8af097e5a91c4956edc289"), looks := false }, kinds := [], alts := [], laidByText := true, laidKinds := [.data], laidTests := true, laidLooks := .later }
def FnExactTransitiveInCardSaid : Prop := Claim7.holds Tryd.pinned (.plain (OpenSpec.ofChange fnExactTransitiveInSpec)) fnExactTransitiveInCard

/-- THE TIED CARD OF 'laws.FnExactDistancesFrom'. -/
def fnExactDistancesFromCard : Claim7 := { stood := { row := fnExactDistancesFromRow, standIns := [], harness := (true, "ae28c229b07fb5cade398a288285425cf321195e2c8af097e5a91c4956edc289"), looks := false }, kinds := [], alts := [], laidByText := true, laidKinds := [.data], laidTests := true, laidLooks := .later }
def FnExactDistancesFromCardSaid : Prop := Claim7.holds Tryd.pinned (.plain (OpenSpec.ofChange fnExactDistancesFromSpec)) fnExactDistancesFromCard

/-- THE TIED CARD OF 'laws.FnExactPerfectOrder'. -/
def fnExactPerfectOrderCard : Claim7 := { stood := { row := fnExactPerfectOrderRow, standIns := [], harness := (true, "ae28c229b07fb5cade398a288285425cf321195e2c8af097e5a91c4956edc289"), looks := false }, kinds := [], alts := [], laidByText := true, laidKinds := [.data], laidTests := true, laidLooks := .later }
def FnExactPerfectOrderCardSaid : Prop := Claim7.holds Tryd.pinned (.plain (OpenSpec.ofChange fnExactPerfectOrderSpec)) fnExactPerfectOrderCard

/-- THE TIED CARD OF 'laws.FnExactBrambleOk'. -/
def fnExactBrambleOkCard : Claim7 := { stood := { row := fnExactBrambleOkRow, standIns := [], harness := (true, "ae28c229b07fb5cade398a288285425cf321195e2c8af097e5a91c4956edc289"), looks := false }, kinds := [], alts := [], laidByText := true, laidKinds := [.data], laidTests := true, laidLooks := .later }
def FnExactBrambleOkCardSaid : Prop := Claim7.holds Tryd.pinned (.plain (OpenSpec.ofChange fnExactBrambleOkSpec)) fnExactBrambleOkCard

/-- THE TIED CARD OF 'laws.FnExactAroundPath'. -/
def fnExactAroundPathCard : Claim7 := { stood := { row := fnExactAroundPathRow, standIns := [], harness := (true, "ae28c229b07fb5cade398a288285425cf321195e2c8af097e5a91c4956edc289"), looks := false }, kinds := [], alts := [], laidByText := true, laidKinds := [.data], laidTests := true, laidLooks := .later }
def FnExactAroundPathCardSaid : Prop := Claim7.holds Tryd.pinned (.plain (OpenSpec.ofChange fnExactAroundPathSpec)) fnExactAroundPathCard

/-- THE TIED CARD OF 'laws.FnExactPathOf'. -/
def fnExactPathOfCard : Claim7 := { stood := { row := fnExactPathOfRow, standIns := [], harness := (true, "ae28c229b07fb5cade398a288285425cf321195e2c8af097e5a91c4956edc289"), looks := false }, kinds := [], alts := [], laidByText := true, laidKinds := [.data], laidTests := true, laidLooks := .later }
def FnExactPathOfCardSaid : Prop := Claim7.holds Tryd.pinned (.plain (OpenSpec.ofChange fnExactPathOfSpec)) fnExactPathOfCard

/-- THE SECOND FORM's CARD OF 'laws.FnExactCliqueOk'. -/
def fnExactCliqueOkUptoCard : Claim7 := { stood := { row := fnExactCliqueOkUptoRow, standIns := [], harness := (true, "ae28c229b07fb5cade398a288285425cf321195e2c8af097e5a91c4956edc289"), looks := false }, kinds := [], alts := [], laidByText := true, laidKinds := [.data], laidTests := true, laidLooks := .later }
def FnExactCliqueOkUptoCardSaid : Prop := Claim7.holds Tryd.pinned (.plain (OpenSpec.upto fnExactCliqueOkSpec)) fnExactCliqueOkUptoCard

/-- THE SECOND FORM's CARD OF 'laws.FnExactTouchIn'. -/
def fnExactTouchInUptoCard : Claim7 := { stood := { row := fnExactTouchInUptoRow, standIns := [], harness := (true, "ae28c229b07fb5cade398a288285425cf321195e2c8af097e5a91c4956edc289"), looks := false }, kinds := [], alts := [], laidByText := true, laidKinds := [.data], laidTests := true, laidLooks := .later }
def FnExactTouchInUptoCardSaid : Prop := Claim7.holds Tryd.pinned (.plain (OpenSpec.upto fnExactTouchInSpec)) fnExactTouchInUptoCard

/-- THE SECOND FORM's CARD OF 'laws.FnExactUpOk'. -/
def fnExactUpOkUptoCard : Claim7 := { stood := { row := fnExactUpOkUptoRow, standIns := [], harness := (true, "ae28c229b07fb5cade398a288285425cf321195e2c8af097e5a91c4956edc289"), looks := false }, kinds := [], alts := [], laidByText := true, laidKinds := [.data], laidTests := true, laidLooks := .later }
def FnExactUpOkUptoCardSaid : Prop := Claim7.holds Tryd.pinned (.plain (OpenSpec.upto fnExactUpOkSpec)) fnExactUpOkUptoCard

/-- THE SECOND FORM's CARD OF 'laws.FnExactConnectedIn'. -/
def fnExactConnectedInUptoCard : Claim7 := { stood := { row := fnExactConnectedInUptoRow, standIns := [], harness := (true, "ae28c229b07fb5cade398a288285425cf321195e2c8af097e5a91c4956edc289"), looks := false }, kinds := [], alts := [], laidByText := true, laidKinds := [.data], laidTests := true, laidLooks := .later }
def FnExactConnectedInUptoCardSaid : Prop := Claim7.holds Tryd.pinned (.plain (OpenSpec.upto fnExactConnectedInSpec)) fnExactConnectedInUptoCard

/-- THE SECOND FORM's CARD OF 'laws.FnExactDegeneracyOf'. -/
def fnExactDegeneracyOfUptoCard : Claim7 := { stood := { row := fnExactDegeneracyOfUptoRow, standIns := [], harness := (true, "ae28c229b07fb5cade398a288285425cf321195e2c8af097e5a91c4956edc289"), looks := false }, kinds := [], alts := [], laidByText := true, laidKinds := [.data], laidTests := true, laidLooks := .later }
def FnExactDegeneracyOfUptoCardSaid : Prop := Claim7.holds Tryd.pinned (.plain (OpenSpec.upto fnExactDegeneracyOfSpec)) fnExactDegeneracyOfUptoCard

/-- THE SECOND FORM's CARD OF 'laws.FnExactChordalIn'. -/
def fnExactChordalInUptoCard : Claim7 := { stood := { row := fnExactChordalInUptoRow, standIns := [], harness := (true, "ae28c229b07fb5cade398a288285425cf321195e2c8af097e5a91c4956edc289"), looks := false }, kinds := [], alts := [], laidByText := true, laidKinds := [.data], laidTests := true, laidLooks := .later }
def FnExactChordalInUptoCardSaid : Prop := Claim7.holds Tryd.pinned (.plain (OpenSpec.upto fnExactChordalInSpec)) fnExactChordalInUptoCard

/-- THE SECOND FORM's CARD OF 'laws.FnExactTransitiveIn'. -/
def fnExactTransitiveInUptoCard : Claim7 := { stood := { row := fnExactTransitiveInUptoRow, standIns := [], harness := (true, "ae28c229b07fb5cade398a288285425cf321195e2c8af097e5a91c4956edc289"), looks := false }, kinds := [], alts := [], laidByText := true, laidKinds := [.data], laidTests := true, laidLooks := .later }
def FnExactTransitiveInUptoCardSaid : Prop := Claim7.holds Tryd.pinned (.plain (OpenSpec.upto fnExactTransitiveInSpec)) fnExactTransitiveInUptoCard

/-- THE SECOND FORM's CARD OF 'laws.FnExactDistancesFrom'. -/
def fnExactDistancesFromUptoCard : Claim7 := { stood := { row := fnExactDistancesFromUptoRow, standIns := [], harness := (true, "ae28c229b07fb5cade398a288285425cf321195e2c8af097e5a91c4956edc289"), looks := false }, kinds := [], alts := [], laidByText := true, laidKinds := [.data], laidTests := true, laidLooks := .later }
def FnExactDistancesFromUptoCardSaid : Prop := Claim7.holds Tryd.pinned (.plain (OpenSpec.upto fnExactDistancesFromSpec)) fnExactDistancesFromUptoCard

/-- THE SECOND FORM's CARD OF 'laws.FnExactPerfectOrder'. -/
def fnExactPerfectOrderUptoCard : Claim7 := { stood := { row := fnExactPerfectOrderUptoRow, standIns := [], harness := (true, "ae28c229b07fb5cade398a288285425cf321195e2c8af097e5a91c4956edc289"), looks := false }, kinds := [], alts := [], laidByText := true, laidKinds := [.data], laidTests := true, laidLooks := .later }
def FnExactPerfectOrderUptoCardSaid : Prop := Claim7.holds Tryd.pinned (.plain (OpenSpec.upto fnExactPerfectOrderSpec)) fnExactPerfectOrderUptoCard

/-- THE SECOND FORM's CARD OF 'laws.FnExactBrambleOk'. -/
def fnExactBrambleOkUptoCard : Claim7 := { stood := { row := fnExactBrambleOkUptoRow, standIns := [], harness := (true, "ae28c229b07fb5cade398a288285425cf321195e2c8af097e5a91c4956edc289"), looks := false }, kinds := [], alts := [], laidByText := true, laidKinds := [.data], laidTests := true, laidLooks := .later }
def FnExactBrambleOkUptoCardSaid : Prop := Claim7.holds Tryd.pinned (.plain (OpenSpec.upto fnExactBrambleOkSpec)) fnExactBrambleOkUptoCard

/-- THE SECOND FORM's CARD OF 'laws.FnExactAroundPath'. -/
def fnExactAroundPathUptoCard : Claim7 := { stood := { row := fnExactAroundPathUptoRow, standIns := [], harness := (true, "ae28c229b07fb5cade398a288285425cf321195e2c8af097e5a91c4956edc289"), looks := false }, kinds := [], alts := [], laidByText := true, laidKinds := [.data], laidTests := true, laidLooks := .later }
def FnExactAroundPathUptoCardSaid : Prop := Claim7.holds Tryd.pinned (.plain (OpenSpec.upto fnExactAroundPathSpec)) fnExactAroundPathUptoCard

/-- THE SECOND FORM's CARD OF 'laws.FnExactPathOf'. -/
def fnExactPathOfUptoCard : Claim7 := { stood := { row := fnExactPathOfUptoRow, standIns := [], harness := (true, "ae28c229b07fb5cade398a288285425cf321195e2c8af097e5a91c4956edc289"), looks := false }, kinds := [], alts := [], laidByText := true, laidKinds := [.data], laidTests := true, laidLooks := .later }
def FnExactPathOfUptoCardSaid : Prop := Claim7.holds Tryd.pinned (.plain (OpenSpec.upto fnExactPathOfSpec)) fnExactPathOfUptoCard
end Rows
end Go.Proofs.YtlnhfafnhclolaaDoor
