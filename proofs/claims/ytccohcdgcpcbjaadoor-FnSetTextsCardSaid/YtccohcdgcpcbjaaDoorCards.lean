/-
  DERIVED. GIVEN WITH THE SEED: THE CARDS: each row of YtccohcdgcpcbjaaDoorRows.lean that lists a variable, with what it lists TIED to the program's text (the seventh form; the later family's looks); each row that meets fmt, with fmt's text TOLD by the authors' own Lean function (tested against real Go, not proved from fmt's source: count such statements apart). THE CARD IS WHAT COUNTS. Prove the row's statement (the work); the ties are given (YtccohcdgcpcbjaaDoorTie.lean); close each card by the builder's one call (the guide's Derived/Test/ToyasCard.lean, 'card_holds'). Laid BY PROGRAM, IN A SANDBOX (cutbox-door.mjs). By AI agents, Wed Nov 11 2026. No macro, syntax, notation, axiom, sorry.
-/
import Derived.Test.YtccohcdgcpcbjaaDoorRows
import GoSem.ClaimSeven
namespace Go.Proofs.YtccohcdgcpcbjaaDoor
namespace Rows

/-- THE TIED CARD OF 'laws.FnExactTextRows'. -/
def fnExactTextRowsCard : Claim7 := { stood := { row := fnExactTextRowsRow, standIns := [], harness := (true, "4088c0365a69f193387f80c2059c89e14a8c7f57006bc771df515b0fed7fd7dd"), looks := true }, kinds := [], alts := [], laidByText := true, laidKinds := [.data, .pinned], laidTests := true, laidLooks := .later }
def FnExactTextRowsCardSaid : Prop := Claim7.holds Tryd.pinned (.plain (OpenSpec.ofChange fnExactTextRowsSpec)) fnExactTextRowsCard

/-- THE TIED CARD OF 'laws.FnExactTextSet'. -/
def fnExactTextSetCard : Claim7 := { stood := { row := fnExactTextSetRow, standIns := [], harness := (true, "4088c0365a69f193387f80c2059c89e14a8c7f57006bc771df515b0fed7fd7dd"), looks := true }, kinds := [], alts := [], laidByText := true, laidKinds := [.data, .data, .data, .data, .sentinel, .sentinel, .pinned], laidTests := true, laidLooks := .later }
def FnExactTextSetCardSaid : Prop := Claim7.holds Tryd.pinned (.plain (OpenSpec.ofChange fnExactTextSetSpec)) fnExactTextSetCard

/-- THE TIED CARD OF 'laws.FnSetTexts'. -/
def fnSetTextsCard : Claim7 := { stood := { row := fnSetTextsRow, standIns := [], harness := (true, "4088c0365a69f193387f80c2059c89e14a8c7f57006bc771df515b0fed7fd7dd"), looks := true }, kinds := [], alts := [], laidByText := true, laidKinds := [.data, .data, .data, .data, .sentinel, .sentinel, .pinned], laidTests := true, laidLooks := .later }
def FnSetTextsCardSaid : Prop := Claim7.holds Tryd.pinned (.plain (OpenSpec.ofChange fnSetTextsSpec)) fnSetTextsCard

/-- THE SECOND FORM's CARD OF 'laws.FnExactTextRows'. -/
def fnExactTextRowsUptoCard : Claim7 := { stood := { row := fnExactTextRowsUptoRow, standIns := [], harness := (true, "4088c0365a69f193387f80c2059c89e14a8c7f57006bc771df515b0fed7fd7dd"), looks := true }, kinds := [], alts := [], laidByText := true, laidKinds := [.data, .pinned], laidTests := true, laidLooks := .later }
def FnExactTextRowsUptoCardSaid : Prop := Claim7.holds Tryd.pinned (.plain (OpenSpec.upto fnExactTextRowsSpec)) fnExactTextRowsUptoCard

/-- THE SECOND FORM's CARD OF 'laws.FnExactTextSet'. -/
def fnExactTextSetUptoCard : Claim7 := { stood := { row := fnExactTextSetUptoRow, standIns := [], harness := (true, "4088c0365a69f193387f80c2059c89e14a8c7f57006bc771df515b0fed7fd7dd"), looks := true }, kinds := [], alts := [], laidByText := true, laidKinds := [.data, .data, .data, .data, .sentinel, .sentinel, .pinned], laidTests := true, laidLooks := .later }
def FnExactTextSetUptoCardSaid : Prop := Claim7.holds Tryd.pinned (.plain (OpenSpec.upto fnExactTextSetSpec)) fnExactTextSetUptoCard

/-- THE SECOND FORM's CARD OF 'laws.FnSetTexts'. -/
def fnSetTextsUptoCard : Claim7 := { stood := { row := fnSetTextsUptoRow, standIns := [], harness := (true, "4088c0365a69f193387f80c2059c89e14a8c7f57006bc771df515b0fed7fd7dd"), looks := true }, kinds := [], alts := [], laidByText := true, laidKinds := [.data, .data, .data, .data, .sentinel, .sentinel, .pinned], laidTests := true, laidLooks := .later }
def FnSetTextsUptoCardSaid : Prop := Claim7.holds Tryd.pinned (.plain (OpenSpec.upto fnSetTextsSpec)) fnSetTextsUptoCard
end Rows
end Go.Proofs.YtccohcdgcpcbjaaDoor
