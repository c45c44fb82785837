/-
  DERIVED. GIVEN WITH THE SEED: THE CARDS: each row of YthdfkpinaidkkaaDoorRows.lean that lists a variable, with what it lists TIED to the program's text (the seventh form; the later family's looks); each row that meets fmt, with fmt's text TOLD by the authors' own Lean function (tested against real Go, not proved from fmt's source: count such statements apart). THE CARD IS WHAT COUNTS. Prove the row's statement (the work); the ties are given (YthdfkpinaidkkaaDoorTie.lean); close each card by the builder's one call (the guide's Derived/Test/ToyasCard.lean, 'card_holds'). Laid BY PROGRAM, IN A SANDBOX (cutbox-door.mjs). By AI agents, Wed Nov 11 2026. No macro, syntax, notation, axiom, sorry.
-/
import Derived.Test.YthdfkpinaidkkaaDoorRows
import GoSem.ClaimSeven
namespace Go.Proofs.YthdfkpinaidkkaaDoor
namespace Rows

/-- THE TIED CARD OF 'laws.FnSetTexts'. -/
def fnSetTextsCard : Claim7 := { stood := { row := fnSetTextsRow, standIns := [], harness := (true, "2fbce91bd4424b8390ef6a033c2562858b0817bebf772c36a5c4860ec6cbf4d6"), looks := true }, kinds := [], alts := [], laidByText := true, laidKinds := [.data, .data, .data, .data, .sentinel, .sentinel, .pinned], laidTests := true, laidLooks := .later }
def FnSetTextsCardSaid : Prop := Claim7.holds Tryd.pinned (.plain (OpenSpec.ofChange fnSetTextsSpec)) fnSetTextsCard

/-- THE TIED CARD OF 'laws.FnExactSetText'. -/
def fnExactSetTextCard : Claim7 := { stood := { row := fnExactSetTextRow, standIns := [], harness := (true, "2fbce91bd4424b8390ef6a033c2562858b0817bebf772c36a5c4860ec6cbf4d6"), looks := true }, kinds := [], alts := [], laidByText := true, laidKinds := [.data, .data, .data], laidTests := true, laidLooks := .later }
def FnExactSetTextCardSaid : Prop := Claim7.holds Tryd.pinned (.plain (OpenSpec.ofChange fnExactSetTextSpec)) fnExactSetTextCard

/-- THE TIED CARD OF 'laws.FnExactGraphText'. -/
def fnExactGraphTextCard : Claim7 := { stood := { row := fnExactGraphTextRow, standIns := [], harness := (true, "2fbce91bd4424b8390ef6a033c2562858b0817bebf772c36a5c4860ec6cbf4d6"), looks := true }, kinds := [], alts := [], laidByText := true, laidKinds := [.data, .data, .data], laidTests := true, laidLooks := .later }
def FnExactGraphTextCardSaid : Prop := Claim7.holds Tryd.pinned (.plain (OpenSpec.ofChange fnExactGraphTextSpec)) fnExactGraphTextCard

/-- THE TIED CARD OF 'laws.FnExactTextRows'. -/
def fnExactTextRowsCard : Claim7 := { stood := { row := fnExactTextRowsRow, standIns := [], harness := (true, "2fbce91bd4424b8390ef6a033c2562858b0817bebf772c36a5c4860ec6cbf4d6"), looks := true }, kinds := [], alts := [], laidByText := true, laidKinds := [.data, .pinned], laidTests := true, laidLooks := .later }
def FnExactTextRowsCardSaid : Prop := Claim7.holds Tryd.pinned (.plain (OpenSpec.ofChange fnExactTextRowsSpec)) fnExactTextRowsCard

/-- THE TIED CARD OF 'laws.FnExactTextSet'. -/
def fnExactTextSetCard : Claim7 := { stood := { row := fnExactTextSetRow, standIns := [], harness := (true, "2fbce91bd4424b8390ef6a033c2562858b0817bebf772c36a5c4860ec6cbf4d6"), looks := true }, kinds := [], alts := [], laidByText := true, laidKinds := [.data, .data, .data, .data, .sentinel, .sentinel, .pinned], laidTests := true, laidLooks := .later }
def FnExactTextSetCardSaid : Prop := Claim7.holds Tryd.pinned (.plain (OpenSpec.ofChange fnExactTextSetSpec)) fnExactTextSetCard

/-- THE SECOND FORM's CARD OF 'laws.FnSetTexts'. -/
def fnSetTextsUptoCard : Claim7 := { stood := { row := fnSetTextsUptoRow, standIns := [], harness := (true, "2fbce91bd4424b8390ef6a033c2562858b0817bebf772c36a5c4860ec6cbf4d6"), looks := true }, kinds := [], alts := [], laidByText := true, laidKinds := [.data, .data, .data, .data, .sentinel, .sentinel, .pinned], laidTests := true, laidLooks := .later }
def FnSetTextsUptoCardSaid : Prop := Claim7.holds Tryd.pinned (.plain (OpenSpec.upto fnSetTextsSpec)) fnSetTextsUptoCard

/-- THE SECOND FORM's CARD OF 'laws.FnExactSetText'. -/
def fnExactSetTextUptoCard : Claim7 := { stood := { row := fnExactSetTextUptoRow, standIns := [], harness := (true, "2fbce91bd4424b8390ef6a033c2562858b0817bebf772c36a5c4860ec6cbf4d6"), looks := true }, kinds := [], alts := [], laidByText := true, laidKinds := [.data, .data, .data], laidTests := true, laidLooks := .later }
def FnExactSetTextUptoCardSaid : Prop := Claim7.holds Tryd.pinned (.plain (OpenSpec.upto fnExactSetTextSpec)) fnExactSetTextUptoCard

/-- THE SECOND FORM's CARD OF 'laws.FnExactGraphText'. -/
def fnExactGraphTextUptoCard : Claim7 := { stood := { row := fnExactGraphTextUptoRow, standIns := [], harness := (true, "2fbce91bd4424b8390ef6a033c2562858b0817bebf772c36a5c4860ec6cbf4d6"), looks := true }, kinds := [], alts := [], laidByText := true, laidKinds := [.data, .data, .data], laidTests := true, laidLooks := .later }
def FnExactGraphTextUptoCardSaid : Prop := Claim7.holds Tryd.pinned (.plain (OpenSpec.upto fnExactGraphTextSpec)) fnExactGraphTextUptoCard

/-- THE SECOND FORM's CARD OF 'laws.FnExactTextRows'. -/
def fnExactTextRowsUptoCard : Claim7 := { stood := { row := fnExactTextRowsUptoRow, standIns := [], harness := (true, "2fbce91bd4424b8390ef6a033c2562858b0817bebf772c36a5c4860ec6cbf4d6"), looks := true }, kinds := [], alts := [], laidByText := true, laidKinds := [.data, .pinned], laidTests := true, laidLooks := .later }
def FnExactTextRowsUptoCardSaid : Prop := Claim7.holds Tryd.pinned (.plain (OpenSpec.upto fnExactTextRowsSpec)) fnExactTextRowsUptoCard

/-- THE SECOND FORM's CARD OF 'laws.FnExactTextSet'. -/
def fnExactTextSetUptoCard : Claim7 := { stood := { row := fnExactTextSetUptoRow, standIns := [], harness := (true, "2fbce91bd4424b8390ef6a033c2562858b0817bebf772c36a5c4860ec6cbf4d6"), looks := true }, kinds := [], alts := [], laidByText := true, laidKinds := [.data, .data, .data, .data, .sentinel, .sentinel, .pinned], laidTests := true, laidLooks := .later }
def FnExactTextSetUptoCardSaid : Prop := Claim7.holds Tryd.pinned (.plain (OpenSpec.upto fnExactTextSetSpec)) fnExactTextSetUptoCard
end Rows
end Go.Proofs.YthdfkpinaidkkaaDoor
