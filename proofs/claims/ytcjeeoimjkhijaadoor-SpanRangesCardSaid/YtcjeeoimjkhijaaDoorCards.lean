/-
  DERIVED. GIVEN WITH THE SEED: THE CARDS: each row of YtcjeeoimjkhijaaDoorRows.lean that lists a variable, with what it lists TIED to the program's text (the seventh form; the later family's looks); each row that meets fmt, with fmt's text TOLD by the authors' own Lean function (tested against real Go, not proved from fmt's source: count such statements apart). THE CARD IS WHAT COUNTS. Prove the row's statement (the work); the ties are given (YtcjeeoimjkhijaaDoorTie.lean); close each card by the builder's one call (the guide's Derived/Test/ToyasCard.lean, 'card_holds'). Laid BY PROGRAM, IN A SANDBOX (cutbox-door.mjs). By AI agents, Wed Nov 11 2026. No macro, syntax, notation, axiom, sorry.
-/
import Derived.Test.YtcjeeoimjkhijaaDoorRows
import GoSem.ClaimSeven
namespace Go.Proofs.YtcjeeoimjkhijaaDoor
namespace Rows

/-- THE TIED CARD OF 'chirographlaw.ExprChecks'. -/
def exprChecksCard : Claim7 := { stood := { row := exprChecksRow, standIns := [], harness := (true, "8de0f7aef6e21ccf283f902ba5d447a0ab4530cad18488b0a0a4a1a204c16e1a"), looks := false }, kinds := [], alts := [], laidByText := true, laidKinds := [.data, .pinned], laidTests := true, laidLooks := .later }
def ExprChecksCardSaid : Prop := Claim7.holds Tryd.pinned (.plain (OpenSpec.ofChange exprChecksSpec)) exprChecksCard

/-- THE TIED CARD OF 'chirographlaw.TableChecks'. -/
def tableChecksCard : Claim7 := { stood := { row := tableChecksRow, standIns := [], harness := (true, "8de0f7aef6e21ccf283f902ba5d447a0ab4530cad18488b0a0a4a1a204c16e1a"), looks := false }, kinds := [], alts := [], laidByText := true, laidKinds := [.data, .pinned], laidTests := true, laidLooks := .later }
def TableChecksCardSaid : Prop := Claim7.holds Tryd.pinned (.plain (OpenSpec.ofChange tableChecksSpec)) tableChecksCard

/-- THE TIED CARD OF 'chirographlaw.TableRows'. -/
def tableRowsCard : Claim7 := { stood := { row := tableRowsRow, standIns := [], harness := (true, "8de0f7aef6e21ccf283f902ba5d447a0ab4530cad18488b0a0a4a1a204c16e1a"), looks := false }, kinds := [], alts := [], laidByText := true, laidKinds := [.data, .pinned], laidTests := true, laidLooks := .later }
def TableRowsCardSaid : Prop := Claim7.holds Tryd.pinned (.plain (OpenSpec.ofChange tableRowsSpec)) tableRowsCard

/-- THE TIED CARD OF 'chirographlaw.CodeDecodes'. -/
def codeDecodesCard : Claim7 := { stood := { row := codeDecodesRow, standIns := [], harness := (true, "8de0f7aef6e21ccf283f902ba5d447a0ab4530cad18488b0a0a4a1a204c16e1a"), looks := false }, kinds := [], alts := [], laidByText := true, laidKinds := [.data, .pinned], laidTests := true, laidLooks := .later }
def CodeDecodesCardSaid : Prop := Claim7.holds Tryd.pinned (.plain (OpenSpec.ofChange codeDecodesSpec)) codeDecodesCard

/-- THE TIED CARD OF 'chirographlaw.TableInserts'. -/
def tableInsertsCard : Claim7 := { stood := { row := tableInsertsRow, standIns := [], harness := (true, "8de0f7aef6e21ccf283f902ba5d447a0ab4530cad18488b0a0a4a1a204c16e1a"), looks := false }, kinds := [], alts := [], laidByText := true, laidKinds := [.data, .pinned], laidTests := true, laidLooks := .later }
def TableInsertsCardSaid : Prop := Claim7.holds Tryd.pinned (.plain (OpenSpec.ofChange tableInsertsSpec)) tableInsertsCard

/-- THE TIED CARD OF 'chirographlaw.SpanRanges'. -/
def spanRangesCard : Claim7 := { stood := { row := spanRangesRow, standIns := [], harness := (true, "8de0f7aef6e21ccf283f902ba5d447a0ab4530cad18488b0a0a4a1a204c16e1a"), looks := false }, kinds := [], alts := [], laidByText := true, laidKinds := [.data, .pinned], laidTests := true, laidLooks := .later }
def SpanRangesCardSaid : Prop := Claim7.holds Tryd.pinned (.plain (OpenSpec.ofChange spanRangesSpec)) spanRangesCard

/-- THE TIED CARD OF 'chirographlaw.WireTold'. -/
def wireToldCard : Claim7 := { stood := { row := wireToldRow, standIns := [], harness := (true, "8de0f7aef6e21ccf283f902ba5d447a0ab4530cad18488b0a0a4a1a204c16e1a"), looks := false }, kinds := [], alts := [], laidByText := true, laidKinds := [.data, .pinned], laidTests := true, laidLooks := .later }
def WireToldCardSaid : Prop := Claim7.holds Tryd.pinned (.plain (OpenSpec.ofChange wireToldSpec)) wireToldCard

/-- THE TIED CARD OF 'chirographlaw.KindsOf'. -/
def kindsOfCard : Claim7 := { stood := { row := kindsOfRow, standIns := [], harness := (true, "8de0f7aef6e21ccf283f902ba5d447a0ab4530cad18488b0a0a4a1a204c16e1a"), looks := false }, kinds := [], alts := [], laidByText := true, laidKinds := [.data, .pinned], laidTests := true, laidLooks := .later }
def KindsOfCardSaid : Prop := Claim7.holds Tryd.pinned (.plain (OpenSpec.ofChange kindsOfSpec)) kindsOfCard

/-- THE TIED CARD OF 'chirographlaw.TableConditions'. -/
def tableConditionsCard : Claim7 := { stood := { row := tableConditionsRow, standIns := [], harness := (true, "8de0f7aef6e21ccf283f902ba5d447a0ab4530cad18488b0a0a4a1a204c16e1a"), looks := false }, kinds := [], alts := [], laidByText := true, laidKinds := [.data, .pinned], laidTests := true, laidLooks := .later }
def TableConditionsCardSaid : Prop := Claim7.holds Tryd.pinned (.plain (OpenSpec.ofChange tableConditionsSpec)) tableConditionsCard

/-- THE SECOND FORM's CARD OF 'chirographlaw.ExprChecks'. -/
def exprChecksUptoCard : Claim7 := { stood := { row := exprChecksUptoRow, standIns := [], harness := (true, "8de0f7aef6e21ccf283f902ba5d447a0ab4530cad18488b0a0a4a1a204c16e1a"), looks := false }, kinds := [], alts := [], laidByText := true, laidKinds := [.data, .pinned], laidTests := true, laidLooks := .later }
def ExprChecksUptoCardSaid : Prop := Claim7.holds Tryd.pinned (.plain (OpenSpec.upto exprChecksSpec)) exprChecksUptoCard

/-- THE SECOND FORM's CARD OF 'chirographlaw.TableChecks'. -/
def tableChecksUptoCard : Claim7 := { stood := { row := tableChecksUptoRow, standIns := [], harness := (true, "8de0f7aef6e21ccf283f902ba5d447a0ab4530cad18488b0a0a4a1a204c16e1a"), looks := false }, kinds := [], alts := [], laidByText := true, laidKinds := [.data, .pinned], laidTests := true, laidLooks := .later }
def TableChecksUptoCardSaid : Prop := Claim7.holds Tryd.pinned (.plain (OpenSpec.upto tableChecksSpec)) tableChecksUptoCard

/-- THE SECOND FORM's CARD OF 'chirographlaw.TableRows'. -/
def tableRowsUptoCard : Claim7 := { stood := { row := tableRowsUptoRow, standIns := [], harness := (true, "8de0f7aef6e21ccf283f902ba5d447a0ab4530cad18488b0a0a4a1a204c16e1a"), looks := false }, kinds := [], alts := [], laidByText := true, laidKinds := [.data, .pinned], laidTests := true, laidLooks := .later }
def TableRowsUptoCardSaid : Prop := Claim7.holds Tryd.pinned (.plain (OpenSpec.upto tableRowsSpec)) tableRowsUptoCard

/-- THE SECOND FORM's CARD OF 'chirographlaw.CodeDecodes'. -/
def codeDecodesUptoCard : Claim7 := { stood := { row := codeDecodesUptoRow, standIns := [], harness := (true, "8de0f7aef6e21ccf283f902ba5d447a0ab4530cad18488b0a0a4a1a204c16e1a"), looks := false }, kinds := [], alts := [], laidByText := true, laidKinds := [.data, .pinned], laidTests := true, laidLooks := .later }
def CodeDecodesUptoCardSaid : Prop := Claim7.holds Tryd.pinned (.plain (OpenSpec.upto codeDecodesSpec)) codeDecodesUptoCard

/-- THE SECOND FORM's CARD OF 'chirographlaw.TableInserts'. -/
def tableInsertsUptoCard : Claim7 := { stood := { row := tableInsertsUptoRow, standIns := [], harness := (true, "8de0f7aef6e21ccf283f902ba5d447a0ab4530cad18488b0a0a4a1a204c16e1a"), looks := false }, kinds := [], alts := [], laidByText := true, laidKinds := [.data, .pinned], laidTests := true, laidLooks := .later }
def TableInsertsUptoCardSaid : Prop := Claim7.holds Tryd.pinned (.plain (OpenSpec.upto tableInsertsSpec)) tableInsertsUptoCard

/-- THE SECOND FORM's CARD OF 'chirographlaw.SpanRanges'. -/
def spanRangesUptoCard : Claim7 := { stood := { row := spanRangesUptoRow, standIns := [], harness := (true, "8de0f7aef6e21ccf283f902ba5d447a0ab4530cad18488b0a0a4a1a204c16e1a"), looks := false }, kinds := [], alts := [], laidByText := true, laidKinds := [.data, .pinned], laidTests := true, laidLooks := .later }
def SpanRangesUptoCardSaid : Prop := Claim7.holds Tryd.pinned (.plain (OpenSpec.upto spanRangesSpec)) spanRangesUptoCard

/-- THE SECOND FORM's CARD OF 'chirographlaw.WireTold'. -/
def wireToldUptoCard : Claim7 := { stood := { row := wireToldUptoRow, standIns := [], harness := (true, "8de0f7aef6e21ccf283f902ba5d447a0ab4530cad18488b0a0a4a1a204c16e1a"), looks := false }, kinds := [], alts := [], laidByText := true, laidKinds := [.data, .pinned], laidTests := true, laidLooks := .later }
def WireToldUptoCardSaid : Prop := Claim7.holds Tryd.pinned (.plain (OpenSpec.upto wireToldSpec)) wireToldUptoCard

/-- THE SECOND FORM's CARD OF 'chirographlaw.KindsOf'. -/
def kindsOfUptoCard : Claim7 := { stood := { row := kindsOfUptoRow, standIns := [], harness := (true, "8de0f7aef6e21ccf283f902ba5d447a0ab4530cad18488b0a0a4a1a204c16e1a"), looks := false }, kinds := [], alts := [], laidByText := true, laidKinds := [.data, .pinned], laidTests := true, laidLooks := .later }
def KindsOfUptoCardSaid : Prop := Claim7.holds Tryd.pinned (.plain (OpenSpec.upto kindsOfSpec)) kindsOfUptoCard

/-- THE SECOND FORM's CARD OF 'chirographlaw.TableConditions'. -/
def tableConditionsUptoCard : Claim7 := { stood := { row := tableConditionsUptoRow, standIns := [], harness := (true, "8de0f7aef6e21ccf283f902ba5d447a0ab4530cad18488b0a0a4a1a204c16e1a"), looks := false }, kinds := [], alts := [], laidByText := true, laidKinds := [.data, .pinned], laidTests := true, laidLooks := .later }
def TableConditionsUptoCardSaid : Prop := Claim7.holds Tryd.pinned (.plain (OpenSpec.upto tableConditionsSpec)) tableConditionsUptoCard
end Rows
end Go.Proofs.YtcjeeoimjkhijaaDoor
