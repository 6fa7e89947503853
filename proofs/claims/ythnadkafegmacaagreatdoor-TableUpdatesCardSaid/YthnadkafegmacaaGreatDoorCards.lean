/-
  DERIVED. GIVEN WITH THE SEED: THE CARDS: each row of YthnadkafegmacaaGreatDoorRows.lean that lists a variable, with what it lists TIED to the program's text (the seventh form; the later family's looks); each row that meets fmt, with fmt's text TOLD by the authors' own Lean function (tested against real Go, not proved from fmt's source: count such statements apart). THE CARD IS WHAT COUNTS. Prove the row's statement (the work); the ties are given (YthnadkafegmacaaGreatDoorTie.lean); close each card by the builder's one call (the guide's Derived/Test/ToyasCard.lean, 'card_holds'). Laid BY PROGRAM, IN A SANDBOX (cutbox-door.mjs). By AI agents, Wed Nov 11 2026. No macro, syntax, notation, axiom, sorry.
-/
import Derived.Test.YthnadkafegmacaaGreatDoorRows
import GoSem.ClaimSeven
namespace Go.Proofs.YthnadkafegmacaaGreatDoor
namespace Rows

/-- THE TIED CARD OF 'chirographlaw.StmtParses'. -/
def stmtParsesCard : Claim7 := { stood := { row := stmtParsesRow, standIns := [], harness := (true, "3ed123a46869abdea0a217f5ee92bf77271b7f8da87e163b5673d3733918b4a8"), looks := true }, kinds := [], alts := [], laidByText := true, laidKinds := [.data, .listed, .data, .widerDeep, .data, .widerDeep, .data, .pinned], laidTests := true, laidLooks := .later }
def StmtParsesCardSaid : Prop := Claim7.holds Tryz.pinned (.plain (OpenSpec.ofChange stmtParsesSpec)) stmtParsesCard

/-- THE TIED CARD OF 'chirographlaw.SealDigests'. -/
def sealDigestsCard : Claim7 := { stood := { row := sealDigestsRow, standIns := [], harness := (true, "3ed123a46869abdea0a217f5ee92bf77271b7f8da87e163b5673d3733918b4a8"), looks := true }, kinds := [], alts := [], laidByText := true, laidKinds := [.data, .data, .pinned], laidTests := true, laidLooks := .later }
def SealDigestsCardSaid : Prop := Claim7.holds Tryz.pinned (.plain (OpenSpec.ofChange sealDigestsSpec)) sealDigestsCard

/-- THE TIED CARD OF 'chirographlaw.TableDeletes'. -/
def tableDeletesCard : Claim7 := { stood := { row := tableDeletesRow, standIns := [], harness := (true, "3ed123a46869abdea0a217f5ee92bf77271b7f8da87e163b5673d3733918b4a8"), looks := true }, kinds := [], alts := [], laidByText := true, laidKinds := [.data, .pinned], laidTests := true, laidLooks := .later }
def TableDeletesCardSaid : Prop := Claim7.holds Tryz.pinned (.plain (OpenSpec.ofChange tableDeletesSpec)) tableDeletesCard

/-- THE TIED CARD OF 'chirographlaw.TableUpdates'. -/
def tableUpdatesCard : Claim7 := { stood := { row := tableUpdatesRow, standIns := [], harness := (true, "3ed123a46869abdea0a217f5ee92bf77271b7f8da87e163b5673d3733918b4a8"), looks := true }, kinds := [], alts := [], laidByText := true, laidKinds := [.data, .pinned], laidTests := true, laidLooks := .later }
def TableUpdatesCardSaid : Prop := Claim7.holds Tryz.pinned (.plain (OpenSpec.ofChange tableUpdatesSpec)) tableUpdatesCard

/-- THE SECOND FORM's CARD OF 'chirographlaw.StmtParses'. -/
def stmtParsesUptoCard : Claim7 := { stood := { row := stmtParsesUptoRow, standIns := [], harness := (true, "3ed123a46869abdea0a217f5ee92bf77271b7f8da87e163b5673d3733918b4a8"), looks := true }, kinds := [], alts := [], laidByText := true, laidKinds := [.data, .listed, .data, .widerDeep, .data, .widerDeep, .data, .pinned], laidTests := true, laidLooks := .later }
def StmtParsesUptoCardSaid : Prop := Claim7.holds Tryz.pinned (.plain (OpenSpec.upto stmtParsesSpec)) stmtParsesUptoCard

/-- THE SECOND FORM's CARD OF 'chirographlaw.SealDigests'. -/
def sealDigestsUptoCard : Claim7 := { stood := { row := sealDigestsUptoRow, standIns := [], harness := (true, "3ed123a46869abdea0a217f5ee92bf77271b7f8da87e163b5673d3733918b4a8"), looks := true }, kinds := [], alts := [], laidByText := true, laidKinds := [.data, .data, .pinned], laidTests := true, laidLooks := .later }
def SealDigestsUptoCardSaid : Prop := Claim7.holds Tryz.pinned (.plain (OpenSpec.upto sealDigestsSpec)) sealDigestsUptoCard

/-- THE SECOND FORM's CARD OF 'chirographlaw.TableDeletes'. -/
def tableDeletesUptoCard : Claim7 := { stood := { row := tableDeletesUptoRow, standIns := [], harness := (true, "3ed123a46869abdea0a217f5ee92bf77271b7f8da87e163b5673d3733918b4a8"), looks := true }, kinds := [], alts := [], laidByText := true, laidKinds := [.data, .pinned], laidTests := true, laidLooks := .later }
def TableDeletesUptoCardSaid : Prop := Claim7.holds Tryz.pinned (.plain (OpenSpec.upto tableDeletesSpec)) tableDeletesUptoCard

/-- THE SECOND FORM's CARD OF 'chirographlaw.TableUpdates'. -/
def tableUpdatesUptoCard : Claim7 := { stood := { row := tableUpdatesUptoRow, standIns := [], harness := (true, "3ed123a46869abdea0a217f5ee92bf77271b7f8da87e163b5673d3733918b4a8"), looks := true }, kinds := [], alts := [], laidByText := true, laidKinds := [.data, .pinned], laidTests := true, laidLooks := .later }
def TableUpdatesUptoCardSaid : Prop := Claim7.holds Tryz.pinned (.plain (OpenSpec.upto tableUpdatesSpec)) tableUpdatesUptoCard
end Rows
end Go.Proofs.YthnadkafegmacaaGreatDoor
