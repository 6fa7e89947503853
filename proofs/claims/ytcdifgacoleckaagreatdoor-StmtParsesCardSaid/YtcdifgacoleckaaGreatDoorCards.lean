/-
  DERIVED. GIVEN WITH THE SEED: THE CARDS: each row of YtcdifgacoleckaaGreatDoorRows.lean that lists a variable, with what it lists TIED to the program's text (the seventh form; the later family's looks); each row that meets fmt, with fmt's text TOLD by the authors' own Lean function (tested against real Go, not proved from fmt's source: count such statements apart). THE CARD IS WHAT COUNTS. Prove the row's statement (the work); the ties are given (YtcdifgacoleckaaGreatDoorTie.lean); close each card by the builder's one call (the guide's Derived/Test/ToyasCard.lean, 'card_holds'). Laid BY PROGRAM, IN A SANDBOX (cutbox-door.mjs). By AI agents, Wed Nov 11 2026. No macro, syntax, notation, axiom, sorry.
-/
import Derived.Test.YtcdifgacoleckaaGreatDoorRows
import GoSem.ClaimSeven
namespace Go.Proofs.YtcdifgacoleckaaGreatDoor
namespace Rows

/-- THE TIED CARD OF 'chirographlaw.StmtParses'. -/
def stmtParsesCard : Claim7 := { stood := { row := stmtParsesRow, standIns := [], harness := (true, "8fb9a6d39495d2036cad4a20d9ba59915ef7333df9c79575a7d895efd629fb23"), looks := true }, kinds := [], alts := [], laidByText := true, laidKinds := [.data, .listed, .data, .widerDeep, .data, .widerDeep, .data, .pinned], laidTests := true, laidLooks := .later }
def StmtParsesCardSaid : Prop := Claim7.holds Tryz.pinned (.plain (OpenSpec.ofChange stmtParsesSpec)) stmtParsesCard

/-- THE SECOND FORM's CARD OF 'chirographlaw.StmtParses'. -/
def stmtParsesUptoCard : Claim7 := { stood := { row := stmtParsesUptoRow, standIns := [], harness := (true, "8fb9a6d39495d2036cad4a20d9ba59915ef7333df9c79575a7d895efd629fb23"), looks := true }, kinds := [], alts := [], laidByText := true, laidKinds := [.data, .listed, .data, .widerDeep, .data, .widerDeep, .data, .pinned], laidTests := true, laidLooks := .later }
def StmtParsesUptoCardSaid : Prop := Claim7.holds Tryz.pinned (.plain (OpenSpec.upto stmtParsesSpec)) stmtParsesUptoCard
end Rows
end Go.Proofs.YtcdifgacoleckaaGreatDoor
