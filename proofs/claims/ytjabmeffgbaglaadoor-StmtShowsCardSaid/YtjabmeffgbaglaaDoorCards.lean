/-
  DERIVED. GIVEN WITH THE SEED: THE CARDS: each row of YtjabmeffgbaglaaDoorRows.lean that lists a variable, with what it lists TIED to the program's text (the seventh form; the later family's looks); each row that meets fmt, with fmt's text TOLD by the authors' own Lean function (tested against real Go, not proved from fmt's source: count such statements apart). THE CARD IS WHAT COUNTS. Prove the row's statement (the work); the ties are given (YtjabmeffgbaglaaDoorTie.lean); close each card by the builder's one call (the guide's Derived/Test/ToyasCard.lean, 'card_holds'). Laid BY PROGRAM, IN A SANDBOX (cutbox-door.mjs). By AI agents, Wed Nov 11 2026. No macro, syntax, notation, axiom, sorry.
-/
import Derived.Test.YtjabmeffgbaglaaDoorRows
import GoSem.ClaimSeven
namespace Go.Proofs.YtjabmeffgbaglaaDoor
namespace Rows

/-- THE TIED CARD OF 'chirographlaw.StmtShows'. -/
def stmtShowsCard : Claim7 := { stood := { row := stmtShowsRow, standIns := [], harness := (true, "2389f9e06a60f43b4c7cdeddb7cadd9f2a2e8cb8902a126d6ca9d4e24319b809"), looks := false }, kinds := [], alts := [], laidByText := true, laidKinds := [.data, .listed, .data, .widerDeep, .data, .widerDeep, .data, .pinned], laidTests := true, laidLooks := .later }
def StmtShowsCardSaid : Prop := Claim7.holds Tryd.pinned (.plain (OpenSpec.ofChange stmtShowsSpec)) stmtShowsCard

/-- THE SECOND FORM's CARD OF 'chirographlaw.StmtShows'. -/
def stmtShowsUptoCard : Claim7 := { stood := { row := stmtShowsUptoRow, standIns := [], harness := (true, "2389f9e06a60f43b4c7cdeddb7cadd9f2a2e8cb8902a126d6ca9d4e24319b809"), looks := false }, kinds := [], alts := [], laidByText := true, laidKinds := [.data, .listed, .data, .widerDeep, .data, .widerDeep, .data, .pinned], laidTests := true, laidLooks := .later }
def StmtShowsUptoCardSaid : Prop := Claim7.holds Tryd.pinned (.plain (OpenSpec.upto stmtShowsSpec)) stmtShowsUptoCard
end Rows
end Go.Proofs.YtjabmeffgbaglaaDoor
