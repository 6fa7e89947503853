/-
  DERIVED. GIVEN WITH THE SEED: THE CARDS: each row of YthnadkafegmacaaDoorRows.lean that lists a variable, with what it lists TIED to the program's text (the seventh form; the later family's looks); each row that meets fmt, with fmt's text TOLD by the authors' own Lean function (tested against real Go, not proved from fmt's source: count such statements apart). THE CARD IS WHAT COUNTS. Prove the row's statement (the work); the ties are given (YthnadkafegmacaaDoorTie.lean); close each card by the builder's one call (the guide's Derived/Test/ToyasCard.lean, 'card_holds'). Laid BY PROGRAM, IN A SANDBOX (cutbox-door.mjs). By AI agents, Wed Nov 11 2026. No macro, syntax, notation, axiom, sorry.
-/
import Derived.Test.YthnadkafegmacaaDoorRows
import GoSem.ClaimSeven
namespace Go.Proofs.YthnadkafegmacaaDoor
namespace Rows

/-- THE TIED CARD OF 'chirographlaw.ExprReads'. -/
def exprReadsCard : Claim7 := { stood := { row := exprReadsRow, standIns := [], harness := (true, "832adc385d458258fd4e9e388f22e1528457c7cbc3b190da7391aa641223c9a6"), looks := true }, kinds := [], alts := [], laidByText := true, laidKinds := [.data, .listed, .data, .data, .pinned], laidTests := true, laidLooks := .later }
def ExprReadsCardSaid : Prop := Claim7.holds Tryd.pinned (.plain (OpenSpec.ofChange exprReadsSpec)) exprReadsCard

/-- THE TIED CARD OF 'chirographlaw.ExprShows'. -/
def exprShowsCard : Claim7 := { stood := { row := exprShowsRow, standIns := [], harness := (true, "832adc385d458258fd4e9e388f22e1528457c7cbc3b190da7391aa641223c9a6"), looks := true }, kinds := [], alts := [], laidByText := true, laidKinds := [.data, .listed, .data, .data, .pinned], laidTests := true, laidLooks := .later }
def ExprShowsCardSaid : Prop := Claim7.holds Tryd.pinned (.plain (OpenSpec.ofChange exprShowsSpec)) exprShowsCard

/-- THE TIED CARD OF 'chirographlaw.ExprParses'. -/
def exprParsesCard : Claim7 := { stood := { row := exprParsesRow, standIns := [], harness := (true, "832adc385d458258fd4e9e388f22e1528457c7cbc3b190da7391aa641223c9a6"), looks := true }, kinds := [], alts := [], laidByText := true, laidKinds := [.data, .listed, .data, .data, .pinned], laidTests := true, laidLooks := .later }
def ExprParsesCardSaid : Prop := Claim7.holds Tryd.pinned (.plain (OpenSpec.ofChange exprParsesSpec)) exprParsesCard

/-- THE TIED CARD OF 'chirographlaw.EvalFolds'. -/
def evalFoldsCard : Claim7 := { stood := { row := evalFoldsRow, standIns := [], harness := (true, "832adc385d458258fd4e9e388f22e1528457c7cbc3b190da7391aa641223c9a6"), looks := true }, kinds := [], alts := [], laidByText := true, laidKinds := [.data, .pinned], laidTests := true, laidLooks := .later }
def EvalFoldsCardSaid : Prop := Claim7.holds Tryd.pinned (.plain (OpenSpec.ofChange evalFoldsSpec)) evalFoldsCard

/-- THE TIED CARD OF 'chirographlaw.LexShows'. -/
def lexShowsCard : Claim7 := { stood := { row := lexShowsRow, standIns := [], harness := (true, "832adc385d458258fd4e9e388f22e1528457c7cbc3b190da7391aa641223c9a6"), looks := true }, kinds := [], alts := [], laidByText := true, laidKinds := [.data, .data, .data, .data, .pinned], laidTests := true, laidLooks := .later }
def LexShowsCardSaid : Prop := Claim7.holds Tryd.pinned (.plain (OpenSpec.ofChange lexShowsSpec)) lexShowsCard

/-- THE TIED CARD OF 'chirographlaw.StmtShows'. -/
def stmtShowsCard : Claim7 := { stood := { row := stmtShowsRow, standIns := [], harness := (true, "832adc385d458258fd4e9e388f22e1528457c7cbc3b190da7391aa641223c9a6"), looks := true }, kinds := [], alts := [], laidByText := true, laidKinds := [.data, .listed, .data, .widerDeep, .data, .widerDeep, .data, .pinned], laidTests := true, laidLooks := .later }
def StmtShowsCardSaid : Prop := Claim7.holds Tryd.pinned (.plain (OpenSpec.ofChange stmtShowsSpec)) stmtShowsCard

/-- THE TIED CARD OF 'chirographlaw.EvalEvals'. -/
def evalEvalsCard : Claim7 := { stood := { row := evalEvalsRow, standIns := [], harness := (true, "832adc385d458258fd4e9e388f22e1528457c7cbc3b190da7391aa641223c9a6"), looks := true }, kinds := [], alts := [], laidByText := true, laidKinds := [.data, .pinned], laidTests := true, laidLooks := .later }
def EvalEvalsCardSaid : Prop := Claim7.holds Tryd.pinned (.plain (OpenSpec.ofChange evalEvalsSpec)) evalEvalsCard

/-- THE TIED CARD OF 'chirographlaw.TableHolds'. -/
def tableHoldsCard : Claim7 := { stood := { row := tableHoldsRow, standIns := [], harness := (true, "832adc385d458258fd4e9e388f22e1528457c7cbc3b190da7391aa641223c9a6"), looks := true }, kinds := [], alts := [], laidByText := true, laidKinds := [.data, .pinned], laidTests := true, laidLooks := .later }
def TableHoldsCardSaid : Prop := Claim7.holds Tryd.pinned (.plain (OpenSpec.ofChange tableHoldsSpec)) tableHoldsCard

/-- THE SECOND FORM's CARD OF 'chirographlaw.ExprReads'. -/
def exprReadsUptoCard : Claim7 := { stood := { row := exprReadsUptoRow, standIns := [], harness := (true, "832adc385d458258fd4e9e388f22e1528457c7cbc3b190da7391aa641223c9a6"), looks := true }, kinds := [], alts := [], laidByText := true, laidKinds := [.data, .listed, .data, .data, .pinned], laidTests := true, laidLooks := .later }
def ExprReadsUptoCardSaid : Prop := Claim7.holds Tryd.pinned (.plain (OpenSpec.upto exprReadsSpec)) exprReadsUptoCard

/-- THE SECOND FORM's CARD OF 'chirographlaw.ExprShows'. -/
def exprShowsUptoCard : Claim7 := { stood := { row := exprShowsUptoRow, standIns := [], harness := (true, "832adc385d458258fd4e9e388f22e1528457c7cbc3b190da7391aa641223c9a6"), looks := true }, kinds := [], alts := [], laidByText := true, laidKinds := [.data, .listed, .data, .data, .pinned], laidTests := true, laidLooks := .later }
def ExprShowsUptoCardSaid : Prop := Claim7.holds Tryd.pinned (.plain (OpenSpec.upto exprShowsSpec)) exprShowsUptoCard

/-- THE SECOND FORM's CARD OF 'chirographlaw.ExprParses'. -/
def exprParsesUptoCard : Claim7 := { stood := { row := exprParsesUptoRow, standIns := [], harness := (true, "832adc385d458258fd4e9e388f22e1528457c7cbc3b190da7391aa641223c9a6"), looks := true }, kinds := [], alts := [], laidByText := true, laidKinds := [.data, .listed, .data, .data, .pinned], laidTests := true, laidLooks := .later }
def ExprParsesUptoCardSaid : Prop := Claim7.holds Tryd.pinned (.plain (OpenSpec.upto exprParsesSpec)) exprParsesUptoCard

/-- THE SECOND FORM's CARD OF 'chirographlaw.EvalFolds'. -/
def evalFoldsUptoCard : Claim7 := { stood := { row := evalFoldsUptoRow, standIns := [], harness := (true, "832adc385d458258fd4e9e388f22e1528457c7cbc3b190da7391aa641223c9a6"), looks := true }, kinds := [], alts := [], laidByText := true, laidKinds := [.data, .pinned], laidTests := true, laidLooks := .later }
def EvalFoldsUptoCardSaid : Prop := Claim7.holds Tryd.pinned (.plain (OpenSpec.upto evalFoldsSpec)) evalFoldsUptoCard

/-- THE SECOND FORM's CARD OF 'chirographlaw.LexShows'. -/
def lexShowsUptoCard : Claim7 := { stood := { row := lexShowsUptoRow, standIns := [], harness := (true, "832adc385d458258fd4e9e388f22e1528457c7cbc3b190da7391aa641223c9a6"), looks := true }, kinds := [], alts := [], laidByText := true, laidKinds := [.data, .data, .data, .data, .pinned], laidTests := true, laidLooks := .later }
def LexShowsUptoCardSaid : Prop := Claim7.holds Tryd.pinned (.plain (OpenSpec.upto lexShowsSpec)) lexShowsUptoCard

/-- THE SECOND FORM's CARD OF 'chirographlaw.StmtShows'. -/
def stmtShowsUptoCard : Claim7 := { stood := { row := stmtShowsUptoRow, standIns := [], harness := (true, "832adc385d458258fd4e9e388f22e1528457c7cbc3b190da7391aa641223c9a6"), looks := true }, kinds := [], alts := [], laidByText := true, laidKinds := [.data, .listed, .data, .widerDeep, .data, .widerDeep, .data, .pinned], laidTests := true, laidLooks := .later }
def StmtShowsUptoCardSaid : Prop := Claim7.holds Tryd.pinned (.plain (OpenSpec.upto stmtShowsSpec)) stmtShowsUptoCard

/-- THE SECOND FORM's CARD OF 'chirographlaw.EvalEvals'. -/
def evalEvalsUptoCard : Claim7 := { stood := { row := evalEvalsUptoRow, standIns := [], harness := (true, "832adc385d458258fd4e9e388f22e1528457c7cbc3b190da7391aa641223c9a6"), looks := true }, kinds := [], alts := [], laidByText := true, laidKinds := [.data, .pinned], laidTests := true, laidLooks := .later }
def EvalEvalsUptoCardSaid : Prop := Claim7.holds Tryd.pinned (.plain (OpenSpec.upto evalEvalsSpec)) evalEvalsUptoCard

/-- THE SECOND FORM's CARD OF 'chirographlaw.TableHolds'. -/
def tableHoldsUptoCard : Claim7 := { stood := { row := tableHoldsUptoRow, standIns := [], harness := (true, "832adc385d458258fd4e9e388f22e1528457c7cbc3b190da7391aa641223c9a6"), looks := true }, kinds := [], alts := [], laidByText := true, laidKinds := [.data, .pinned], laidTests := true, laidLooks := .later }
def TableHoldsUptoCardSaid : Prop := Claim7.holds Tryd.pinned (.plain (OpenSpec.upto tableHoldsSpec)) tableHoldsUptoCard
end Rows
end Go.Proofs.YthnadkafegmacaaDoor
