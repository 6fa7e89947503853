/-
  DERIVED. GIVEN WITH THE SEED: THE CARDS: each row of YtpmldhpjenjhpaaDoorRows.lean that lists a variable, with what it lists TIED to the program's text (the seventh form; the later family's looks); each row that meets fmt, with fmt's text TOLD by the authors' own Lean function (tested against real Go, not proved from fmt's source: count such statements apart). THE CARD IS WHAT COUNTS. Prove the row's statement (the work); the ties are given (YtpmldhpjenjhpaaDoorTie.lean); close each card by the builder's one call (the guide's Derived/Test/ToyasCard.lean, 'card_holds'). Laid BY PROGRAM, IN A SANDBOX (cutbox-door.mjs). By AI agents, Wed Nov 11 2026. No macro, syntax, notation, axiom, sorry.
-/
import Derived.Test.YtpmldhpjenjhpaaDoorRows
import GoSem.ClaimSeven
namespace Go.Proofs.YtpmldhpjenjhpaaDoor
namespace Rows

/-- THE TIED CARD OF 'chirographlaw.ValueChecks'. -/
def valueChecksCard : Claim7 := { stood := { row := valueChecksRow, standIns := [], harness := (true, "dcfb9eb88d4f61ea7eef1dfe61ae5a0c24111599dc5aa92fb916cee41c954604"), looks := false }, kinds := [], alts := [], laidByText := true, laidKinds := [.data, .pinned], laidTests := true, laidLooks := .later }
def ValueChecksCardSaid : Prop := Claim7.holds Tryd.pinned (.plain (OpenSpec.ofChange valueChecksSpec)) valueChecksCard

/-- THE TIED CARD OF 'chirographlaw.ValueCompares'. -/
def valueComparesCard : Claim7 := { stood := { row := valueComparesRow, standIns := [], harness := (true, "dcfb9eb88d4f61ea7eef1dfe61ae5a0c24111599dc5aa92fb916cee41c954604"), looks := false }, kinds := [], alts := [], laidByText := true, laidKinds := [.data, .pinned], laidTests := true, laidLooks := .later }
def ValueComparesCardSaid : Prop := Claim7.holds Tryd.pinned (.plain (OpenSpec.ofChange valueComparesSpec)) valueComparesCard

/-- THE TIED CARD OF 'chirographlaw.ValueEquals'. -/
def valueEqualsCard : Claim7 := { stood := { row := valueEqualsRow, standIns := [], harness := (true, "dcfb9eb88d4f61ea7eef1dfe61ae5a0c24111599dc5aa92fb916cee41c954604"), looks := false }, kinds := [], alts := [], laidByText := true, laidKinds := [.data, .pinned], laidTests := true, laidLooks := .later }
def ValueEqualsCardSaid : Prop := Claim7.holds Tryd.pinned (.plain (OpenSpec.ofChange valueEqualsSpec)) valueEqualsCard

/-- THE TIED CARD OF 'chirographlaw.ValueLess'. -/
def valueLessCard : Claim7 := { stood := { row := valueLessRow, standIns := [], harness := (true, "dcfb9eb88d4f61ea7eef1dfe61ae5a0c24111599dc5aa92fb916cee41c954604"), looks := false }, kinds := [], alts := [], laidByText := true, laidKinds := [.data, .pinned], laidTests := true, laidLooks := .later }
def ValueLessCardSaid : Prop := Claim7.holds Tryd.pinned (.plain (OpenSpec.ofChange valueLessSpec)) valueLessCard

/-- THE TIED CARD OF 'chirographlaw.LexChecks'. -/
def lexChecksCard : Claim7 := { stood := { row := lexChecksRow, standIns := [], harness := (true, "dcfb9eb88d4f61ea7eef1dfe61ae5a0c24111599dc5aa92fb916cee41c954604"), looks := false }, kinds := [], alts := [], laidByText := true, laidKinds := [.data, .pinned], laidTests := true, laidLooks := .later }
def LexChecksCardSaid : Prop := Claim7.holds Tryd.pinned (.plain (OpenSpec.ofChange lexChecksSpec)) lexChecksCard

/-- THE TIED CARD OF 'chirographlaw.KindsColumns'. -/
def kindsColumnsCard : Claim7 := { stood := { row := kindsColumnsRow, standIns := [], harness := (true, "dcfb9eb88d4f61ea7eef1dfe61ae5a0c24111599dc5aa92fb916cee41c954604"), looks := false }, kinds := [], alts := [], laidByText := true, laidKinds := [.data, .pinned], laidTests := true, laidLooks := .later }
def KindsColumnsCardSaid : Prop := Claim7.holds Tryd.pinned (.plain (OpenSpec.ofChange kindsColumnsSpec)) kindsColumnsCard

/-- THE TIED CARD OF 'chirographlaw.KindsRows'. -/
def kindsRowsCard : Claim7 := { stood := { row := kindsRowsRow, standIns := [], harness := (true, "dcfb9eb88d4f61ea7eef1dfe61ae5a0c24111599dc5aa92fb916cee41c954604"), looks := false }, kinds := [], alts := [], laidByText := true, laidKinds := [.data, .pinned], laidTests := true, laidLooks := .later }
def KindsRowsCardSaid : Prop := Claim7.holds Tryd.pinned (.plain (OpenSpec.ofChange kindsRowsSpec)) kindsRowsCard

/-- THE SECOND FORM's CARD OF 'chirographlaw.ValueChecks'. -/
def valueChecksUptoCard : Claim7 := { stood := { row := valueChecksUptoRow, standIns := [], harness := (true, "dcfb9eb88d4f61ea7eef1dfe61ae5a0c24111599dc5aa92fb916cee41c954604"), looks := false }, kinds := [], alts := [], laidByText := true, laidKinds := [.data, .pinned], laidTests := true, laidLooks := .later }
def ValueChecksUptoCardSaid : Prop := Claim7.holds Tryd.pinned (.plain (OpenSpec.upto valueChecksSpec)) valueChecksUptoCard

/-- THE SECOND FORM's CARD OF 'chirographlaw.ValueCompares'. -/
def valueComparesUptoCard : Claim7 := { stood := { row := valueComparesUptoRow, standIns := [], harness := (true, "dcfb9eb88d4f61ea7eef1dfe61ae5a0c24111599dc5aa92fb916cee41c954604"), looks := false }, kinds := [], alts := [], laidByText := true, laidKinds := [.data, .pinned], laidTests := true, laidLooks := .later }
def ValueComparesUptoCardSaid : Prop := Claim7.holds Tryd.pinned (.plain (OpenSpec.upto valueComparesSpec)) valueComparesUptoCard

/-- THE SECOND FORM's CARD OF 'chirographlaw.ValueEquals'. -/
def valueEqualsUptoCard : Claim7 := { stood := { row := valueEqualsUptoRow, standIns := [], harness := (true, "dcfb9eb88d4f61ea7eef1dfe61ae5a0c24111599dc5aa92fb916cee41c954604"), looks := false }, kinds := [], alts := [], laidByText := true, laidKinds := [.data, .pinned], laidTests := true, laidLooks := .later }
def ValueEqualsUptoCardSaid : Prop := Claim7.holds Tryd.pinned (.plain (OpenSpec.upto valueEqualsSpec)) valueEqualsUptoCard

/-- THE SECOND FORM's CARD OF 'chirographlaw.ValueLess'. -/
def valueLessUptoCard : Claim7 := { stood := { row := valueLessUptoRow, standIns := [], harness := (true, "dcfb9eb88d4f61ea7eef1dfe61ae5a0c24111599dc5aa92fb916cee41c954604"), looks := false }, kinds := [], alts := [], laidByText := true, laidKinds := [.data, .pinned], laidTests := true, laidLooks := .later }
def ValueLessUptoCardSaid : Prop := Claim7.holds Tryd.pinned (.plain (OpenSpec.upto valueLessSpec)) valueLessUptoCard

/-- THE SECOND FORM's CARD OF 'chirographlaw.LexChecks'. -/
def lexChecksUptoCard : Claim7 := { stood := { row := lexChecksUptoRow, standIns := [], harness := (true, "dcfb9eb88d4f61ea7eef1dfe61ae5a0c24111599dc5aa92fb916cee41c954604"), looks := false }, kinds := [], alts := [], laidByText := true, laidKinds := [.data, .pinned], laidTests := true, laidLooks := .later }
def LexChecksUptoCardSaid : Prop := Claim7.holds Tryd.pinned (.plain (OpenSpec.upto lexChecksSpec)) lexChecksUptoCard

/-- THE SECOND FORM's CARD OF 'chirographlaw.KindsColumns'. -/
def kindsColumnsUptoCard : Claim7 := { stood := { row := kindsColumnsUptoRow, standIns := [], harness := (true, "dcfb9eb88d4f61ea7eef1dfe61ae5a0c24111599dc5aa92fb916cee41c954604"), looks := false }, kinds := [], alts := [], laidByText := true, laidKinds := [.data, .pinned], laidTests := true, laidLooks := .later }
def KindsColumnsUptoCardSaid : Prop := Claim7.holds Tryd.pinned (.plain (OpenSpec.upto kindsColumnsSpec)) kindsColumnsUptoCard

/-- THE SECOND FORM's CARD OF 'chirographlaw.KindsRows'. -/
def kindsRowsUptoCard : Claim7 := { stood := { row := kindsRowsUptoRow, standIns := [], harness := (true, "dcfb9eb88d4f61ea7eef1dfe61ae5a0c24111599dc5aa92fb916cee41c954604"), looks := false }, kinds := [], alts := [], laidByText := true, laidKinds := [.data, .pinned], laidTests := true, laidLooks := .later }
def KindsRowsUptoCardSaid : Prop := Claim7.holds Tryd.pinned (.plain (OpenSpec.upto kindsRowsSpec)) kindsRowsUptoCard
end Rows
end Go.Proofs.YtpmldhpjenjhpaaDoor
