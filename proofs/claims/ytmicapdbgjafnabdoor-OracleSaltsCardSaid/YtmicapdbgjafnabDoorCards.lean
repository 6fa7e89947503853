/-
  DERIVED. GIVEN WITH THE SEED: THE CARDS: each row of YtmicapdbgjafnabDoorRows.lean that lists a variable, with what it lists TIED to the program's text (the seventh form; the later family's looks); each row that meets fmt, with fmt's text TOLD by the authors' own Lean function (tested against real Go, not proved from fmt's source: count such statements apart). THE CARD IS WHAT COUNTS. Prove the row's statement (the work); the ties are given (YtmicapdbgjafnabDoorTie.lean); close each card by the builder's one call (the guide's Derived/Test/ToyasCard.lean, 'card_holds'). Laid BY PROGRAM, IN A SANDBOX (cutbox-door.mjs). By AI agents, Wed Nov 11 2026. No macro, syntax, notation, axiom, sorry.
-/
import Derived.Test.YtmicapdbgjafnabDoorRows
import GoSem.ClaimSeven
namespace Go.Proofs.YtmicapdbgjafnabDoor
namespace Rows

/-- THE TIED CARD OF 'chirographlaw.OracleSalts'. -/
def oracleSaltsCard : Claim7 := { stood := { row := oracleSaltsRow, standIns := [], harness := (true, "d330023466b2f4e0fa8ba5039ef1bbdf151346f96f0bb366ac8f5d0d78f88bec"), looks := false }, kinds := [], alts := [], laidByText := true, laidKinds := [.data], laidTests := true, laidLooks := .later }
def OracleSaltsCardSaid : Prop := Claim7.holds Tryd.pinned (.plain (OpenSpec.ofChange oracleSaltsSpec)) oracleSaltsCard

/-- THE TIED CARD OF 'chirographlaw.OracleDigests'. -/
def oracleDigestsCard : Claim7 := { stood := { row := oracleDigestsRow, standIns := [], harness := (true, "d330023466b2f4e0fa8ba5039ef1bbdf151346f96f0bb366ac8f5d0d78f88bec"), looks := false }, kinds := [], alts := [], laidByText := true, laidKinds := [.data], laidTests := true, laidLooks := .later }
def OracleDigestsCardSaid : Prop := Claim7.holds Tryd.pinned (.plain (OpenSpec.ofChange oracleDigestsSpec)) oracleDigestsCard

/-- THE TIED CARD OF 'chirographlaw.AuditTells'. -/
def auditTellsCard : Claim7 := { stood := { row := auditTellsRow, standIns := [], harness := (true, "d330023466b2f4e0fa8ba5039ef1bbdf151346f96f0bb366ac8f5d0d78f88bec"), looks := false }, kinds := [], alts := [], laidByText := true, laidKinds := [.data], laidTests := true, laidLooks := .later }
def AuditTellsCardSaid : Prop := Claim7.holds Tryd.pinned (.plain (OpenSpec.ofChange auditTellsSpec)) auditTellsCard

/-- THE TIED CARD OF 'chirographlaw.ValueCompares'. -/
def valueComparesCard : Claim7 := { stood := { row := valueComparesRow, standIns := [], harness := (true, "d330023466b2f4e0fa8ba5039ef1bbdf151346f96f0bb366ac8f5d0d78f88bec"), looks := false }, kinds := [], alts := [], laidByText := true, laidKinds := [.data, .pinned], laidTests := true, laidLooks := .later }
def ValueComparesCardSaid : Prop := Claim7.holds Tryd.pinned (.plain (OpenSpec.ofChange valueComparesSpec)) valueComparesCard

/-- THE TIED CARD OF 'chirographlaw.SlotsLeaves'. -/
def slotsLeavesCard : Claim7 := { stood := { row := slotsLeavesRow, standIns := [], harness := (true, "d330023466b2f4e0fa8ba5039ef1bbdf151346f96f0bb366ac8f5d0d78f88bec"), looks := false }, kinds := [], alts := [], laidByText := true, laidKinds := [.data], laidTests := true, laidLooks := .later }
def SlotsLeavesCardSaid : Prop := Claim7.holds Tryd.pinned (.plain (OpenSpec.ofChange slotsLeavesSpec)) slotsLeavesCard

/-- THE TIED CARD OF 'chirographlaw.AuditEntries'. -/
def auditEntriesCard : Claim7 := { stood := { row := auditEntriesRow, standIns := [], harness := (true, "d330023466b2f4e0fa8ba5039ef1bbdf151346f96f0bb366ac8f5d0d78f88bec"), looks := false }, kinds := [], alts := [], laidByText := true, laidKinds := [.data], laidTests := true, laidLooks := .later }
def AuditEntriesCardSaid : Prop := Claim7.holds Tryd.pinned (.plain (OpenSpec.ofChange auditEntriesSpec)) auditEntriesCard

/-- THE TIED CARD OF 'chirographlaw.ValueEquals'. -/
def valueEqualsCard : Claim7 := { stood := { row := valueEqualsRow, standIns := [], harness := (true, "d330023466b2f4e0fa8ba5039ef1bbdf151346f96f0bb366ac8f5d0d78f88bec"), looks := false }, kinds := [], alts := [], laidByText := true, laidKinds := [.data, .pinned], laidTests := true, laidLooks := .later }
def ValueEqualsCardSaid : Prop := Claim7.holds Tryd.pinned (.plain (OpenSpec.ofChange valueEqualsSpec)) valueEqualsCard

/-- THE TIED CARD OF 'chirographlaw.ValueLess'. -/
def valueLessCard : Claim7 := { stood := { row := valueLessRow, standIns := [], harness := (true, "d330023466b2f4e0fa8ba5039ef1bbdf151346f96f0bb366ac8f5d0d78f88bec"), looks := false }, kinds := [], alts := [], laidByText := true, laidKinds := [.data, .pinned], laidTests := true, laidLooks := .later }
def ValueLessCardSaid : Prop := Claim7.holds Tryd.pinned (.plain (OpenSpec.ofChange valueLessSpec)) valueLessCard

/-- THE TIED CARD OF 'chirographlaw.LexChecks'. -/
def lexChecksCard : Claim7 := { stood := { row := lexChecksRow, standIns := [], harness := (true, "d330023466b2f4e0fa8ba5039ef1bbdf151346f96f0bb366ac8f5d0d78f88bec"), looks := false }, kinds := [], alts := [], laidByText := true, laidKinds := [.data, .pinned], laidTests := true, laidLooks := .later }
def LexChecksCardSaid : Prop := Claim7.holds Tryd.pinned (.plain (OpenSpec.ofChange lexChecksSpec)) lexChecksCard

/-- THE SECOND FORM's CARD OF 'chirographlaw.OracleSalts'. -/
def oracleSaltsUptoCard : Claim7 := { stood := { row := oracleSaltsUptoRow, standIns := [], harness := (true, "d330023466b2f4e0fa8ba5039ef1bbdf151346f96f0bb366ac8f5d0d78f88bec"), looks := false }, kinds := [], alts := [], laidByText := true, laidKinds := [.data], laidTests := true, laidLooks := .later }
def OracleSaltsUptoCardSaid : Prop := Claim7.holds Tryd.pinned (.plain (OpenSpec.upto oracleSaltsSpec)) oracleSaltsUptoCard

/-- THE SECOND FORM's CARD OF 'chirographlaw.OracleDigests'. -/
def oracleDigestsUptoCard : Claim7 := { stood := { row := oracleDigestsUptoRow, standIns := [], harness := (true, "d330023466b2f4e0fa8ba5039ef1bbdf151346f96f0bb366ac8f5d0d78f88bec"), looks := false }, kinds := [], alts := [], laidByText := true, laidKinds := [.data], laidTests := true, laidLooks := .later }
def OracleDigestsUptoCardSaid : Prop := Claim7.holds Tryd.pinned (.plain (OpenSpec.upto oracleDigestsSpec)) oracleDigestsUptoCard

/-- THE SECOND FORM's CARD OF 'chirographlaw.AuditTells'. -/
def auditTellsUptoCard : Claim7 := { stood := { row := auditTellsUptoRow, standIns := [], harness := (true, "d330023466b2f4e0fa8ba5039ef1bbdf151346f96f0bb366ac8f5d0d78f88bec"), looks := false }, kinds := [], alts := [], laidByText := true, laidKinds := [.data], laidTests := true, laidLooks := .later }
def AuditTellsUptoCardSaid : Prop := Claim7.holds Tryd.pinned (.plain (OpenSpec.upto auditTellsSpec)) auditTellsUptoCard

/-- THE SECOND FORM's CARD OF 'chirographlaw.ValueCompares'. -/
def valueComparesUptoCard : Claim7 := { stood := { row := valueComparesUptoRow, standIns := [], harness := (true, "d330023466b2f4e0fa8ba5039ef1bbdf151346f96f0bb366ac8f5d0d78f88bec"), looks := false }, kinds := [], alts := [], laidByText := true, laidKinds := [.data, .pinned], laidTests := true, laidLooks := .later }
def ValueComparesUptoCardSaid : Prop := Claim7.holds Tryd.pinned (.plain (OpenSpec.upto valueComparesSpec)) valueComparesUptoCard

/-- THE SECOND FORM's CARD OF 'chirographlaw.SlotsLeaves'. -/
def slotsLeavesUptoCard : Claim7 := { stood := { row := slotsLeavesUptoRow, standIns := [], harness := (true, "d330023466b2f4e0fa8ba5039ef1bbdf151346f96f0bb366ac8f5d0d78f88bec"), looks := false }, kinds := [], alts := [], laidByText := true, laidKinds := [.data], laidTests := true, laidLooks := .later }
def SlotsLeavesUptoCardSaid : Prop := Claim7.holds Tryd.pinned (.plain (OpenSpec.upto slotsLeavesSpec)) slotsLeavesUptoCard

/-- THE SECOND FORM's CARD OF 'chirographlaw.AuditEntries'. -/
def auditEntriesUptoCard : Claim7 := { stood := { row := auditEntriesUptoRow, standIns := [], harness := (true, "d330023466b2f4e0fa8ba5039ef1bbdf151346f96f0bb366ac8f5d0d78f88bec"), looks := false }, kinds := [], alts := [], laidByText := true, laidKinds := [.data], laidTests := true, laidLooks := .later }
def AuditEntriesUptoCardSaid : Prop := Claim7.holds Tryd.pinned (.plain (OpenSpec.upto auditEntriesSpec)) auditEntriesUptoCard

/-- THE SECOND FORM's CARD OF 'chirographlaw.ValueEquals'. -/
def valueEqualsUptoCard : Claim7 := { stood := { row := valueEqualsUptoRow, standIns := [], harness := (true, "d330023466b2f4e0fa8ba5039ef1bbdf151346f96f0bb366ac8f5d0d78f88bec"), looks := false }, kinds := [], alts := [], laidByText := true, laidKinds := [.data, .pinned], laidTests := true, laidLooks := .later }
def ValueEqualsUptoCardSaid : Prop := Claim7.holds Tryd.pinned (.plain (OpenSpec.upto valueEqualsSpec)) valueEqualsUptoCard

/-- THE SECOND FORM's CARD OF 'chirographlaw.ValueLess'. -/
def valueLessUptoCard : Claim7 := { stood := { row := valueLessUptoRow, standIns := [], harness := (true, "d330023466b2f4e0fa8ba5039ef1bbdf151346f96f0bb366ac8f5d0d78f88bec"), looks := false }, kinds := [], alts := [], laidByText := true, laidKinds := [.data, .pinned], laidTests := true, laidLooks := .later }
def ValueLessUptoCardSaid : Prop := Claim7.holds Tryd.pinned (.plain (OpenSpec.upto valueLessSpec)) valueLessUptoCard

/-- THE SECOND FORM's CARD OF 'chirographlaw.LexChecks'. -/
def lexChecksUptoCard : Claim7 := { stood := { row := lexChecksUptoRow, standIns := [], harness := (true, "d330023466b2f4e0fa8ba5039ef1bbdf151346f96f0bb366ac8f5d0d78f88bec"), looks := false }, kinds := [], alts := [], laidByText := true, laidKinds := [.data, .pinned], laidTests := true, laidLooks := .later }
def LexChecksUptoCardSaid : Prop := Claim7.holds Tryd.pinned (.plain (OpenSpec.upto lexChecksSpec)) lexChecksUptoCard
end Rows
end Go.Proofs.YtmicapdbgjafnabDoor
