/-
  DERIVED. GIVEN WITH THE SEED: THE CARDS: each row of YtphaholcndhonaaDoorRows.lean that lists a variable, with what it lists TIED to the program's text (the seventh form; the later family's looks); each row that meets fmt, with fmt's text TOLD by the authors' own Lean function (tested against real Go, not proved from fmt's source: count such statements apart). THE CARD IS WHAT COUNTS. Prove the row's statement (the work); the ties are given (YtphaholcndhonaaDoorTie.lean); close each card by the builder's one call (the guide's Derived/Test/ToyasCard.lean, 'card_holds'). Laid BY PROGRAM, IN A SANDBOX (cutbox-door.mjs). By AI agents, Wed Nov 11 2026. No macro, syntax, notation, axiom, sorry.
-/
import Derived.Test.YtphaholcndhonaaDoorRows
import GoSem.ClaimSeven
namespace Go.Proofs.YtphaholcndhonaaDoor
namespace Rows

/-- THE TIED CARD OF 'chirographlaw.SlotsRooted'. -/
def slotsRootedCard : Claim7 := { stood := { row := slotsRootedRow, standIns := [], harness := (true, "81aed92e603b81c5c984cfca06f27a6da84a30bfe53bde2672f2f7223b2a4fc2"), looks := false }, kinds := [], alts := [], laidByText := true, laidKinds := [.data], laidTests := true, laidLooks := .later }
def SlotsRootedCardSaid : Prop := Claim7.holds Tryd.pinned (.plain (OpenSpec.ofChange slotsRootedSpec)) slotsRootedCard

/-- THE TIED CARD OF 'chirographlaw.SlotsCovers'. -/
def slotsCoversCard : Claim7 := { stood := { row := slotsCoversRow, standIns := [], harness := (true, "81aed92e603b81c5c984cfca06f27a6da84a30bfe53bde2672f2f7223b2a4fc2"), looks := false }, kinds := [], alts := [], laidByText := true, laidKinds := [.data], laidTests := true, laidLooks := .later }
def SlotsCoversCardSaid : Prop := Claim7.holds Tryd.pinned (.plain (OpenSpec.ofChange slotsCoversSpec)) slotsCoversCard

/-- THE TIED CARD OF 'chirographlaw.LexCuts'. -/
def lexCutsCard : Claim7 := { stood := { row := lexCutsRow, standIns := [], harness := (true, "81aed92e603b81c5c984cfca06f27a6da84a30bfe53bde2672f2f7223b2a4fc2"), looks := false }, kinds := [], alts := [], laidByText := true, laidKinds := [.data, .pinned], laidTests := true, laidLooks := .later }
def LexCutsCardSaid : Prop := Claim7.holds Tryd.pinned (.plain (OpenSpec.ofChange lexCutsSpec)) lexCutsCard

/-- THE TIED CARD OF 'chirographlaw.StmtChecks'. -/
def stmtChecksCard : Claim7 := { stood := { row := stmtChecksRow, standIns := [], harness := (true, "81aed92e603b81c5c984cfca06f27a6da84a30bfe53bde2672f2f7223b2a4fc2"), looks := false }, kinds := [], alts := [], laidByText := true, laidKinds := [.data, .pinned], laidTests := true, laidLooks := .later }
def StmtChecksCardSaid : Prop := Claim7.holds Tryd.pinned (.plain (OpenSpec.ofChange stmtChecksSpec)) stmtChecksCard

/-- THE TIED CARD OF 'chirographlaw.DeedChecks'. -/
def deedChecksCard : Claim7 := { stood := { row := deedChecksRow, standIns := [], harness := (true, "81aed92e603b81c5c984cfca06f27a6da84a30bfe53bde2672f2f7223b2a4fc2"), looks := false }, kinds := [], alts := [], laidByText := true, laidKinds := [.data, .pinned], laidTests := true, laidLooks := .later }
def DeedChecksCardSaid : Prop := Claim7.holds Tryd.pinned (.plain (OpenSpec.ofChange deedChecksSpec)) deedChecksCard

/-- THE TIED CARD OF 'chirographlaw.DeedPlaces'. -/
def deedPlacesCard : Claim7 := { stood := { row := deedPlacesRow, standIns := [], harness := (true, "81aed92e603b81c5c984cfca06f27a6da84a30bfe53bde2672f2f7223b2a4fc2"), looks := false }, kinds := [], alts := [], laidByText := true, laidKinds := [.data, .pinned], laidTests := true, laidLooks := .later }
def DeedPlacesCardSaid : Prop := Claim7.holds Tryd.pinned (.plain (OpenSpec.ofChange deedPlacesSpec)) deedPlacesCard

/-- THE TIED CARD OF 'chirographlaw.IndexPicks'. -/
def indexPicksCard : Claim7 := { stood := { row := indexPicksRow, standIns := [], harness := (true, "81aed92e603b81c5c984cfca06f27a6da84a30bfe53bde2672f2f7223b2a4fc2"), looks := false }, kinds := [], alts := [], laidByText := true, laidKinds := [.data, .pinned], laidTests := true, laidLooks := .later }
def IndexPicksCardSaid : Prop := Claim7.holds Tryd.pinned (.plain (OpenSpec.ofChange indexPicksSpec)) indexPicksCard

/-- THE SECOND FORM's CARD OF 'chirographlaw.SlotsRooted'. -/
def slotsRootedUptoCard : Claim7 := { stood := { row := slotsRootedUptoRow, standIns := [], harness := (true, "81aed92e603b81c5c984cfca06f27a6da84a30bfe53bde2672f2f7223b2a4fc2"), looks := false }, kinds := [], alts := [], laidByText := true, laidKinds := [.data], laidTests := true, laidLooks := .later }
def SlotsRootedUptoCardSaid : Prop := Claim7.holds Tryd.pinned (.plain (OpenSpec.upto slotsRootedSpec)) slotsRootedUptoCard

/-- THE SECOND FORM's CARD OF 'chirographlaw.SlotsCovers'. -/
def slotsCoversUptoCard : Claim7 := { stood := { row := slotsCoversUptoRow, standIns := [], harness := (true, "81aed92e603b81c5c984cfca06f27a6da84a30bfe53bde2672f2f7223b2a4fc2"), looks := false }, kinds := [], alts := [], laidByText := true, laidKinds := [.data], laidTests := true, laidLooks := .later }
def SlotsCoversUptoCardSaid : Prop := Claim7.holds Tryd.pinned (.plain (OpenSpec.upto slotsCoversSpec)) slotsCoversUptoCard

/-- THE SECOND FORM's CARD OF 'chirographlaw.LexCuts'. -/
def lexCutsUptoCard : Claim7 := { stood := { row := lexCutsUptoRow, standIns := [], harness := (true, "81aed92e603b81c5c984cfca06f27a6da84a30bfe53bde2672f2f7223b2a4fc2"), looks := false }, kinds := [], alts := [], laidByText := true, laidKinds := [.data, .pinned], laidTests := true, laidLooks := .later }
def LexCutsUptoCardSaid : Prop := Claim7.holds Tryd.pinned (.plain (OpenSpec.upto lexCutsSpec)) lexCutsUptoCard

/-- THE SECOND FORM's CARD OF 'chirographlaw.StmtChecks'. -/
def stmtChecksUptoCard : Claim7 := { stood := { row := stmtChecksUptoRow, standIns := [], harness := (true, "81aed92e603b81c5c984cfca06f27a6da84a30bfe53bde2672f2f7223b2a4fc2"), looks := false }, kinds := [], alts := [], laidByText := true, laidKinds := [.data, .pinned], laidTests := true, laidLooks := .later }
def StmtChecksUptoCardSaid : Prop := Claim7.holds Tryd.pinned (.plain (OpenSpec.upto stmtChecksSpec)) stmtChecksUptoCard

/-- THE SECOND FORM's CARD OF 'chirographlaw.DeedChecks'. -/
def deedChecksUptoCard : Claim7 := { stood := { row := deedChecksUptoRow, standIns := [], harness := (true, "81aed92e603b81c5c984cfca06f27a6da84a30bfe53bde2672f2f7223b2a4fc2"), looks := false }, kinds := [], alts := [], laidByText := true, laidKinds := [.data, .pinned], laidTests := true, laidLooks := .later }
def DeedChecksUptoCardSaid : Prop := Claim7.holds Tryd.pinned (.plain (OpenSpec.upto deedChecksSpec)) deedChecksUptoCard

/-- THE SECOND FORM's CARD OF 'chirographlaw.DeedPlaces'. -/
def deedPlacesUptoCard : Claim7 := { stood := { row := deedPlacesUptoRow, standIns := [], harness := (true, "81aed92e603b81c5c984cfca06f27a6da84a30bfe53bde2672f2f7223b2a4fc2"), looks := false }, kinds := [], alts := [], laidByText := true, laidKinds := [.data, .pinned], laidTests := true, laidLooks := .later }
def DeedPlacesUptoCardSaid : Prop := Claim7.holds Tryd.pinned (.plain (OpenSpec.upto deedPlacesSpec)) deedPlacesUptoCard

/-- THE SECOND FORM's CARD OF 'chirographlaw.IndexPicks'. -/
def indexPicksUptoCard : Claim7 := { stood := { row := indexPicksUptoRow, standIns := [], harness := (true, "81aed92e603b81c5c984cfca06f27a6da84a30bfe53bde2672f2f7223b2a4fc2"), looks := false }, kinds := [], alts := [], laidByText := true, laidKinds := [.data, .pinned], laidTests := true, laidLooks := .later }
def IndexPicksUptoCardSaid : Prop := Claim7.holds Tryd.pinned (.plain (OpenSpec.upto indexPicksSpec)) indexPicksUptoCard
end Rows
end Go.Proofs.YtphaholcndhonaaDoor
