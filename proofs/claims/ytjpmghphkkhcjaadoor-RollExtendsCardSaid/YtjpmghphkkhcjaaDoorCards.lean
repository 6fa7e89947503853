/-
  DERIVED. GIVEN WITH THE SEED: THE CARDS: each row of YtjpmghphkkhcjaaDoorRows.lean that lists a variable, with what it lists TIED to the program's text (the seventh form; the later family's looks); each row that meets fmt, with fmt's text TOLD by the authors' own Lean function (tested against real Go, not proved from fmt's source: count such statements apart). THE CARD IS WHAT COUNTS. Prove the row's statement (the work); the ties are given (YtjpmghphkkhcjaaDoorTie.lean); close each card by the builder's one call (the guide's Derived/Test/ToyasCard.lean, 'card_holds'). Laid BY PROGRAM, IN A SANDBOX (cutbox-door.mjs). By AI agents, Wed Nov 11 2026. No macro, syntax, notation, axiom, sorry.
-/
import Derived.Test.YtjpmghphkkhcjaaDoorRows
import GoSem.ClaimSeven
namespace Go.Proofs.YtjpmghphkkhcjaaDoor
namespace Rows

/-- THE TIED CARD OF 'chirographlaw.RollRoots'. -/
def rollRootsCard : Claim7 := { stood := { row := rollRootsRow, standIns := [], harness := (true, "5a5b65731c7a786764ea24ffca5666f2e1cfc91f740bb3d6f066ddec6b745b63"), looks := false }, kinds := [], alts := [], laidByText := true, laidKinds := [.data], laidTests := true, laidLooks := .later }
def RollRootsCardSaid : Prop := Claim7.holds Tryd.pinned (.plain (OpenSpec.ofChange rollRootsSpec)) rollRootsCard

/-- THE TIED CARD OF 'chirographlaw.RollIncludeChecks'. -/
def rollIncludeChecksCard : Claim7 := { stood := { row := rollIncludeChecksRow, standIns := [], harness := (true, "5a5b65731c7a786764ea24ffca5666f2e1cfc91f740bb3d6f066ddec6b745b63"), looks := false }, kinds := [], alts := [], laidByText := true, laidKinds := [.data], laidTests := true, laidLooks := .later }
def RollIncludeChecksCardSaid : Prop := Claim7.holds Tryd.pinned (.plain (OpenSpec.ofChange rollIncludeChecksSpec)) rollIncludeChecksCard

/-- THE TIED CARD OF 'chirographlaw.SlotsPathChecks'. -/
def slotsPathChecksCard : Claim7 := { stood := { row := slotsPathChecksRow, standIns := [], harness := (true, "5a5b65731c7a786764ea24ffca5666f2e1cfc91f740bb3d6f066ddec6b745b63"), looks := false }, kinds := [], alts := [], laidByText := true, laidKinds := [.data], laidTests := true, laidLooks := .later }
def SlotsPathChecksCardSaid : Prop := Claim7.holds Tryd.pinned (.plain (OpenSpec.ofChange slotsPathChecksSpec)) slotsPathChecksCard

/-- THE TIED CARD OF 'chirographlaw.SlotsRoots'. -/
def slotsRootsCard : Claim7 := { stood := { row := slotsRootsRow, standIns := [], harness := (true, "5a5b65731c7a786764ea24ffca5666f2e1cfc91f740bb3d6f066ddec6b745b63"), looks := false }, kinds := [], alts := [], laidByText := true, laidKinds := [.data], laidTests := true, laidLooks := .later }
def SlotsRootsCardSaid : Prop := Claim7.holds Tryd.pinned (.plain (OpenSpec.ofChange slotsRootsSpec)) slotsRootsCard

/-- THE TIED CARD OF 'chirographlaw.SlotsPaths'. -/
def slotsPathsCard : Claim7 := { stood := { row := slotsPathsRow, standIns := [], harness := (true, "5a5b65731c7a786764ea24ffca5666f2e1cfc91f740bb3d6f066ddec6b745b63"), looks := false }, kinds := [], alts := [], laidByText := true, laidKinds := [.data], laidTests := true, laidLooks := .later }
def SlotsPathsCardSaid : Prop := Claim7.holds Tryd.pinned (.plain (OpenSpec.ofChange slotsPathsSpec)) slotsPathsCard

/-- THE TIED CARD OF 'chirographlaw.RollExtendChecks'. -/
def rollExtendChecksCard : Claim7 := { stood := { row := rollExtendChecksRow, standIns := [], harness := (true, "5a5b65731c7a786764ea24ffca5666f2e1cfc91f740bb3d6f066ddec6b745b63"), looks := false }, kinds := [], alts := [], laidByText := true, laidKinds := [.data], laidTests := true, laidLooks := .later }
def RollExtendChecksCardSaid : Prop := Claim7.holds Tryd.pinned (.plain (OpenSpec.ofChange rollExtendChecksSpec)) rollExtendChecksCard

/-- THE TIED CARD OF 'chirographlaw.RollIncludes'. -/
def rollIncludesCard : Claim7 := { stood := { row := rollIncludesRow, standIns := [], harness := (true, "5a5b65731c7a786764ea24ffca5666f2e1cfc91f740bb3d6f066ddec6b745b63"), looks := false }, kinds := [], alts := [], laidByText := true, laidKinds := [.data], laidTests := true, laidLooks := .later }
def RollIncludesCardSaid : Prop := Claim7.holds Tryd.pinned (.plain (OpenSpec.ofChange rollIncludesSpec)) rollIncludesCard

/-- THE TIED CARD OF 'chirographlaw.SlotsRooted'. -/
def slotsRootedCard : Claim7 := { stood := { row := slotsRootedRow, standIns := [], harness := (true, "5a5b65731c7a786764ea24ffca5666f2e1cfc91f740bb3d6f066ddec6b745b63"), looks := false }, kinds := [], alts := [], laidByText := true, laidKinds := [.data], laidTests := true, laidLooks := .later }
def SlotsRootedCardSaid : Prop := Claim7.holds Tryd.pinned (.plain (OpenSpec.ofChange slotsRootedSpec)) slotsRootedCard

/-- THE TIED CARD OF 'chirographlaw.RollExtends'. -/
def rollExtendsCard : Claim7 := { stood := { row := rollExtendsRow, standIns := [], harness := (true, "5a5b65731c7a786764ea24ffca5666f2e1cfc91f740bb3d6f066ddec6b745b63"), looks := false }, kinds := [], alts := [], laidByText := true, laidKinds := [.data], laidTests := true, laidLooks := .later }
def RollExtendsCardSaid : Prop := Claim7.holds Tryd.pinned (.plain (OpenSpec.ofChange rollExtendsSpec)) rollExtendsCard

/-- THE TIED CARD OF 'chirographlaw.AuditReceipts'. -/
def auditReceiptsCard : Claim7 := { stood := { row := auditReceiptsRow, standIns := [], harness := (true, "5a5b65731c7a786764ea24ffca5666f2e1cfc91f740bb3d6f066ddec6b745b63"), looks := false }, kinds := [], alts := [], laidByText := true, laidKinds := [.data], laidTests := true, laidLooks := .later }
def AuditReceiptsCardSaid : Prop := Claim7.holds Tryd.pinned (.plain (OpenSpec.ofChange auditReceiptsSpec)) auditReceiptsCard

/-- THE TIED CARD OF 'chirographlaw.SlotsCovers'. -/
def slotsCoversCard : Claim7 := { stood := { row := slotsCoversRow, standIns := [], harness := (true, "5a5b65731c7a786764ea24ffca5666f2e1cfc91f740bb3d6f066ddec6b745b63"), looks := false }, kinds := [], alts := [], laidByText := true, laidKinds := [.data], laidTests := true, laidLooks := .later }
def SlotsCoversCardSaid : Prop := Claim7.holds Tryd.pinned (.plain (OpenSpec.ofChange slotsCoversSpec)) slotsCoversCard

/-- THE SECOND FORM's CARD OF 'chirographlaw.RollRoots'. -/
def rollRootsUptoCard : Claim7 := { stood := { row := rollRootsUptoRow, standIns := [], harness := (true, "5a5b65731c7a786764ea24ffca5666f2e1cfc91f740bb3d6f066ddec6b745b63"), looks := false }, kinds := [], alts := [], laidByText := true, laidKinds := [.data], laidTests := true, laidLooks := .later }
def RollRootsUptoCardSaid : Prop := Claim7.holds Tryd.pinned (.plain (OpenSpec.upto rollRootsSpec)) rollRootsUptoCard

/-- THE SECOND FORM's CARD OF 'chirographlaw.RollIncludeChecks'. -/
def rollIncludeChecksUptoCard : Claim7 := { stood := { row := rollIncludeChecksUptoRow, standIns := [], harness := (true, "5a5b65731c7a786764ea24ffca5666f2e1cfc91f740bb3d6f066ddec6b745b63"), looks := false }, kinds := [], alts := [], laidByText := true, laidKinds := [.data], laidTests := true, laidLooks := .later }
def RollIncludeChecksUptoCardSaid : Prop := Claim7.holds Tryd.pinned (.plain (OpenSpec.upto rollIncludeChecksSpec)) rollIncludeChecksUptoCard

/-- THE SECOND FORM's CARD OF 'chirographlaw.SlotsPathChecks'. -/
def slotsPathChecksUptoCard : Claim7 := { stood := { row := slotsPathChecksUptoRow, standIns := [], harness := (true, "5a5b65731c7a786764ea24ffca5666f2e1cfc91f740bb3d6f066ddec6b745b63"), looks := false }, kinds := [], alts := [], laidByText := true, laidKinds := [.data], laidTests := true, laidLooks := .later }
def SlotsPathChecksUptoCardSaid : Prop := Claim7.holds Tryd.pinned (.plain (OpenSpec.upto slotsPathChecksSpec)) slotsPathChecksUptoCard

/-- THE SECOND FORM's CARD OF 'chirographlaw.SlotsRoots'. -/
def slotsRootsUptoCard : Claim7 := { stood := { row := slotsRootsUptoRow, standIns := [], harness := (true, "5a5b65731c7a786764ea24ffca5666f2e1cfc91f740bb3d6f066ddec6b745b63"), looks := false }, kinds := [], alts := [], laidByText := true, laidKinds := [.data], laidTests := true, laidLooks := .later }
def SlotsRootsUptoCardSaid : Prop := Claim7.holds Tryd.pinned (.plain (OpenSpec.upto slotsRootsSpec)) slotsRootsUptoCard

/-- THE SECOND FORM's CARD OF 'chirographlaw.SlotsPaths'. -/
def slotsPathsUptoCard : Claim7 := { stood := { row := slotsPathsUptoRow, standIns := [], harness := (true, "5a5b65731c7a786764ea24ffca5666f2e1cfc91f740bb3d6f066ddec6b745b63"), looks := false }, kinds := [], alts := [], laidByText := true, laidKinds := [.data], laidTests := true, laidLooks := .later }
def SlotsPathsUptoCardSaid : Prop := Claim7.holds Tryd.pinned (.plain (OpenSpec.upto slotsPathsSpec)) slotsPathsUptoCard

/-- THE SECOND FORM's CARD OF 'chirographlaw.RollExtendChecks'. -/
def rollExtendChecksUptoCard : Claim7 := { stood := { row := rollExtendChecksUptoRow, standIns := [], harness := (true, "5a5b65731c7a786764ea24ffca5666f2e1cfc91f740bb3d6f066ddec6b745b63"), looks := false }, kinds := [], alts := [], laidByText := true, laidKinds := [.data], laidTests := true, laidLooks := .later }
def RollExtendChecksUptoCardSaid : Prop := Claim7.holds Tryd.pinned (.plain (OpenSpec.upto rollExtendChecksSpec)) rollExtendChecksUptoCard

/-- THE SECOND FORM's CARD OF 'chirographlaw.RollIncludes'. -/
def rollIncludesUptoCard : Claim7 := { stood := { row := rollIncludesUptoRow, standIns := [], harness := (true, "5a5b65731c7a786764ea24ffca5666f2e1cfc91f740bb3d6f066ddec6b745b63"), looks := false }, kinds := [], alts := [], laidByText := true, laidKinds := [.data], laidTests := true, laidLooks := .later }
def RollIncludesUptoCardSaid : Prop := Claim7.holds Tryd.pinned (.plain (OpenSpec.upto rollIncludesSpec)) rollIncludesUptoCard

/-- THE SECOND FORM's CARD OF 'chirographlaw.SlotsRooted'. -/
def slotsRootedUptoCard : Claim7 := { stood := { row := slotsRootedUptoRow, standIns := [], harness := (true, "5a5b65731c7a786764ea24ffca5666f2e1cfc91f740bb3d6f066ddec6b745b63"), looks := false }, kinds := [], alts := [], laidByText := true, laidKinds := [.data], laidTests := true, laidLooks := .later }
def SlotsRootedUptoCardSaid : Prop := Claim7.holds Tryd.pinned (.plain (OpenSpec.upto slotsRootedSpec)) slotsRootedUptoCard

/-- THE SECOND FORM's CARD OF 'chirographlaw.RollExtends'. -/
def rollExtendsUptoCard : Claim7 := { stood := { row := rollExtendsUptoRow, standIns := [], harness := (true, "5a5b65731c7a786764ea24ffca5666f2e1cfc91f740bb3d6f066ddec6b745b63"), looks := false }, kinds := [], alts := [], laidByText := true, laidKinds := [.data], laidTests := true, laidLooks := .later }
def RollExtendsUptoCardSaid : Prop := Claim7.holds Tryd.pinned (.plain (OpenSpec.upto rollExtendsSpec)) rollExtendsUptoCard

/-- THE SECOND FORM's CARD OF 'chirographlaw.AuditReceipts'. -/
def auditReceiptsUptoCard : Claim7 := { stood := { row := auditReceiptsUptoRow, standIns := [], harness := (true, "5a5b65731c7a786764ea24ffca5666f2e1cfc91f740bb3d6f066ddec6b745b63"), looks := false }, kinds := [], alts := [], laidByText := true, laidKinds := [.data], laidTests := true, laidLooks := .later }
def AuditReceiptsUptoCardSaid : Prop := Claim7.holds Tryd.pinned (.plain (OpenSpec.upto auditReceiptsSpec)) auditReceiptsUptoCard

/-- THE SECOND FORM's CARD OF 'chirographlaw.SlotsCovers'. -/
def slotsCoversUptoCard : Claim7 := { stood := { row := slotsCoversUptoRow, standIns := [], harness := (true, "5a5b65731c7a786764ea24ffca5666f2e1cfc91f740bb3d6f066ddec6b745b63"), looks := false }, kinds := [], alts := [], laidByText := true, laidKinds := [.data], laidTests := true, laidLooks := .later }
def SlotsCoversUptoCardSaid : Prop := Claim7.holds Tryd.pinned (.plain (OpenSpec.upto slotsCoversSpec)) slotsCoversUptoCard
end Rows
end Go.Proofs.YtjpmghphkkhcjaaDoor
