/-
  No cell of these rows narrows 'for every input' (looked for: loops, veiled, ifaces, maps, wideKeys, modest, calm, conditions, laid).
  DERIVED. THE GIVEN ROWS OF THIS SEAT. 3 by the template 'for every input the law returns true; each argument reads behind the call as it read before'; 0 by the template 'total and deterministic' (their statements: YtmicapdbgjafnabTotals.lean).
  GIVEN WITH THE SEED: the statements are not yours to turn. If you find one false, say at which input.
  Laid BY PROGRAM, IN A SANDBOX (cutbox-rows.mjs): the forced cells as the released guide's own fill.sh prints them over the translation 60e8b8e495a9bb0f… (all of the seat's roots in one cut). By AI agents, Wed Nov 11 2026. No macro, syntax, notation, axiom, sorry.
-/
import Derived.Test.YtmicapdbgjafnabChecked
import GoSem.Claim
import GoSem.ClaimJoined
import GoSem.ClaimMapViews
import Derived.JoinedTies
import Derived.KernelRfl
namespace Go.Proofs.Ytmicapdbgjafnab
/- THE CELL 'sum', in the pinned program and in every row, IS THE sha256 OF THE DUMP (.gsa) THAT YtmicapdbgjafnabProg.lean LOADS. Nothing in Lean hashes anything: it is a label: what it is worth is what the hold of that sum in a sandbox is worth. -/
noncomputable def Try.pinned : Pinned := { name := "ytmicapdbgjafnab", sum := "60e8b8e495a9bb0f238485db3c349889406f9bf0892357b207b877dd4ddcdde3", checked := Try.checked }
namespace Rows
def none {H : Type} : Left H := { results := [], args := [] }

/-- 'chirographlaw.RightMay': WHATEVER THE INPUT: true; the input reads as it did. -/
def rightMaySpec : ChangeSpec := { name := "rightMay", fn := fun _ => fun
  | [d1, d2, d3, d4] => { results := [.lit (.bool true)], args := [d1, d2, d3, d4] }
  | _ => none }
def rightMayRow : OpenClaim := { program := "ytmicapdbgjafnab", sum := "60e8b8e495a9bb0f238485db3c349889406f9bf0892357b207b877dd4ddcdde3", func := "chirograph/chirographlaw.RightMay", spec := "rightMay", unfollowed := true, recurses := true, apart := false }
def RightMaySaid : Prop := rightMayRow.holds Try.pinned (OpenSpec.ofChange rightMaySpec)

/-- ITS FALSE NEIGHBOUR: 'it returns false'. Refute it at one input. -/
def rightMayWrong : ChangeSpec := { name := "rightMay", fn := fun _ => fun
  | [d1, d2, d3, d4] => { results := [.lit (.bool false)], args := [d1, d2, d3, d4] }
  | _ => none }
def RightMayWrongFalsely : Prop := rightMayRow.holds Try.pinned (OpenSpec.ofChange rightMayWrong)

/-- 'chirographlaw.TapeOpens': WHATEVER THE INPUT: true; the input reads as it did. -/
def tapeOpensSpec : ChangeSpec := { name := "tapeOpens", fn := fun _ => fun
  | [d] => { results := [.lit (.bool true)], args := [d] }
  | _ => none }
def tapeOpensRow : OpenClaim := { program := "ytmicapdbgjafnab", sum := "60e8b8e495a9bb0f238485db3c349889406f9bf0892357b207b877dd4ddcdde3", func := "chirograph/chirographlaw.TapeOpens", spec := "tapeOpens", apart := false }
def TapeOpensSaid : Prop := tapeOpensRow.holds Try.pinned (OpenSpec.ofChange tapeOpensSpec)

/-- ITS FALSE NEIGHBOUR: 'it returns false'. Refute it at one input. -/
def tapeOpensWrong : ChangeSpec := { name := "tapeOpens", fn := fun _ => fun
  | [d] => { results := [.lit (.bool false)], args := [d] }
  | _ => none }
def TapeOpensWrongFalsely : Prop := tapeOpensRow.holds Try.pinned (OpenSpec.ofChange tapeOpensWrong)

/-- 'chirographlaw.RightGives': WHATEVER THE INPUT: true; the input reads as it did. -/
def rightGivesSpec : ChangeSpec := { name := "rightGives", fn := fun _ => fun
  | [d1, d2] => { results := [.lit (.bool true)], args := [d1, d2] }
  | _ => none }
def rightGivesRow : OpenClaim := { program := "ytmicapdbgjafnab", sum := "60e8b8e495a9bb0f238485db3c349889406f9bf0892357b207b877dd4ddcdde3", func := "chirograph/chirographlaw.RightGives", spec := "rightGives", unfollowed := true, recurses := true, apart := false }
def RightGivesSaid : Prop := rightGivesRow.holds Try.pinned (OpenSpec.ofChange rightGivesSpec)

/-- ITS FALSE NEIGHBOUR: 'it returns false'. Refute it at one input. -/
def rightGivesWrong : ChangeSpec := { name := "rightGives", fn := fun _ => fun
  | [d1, d2] => { results := [.lit (.bool false)], args := [d1, d2] }
  | _ => none }
def RightGivesWrongFalsely : Prop := rightGivesRow.holds Try.pinned (OpenSpec.ofChange rightGivesWrong)

/- THE SECOND FORM. 'bulk': how many values and letters a reading holds, each counted each time it is reached (what is shared counts as often as it is met; a slice's spare places count too). A statement '..UptoSaid' is the law's where the arguments, and the package variables that the reading takes, are together of bulk at most 1048576: NARROWER than '..Said'. Prove '..Said' where nothing that the law and all that it calls make is longer than what came in: it says more and counts as full. Else prove '..UptoSaid'. A law counts once. -/
mutual
def uptoBulk {H : Type} : DataW H → Nat
  | .lit (.string bytes) => bytes.length + 1
  | .lit _ => 1
  | .nil => 1
  | .ptr d => uptoBulk d + 1
  | .slice elems spare => uptoBulkAll elems + uptoBulkAll spare + 1
  | .agg parts => uptoBulkAll parts + 1
  | .iface _ d => uptoBulk d + 1
  | .map entries => uptoBulkEntries entries + 1
  | .held _ => 1
def uptoBulkAll {H : Type} : List (DataW H) → Nat
  | [] => 0
  | d :: r => uptoBulk d + uptoBulkAll r
def uptoBulkEntries {H : Type} : List (Lit × DataW H) → Nat
  | [] => 0
  | x :: r => uptoBulkEntry x + uptoBulkEntries r
def uptoBulkEntry {H : Type} : Lit × DataW H → Nat
  | (.string bytes, d) => bytes.length + uptoBulk d + 1
  | (_, d) => uptoBulk d + 1
 end
def uptoSmall : (H : Type) → List (DataW H) → Bool := fun _ ds => decide (uptoBulkAll ds ≤ 1048576)
def OpenSpec.upto (s : _root_.Go.ChangeSpec) : _root_.Go.OpenSpec := { _root_.Go.OpenSpec.ofChange s with cond := some uptoSmall }

/-- 'chirographlaw.RightMay', WHERE WHAT IT READS IS OF BULK AT MOST 1048576: true; the input reads as it did. -/
def rightMayUptoRow : OpenClaim := { program := "ytmicapdbgjafnab", sum := "60e8b8e495a9bb0f238485db3c349889406f9bf0892357b207b877dd4ddcdde3", func := "chirograph/chirographlaw.RightMay", spec := "rightMay", unfollowed := true, recurses := true, apart := false, narrowed := true }
def RightMayUptoSaid : Prop := rightMayUptoRow.holds Try.pinned (OpenSpec.upto rightMaySpec)

/-- 'chirographlaw.TapeOpens', WHERE WHAT IT READS IS OF BULK AT MOST 1048576: true; the input reads as it did. -/
def tapeOpensUptoRow : OpenClaim := { program := "ytmicapdbgjafnab", sum := "60e8b8e495a9bb0f238485db3c349889406f9bf0892357b207b877dd4ddcdde3", func := "chirograph/chirographlaw.TapeOpens", spec := "tapeOpens", apart := false, narrowed := true }
def TapeOpensUptoSaid : Prop := tapeOpensUptoRow.holds Try.pinned (OpenSpec.upto tapeOpensSpec)

/-- 'chirographlaw.RightGives', WHERE WHAT IT READS IS OF BULK AT MOST 1048576: true; the input reads as it did. -/
def rightGivesUptoRow : OpenClaim := { program := "ytmicapdbgjafnab", sum := "60e8b8e495a9bb0f238485db3c349889406f9bf0892357b207b877dd4ddcdde3", func := "chirograph/chirographlaw.RightGives", spec := "rightGives", unfollowed := true, recurses := true, apart := false, narrowed := true }
def RightGivesUptoSaid : Prop := rightGivesUptoRow.holds Try.pinned (OpenSpec.upto rightGivesSpec)

end Rows
end Go.Proofs.Ytmicapdbgjafnab
