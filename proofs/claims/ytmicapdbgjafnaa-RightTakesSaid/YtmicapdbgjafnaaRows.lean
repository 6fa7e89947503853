/-
  No cell of these rows narrows 'for every input' (looked for: loops, veiled, ifaces, maps, wideKeys, modest, calm, conditions, laid).
  DERIVED. THE GIVEN ROWS OF THIS SEAT. 7 by the template 'for every input the law returns true; each argument reads behind the call as it read before'; 0 by the template 'total and deterministic' (their statements: YtmicapdbgjafnaaTotals.lean).
  GIVEN WITH THE SEED: the statements are not yours to turn. If you find one false, say at which input.
  Laid BY PROGRAM, IN A SANDBOX (cutbox-rows.mjs): the forced cells as the released guide's own fill.sh prints them over the translation e4f1f14eeb288426… (all of the seat's roots in one cut). By AI agents, Wed Nov 11 2026. No macro, syntax, notation, axiom, sorry.
-/
import Derived.Test.YtmicapdbgjafnaaChecked
import GoSem.Claim
import GoSem.ClaimJoined
import GoSem.ClaimMapViews
import Derived.JoinedTies
import Derived.KernelRfl
namespace Go.Proofs.Ytmicapdbgjafnaa
/- THE CELL 'sum', in the pinned program and in every row, IS THE sha256 OF THE DUMP (.gsa) THAT YtmicapdbgjafnaaProg.lean LOADS. Nothing in Lean hashes anything: it is a label: what it is worth is what the hold of that sum in a sandbox is worth. -/
noncomputable def Try.pinned : Pinned := { name := "ytmicapdbgjafnaa", sum := "e4f1f14eeb2884264c50555127bb1321da051a5f4d5115c1b6bcf0151eabfc23", checked := Try.checked }
namespace Rows
def none {H : Type} : Left H := { results := [], args := [] }

/-- 'chirographlaw.DiskWrites': WHATEVER THE INPUT: true; the input reads as it did. -/
def diskWritesSpec : ChangeSpec := { name := "diskWrites", fn := fun _ => fun
  | [d1, d2, d3] => { results := [.lit (.bool true)], args := [d1, d2, d3] }
  | _ => none }
def diskWritesRow : OpenClaim := { program := "ytmicapdbgjafnaa", sum := "e4f1f14eeb2884264c50555127bb1321da051a5f4d5115c1b6bcf0151eabfc23", func := "chirograph/chirographlaw.DiskWrites", spec := "diskWrites", apart := false }
def DiskWritesSaid : Prop := diskWritesRow.holds Try.pinned (OpenSpec.ofChange diskWritesSpec)

/-- ITS FALSE NEIGHBOUR: 'it returns false'. Refute it at one input. -/
def diskWritesWrong : ChangeSpec := { name := "diskWrites", fn := fun _ => fun
  | [d1, d2, d3] => { results := [.lit (.bool false)], args := [d1, d2, d3] }
  | _ => none }
def DiskWritesWrongFalsely : Prop := diskWritesRow.holds Try.pinned (OpenSpec.ofChange diskWritesWrong)

/-- 'chirographlaw.OracleParses': WHATEVER THE INPUT: true; the input reads as it did. -/
def oracleParsesSpec : ChangeSpec := { name := "oracleParses", fn := fun _ => fun
  | [d] => { results := [.lit (.bool true)], args := [d] }
  | _ => none }
def oracleParsesRow : OpenClaim := { program := "ytmicapdbgjafnaa", sum := "e4f1f14eeb2884264c50555127bb1321da051a5f4d5115c1b6bcf0151eabfc23", func := "chirograph/chirographlaw.OracleParses", spec := "oracleParses", apart := false }
def OracleParsesSaid : Prop := oracleParsesRow.holds Try.pinned (OpenSpec.ofChange oracleParsesSpec)

/-- ITS FALSE NEIGHBOUR: 'it returns false'. Refute it at one input. -/
def oracleParsesWrong : ChangeSpec := { name := "oracleParses", fn := fun _ => fun
  | [d] => { results := [.lit (.bool false)], args := [d] }
  | _ => none }
def OracleParsesWrongFalsely : Prop := oracleParsesRow.holds Try.pinned (OpenSpec.ofChange oracleParsesWrong)

/-- 'chirographlaw.RightChecks': WHATEVER THE INPUT: true; the input reads as it did. -/
def rightChecksSpec : ChangeSpec := { name := "rightChecks", fn := fun _ => fun
  | [d] => { results := [.lit (.bool true)], args := [d] }
  | _ => none }
def rightChecksRow : OpenClaim := { program := "ytmicapdbgjafnaa", sum := "e4f1f14eeb2884264c50555127bb1321da051a5f4d5115c1b6bcf0151eabfc23", func := "chirograph/chirographlaw.RightChecks", spec := "rightChecks", unfollowed := true, recurses := true, apart := false }
def RightChecksSaid : Prop := rightChecksRow.holds Try.pinned (OpenSpec.ofChange rightChecksSpec)

/-- ITS FALSE NEIGHBOUR: 'it returns false'. Refute it at one input. -/
def rightChecksWrong : ChangeSpec := { name := "rightChecks", fn := fun _ => fun
  | [d] => { results := [.lit (.bool false)], args := [d] }
  | _ => none }
def RightChecksWrongFalsely : Prop := rightChecksRow.holds Try.pinned (OpenSpec.ofChange rightChecksWrong)

/-- 'chirographlaw.TreeChecks': WHATEVER THE INPUT: true; the input reads as it did. -/
def treeChecksSpec : ChangeSpec := { name := "treeChecks", fn := fun _ => fun
  | [d] => { results := [.lit (.bool true)], args := [d] }
  | _ => none }
def treeChecksRow : OpenClaim := { program := "ytmicapdbgjafnaa", sum := "e4f1f14eeb2884264c50555127bb1321da051a5f4d5115c1b6bcf0151eabfc23", func := "chirograph/chirographlaw.TreeChecks", spec := "treeChecks", unfollowed := true, recurses := true, apart := false }
def TreeChecksSaid : Prop := treeChecksRow.holds Try.pinned (OpenSpec.ofChange treeChecksSpec)

/-- ITS FALSE NEIGHBOUR: 'it returns false'. Refute it at one input. -/
def treeChecksWrong : ChangeSpec := { name := "treeChecks", fn := fun _ => fun
  | [d] => { results := [.lit (.bool false)], args := [d] }
  | _ => none }
def TreeChecksWrongFalsely : Prop := treeChecksRow.holds Try.pinned (OpenSpec.ofChange treeChecksWrong)

/-- 'chirographlaw.RightTakes': WHATEVER THE INPUT: true; the input reads as it did. -/
def rightTakesSpec : ChangeSpec := { name := "rightTakes", fn := fun _ => fun
  | [d1, d2] => { results := [.lit (.bool true)], args := [d1, d2] }
  | _ => none }
def rightTakesRow : OpenClaim := { program := "ytmicapdbgjafnaa", sum := "e4f1f14eeb2884264c50555127bb1321da051a5f4d5115c1b6bcf0151eabfc23", func := "chirograph/chirographlaw.RightTakes", spec := "rightTakes", unfollowed := true, recurses := true, apart := false }
def RightTakesSaid : Prop := rightTakesRow.holds Try.pinned (OpenSpec.ofChange rightTakesSpec)

/-- ITS FALSE NEIGHBOUR: 'it returns false'. Refute it at one input. -/
def rightTakesWrong : ChangeSpec := { name := "rightTakes", fn := fun _ => fun
  | [d1, d2] => { results := [.lit (.bool false)], args := [d1, d2] }
  | _ => none }
def RightTakesWrongFalsely : Prop := rightTakesRow.holds Try.pinned (OpenSpec.ofChange rightTakesWrong)

/-- 'chirographlaw.RightHas': WHATEVER THE INPUT: true; the input reads as it did. -/
def rightHasSpec : ChangeSpec := { name := "rightHas", fn := fun _ => fun
  | [d1, d2, d3, d4] => { results := [.lit (.bool true)], args := [d1, d2, d3, d4] }
  | _ => none }
def rightHasRow : OpenClaim := { program := "ytmicapdbgjafnaa", sum := "e4f1f14eeb2884264c50555127bb1321da051a5f4d5115c1b6bcf0151eabfc23", func := "chirograph/chirographlaw.RightHas", spec := "rightHas", unfollowed := true, recurses := true, apart := false }
def RightHasSaid : Prop := rightHasRow.holds Try.pinned (OpenSpec.ofChange rightHasSpec)

/-- ITS FALSE NEIGHBOUR: 'it returns false'. Refute it at one input. -/
def rightHasWrong : ChangeSpec := { name := "rightHas", fn := fun _ => fun
  | [d1, d2, d3, d4] => { results := [.lit (.bool false)], args := [d1, d2, d3, d4] }
  | _ => none }
def RightHasWrongFalsely : Prop := rightHasRow.holds Try.pinned (OpenSpec.ofChange rightHasWrong)

/-- 'chirographlaw.TreeLists': WHATEVER THE INPUT: true; the input reads as it did. -/
def treeListsSpec : ChangeSpec := { name := "treeLists", fn := fun _ => fun
  | [d1, d2, d3] => { results := [.lit (.bool true)], args := [d1, d2, d3] }
  | _ => none }
def treeListsRow : OpenClaim := { program := "ytmicapdbgjafnaa", sum := "e4f1f14eeb2884264c50555127bb1321da051a5f4d5115c1b6bcf0151eabfc23", func := "chirograph/chirographlaw.TreeLists", spec := "treeLists", unfollowed := true, recurses := true, apart := false }
def TreeListsSaid : Prop := treeListsRow.holds Try.pinned (OpenSpec.ofChange treeListsSpec)

/-- ITS FALSE NEIGHBOUR: 'it returns false'. Refute it at one input. -/
def treeListsWrong : ChangeSpec := { name := "treeLists", fn := fun _ => fun
  | [d1, d2, d3] => { results := [.lit (.bool false)], args := [d1, d2, d3] }
  | _ => none }
def TreeListsWrongFalsely : Prop := treeListsRow.holds Try.pinned (OpenSpec.ofChange treeListsWrong)

/- THE SECOND FORM. 'bulk': how many values and letters a reading holds, each counted each time it is reached (what is shared counts as often as it is met; a slice's spare places count too). A statement '..UptoSaid' is the law's where the arguments, and the package variables that the reading takes, are together of bulk at most 1048576: NARROWER than '..Said'. Prove '..Said' where nothing that the law and all that it calls make is longer than what came in: it says more and counts as full. Else prove '..UptoSaid'. A law counts once. -/
mutual
def uptoBulk {H : Type} : DataW H → Nat
  | .lit (.string bytes) => bytes.length + 1
  | .lit _ => 1
  | .nil => 1
  | .ptr d => uptoBulk d + 1
  | .slice elems spare => uptoBulkAll elems + uptoBulkAll spare + 1
  | .agg parts => uptoBulkAll parts + 1
  | .iface _ d => uptoBulk d + 1
  | .map entries => uptoBulkEntries entries + 1
  | .held _ => 1
def uptoBulkAll {H : Type} : List (DataW H) → Nat
  | [] => 0
  | d :: r => uptoBulk d + uptoBulkAll r
def uptoBulkEntries {H : Type} : List (Lit × DataW H) → Nat
  | [] => 0
  | x :: r => uptoBulkEntry x + uptoBulkEntries r
def uptoBulkEntry {H : Type} : Lit × DataW H → Nat
  | (.string bytes, d) => bytes.length + uptoBulk d + 1
  | (_, d) => uptoBulk d + 1
 end
def uptoSmall : (H : Type) → List (DataW H) → Bool := fun _ ds => decide (uptoBulkAll ds ≤ 1048576)
def OpenSpec.upto (s : _root_.Go.ChangeSpec) : _root_.Go.OpenSpec := { _root_.Go.OpenSpec.ofChange s with cond := some uptoSmall }

/-- 'chirographlaw.DiskWrites', WHERE WHAT IT READS IS OF BULK AT MOST 1048576: true; the input reads as it did. -/
def diskWritesUptoRow : OpenClaim := { program := "ytmicapdbgjafnaa", sum := "e4f1f14eeb2884264c50555127bb1321da051a5f4d5115c1b6bcf0151eabfc23", func := "chirograph/chirographlaw.DiskWrites", spec := "diskWrites", apart := false, narrowed := true }
def DiskWritesUptoSaid : Prop := diskWritesUptoRow.holds Try.pinned (OpenSpec.upto diskWritesSpec)

/-- 'chirographlaw.OracleParses', WHERE WHAT IT READS IS OF BULK AT MOST 1048576: true; the input reads as it did. -/
def oracleParsesUptoRow : OpenClaim := { program := "ytmicapdbgjafnaa", sum := "e4f1f14eeb2884264c50555127bb1321da051a5f4d5115c1b6bcf0151eabfc23", func := "chirograph/chirographlaw.OracleParses", spec := "oracleParses", apart := false, narrowed := true }
def OracleParsesUptoSaid : Prop := oracleParsesUptoRow.holds Try.pinned (OpenSpec.upto oracleParsesSpec)

/-- 'chirographlaw.RightChecks', WHERE WHAT IT READS IS OF BULK AT MOST 1048576: true; the input reads as it did. -/
def rightChecksUptoRow : OpenClaim := { program := "ytmicapdbgjafnaa", sum := "e4f1f14eeb2884264c50555127bb1321da051a5f4d5115c1b6bcf0151eabfc23", func := "chirograph/chirographlaw.RightChecks", spec := "rightChecks", unfollowed := true, recurses := true, apart := false, narrowed := true }
def RightChecksUptoSaid : Prop := rightChecksUptoRow.holds Try.pinned (OpenSpec.upto rightChecksSpec)

/-- 'chirographlaw.TreeChecks', WHERE WHAT IT READS IS OF BULK AT MOST 1048576: true; the input reads as it did. -/
def treeChecksUptoRow : OpenClaim := { program := "ytmicapdbgjafnaa", sum := "e4f1f14eeb2884264c50555127bb1321da051a5f4d5115c1b6bcf0151eabfc23", func := "chirograph/chirographlaw.TreeChecks", spec := "treeChecks", unfollowed := true, recurses := true, apart := false, narrowed := true }
def TreeChecksUptoSaid : Prop := treeChecksUptoRow.holds Try.pinned (OpenSpec.upto treeChecksSpec)

/-- 'chirographlaw.RightTakes', WHERE WHAT IT READS IS OF BULK AT MOST 1048576: true; the input reads as it did. -/
def rightTakesUptoRow : OpenClaim := { program := "ytmicapdbgjafnaa", sum := "e4f1f14eeb2884264c50555127bb1321da051a5f4d5115c1b6bcf0151eabfc23", func := "chirograph/chirographlaw.RightTakes", spec := "rightTakes", unfollowed := true, recurses := true, apart := false, narrowed := true }
def RightTakesUptoSaid : Prop := rightTakesUptoRow.holds Try.pinned (OpenSpec.upto rightTakesSpec)

/-- 'chirographlaw.RightHas', WHERE WHAT IT READS IS OF BULK AT MOST 1048576: true; the input reads as it did. -/
def rightHasUptoRow : OpenClaim := { program := "ytmicapdbgjafnaa", sum := "e4f1f14eeb2884264c50555127bb1321da051a5f4d5115c1b6bcf0151eabfc23", func := "chirograph/chirographlaw.RightHas", spec := "rightHas", unfollowed := true, recurses := true, apart := false, narrowed := true }
def RightHasUptoSaid : Prop := rightHasUptoRow.holds Try.pinned (OpenSpec.upto rightHasSpec)

/-- 'chirographlaw.TreeLists', WHERE WHAT IT READS IS OF BULK AT MOST 1048576: true; the input reads as it did. -/
def treeListsUptoRow : OpenClaim := { program := "ytmicapdbgjafnaa", sum := "e4f1f14eeb2884264c50555127bb1321da051a5f4d5115c1b6bcf0151eabfc23", func := "chirograph/chirographlaw.TreeLists", spec := "treeLists", unfollowed := true, recurses := true, apart := false, narrowed := true }
def TreeListsUptoSaid : Prop := treeListsUptoRow.holds Try.pinned (OpenSpec.upto treeListsSpec)

end Rows
end Go.Proofs.Ytmicapdbgjafnaa
