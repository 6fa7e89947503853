/-
  NARROWER THAN 'FOR EVERY INPUT', by the rows' own cells (each row's printed sentence says how): ValueChecks: laid · ValueCompares: laid · ValueEquals: laid · ValueLess: laid · LexChecks: laid · KindsColumns: laid · KindsRows: laid.
  DERIVED. THE GIVEN ROWS OF THIS SEAT. 7 by the template 'for every input the law returns true; each argument reads behind the call as it read before'; 0 by the template 'total and deterministic' (their statements: YtpmldhpjenjhpaaDoorTotals.lean).
  GIVEN WITH THE SEED: the statements are not yours to turn. If you find one false, say at which input.
  Laid BY PROGRAM, IN A SANDBOX (cutbox-rows.mjs): the forced cells as the released guide's own fill.sh prints them over the translation a70cb78254e180fa… (all of the seat's roots in one cut). By AI agents, Wed Nov 11 2026. No macro, syntax, notation, axiom, sorry.
-/
import Derived.Test.YtpmldhpjenjhpaaDoorChecked
import GoSem.PinnedTables
import GoSem.Claim
import GoSem.ClaimJoined
import GoSem.ClaimMapViews
import Derived.JoinedTies
import Derived.KernelRfl
namespace Go.Proofs.YtpmldhpjenjhpaaDoor
/- THE CELL 'sum', in the pinned program and in every row, IS THE sha256 OF THE DUMP (.gsa) THAT YtpmldhpjenjhpaaDoorProg.lean LOADS. Nothing in Lean hashes anything: it is a label: what it is worth is what the hold of that sum in a sandbox is worth. -/
noncomputable def Tryd.pinned : Pinned := { name := "ytpmldhpjenjhpaadoor", sum := "a70cb78254e180fa4ca1aa5e17a4a4ffaeebbf56a8b91953f4bd00243691b642", checked := Tryd.checked }
namespace Rows
def none {H : Type} : Left H := { results := [], args := [] }

/- WHAT THE LISTED PACKAGE-LEVEL VARIABLES READ AS WHEN THE CALL BEGINS. Each datum BY PROGRAM (the guide's laid-datum.mjs) off the statement by which the dump's own 'gosem.cut.vars' lays the variable. In a bare row this is a premise. The card (YtpmldhpjenjhpaaDoorCards.lean) ties it to the program's text. -/
def laid_unicode_utf8_acceptRanges {H : Type} : DataW H := .agg [.agg [.lit (.int .u8 128), .lit (.int .u8 191)], .agg [.lit (.int .u8 160), .lit (.int .u8 191)], .agg [.lit (.int .u8 128), .lit (.int .u8 159)], .agg [.lit (.int .u8 144), .lit (.int .u8 191)], .agg [.lit (.int .u8 128), .lit (.int .u8 143)], .agg [.lit (.int .u8 0), .lit (.int .u8 0)], .agg [.lit (.int .u8 0), .lit (.int .u8 0)], .agg [.lit (.int .u8 0), .lit (.int .u8 0)], .agg [.lit (.int .u8 0), .lit (.int .u8 0)], .agg [.lit (.int .u8 0), .lit (.int .u8 0)], .agg [.lit (.int .u8 0), .lit (.int .u8 0)], .agg [.lit (.int .u8 0), .lit (.int .u8 0)], .agg [.lit (.int .u8 0), .lit (.int .u8 0)], .agg [.lit (.int .u8 0), .lit (.int .u8 0)], .agg [.lit (.int .u8 0), .lit (.int .u8 0)], .agg [.lit (.int .u8 0), .lit (.int .u8 0)]]
/-- One of Go's own tables, pinned by name: the form's constant. -/
def laid_unicode_utf8_first : DataW Unit := Go.Pinned.utf8First

/-- 'chirographlaw.ValueChecks': WHATEVER THE INPUT: true; the input reads as it did. -/
def valueChecksSpec : ChangeSpec := { name := "valueChecks", fn := fun _ => fun
  | [d] => { results := [.lit (.bool true)], args := [d] }
  | _ => none }
def valueChecksRow : OpenClaim := { program := "ytpmldhpjenjhpaadoor", sum := "a70cb78254e180fa4ca1aa5e17a4a4ffaeebbf56a8b91953f4bd00243691b642", func := "chirograph/chirographlaw.ValueChecks", spec := "valueChecks", inPlace := ["math.Float64frombits", "math.Float64bits"], named := ["unicode/utf8.first", "unicode/utf8.acceptRanges"], apart := false, laid := [("unicode/utf8.acceptRanges", laid_unicode_utf8_acceptRanges), ("unicode/utf8.first", laid_unicode_utf8_first)] }
def ValueChecksSaid : Prop := valueChecksRow.holds Tryd.pinned (OpenSpec.ofChange valueChecksSpec)

/-- ITS FALSE NEIGHBOUR: 'it returns false'. Refute it at one input. -/
def valueChecksWrong : ChangeSpec := { name := "valueChecks", fn := fun _ => fun
  | [d] => { results := [.lit (.bool false)], args := [d] }
  | _ => none }
def ValueChecksWrongFalsely : Prop := valueChecksRow.holds Tryd.pinned (OpenSpec.ofChange valueChecksWrong)

/-- 'chirographlaw.ValueCompares': WHATEVER THE INPUT: true; the input reads as it did. -/
def valueComparesSpec : ChangeSpec := { name := "valueCompares", fn := fun _ => fun
  | [d1, d2] => { results := [.lit (.bool true)], args := [d1, d2] }
  | _ => none }
def valueComparesRow : OpenClaim := { program := "ytpmldhpjenjhpaadoor", sum := "a70cb78254e180fa4ca1aa5e17a4a4ffaeebbf56a8b91953f4bd00243691b642", func := "chirograph/chirographlaw.ValueCompares", spec := "valueCompares", inPlace := ["math.Float64frombits", "math.Float64bits"], named := ["unicode/utf8.first", "unicode/utf8.acceptRanges"], apart := false, laid := [("unicode/utf8.acceptRanges", laid_unicode_utf8_acceptRanges), ("unicode/utf8.first", laid_unicode_utf8_first)] }
def ValueComparesSaid : Prop := valueComparesRow.holds Tryd.pinned (OpenSpec.ofChange valueComparesSpec)

/-- ITS FALSE NEIGHBOUR: 'it returns false'. Refute it at one input. -/
def valueComparesWrong : ChangeSpec := { name := "valueCompares", fn := fun _ => fun
  | [d1, d2] => { results := [.lit (.bool false)], args := [d1, d2] }
  | _ => none }
def ValueComparesWrongFalsely : Prop := valueComparesRow.holds Tryd.pinned (OpenSpec.ofChange valueComparesWrong)

/-- 'chirographlaw.ValueEquals': WHATEVER THE INPUT: true; the input reads as it did. -/
def valueEqualsSpec : ChangeSpec := { name := "valueEquals", fn := fun _ => fun
  | [d1, d2] => { results := [.lit (.bool true)], args := [d1, d2] }
  | _ => none }
def valueEqualsRow : OpenClaim := { program := "ytpmldhpjenjhpaadoor", sum := "a70cb78254e180fa4ca1aa5e17a4a4ffaeebbf56a8b91953f4bd00243691b642", func := "chirograph/chirographlaw.ValueEquals", spec := "valueEquals", inPlace := ["math.Float64frombits", "math.Float64bits"], unfollowed := true, recurses := true, named := ["unicode/utf8.first", "unicode/utf8.acceptRanges"], apart := false, laid := [("unicode/utf8.acceptRanges", laid_unicode_utf8_acceptRanges), ("unicode/utf8.first", laid_unicode_utf8_first)] }
def ValueEqualsSaid : Prop := valueEqualsRow.holds Tryd.pinned (OpenSpec.ofChange valueEqualsSpec)

/-- ITS FALSE NEIGHBOUR: 'it returns false'. Refute it at one input. -/
def valueEqualsWrong : ChangeSpec := { name := "valueEquals", fn := fun _ => fun
  | [d1, d2] => { results := [.lit (.bool false)], args := [d1, d2] }
  | _ => none }
def ValueEqualsWrongFalsely : Prop := valueEqualsRow.holds Tryd.pinned (OpenSpec.ofChange valueEqualsWrong)

/-- 'chirographlaw.ValueLess': WHATEVER THE INPUT: true; the input reads as it did. -/
def valueLessSpec : ChangeSpec := { name := "valueLess", fn := fun _ => fun
  | [d1, d2] => { results := [.lit (.bool true)], args := [d1, d2] }
  | _ => none }
def valueLessRow : OpenClaim := { program := "ytpmldhpjenjhpaadoor", sum := "a70cb78254e180fa4ca1aa5e17a4a4ffaeebbf56a8b91953f4bd00243691b642", func := "chirograph/chirographlaw.ValueLess", spec := "valueLess", inPlace := ["math.Float64frombits", "math.Float64bits"], unfollowed := true, recurses := true, named := ["unicode/utf8.first", "unicode/utf8.acceptRanges"], apart := false, laid := [("unicode/utf8.acceptRanges", laid_unicode_utf8_acceptRanges), ("unicode/utf8.first", laid_unicode_utf8_first)] }
def ValueLessSaid : Prop := valueLessRow.holds Tryd.pinned (OpenSpec.ofChange valueLessSpec)

/-- ITS FALSE NEIGHBOUR: 'it returns false'. Refute it at one input. -/
def valueLessWrong : ChangeSpec := { name := "valueLess", fn := fun _ => fun
  | [d1, d2] => { results := [.lit (.bool false)], args := [d1, d2] }
  | _ => none }
def ValueLessWrongFalsely : Prop := valueLessRow.holds Tryd.pinned (OpenSpec.ofChange valueLessWrong)

/-- 'chirographlaw.LexChecks': WHATEVER THE INPUT: true; the input reads as it did. -/
def lexChecksSpec : ChangeSpec := { name := "lexChecks", fn := fun _ => fun
  | [d] => { results := [.lit (.bool true)], args := [d] }
  | _ => none }
def lexChecksRow : OpenClaim := { program := "ytpmldhpjenjhpaadoor", sum := "a70cb78254e180fa4ca1aa5e17a4a4ffaeebbf56a8b91953f4bd00243691b642", func := "chirograph/chirographlaw.LexChecks", spec := "lexChecks", inPlace := ["math.Float64frombits", "math.Float64bits"], unfollowed := true, recurses := true, named := ["unicode/utf8.first", "unicode/utf8.acceptRanges"], apart := false, laid := [("unicode/utf8.acceptRanges", laid_unicode_utf8_acceptRanges), ("unicode/utf8.first", laid_unicode_utf8_first)] }
def LexChecksSaid : Prop := lexChecksRow.holds Tryd.pinned (OpenSpec.ofChange lexChecksSpec)

/-- ITS FALSE NEIGHBOUR: 'it returns false'. Refute it at one input. -/
def lexChecksWrong : ChangeSpec := { name := "lexChecks", fn := fun _ => fun
  | [d] => { results := [.lit (.bool false)], args := [d] }
  | _ => none }
def LexChecksWrongFalsely : Prop := lexChecksRow.holds Tryd.pinned (OpenSpec.ofChange lexChecksWrong)

/-- 'chirographlaw.KindsColumns': WHATEVER THE INPUT: true; the input reads as it did. -/
def kindsColumnsSpec : ChangeSpec := { name := "kindsColumns", fn := fun _ => fun
  | [d] => { results := [.lit (.bool true)], args := [d] }
  | _ => none }
def kindsColumnsRow : OpenClaim := { program := "ytpmldhpjenjhpaadoor", sum := "a70cb78254e180fa4ca1aa5e17a4a4ffaeebbf56a8b91953f4bd00243691b642", func := "chirograph/chirographlaw.KindsColumns", spec := "kindsColumns", inPlace := ["math.Float64frombits", "math.Float64bits"], unfollowed := true, recurses := true, named := ["unicode/utf8.first", "unicode/utf8.acceptRanges"], apart := false, laid := [("unicode/utf8.acceptRanges", laid_unicode_utf8_acceptRanges), ("unicode/utf8.first", laid_unicode_utf8_first)] }
def KindsColumnsSaid : Prop := kindsColumnsRow.holds Tryd.pinned (OpenSpec.ofChange kindsColumnsSpec)

/-- ITS FALSE NEIGHBOUR: 'it returns false'. Refute it at one input. -/
def kindsColumnsWrong : ChangeSpec := { name := "kindsColumns", fn := fun _ => fun
  | [d] => { results := [.lit (.bool false)], args := [d] }
  | _ => none }
def KindsColumnsWrongFalsely : Prop := kindsColumnsRow.holds Tryd.pinned (OpenSpec.ofChange kindsColumnsWrong)

/-- 'chirographlaw.KindsRows': WHATEVER THE INPUT: true; the input reads as it did. -/
def kindsRowsSpec : ChangeSpec := { name := "kindsRows", fn := fun _ => fun
  | [d1, d2] => { results := [.lit (.bool true)], args := [d1, d2] }
  | _ => none }
def kindsRowsRow : OpenClaim := { program := "ytpmldhpjenjhpaadoor", sum := "a70cb78254e180fa4ca1aa5e17a4a4ffaeebbf56a8b91953f4bd00243691b642", func := "chirograph/chirographlaw.KindsRows", spec := "kindsRows", inPlace := ["math.Float64frombits", "math.Float64bits"], unfollowed := true, recurses := true, named := ["unicode/utf8.first", "unicode/utf8.acceptRanges"], apart := false, laid := [("unicode/utf8.acceptRanges", laid_unicode_utf8_acceptRanges), ("unicode/utf8.first", laid_unicode_utf8_first)] }
def KindsRowsSaid : Prop := kindsRowsRow.holds Tryd.pinned (OpenSpec.ofChange kindsRowsSpec)

/-- ITS FALSE NEIGHBOUR: 'it returns false'. Refute it at one input. -/
def kindsRowsWrong : ChangeSpec := { name := "kindsRows", fn := fun _ => fun
  | [d1, d2] => { results := [.lit (.bool false)], args := [d1, d2] }
  | _ => none }
def KindsRowsWrongFalsely : Prop := kindsRowsRow.holds Tryd.pinned (OpenSpec.ofChange kindsRowsWrong)

/- THE SECOND FORM. 'bulk': how many values and letters a reading holds, each counted each time it is reached (what is shared counts as often as it is met; a slice's spare places count too). A statement '..UptoSaid' is the law's where the arguments, and the package variables that the reading takes, are together of bulk at most 1048576: NARROWER than '..Said'. Prove '..Said' where nothing that the law and all that it calls make is longer than what came in: it says more and counts as full. Else prove '..UptoSaid'. A law counts once. -/
mutual
def uptoBulk {H : Type} : DataW H → Nat
  | .lit (.string bytes) => bytes.length + 1
  | .lit _ => 1
  | .nil => 1
  | .ptr d => uptoBulk d + 1
  | .slice elems spare => uptoBulkAll elems + uptoBulkAll spare + 1
  | .agg parts => uptoBulkAll parts + 1
  | .iface _ d => uptoBulk d + 1
  | .map entries => uptoBulkEntries entries + 1
  | .held _ => 1
def uptoBulkAll {H : Type} : List (DataW H) → Nat
  | [] => 0
  | d :: r => uptoBulk d + uptoBulkAll r
def uptoBulkEntries {H : Type} : List (Lit × DataW H) → Nat
  | [] => 0
  | x :: r => uptoBulkEntry x + uptoBulkEntries r
def uptoBulkEntry {H : Type} : Lit × DataW H → Nat
  | (.string bytes, d) => bytes.length + uptoBulk d + 1
  | (_, d) => uptoBulk d + 1
 end
def uptoSmall : (H : Type) → List (DataW H) → Bool := fun _ ds => decide (uptoBulkAll ds ≤ 1048576)
def OpenSpec.upto (s : _root_.Go.ChangeSpec) : _root_.Go.OpenSpec := { _root_.Go.OpenSpec.ofChange s with cond := some uptoSmall }

/-- 'chirographlaw.ValueChecks', WHERE WHAT IT READS IS OF BULK AT MOST 1048576: true; the input reads as it did. -/
def valueChecksUptoRow : OpenClaim := { program := "ytpmldhpjenjhpaadoor", sum := "a70cb78254e180fa4ca1aa5e17a4a4ffaeebbf56a8b91953f4bd00243691b642", func := "chirograph/chirographlaw.ValueChecks", spec := "valueChecks", inPlace := ["math.Float64frombits", "math.Float64bits"], named := ["unicode/utf8.first", "unicode/utf8.acceptRanges"], apart := false, laid := [("unicode/utf8.acceptRanges", laid_unicode_utf8_acceptRanges), ("unicode/utf8.first", laid_unicode_utf8_first)], narrowed := true }
def ValueChecksUptoSaid : Prop := valueChecksUptoRow.holds Tryd.pinned (OpenSpec.upto valueChecksSpec)

/-- 'chirographlaw.ValueCompares', WHERE WHAT IT READS IS OF BULK AT MOST 1048576: true; the input reads as it did. -/
def valueComparesUptoRow : OpenClaim := { program := "ytpmldhpjenjhpaadoor", sum := "a70cb78254e180fa4ca1aa5e17a4a4ffaeebbf56a8b91953f4bd00243691b642", func := "chirograph/chirographlaw.ValueCompares", spec := "valueCompares", inPlace := ["math.Float64frombits", "math.Float64bits"], named := ["unicode/utf8.first", "unicode/utf8.acceptRanges"], apart := false, laid := [("unicode/utf8.acceptRanges", laid_unicode_utf8_acceptRanges), ("unicode/utf8.first", laid_unicode_utf8_first)], narrowed := true }
def ValueComparesUptoSaid : Prop := valueComparesUptoRow.holds Tryd.pinned (OpenSpec.upto valueComparesSpec)

/-- 'chirographlaw.ValueEquals', WHERE WHAT IT READS IS OF BULK AT MOST 1048576: true; the input reads as it did. -/
def valueEqualsUptoRow : OpenClaim := { program := "ytpmldhpjenjhpaadoor", sum := "a70cb78254e180fa4ca1aa5e17a4a4ffaeebbf56a8b91953f4bd00243691b642", func := "chirograph/chirographlaw.ValueEquals", spec := "valueEquals", inPlace := ["math.Float64frombits", "math.Float64bits"], unfollowed := true, recurses := true, named := ["unicode/utf8.first", "unicode/utf8.acceptRanges"], apart := false, laid := [("unicode/utf8.acceptRanges", laid_unicode_utf8_acceptRanges), ("unicode/utf8.first", laid_unicode_utf8_first)], narrowed := true }
def ValueEqualsUptoSaid : Prop := valueEqualsUptoRow.holds Tryd.pinned (OpenSpec.upto valueEqualsSpec)

/-- 'chirographlaw.ValueLess', WHERE WHAT IT READS IS OF BULK AT MOST 1048576: true; the input reads as it did. -/
def valueLessUptoRow : OpenClaim := { program := "ytpmldhpjenjhpaadoor", sum := "a70cb78254e180fa4ca1aa5e17a4a4ffaeebbf56a8b91953f4bd00243691b642", func := "chirograph/chirographlaw.ValueLess", spec := "valueLess", inPlace := ["math.Float64frombits", "math.Float64bits"], unfollowed := true, recurses := true, named := ["unicode/utf8.first", "unicode/utf8.acceptRanges"], apart := false, laid := [("unicode/utf8.acceptRanges", laid_unicode_utf8_acceptRanges), ("unicode/utf8.first", laid_unicode_utf8_first)], narrowed := true }
def ValueLessUptoSaid : Prop := valueLessUptoRow.holds Tryd.pinned (OpenSpec.upto valueLessSpec)

/-- 'chirographlaw.LexChecks', WHERE WHAT IT READS IS OF BULK AT MOST 1048576: true; the input reads as it did. -/
def lexChecksUptoRow : OpenClaim := { program := "ytpmldhpjenjhpaadoor", sum := "a70cb78254e180fa4ca1aa5e17a4a4ffaeebbf56a8b91953f4bd00243691b642", func := "chirograph/chirographlaw.LexChecks", spec := "lexChecks", inPlace := ["math.Float64frombits", "math.Float64bits"], unfollowed := true, recurses := true, named := ["unicode/utf8.first", "unicode/utf8.acceptRanges"], apart := false, laid := [("unicode/utf8.acceptRanges", laid_unicode_utf8_acceptRanges), ("unicode/utf8.first", laid_unicode_utf8_first)], narrowed := true }
def LexChecksUptoSaid : Prop := lexChecksUptoRow.holds Tryd.pinned (OpenSpec.upto lexChecksSpec)

/-- 'chirographlaw.KindsColumns', WHERE WHAT IT READS IS OF BULK AT MOST 1048576: true; the input reads as it did. -/
def kindsColumnsUptoRow : OpenClaim := { program := "ytpmldhpjenjhpaadoor", sum := "a70cb78254e180fa4ca1aa5e17a4a4ffaeebbf56a8b91953f4bd00243691b642", func := "chirograph/chirographlaw.KindsColumns", spec := "kindsColumns", inPlace := ["math.Float64frombits", "math.Float64bits"], unfollowed := true, recurses := true, named := ["unicode/utf8.first", "unicode/utf8.acceptRanges"], apart := false, laid := [("unicode/utf8.acceptRanges", laid_unicode_utf8_acceptRanges), ("unicode/utf8.first", laid_unicode_utf8_first)], narrowed := true }
def KindsColumnsUptoSaid : Prop := kindsColumnsUptoRow.holds Tryd.pinned (OpenSpec.upto kindsColumnsSpec)

/-- 'chirographlaw.KindsRows', WHERE WHAT IT READS IS OF BULK AT MOST 1048576: true; the input reads as it did. -/
def kindsRowsUptoRow : OpenClaim := { program := "ytpmldhpjenjhpaadoor", sum := "a70cb78254e180fa4ca1aa5e17a4a4ffaeebbf56a8b91953f4bd00243691b642", func := "chirograph/chirographlaw.KindsRows", spec := "kindsRows", inPlace := ["math.Float64frombits", "math.Float64bits"], unfollowed := true, recurses := true, named := ["unicode/utf8.first", "unicode/utf8.acceptRanges"], apart := false, laid := [("unicode/utf8.acceptRanges", laid_unicode_utf8_acceptRanges), ("unicode/utf8.first", laid_unicode_utf8_first)], narrowed := true }
def KindsRowsUptoSaid : Prop := kindsRowsUptoRow.holds Tryd.pinned (OpenSpec.upto kindsRowsSpec)

end Rows
end Go.Proofs.YtpmldhpjenjhpaaDoor
