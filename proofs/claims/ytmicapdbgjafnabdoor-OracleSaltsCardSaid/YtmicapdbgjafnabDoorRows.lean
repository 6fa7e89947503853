/-
  NARROWER THAN 'FOR EVERY INPUT', by the rows' own cells (each row's printed sentence says how): OracleSalts: laid · OracleDigests: laid · AuditTells: laid · ValueCompares: laid · SlotsLeaves: laid · AuditEntries: laid · ValueEquals: laid · ValueLess: laid · LexChecks: laid.
  DERIVED. THE GIVEN ROWS OF THIS SEAT. 9 by the template 'for every input the law returns true; each argument reads behind the call as it read before'; 0 by the template 'total and deterministic' (their statements: YtmicapdbgjafnabDoorTotals.lean).
  GIVEN WITH THE SEED: the statements are not yours to turn. If you find one false, say at which input.
  Laid BY PROGRAM, IN A SANDBOX (cutbox-rows.mjs): the forced cells as the released guide's own fill.sh prints them over the translation e51bb900dd55bcf0… (all of the seat's roots in one cut). By AI agents, Wed Nov 11 2026. No macro, syntax, notation, axiom, sorry.
-/
import Derived.Test.YtmicapdbgjafnabDoorChecked
import GoSem.PinnedTables
import GoSem.Claim
import GoSem.ClaimJoined
import GoSem.ClaimMapViews
import Derived.JoinedTies
import Derived.KernelRfl
namespace Go.Proofs.YtmicapdbgjafnabDoor
/- THE CELL 'sum', in the pinned program and in every row, IS THE sha256 OF THE DUMP (.gsa) THAT YtmicapdbgjafnabDoorProg.lean LOADS. Nothing in Lean hashes anything: it is a label: what it is worth is what the hold of that sum in a sandbox is worth. -/
noncomputable def Tryd.pinned : Pinned := { name := "ytmicapdbgjafnabdoor", sum := "e51bb900dd55bcf0de54c4bf8a13989891ad38f29a93f1b363f31b2848847d45", checked := Tryd.checked }
namespace Rows
def none {H : Type} : Left H := { results := [], args := [] }

/- WHAT THE LISTED PACKAGE-LEVEL VARIABLES READ AS WHEN THE CALL BEGINS. Each datum BY PROGRAM (the guide's laid-datum.mjs) off the statement by which the dump's own 'gosem.cut.vars' lays the variable. In a bare row this is a premise. The card (YtmicapdbgjafnabDoorCards.lean) ties it to the program's text. -/
def laid_chirograph_sum_steps {H : Type} : DataW H := .agg [.lit (.int .u32 1116352408), .lit (.int .u32 1899447441), .lit (.int .u32 3049323471), .lit (.int .u32 3921009573), .lit (.int .u32 961987163), .lit (.int .u32 1508970993), .lit (.int .u32 2453635748), .lit (.int .u32 2870763221), .lit (.int .u32 3624381080), .lit (.int .u32 310598401), .lit (.int .u32 607225278), .lit (.int .u32 1426881987), .lit (.int .u32 1925078388), .lit (.int .u32 2162078206), .lit (.int .u32 2614888103), .lit (.int .u32 3248222580), .lit (.int .u32 3835390401), .lit (.int .u32 4022224774), .lit (.int .u32 264347078), .lit (.int .u32 604807628), .lit (.int .u32 770255983), .lit (.int .u32 1249150122), .lit (.int .u32 1555081692), .lit (.int .u32 1996064986), .lit (.int .u32 2554220882), .lit (.int .u32 2821834349), .lit (.int .u32 2952996808), .lit (.int .u32 3210313671), .lit (.int .u32 3336571891), .lit (.int .u32 3584528711), .lit (.int .u32 113926993), .lit (.int .u32 338241895), .lit (.int .u32 666307205), .lit (.int .u32 773529912), .lit (.int .u32 1294757372), .lit (.int .u32 1396182291), .lit (.int .u32 1695183700), .lit (.int .u32 1986661051), .lit (.int .u32 2177026350), .lit (.int .u32 2456956037), .lit (.int .u32 2730485921), .lit (.int .u32 2820302411), .lit (.int .u32 3259730800), .lit (.int .u32 3345764771), .lit (.int .u32 3516065817), .lit (.int .u32 3600352804), .lit (.int .u32 4094571909), .lit (.int .u32 275423344), .lit (.int .u32 430227734), .lit (.int .u32 506948616), .lit (.int .u32 659060556), .lit (.int .u32 883997877), .lit (.int .u32 958139571), .lit (.int .u32 1322822218), .lit (.int .u32 1537002063), .lit (.int .u32 1747873779), .lit (.int .u32 1955562222), .lit (.int .u32 2024104815), .lit (.int .u32 2227730452), .lit (.int .u32 2361852424), .lit (.int .u32 2428436474), .lit (.int .u32 2756734187), .lit (.int .u32 3204031479), .lit (.int .u32 3329325298)]
def laid_unicode_utf8_acceptRanges {H : Type} : DataW H := .agg [.agg [.lit (.int .u8 128), .lit (.int .u8 191)], .agg [.lit (.int .u8 160), .lit (.int .u8 191)], .agg [.lit (.int .u8 128), .lit (.int .u8 159)], .agg [.lit (.int .u8 144), .lit (.int .u8 191)], .agg [.lit (.int .u8 128), .lit (.int .u8 143)], .agg [.lit (.int .u8 0), .lit (.int .u8 0)], .agg [.lit (.int .u8 0), .lit (.int .u8 0)], .agg [.lit (.int .u8 0), .lit (.int .u8 0)], .agg [.lit (.int .u8 0), .lit (.int .u8 0)], .agg [.lit (.int .u8 0), .lit (.int .u8 0)], .agg [.lit (.int .u8 0), .lit (.int .u8 0)], .agg [.lit (.int .u8 0), .lit (.int .u8 0)], .agg [.lit (.int .u8 0), .lit (.int .u8 0)], .agg [.lit (.int .u8 0), .lit (.int .u8 0)], .agg [.lit (.int .u8 0), .lit (.int .u8 0)], .agg [.lit (.int .u8 0), .lit (.int .u8 0)]]
/-- One of Go's own tables, pinned by name: the form's constant. -/
def laid_unicode_utf8_first : DataW Unit := Go.Pinned.utf8First

/-- 'chirographlaw.OracleSalts': WHATEVER THE INPUT: true; the input reads as it did. -/
def oracleSaltsSpec : ChangeSpec := { name := "oracleSalts", fn := fun _ => fun
  | [d1, d2, d3, d4] => { results := [.lit (.bool true)], args := [d1, d2, d3, d4] }
  | _ => none }
def oracleSaltsRow : OpenClaim := { program := "ytmicapdbgjafnabdoor", sum := "e51bb900dd55bcf0de54c4bf8a13989891ad38f29a93f1b363f31b2848847d45", func := "chirograph/chirographlaw.OracleSalts", spec := "oracleSalts", unfollowed := true, recurses := true, named := ["chirograph/sum.steps"], apart := false, laid := [("chirograph/sum.steps", laid_chirograph_sum_steps)] }
def OracleSaltsSaid : Prop := oracleSaltsRow.holds Tryd.pinned (OpenSpec.ofChange oracleSaltsSpec)

/-- ITS FALSE NEIGHBOUR: 'it returns false'. Refute it at one input. -/
def oracleSaltsWrong : ChangeSpec := { name := "oracleSalts", fn := fun _ => fun
  | [d1, d2, d3, d4] => { results := [.lit (.bool false)], args := [d1, d2, d3, d4] }
  | _ => none }
def OracleSaltsWrongFalsely : Prop := oracleSaltsRow.holds Tryd.pinned (OpenSpec.ofChange oracleSaltsWrong)

/-- 'chirographlaw.OracleDigests': WHATEVER THE INPUT: true; the input reads as it did. -/
def oracleDigestsSpec : ChangeSpec := { name := "oracleDigests", fn := fun _ => fun
  | [d1, d2, d3] => { results := [.lit (.bool true)], args := [d1, d2, d3] }
  | _ => none }
def oracleDigestsRow : OpenClaim := { program := "ytmicapdbgjafnabdoor", sum := "e51bb900dd55bcf0de54c4bf8a13989891ad38f29a93f1b363f31b2848847d45", func := "chirograph/chirographlaw.OracleDigests", spec := "oracleDigests", named := ["chirograph/sum.steps"], apart := false, laid := [("chirograph/sum.steps", laid_chirograph_sum_steps)] }
def OracleDigestsSaid : Prop := oracleDigestsRow.holds Tryd.pinned (OpenSpec.ofChange oracleDigestsSpec)

/-- ITS FALSE NEIGHBOUR: 'it returns false'. Refute it at one input. -/
def oracleDigestsWrong : ChangeSpec := { name := "oracleDigests", fn := fun _ => fun
  | [d1, d2, d3] => { results := [.lit (.bool false)], args := [d1, d2, d3] }
  | _ => none }
def OracleDigestsWrongFalsely : Prop := oracleDigestsRow.holds Tryd.pinned (OpenSpec.ofChange oracleDigestsWrong)

/-- 'chirographlaw.AuditTells': WHATEVER THE INPUT: true; the input reads as it did. -/
def auditTellsSpec : ChangeSpec := { name := "auditTells", fn := fun _ => fun
  | [d1, d2, d3, d4] => { results := [.lit (.bool true)], args := [d1, d2, d3, d4] }
  | _ => none }
def auditTellsRow : OpenClaim := { program := "ytmicapdbgjafnabdoor", sum := "e51bb900dd55bcf0de54c4bf8a13989891ad38f29a93f1b363f31b2848847d45", func := "chirograph/chirographlaw.AuditTells", spec := "auditTells", named := ["chirograph/sum.steps"], apart := false, laid := [("chirograph/sum.steps", laid_chirograph_sum_steps)] }
def AuditTellsSaid : Prop := auditTellsRow.holds Tryd.pinned (OpenSpec.ofChange auditTellsSpec)

/-- ITS FALSE NEIGHBOUR: 'it returns false'. Refute it at one input. -/
def auditTellsWrong : ChangeSpec := { name := "auditTells", fn := fun _ => fun
  | [d1, d2, d3, d4] => { results := [.lit (.bool false)], args := [d1, d2, d3, d4] }
  | _ => none }
def AuditTellsWrongFalsely : Prop := auditTellsRow.holds Tryd.pinned (OpenSpec.ofChange auditTellsWrong)

/-- 'chirographlaw.ValueCompares': WHATEVER THE INPUT: true; the input reads as it did. -/
def valueComparesSpec : ChangeSpec := { name := "valueCompares", fn := fun _ => fun
  | [d1, d2] => { results := [.lit (.bool true)], args := [d1, d2] }
  | _ => none }
def valueComparesRow : OpenClaim := { program := "ytmicapdbgjafnabdoor", sum := "e51bb900dd55bcf0de54c4bf8a13989891ad38f29a93f1b363f31b2848847d45", func := "chirograph/chirographlaw.ValueCompares", spec := "valueCompares", inPlace := ["math.Float64frombits", "math.Float64bits"], named := ["unicode/utf8.first", "unicode/utf8.acceptRanges"], apart := false, laid := [("unicode/utf8.acceptRanges", laid_unicode_utf8_acceptRanges), ("unicode/utf8.first", laid_unicode_utf8_first)] }
def ValueComparesSaid : Prop := valueComparesRow.holds Tryd.pinned (OpenSpec.ofChange valueComparesSpec)

/-- ITS FALSE NEIGHBOUR: 'it returns false'. Refute it at one input. -/
def valueComparesWrong : ChangeSpec := { name := "valueCompares", fn := fun _ => fun
  | [d1, d2] => { results := [.lit (.bool false)], args := [d1, d2] }
  | _ => none }
def ValueComparesWrongFalsely : Prop := valueComparesRow.holds Tryd.pinned (OpenSpec.ofChange valueComparesWrong)

/-- 'chirographlaw.SlotsLeaves': WHATEVER THE INPUT: true; the input reads as it did. -/
def slotsLeavesSpec : ChangeSpec := { name := "slotsLeaves", fn := fun _ => fun
  | [d1, d2] => { results := [.lit (.bool true)], args := [d1, d2] }
  | _ => none }
def slotsLeavesRow : OpenClaim := { program := "ytmicapdbgjafnabdoor", sum := "e51bb900dd55bcf0de54c4bf8a13989891ad38f29a93f1b363f31b2848847d45", func := "chirograph/chirographlaw.SlotsLeaves", spec := "slotsLeaves", named := ["chirograph/sum.steps"], apart := false, laid := [("chirograph/sum.steps", laid_chirograph_sum_steps)] }
def SlotsLeavesSaid : Prop := slotsLeavesRow.holds Tryd.pinned (OpenSpec.ofChange slotsLeavesSpec)

/-- ITS FALSE NEIGHBOUR: 'it returns false'. Refute it at one input. -/
def slotsLeavesWrong : ChangeSpec := { name := "slotsLeaves", fn := fun _ => fun
  | [d1, d2] => { results := [.lit (.bool false)], args := [d1, d2] }
  | _ => none }
def SlotsLeavesWrongFalsely : Prop := slotsLeavesRow.holds Tryd.pinned (OpenSpec.ofChange slotsLeavesWrong)

/-- 'chirographlaw.AuditEntries': WHATEVER THE INPUT: true; the input reads as it did. -/
def auditEntriesSpec : ChangeSpec := { name := "auditEntries", fn := fun _ => fun
  | [d1, d2, d3] => { results := [.lit (.bool true)], args := [d1, d2, d3] }
  | _ => none }
def auditEntriesRow : OpenClaim := { program := "ytmicapdbgjafnabdoor", sum := "e51bb900dd55bcf0de54c4bf8a13989891ad38f29a93f1b363f31b2848847d45", func := "chirograph/chirographlaw.AuditEntries", spec := "auditEntries", named := ["chirograph/sum.steps"], apart := false, laid := [("chirograph/sum.steps", laid_chirograph_sum_steps)] }
def AuditEntriesSaid : Prop := auditEntriesRow.holds Tryd.pinned (OpenSpec.ofChange auditEntriesSpec)

/-- ITS FALSE NEIGHBOUR: 'it returns false'. Refute it at one input. -/
def auditEntriesWrong : ChangeSpec := { name := "auditEntries", fn := fun _ => fun
  | [d1, d2, d3] => { results := [.lit (.bool false)], args := [d1, d2, d3] }
  | _ => none }
def AuditEntriesWrongFalsely : Prop := auditEntriesRow.holds Tryd.pinned (OpenSpec.ofChange auditEntriesWrong)

/-- 'chirographlaw.ValueEquals': WHATEVER THE INPUT: true; the input reads as it did. -/
def valueEqualsSpec : ChangeSpec := { name := "valueEquals", fn := fun _ => fun
  | [d1, d2] => { results := [.lit (.bool true)], args := [d1, d2] }
  | _ => none }
def valueEqualsRow : OpenClaim := { program := "ytmicapdbgjafnabdoor", sum := "e51bb900dd55bcf0de54c4bf8a13989891ad38f29a93f1b363f31b2848847d45", func := "chirograph/chirographlaw.ValueEquals", spec := "valueEquals", inPlace := ["math.Float64frombits", "math.Float64bits"], unfollowed := true, recurses := true, named := ["unicode/utf8.first", "unicode/utf8.acceptRanges"], apart := false, laid := [("unicode/utf8.acceptRanges", laid_unicode_utf8_acceptRanges), ("unicode/utf8.first", laid_unicode_utf8_first)] }
def ValueEqualsSaid : Prop := valueEqualsRow.holds Tryd.pinned (OpenSpec.ofChange valueEqualsSpec)

/-- ITS FALSE NEIGHBOUR: 'it returns false'. Refute it at one input. -/
def valueEqualsWrong : ChangeSpec := { name := "valueEquals", fn := fun _ => fun
  | [d1, d2] => { results := [.lit (.bool false)], args := [d1, d2] }
  | _ => none }
def ValueEqualsWrongFalsely : Prop := valueEqualsRow.holds Tryd.pinned (OpenSpec.ofChange valueEqualsWrong)

/-- 'chirographlaw.ValueLess': WHATEVER THE INPUT: true; the input reads as it did. -/
def valueLessSpec : ChangeSpec := { name := "valueLess", fn := fun _ => fun
  | [d1, d2] => { results := [.lit (.bool true)], args := [d1, d2] }
  | _ => none }
def valueLessRow : OpenClaim := { program := "ytmicapdbgjafnabdoor", sum := "e51bb900dd55bcf0de54c4bf8a13989891ad38f29a93f1b363f31b2848847d45", func := "chirograph/chirographlaw.ValueLess", spec := "valueLess", inPlace := ["math.Float64frombits", "math.Float64bits"], unfollowed := true, recurses := true, named := ["unicode/utf8.first", "unicode/utf8.acceptRanges"], apart := false, laid := [("unicode/utf8.acceptRanges", laid_unicode_utf8_acceptRanges), ("unicode/utf8.first", laid_unicode_utf8_first)] }
def ValueLessSaid : Prop := valueLessRow.holds Tryd.pinned (OpenSpec.ofChange valueLessSpec)

/-- ITS FALSE NEIGHBOUR: 'it returns false'. Refute it at one input. -/
def valueLessWrong : ChangeSpec := { name := "valueLess", fn := fun _ => fun
  | [d1, d2] => { results := [.lit (.bool false)], args := [d1, d2] }
  | _ => none }
def ValueLessWrongFalsely : Prop := valueLessRow.holds Tryd.pinned (OpenSpec.ofChange valueLessWrong)

/-- 'chirographlaw.LexChecks': WHATEVER THE INPUT: true; the input reads as it did. -/
def lexChecksSpec : ChangeSpec := { name := "lexChecks", fn := fun _ => fun
  | [d] => { results := [.lit (.bool true)], args := [d] }
  | _ => none }
def lexChecksRow : OpenClaim := { program := "ytmicapdbgjafnabdoor", sum := "e51bb900dd55bcf0de54c4bf8a13989891ad38f29a93f1b363f31b2848847d45", func := "chirograph/chirographlaw.LexChecks", spec := "lexChecks", inPlace := ["math.Float64frombits", "math.Float64bits"], unfollowed := true, recurses := true, named := ["unicode/utf8.first", "unicode/utf8.acceptRanges"], apart := false, laid := [("unicode/utf8.acceptRanges", laid_unicode_utf8_acceptRanges), ("unicode/utf8.first", laid_unicode_utf8_first)] }
def LexChecksSaid : Prop := lexChecksRow.holds Tryd.pinned (OpenSpec.ofChange lexChecksSpec)

/-- ITS FALSE NEIGHBOUR: 'it returns false'. Refute it at one input. -/
def lexChecksWrong : ChangeSpec := { name := "lexChecks", fn := fun _ => fun
  | [d] => { results := [.lit (.bool false)], args := [d] }
  | _ => none }
def LexChecksWrongFalsely : Prop := lexChecksRow.holds Tryd.pinned (OpenSpec.ofChange lexChecksWrong)

/- THE SECOND FORM. 'bulk': how many values and letters a reading holds, each counted each time it is reached (what is shared counts as often as it is met; a slice's spare places count too). A statement '..UptoSaid' is the law's where the arguments, and the package variables that the reading takes, are together of bulk at most 1048576: NARROWER than '..Said'. Prove '..Said' where nothing that the law and all that it calls make is longer than what came in: it says more and counts as full. Else prove '..UptoSaid'. A law counts once. -/
mutual
def uptoBulk {H : Type} : DataW H → Nat
  | .lit (.string bytes) => bytes.length + 1
  | .lit _ => 1
  | .nil => 1
  | .ptr d => uptoBulk d + 1
  | .slice elems spare => uptoBulkAll elems + uptoBulkAll spare + 1
  | .agg parts => uptoBulkAll parts + 1
  | .iface _ d => uptoBulk d + 1
  | .map entries => uptoBulkEntries entries + 1
  | .held _ => 1
def uptoBulkAll {H : Type} : List (DataW H) → Nat
  | [] => 0
  | d :: r => uptoBulk d + uptoBulkAll r
def uptoBulkEntries {H : Type} : List (Lit × DataW H) → Nat
  | [] => 0
  | x :: r => uptoBulkEntry x + uptoBulkEntries r
def uptoBulkEntry {H : Type} : Lit × DataW H → Nat
  | (.string bytes, d) => bytes.length + uptoBulk d + 1
  | (_, d) => uptoBulk d + 1
 end
def uptoSmall : (H : Type) → List (DataW H) → Bool := fun _ ds => decide (uptoBulkAll ds ≤ 1048576)
def OpenSpec.upto (s : _root_.Go.ChangeSpec) : _root_.Go.OpenSpec := { _root_.Go.OpenSpec.ofChange s with cond := some uptoSmall }

/-- 'chirographlaw.OracleSalts', WHERE WHAT IT READS IS OF BULK AT MOST 1048576: true; the input reads as it did. -/
def oracleSaltsUptoRow : OpenClaim := { program := "ytmicapdbgjafnabdoor", sum := "e51bb900dd55bcf0de54c4bf8a13989891ad38f29a93f1b363f31b2848847d45", func := "chirograph/chirographlaw.OracleSalts", spec := "oracleSalts", unfollowed := true, recurses := true, named := ["chirograph/sum.steps"], apart := false, laid := [("chirograph/sum.steps", laid_chirograph_sum_steps)], narrowed := true }
def OracleSaltsUptoSaid : Prop := oracleSaltsUptoRow.holds Tryd.pinned (OpenSpec.upto oracleSaltsSpec)

/-- 'chirographlaw.OracleDigests', WHERE WHAT IT READS IS OF BULK AT MOST 1048576: true; the input reads as it did. -/
def oracleDigestsUptoRow : OpenClaim := { program := "ytmicapdbgjafnabdoor", sum := "e51bb900dd55bcf0de54c4bf8a13989891ad38f29a93f1b363f31b2848847d45", func := "chirograph/chirographlaw.OracleDigests", spec := "oracleDigests", named := ["chirograph/sum.steps"], apart := false, laid := [("chirograph/sum.steps", laid_chirograph_sum_steps)], narrowed := true }
def OracleDigestsUptoSaid : Prop := oracleDigestsUptoRow.holds Tryd.pinned (OpenSpec.upto oracleDigestsSpec)

/-- 'chirographlaw.AuditTells', WHERE WHAT IT READS IS OF BULK AT MOST 1048576: true; the input reads as it did. -/
def auditTellsUptoRow : OpenClaim := { program := "ytmicapdbgjafnabdoor", sum := "e51bb900dd55bcf0de54c4bf8a13989891ad38f29a93f1b363f31b2848847d45", func := "chirograph/chirographlaw.AuditTells", spec := "auditTells", named := ["chirograph/sum.steps"], apart := false, laid := [("chirograph/sum.steps", laid_chirograph_sum_steps)], narrowed := true }
def AuditTellsUptoSaid : Prop := auditTellsUptoRow.holds Tryd.pinned (OpenSpec.upto auditTellsSpec)

/-- 'chirographlaw.ValueCompares', WHERE WHAT IT READS IS OF BULK AT MOST 1048576: true; the input reads as it did. -/
def valueComparesUptoRow : OpenClaim := { program := "ytmicapdbgjafnabdoor", sum := "e51bb900dd55bcf0de54c4bf8a13989891ad38f29a93f1b363f31b2848847d45", func := "chirograph/chirographlaw.ValueCompares", spec := "valueCompares", inPlace := ["math.Float64frombits", "math.Float64bits"], named := ["unicode/utf8.first", "unicode/utf8.acceptRanges"], apart := false, laid := [("unicode/utf8.acceptRanges", laid_unicode_utf8_acceptRanges), ("unicode/utf8.first", laid_unicode_utf8_first)], narrowed := true }
def ValueComparesUptoSaid : Prop := valueComparesUptoRow.holds Tryd.pinned (OpenSpec.upto valueComparesSpec)

/-- 'chirographlaw.SlotsLeaves', WHERE WHAT IT READS IS OF BULK AT MOST 1048576: true; the input reads as it did. -/
def slotsLeavesUptoRow : OpenClaim := { program := "ytmicapdbgjafnabdoor", sum := "e51bb900dd55bcf0de54c4bf8a13989891ad38f29a93f1b363f31b2848847d45", func := "chirograph/chirographlaw.SlotsLeaves", spec := "slotsLeaves", named := ["chirograph/sum.steps"], apart := false, laid := [("chirograph/sum.steps", laid_chirograph_sum_steps)], narrowed := true }
def SlotsLeavesUptoSaid : Prop := slotsLeavesUptoRow.holds Tryd.pinned (OpenSpec.upto slotsLeavesSpec)

/-- 'chirographlaw.AuditEntries', WHERE WHAT IT READS IS OF BULK AT MOST 1048576: true; the input reads as it did. -/
def auditEntriesUptoRow : OpenClaim := { program := "ytmicapdbgjafnabdoor", sum := "e51bb900dd55bcf0de54c4bf8a13989891ad38f29a93f1b363f31b2848847d45", func := "chirograph/chirographlaw.AuditEntries", spec := "auditEntries", named := ["chirograph/sum.steps"], apart := false, laid := [("chirograph/sum.steps", laid_chirograph_sum_steps)], narrowed := true }
def AuditEntriesUptoSaid : Prop := auditEntriesUptoRow.holds Tryd.pinned (OpenSpec.upto auditEntriesSpec)

/-- 'chirographlaw.ValueEquals', WHERE WHAT IT READS IS OF BULK AT MOST 1048576: true; the input reads as it did. -/
def valueEqualsUptoRow : OpenClaim := { program := "ytmicapdbgjafnabdoor", sum := "e51bb900dd55bcf0de54c4bf8a13989891ad38f29a93f1b363f31b2848847d45", func := "chirograph/chirographlaw.ValueEquals", spec := "valueEquals", inPlace := ["math.Float64frombits", "math.Float64bits"], unfollowed := true, recurses := true, named := ["unicode/utf8.first", "unicode/utf8.acceptRanges"], apart := false, laid := [("unicode/utf8.acceptRanges", laid_unicode_utf8_acceptRanges), ("unicode/utf8.first", laid_unicode_utf8_first)], narrowed := true }
def ValueEqualsUptoSaid : Prop := valueEqualsUptoRow.holds Tryd.pinned (OpenSpec.upto valueEqualsSpec)

/-- 'chirographlaw.ValueLess', WHERE WHAT IT READS IS OF BULK AT MOST 1048576: true; the input reads as it did. -/
def valueLessUptoRow : OpenClaim := { program := "ytmicapdbgjafnabdoor", sum := "e51bb900dd55bcf0de54c4bf8a13989891ad38f29a93f1b363f31b2848847d45", func := "chirograph/chirographlaw.ValueLess", spec := "valueLess", inPlace := ["math.Float64frombits", "math.Float64bits"], unfollowed := true, recurses := true, named := ["unicode/utf8.first", "unicode/utf8.acceptRanges"], apart := false, laid := [("unicode/utf8.acceptRanges", laid_unicode_utf8_acceptRanges), ("unicode/utf8.first", laid_unicode_utf8_first)], narrowed := true }
def ValueLessUptoSaid : Prop := valueLessUptoRow.holds Tryd.pinned (OpenSpec.upto valueLessSpec)

/-- 'chirographlaw.LexChecks', WHERE WHAT IT READS IS OF BULK AT MOST 1048576: true; the input reads as it did. -/
def lexChecksUptoRow : OpenClaim := { program := "ytmicapdbgjafnabdoor", sum := "e51bb900dd55bcf0de54c4bf8a13989891ad38f29a93f1b363f31b2848847d45", func := "chirograph/chirographlaw.LexChecks", spec := "lexChecks", inPlace := ["math.Float64frombits", "math.Float64bits"], unfollowed := true, recurses := true, named := ["unicode/utf8.first", "unicode/utf8.acceptRanges"], apart := false, laid := [("unicode/utf8.acceptRanges", laid_unicode_utf8_acceptRanges), ("unicode/utf8.first", laid_unicode_utf8_first)], narrowed := true }
def LexChecksUptoSaid : Prop := lexChecksUptoRow.holds Tryd.pinned (OpenSpec.upto lexChecksSpec)

end Rows
end Go.Proofs.YtmicapdbgjafnabDoor
