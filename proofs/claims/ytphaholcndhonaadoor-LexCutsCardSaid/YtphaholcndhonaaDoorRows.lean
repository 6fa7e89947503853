/-
  NARROWER THAN 'FOR EVERY INPUT', by the rows' own cells (each row's printed sentence says how): SlotsRooted: laid · SlotsCovers: laid · LexCuts: laid · StmtChecks: loops, laid · DeedChecks: laid · DeedPlaces: laid · IndexPicks: laid.
  DERIVED. THE GIVEN ROWS OF THIS SEAT. 7 by the template 'for every input the law returns true; each argument reads behind the call as it read before'; 0 by the template 'total and deterministic' (their statements: YtphaholcndhonaaDoorTotals.lean).
  GIVEN WITH THE SEED: the statements are not yours to turn. If you find one false, say at which input.
  Laid BY PROGRAM, IN A SANDBOX (cutbox-rows.mjs): the forced cells as the released guide's own fill.sh prints them over the translation a99aaf09c5f176b2… (all of the seat's roots in one cut). By AI agents, Wed Nov 11 2026. No macro, syntax, notation, axiom, sorry.
-/
import Derived.Test.YtphaholcndhonaaDoorChecked
import GoSem.PinnedTables
import GoSem.Claim
import GoSem.ClaimJoined
import GoSem.ClaimMapViews
import Derived.JoinedTies
import Derived.KernelRfl
namespace Go.Proofs.YtphaholcndhonaaDoor
/- THE CELL 'sum', in the pinned program and in every row, IS THE sha256 OF THE DUMP (.gsa) THAT YtphaholcndhonaaDoorProg.lean LOADS. Nothing in Lean hashes anything: it is a label: what it is worth is what the hold of that sum in a sandbox is worth. -/
noncomputable def Tryd.pinned : Pinned := { name := "ytphaholcndhonaadoor", sum := "a99aaf09c5f176b2101f055c496774061d9a3696586faa5d4ed483928994e044", checked := Tryd.checked }
namespace Rows
def none {H : Type} : Left H := { results := [], args := [] }

/- WHAT THE LISTED PACKAGE-LEVEL VARIABLES READ AS WHEN THE CALL BEGINS. Each datum BY PROGRAM (the guide's laid-datum.mjs) off the statement by which the dump's own 'gosem.cut.vars' lays the variable. In a bare row this is a premise. The card (YtphaholcndhonaaDoorCards.lean) ties it to the program's text. -/
def laid_chirograph_sum_steps {H : Type} : DataW H := .agg [.lit (.int .u32 1116352408), .lit (.int .u32 1899447441), .lit (.int .u32 3049323471), .lit (.int .u32 3921009573), .lit (.int .u32 961987163), .lit (.int .u32 1508970993), .lit (.int .u32 2453635748), .lit (.int .u32 2870763221), .lit (.int .u32 3624381080), .lit (.int .u32 310598401), .lit (.int .u32 607225278), .lit (.int .u32 1426881987), .lit (.int .u32 1925078388), .lit (.int .u32 2162078206), .lit (.int .u32 2614888103), .lit (.int .u32 3248222580), .lit (.int .u32 3835390401), .lit (.int .u32 4022224774), .lit (.int .u32 264347078), .lit (.int .u32 604807628), .lit (.int .u32 770255983), .lit (.int .u32 1249150122), .lit (.int .u32 1555081692), .lit (.int .u32 1996064986), .lit (.int .u32 2554220882), .lit (.int .u32 2821834349), .lit (.int .u32 2952996808), .lit (.int .u32 3210313671), .lit (.int .u32 3336571891), .lit (.int .u32 3584528711), .lit (.int .u32 113926993), .lit (.int .u32 338241895), .lit (.int .u32 666307205), .lit (.int .u32 773529912), .lit (.int .u32 1294757372), .lit (.int .u32 1396182291), .lit (.int .u32 1695183700), .lit (.int .u32 1986661051), .lit (.int .u32 2177026350), .lit (.int .u32 2456956037), .lit (.int .u32 2730485921), .lit (.int .u32 2820302411), .lit (.int .u32 3259730800), .lit (.int .u32 3345764771), .lit (.int .u32 3516065817), .lit (.int .u32 3600352804), .lit (.int .u32 4094571909), .lit (.int .u32 275423344), .lit (.int .u32 430227734), .lit (.int .u32 506948616), .lit (.int .u32 659060556), .lit (.int .u32 883997877), .lit (.int .u32 958139571), .lit (.int .u32 1322822218), .lit (.int .u32 1537002063), .lit (.int .u32 1747873779), .lit (.int .u32 1955562222), .lit (.int .u32 2024104815), .lit (.int .u32 2227730452), .lit (.int .u32 2361852424), .lit (.int .u32 2428436474), .lit (.int .u32 2756734187), .lit (.int .u32 3204031479), .lit (.int .u32 3329325298)]
def laid_unicode_utf8_acceptRanges {H : Type} : DataW H := .agg [.agg [.lit (.int .u8 128), .lit (.int .u8 191)], .agg [.lit (.int .u8 160), .lit (.int .u8 191)], .agg [.lit (.int .u8 128), .lit (.int .u8 159)], .agg [.lit (.int .u8 144), .lit (.int .u8 191)], .agg [.lit (.int .u8 128), .lit (.int .u8 143)], .agg [.lit (.int .u8 0), .lit (.int .u8 0)], .agg [.lit (.int .u8 0), .lit (.int .u8 0)], .agg [.lit (.int .u8 0), .lit (.int .u8 0)], .agg [.lit (.int .u8 0), .lit (.int .u8 0)], .agg [.lit (.int .u8 0), .lit (.int .u8 0)], .agg [.lit (.int .u8 0), .lit (.int .u8 0)], .agg [.lit (.int .u8 0), .lit (.int .u8 0)], .agg [.lit (.int .u8 0), .lit (.int .u8 0)], .agg [.lit (.int .u8 0), .lit (.int .u8 0)], .agg [.lit (.int .u8 0), .lit (.int .u8 0)], .agg [.lit (.int .u8 0), .lit (.int .u8 0)]]
/-- One of Go's own tables, pinned by name: the form's constant. -/
def laid_unicode_utf8_first : DataW Unit := Go.Pinned.utf8First

/-- 'chirographlaw.SlotsRooted': WHATEVER THE INPUT: true; the input reads as it did. -/
def slotsRootedSpec : ChangeSpec := { name := "slotsRooted", fn := fun _ => fun
  | [d1, d2, d3] => { results := [.lit (.bool true)], args := [d1, d2, d3] }
  | _ => none }
def slotsRootedRow : OpenClaim := { program := "ytphaholcndhonaadoor", sum := "a99aaf09c5f176b2101f055c496774061d9a3696586faa5d4ed483928994e044", func := "chirograph/chirographlaw.SlotsRooted", spec := "slotsRooted", recurses := true, named := ["chirograph/sum.steps"], apart := false, laid := [("chirograph/sum.steps", laid_chirograph_sum_steps)] }
def SlotsRootedSaid : Prop := slotsRootedRow.holds Tryd.pinned (OpenSpec.ofChange slotsRootedSpec)

/-- ITS FALSE NEIGHBOUR: 'it returns false'. Refute it at one input. -/
def slotsRootedWrong : ChangeSpec := { name := "slotsRooted", fn := fun _ => fun
  | [d1, d2, d3] => { results := [.lit (.bool false)], args := [d1, d2, d3] }
  | _ => none }
def SlotsRootedWrongFalsely : Prop := slotsRootedRow.holds Tryd.pinned (OpenSpec.ofChange slotsRootedWrong)

/-- 'chirographlaw.SlotsCovers': WHATEVER THE INPUT: true; the input reads as it did. -/
def slotsCoversSpec : ChangeSpec := { name := "slotsCovers", fn := fun _ => fun
  | [d1, d2, d3] => { results := [.lit (.bool true)], args := [d1, d2, d3] }
  | _ => none }
def slotsCoversRow : OpenClaim := { program := "ytphaholcndhonaadoor", sum := "a99aaf09c5f176b2101f055c496774061d9a3696586faa5d4ed483928994e044", func := "chirograph/chirographlaw.SlotsCovers", spec := "slotsCovers", unfollowed := true, recurses := true, named := ["chirograph/sum.steps"], apart := false, laid := [("chirograph/sum.steps", laid_chirograph_sum_steps)] }
def SlotsCoversSaid : Prop := slotsCoversRow.holds Tryd.pinned (OpenSpec.ofChange slotsCoversSpec)

/-- ITS FALSE NEIGHBOUR: 'it returns false'. Refute it at one input. -/
def slotsCoversWrong : ChangeSpec := { name := "slotsCovers", fn := fun _ => fun
  | [d1, d2, d3] => { results := [.lit (.bool false)], args := [d1, d2, d3] }
  | _ => none }
def SlotsCoversWrongFalsely : Prop := slotsCoversRow.holds Tryd.pinned (OpenSpec.ofChange slotsCoversWrong)

/-- 'chirographlaw.LexCuts': WHATEVER THE INPUT: true; the input reads as it did. -/
def lexCutsSpec : ChangeSpec := { name := "lexCuts", fn := fun _ => fun
  | [d] => { results := [.lit (.bool true)], args := [d] }
  | _ => none }
def lexCutsRow : OpenClaim := { program := "ytphaholcndhonaadoor", sum := "a99aaf09c5f176b2101f055c496774061d9a3696586faa5d4ed483928994e044", func := "chirograph/chirographlaw.LexCuts", spec := "lexCuts", inPlace := ["math.Float64frombits", "math.Float64bits", "internal/bytealg.IndexByteString"], unfollowed := true, recurses := true, named := ["unicode/utf8.first", "unicode/utf8.acceptRanges"], apart := false, laid := [("unicode/utf8.acceptRanges", laid_unicode_utf8_acceptRanges), ("unicode/utf8.first", laid_unicode_utf8_first)] }
def LexCutsSaid : Prop := lexCutsRow.holds Tryd.pinned (OpenSpec.ofChange lexCutsSpec)

/-- ITS FALSE NEIGHBOUR: 'it returns false'. Refute it at one input. -/
def lexCutsWrong : ChangeSpec := { name := "lexCuts", fn := fun _ => fun
  | [d] => { results := [.lit (.bool false)], args := [d] }
  | _ => none }
def LexCutsWrongFalsely : Prop := lexCutsRow.holds Tryd.pinned (OpenSpec.ofChange lexCutsWrong)

/-- 'chirographlaw.StmtChecks': WHATEVER THE INPUT: true; the input reads as it did. -/
def stmtChecksSpec : ChangeSpec := { name := "stmtChecks", fn := fun _ => fun
  | [d] => { results := [.lit (.bool true)], args := [d] }
  | _ => none }
def stmtChecksRow : OpenClaim := { program := "ytphaholcndhonaadoor", sum := "a99aaf09c5f176b2101f055c496774061d9a3696586faa5d4ed483928994e044", func := "chirograph/chirographlaw.StmtChecks", spec := "stmtChecks", inPlace := ["math.Float64frombits", "math.Float64bits"], unfollowed := true, recurses := true, named := ["unicode/utf8.first", "unicode/utf8.acceptRanges"], loops := true, apart := false, laid := [("unicode/utf8.acceptRanges", laid_unicode_utf8_acceptRanges), ("unicode/utf8.first", laid_unicode_utf8_first)] }
def StmtChecksSaid : Prop := stmtChecksRow.holds Tryd.pinned (OpenSpec.ofChange stmtChecksSpec)

/-- ITS FALSE NEIGHBOUR: 'it returns false'. Refute it at one input. -/
def stmtChecksWrong : ChangeSpec := { name := "stmtChecks", fn := fun _ => fun
  | [d] => { results := [.lit (.bool false)], args := [d] }
  | _ => none }
def StmtChecksWrongFalsely : Prop := stmtChecksRow.holds Tryd.pinned (OpenSpec.ofChange stmtChecksWrong)

/-- 'chirographlaw.DeedChecks': WHATEVER THE INPUT: true; the input reads as it did. -/
def deedChecksSpec : ChangeSpec := { name := "deedChecks", fn := fun _ => fun
  | [d] => { results := [.lit (.bool true)], args := [d] }
  | _ => none }
def deedChecksRow : OpenClaim := { program := "ytphaholcndhonaadoor", sum := "a99aaf09c5f176b2101f055c496774061d9a3696586faa5d4ed483928994e044", func := "chirograph/chirographlaw.DeedChecks", spec := "deedChecks", inPlace := ["math.Float64frombits", "math.Float64bits"], unfollowed := true, recurses := true, named := ["unicode/utf8.first", "unicode/utf8.acceptRanges"], apart := false, laid := [("unicode/utf8.acceptRanges", laid_unicode_utf8_acceptRanges), ("unicode/utf8.first", laid_unicode_utf8_first)] }
def DeedChecksSaid : Prop := deedChecksRow.holds Tryd.pinned (OpenSpec.ofChange deedChecksSpec)

/-- ITS FALSE NEIGHBOUR: 'it returns false'. Refute it at one input. -/
def deedChecksWrong : ChangeSpec := { name := "deedChecks", fn := fun _ => fun
  | [d] => { results := [.lit (.bool false)], args := [d] }
  | _ => none }
def DeedChecksWrongFalsely : Prop := deedChecksRow.holds Tryd.pinned (OpenSpec.ofChange deedChecksWrong)

/-- 'chirographlaw.DeedPlaces': WHATEVER THE INPUT: true; the input reads as it did. -/
def deedPlacesSpec : ChangeSpec := { name := "deedPlaces", fn := fun _ => fun
  | [d1, d2, d3, d4] => { results := [.lit (.bool true)], args := [d1, d2, d3, d4] }
  | _ => none }
def deedPlacesRow : OpenClaim := { program := "ytphaholcndhonaadoor", sum := "a99aaf09c5f176b2101f055c496774061d9a3696586faa5d4ed483928994e044", func := "chirograph/chirographlaw.DeedPlaces", spec := "deedPlaces", inPlace := ["math.Float64frombits", "math.Float64bits"], unfollowed := true, recurses := true, named := ["unicode/utf8.first", "unicode/utf8.acceptRanges"], apart := false, laid := [("unicode/utf8.acceptRanges", laid_unicode_utf8_acceptRanges), ("unicode/utf8.first", laid_unicode_utf8_first)] }
def DeedPlacesSaid : Prop := deedPlacesRow.holds Tryd.pinned (OpenSpec.ofChange deedPlacesSpec)

/-- ITS FALSE NEIGHBOUR: 'it returns false'. Refute it at one input. -/
def deedPlacesWrong : ChangeSpec := { name := "deedPlaces", fn := fun _ => fun
  | [d1, d2, d3, d4] => { results := [.lit (.bool false)], args := [d1, d2, d3, d4] }
  | _ => none }
def DeedPlacesWrongFalsely : Prop := deedPlacesRow.holds Tryd.pinned (OpenSpec.ofChange deedPlacesWrong)

/-- 'chirographlaw.IndexPicks': WHATEVER THE INPUT: true; the input reads as it did. -/
def indexPicksSpec : ChangeSpec := { name := "indexPicks", fn := fun _ => fun
  | [d1, d2] => { results := [.lit (.bool true)], args := [d1, d2] }
  | _ => none }
def indexPicksRow : OpenClaim := { program := "ytphaholcndhonaadoor", sum := "a99aaf09c5f176b2101f055c496774061d9a3696586faa5d4ed483928994e044", func := "chirograph/chirographlaw.IndexPicks", spec := "indexPicks", inPlace := ["math.Float64frombits", "math.Float64bits", "internal/bytealg.CountString", "internal/bytealg.IndexByteString", "internal/bytealg.IndexString", "internal/abi.NoEscape", "internal/bytealg.MakeNoZero"], unfollowed := true, recurses := true, named := ["unicode/utf8.first", "unicode/utf8.acceptRanges", "internal/bytealg.MaxLen"], apart := false, laid := [("unicode/utf8.acceptRanges", laid_unicode_utf8_acceptRanges), ("unicode/utf8.first", laid_unicode_utf8_first)] }
def IndexPicksSaid : Prop := indexPicksRow.holds Tryd.pinned (OpenSpec.ofChange indexPicksSpec)

/-- ITS FALSE NEIGHBOUR: 'it returns false'. Refute it at one input. -/
def indexPicksWrong : ChangeSpec := { name := "indexPicks", fn := fun _ => fun
  | [d1, d2] => { results := [.lit (.bool false)], args := [d1, d2] }
  | _ => none }
def IndexPicksWrongFalsely : Prop := indexPicksRow.holds Tryd.pinned (OpenSpec.ofChange indexPicksWrong)

/- THE SECOND FORM. 'bulk': how many values and letters a reading holds, each counted each time it is reached (what is shared counts as often as it is met; a slice's spare places count too). A statement '..UptoSaid' is the law's where the arguments, and the package variables that the reading takes, are together of bulk at most 1048576: NARROWER than '..Said'. Prove '..Said' where nothing that the law and all that it calls make is longer than what came in: it says more and counts as full. Else prove '..UptoSaid'. A law counts once. -/
mutual
def uptoBulk {H : Type} : DataW H → Nat
  | .lit (.string bytes) => bytes.length + 1
  | .lit _ => 1
  | .nil => 1
  | .ptr d => uptoBulk d + 1
  | .slice elems spare => uptoBulkAll elems + uptoBulkAll spare + 1
  | .agg parts => uptoBulkAll parts + 1
  | .iface _ d => uptoBulk d + 1
  | .map entries => uptoBulkEntries entries + 1
  | .held _ => 1
def uptoBulkAll {H : Type} : List (DataW H) → Nat
  | [] => 0
  | d :: r => uptoBulk d + uptoBulkAll r
def uptoBulkEntries {H : Type} : List (Lit × DataW H) → Nat
  | [] => 0
  | x :: r => uptoBulkEntry x + uptoBulkEntries r
def uptoBulkEntry {H : Type} : Lit × DataW H → Nat
  | (.string bytes, d) => bytes.length + uptoBulk d + 1
  | (_, d) => uptoBulk d + 1
 end
def uptoSmall : (H : Type) → List (DataW H) → Bool := fun _ ds => decide (uptoBulkAll ds ≤ 1048576)
def OpenSpec.upto (s : _root_.Go.ChangeSpec) : _root_.Go.OpenSpec := { _root_.Go.OpenSpec.ofChange s with cond := some uptoSmall }

/-- 'chirographlaw.SlotsRooted', WHERE WHAT IT READS IS OF BULK AT MOST 1048576: true; the input reads as it did. -/
def slotsRootedUptoRow : OpenClaim := { program := "ytphaholcndhonaadoor", sum := "a99aaf09c5f176b2101f055c496774061d9a3696586faa5d4ed483928994e044", func := "chirograph/chirographlaw.SlotsRooted", spec := "slotsRooted", recurses := true, named := ["chirograph/sum.steps"], apart := false, laid := [("chirograph/sum.steps", laid_chirograph_sum_steps)], narrowed := true }
def SlotsRootedUptoSaid : Prop := slotsRootedUptoRow.holds Tryd.pinned (OpenSpec.upto slotsRootedSpec)

/-- 'chirographlaw.SlotsCovers', WHERE WHAT IT READS IS OF BULK AT MOST 1048576: true; the input reads as it did. -/
def slotsCoversUptoRow : OpenClaim := { program := "ytphaholcndhonaadoor", sum := "a99aaf09c5f176b2101f055c496774061d9a3696586faa5d4ed483928994e044", func := "chirograph/chirographlaw.SlotsCovers", spec := "slotsCovers", unfollowed := true, recurses := true, named := ["chirograph/sum.steps"], apart := false, laid := [("chirograph/sum.steps", laid_chirograph_sum_steps)], narrowed := true }
def SlotsCoversUptoSaid : Prop := slotsCoversUptoRow.holds Tryd.pinned (OpenSpec.upto slotsCoversSpec)

/-- 'chirographlaw.LexCuts', WHERE WHAT IT READS IS OF BULK AT MOST 1048576: true; the input reads as it did. -/
def lexCutsUptoRow : OpenClaim := { program := "ytphaholcndhonaadoor", sum := "a99aaf09c5f176b2101f055c496774061d9a3696586faa5d4ed483928994e044", func := "chirograph/chirographlaw.LexCuts", spec := "lexCuts", inPlace := ["math.Float64frombits", "math.Float64bits", "internal/bytealg.IndexByteString"], unfollowed := true, recurses := true, named := ["unicode/utf8.first", "unicode/utf8.acceptRanges"], apart := false, laid := [("unicode/utf8.acceptRanges", laid_unicode_utf8_acceptRanges), ("unicode/utf8.first", laid_unicode_utf8_first)], narrowed := true }
def LexCutsUptoSaid : Prop := lexCutsUptoRow.holds Tryd.pinned (OpenSpec.upto lexCutsSpec)

/-- 'chirographlaw.StmtChecks', WHERE WHAT IT READS IS OF BULK AT MOST 1048576: true; the input reads as it did. -/
def stmtChecksUptoRow : OpenClaim := { program := "ytphaholcndhonaadoor", sum := "a99aaf09c5f176b2101f055c496774061d9a3696586faa5d4ed483928994e044", func := "chirograph/chirographlaw.StmtChecks", spec := "stmtChecks", inPlace := ["math.Float64frombits", "math.Float64bits"], unfollowed := true, recurses := true, named := ["unicode/utf8.first", "unicode/utf8.acceptRanges"], loops := true, apart := false, laid := [("unicode/utf8.acceptRanges", laid_unicode_utf8_acceptRanges), ("unicode/utf8.first", laid_unicode_utf8_first)], narrowed := true }
def StmtChecksUptoSaid : Prop := stmtChecksUptoRow.holds Tryd.pinned (OpenSpec.upto stmtChecksSpec)

/-- 'chirographlaw.DeedChecks', WHERE WHAT IT READS IS OF BULK AT MOST 1048576: true; the input reads as it did. -/
def deedChecksUptoRow : OpenClaim := { program := "ytphaholcndhonaadoor", sum := "a99aaf09c5f176b2101f055c496774061d9a3696586faa5d4ed483928994e044", func := "chirograph/chirographlaw.DeedChecks", spec := "deedChecks", inPlace := ["math.Float64frombits", "math.Float64bits"], unfollowed := true, recurses := true, named := ["unicode/utf8.first", "unicode/utf8.acceptRanges"], apart := false, laid := [("unicode/utf8.acceptRanges", laid_unicode_utf8_acceptRanges), ("unicode/utf8.first", laid_unicode_utf8_first)], narrowed := true }
def DeedChecksUptoSaid : Prop := deedChecksUptoRow.holds Tryd.pinned (OpenSpec.upto deedChecksSpec)

/-- 'chirographlaw.DeedPlaces', WHERE WHAT IT READS IS OF BULK AT MOST 1048576: true; the input reads as it did. -/
def deedPlacesUptoRow : OpenClaim := { program := "ytphaholcndhonaadoor", sum := "a99aaf09c5f176b2101f055c496774061d9a3696586faa5d4ed483928994e044", func := "chirograph/chirographlaw.DeedPlaces", spec := "deedPlaces", inPlace := ["math.Float64frombits", "math.Float64bits"], unfollowed := true, recurses := true, named := ["unicode/utf8.first", "unicode/utf8.acceptRanges"], apart := false, laid := [("unicode/utf8.acceptRanges", laid_unicode_utf8_acceptRanges), ("unicode/utf8.first", laid_unicode_utf8_first)], narrowed := true }
def DeedPlacesUptoSaid : Prop := deedPlacesUptoRow.holds Tryd.pinned (OpenSpec.upto deedPlacesSpec)

/-- 'chirographlaw.IndexPicks', WHERE WHAT IT READS IS OF BULK AT MOST 1048576: true; the input reads as it did. -/
def indexPicksUptoRow : OpenClaim := { program := "ytphaholcndhonaadoor", sum := "a99aaf09c5f176b2101f055c496774061d9a3696586faa5d4ed483928994e044", func := "chirograph/chirographlaw.IndexPicks", spec := "indexPicks", inPlace := ["math.Float64frombits", "math.Float64bits", "internal/bytealg.CountString", "internal/bytealg.IndexByteString", "internal/bytealg.IndexString", "internal/abi.NoEscape", "internal/bytealg.MakeNoZero"], unfollowed := true, recurses := true, named := ["unicode/utf8.first", "unicode/utf8.acceptRanges", "internal/bytealg.MaxLen"], apart := false, laid := [("unicode/utf8.acceptRanges", laid_unicode_utf8_acceptRanges), ("unicode/utf8.first", laid_unicode_utf8_first)], narrowed := true }
def IndexPicksUptoSaid : Prop := indexPicksUptoRow.holds Tryd.pinned (OpenSpec.upto indexPicksSpec)

end Rows
end Go.Proofs.YtphaholcndhonaaDoor
