/-
  No cell of these rows narrows 'for every input' (looked for: loops, veiled, ifaces, maps, wideKeys, modest, calm, conditions, laid).
  DERIVED. THE GIVEN ROWS OF THIS SEAT. 12 by the template 'for every input the law returns true; each argument reads behind the call as it read before'; 0 by the template 'total and deterministic' (their statements: YtbpibblidokhfaaTotals.lean).
  GIVEN WITH THE SEED: the statements are not yours to turn. If you find one false, say at which input.
  Laid BY PROGRAM, IN A SANDBOX (cutbox-rows.mjs): the forced cells as the released guide's own fill.sh prints them over the translation a42c2658c5ed2297… (all of the seat's roots in one cut). By AI agents, Wed Nov 11 2026. No macro, syntax, notation, axiom, sorry.
-/
import Derived.Test.YtbpibblidokhfaaChecked
import GoSem.Claim
import GoSem.ClaimJoined
import GoSem.ClaimMapViews
import Derived.JoinedTies
import Derived.KernelRfl
namespace Go.Proofs.Ytbpibblidokhfaa
/- THE CELL 'sum', in the pinned program and in every row, IS THE sha256 OF THE DUMP (.gsa) THAT YtbpibblidokhfaaProg.lean LOADS. Nothing in Lean hashes anything: it is a label: what it is worth is what the hold of that sum in a sandbox is worth. -/
noncomputable def Try.pinned : Pinned := { name := "ytbpibblidokhfaa", sum := "a42c2658c5ed22979f5dec3178babc22d77a54937bae003249424352ab38390d", checked := Try.checked }
namespace Rows
def none {H : Type} : Left H := { results := [], args := [] }

/-- 'chirographlaw.Names': WHATEVER THE INPUT: true; the input reads as it did. -/
def namesSpec : ChangeSpec := { name := "names", fn := fun _ => fun
  | [] => { results := [.lit (.bool true)], args := [] }
  | _ => none }
def namesRow : OpenClaim := { program := "ytbpibblidokhfaa", sum := "a42c2658c5ed22979f5dec3178babc22d77a54937bae003249424352ab38390d", func := "chirograph/chirographlaw.Names", spec := "names", apart := false }
def NamesSaid : Prop := namesRow.holds Try.pinned (OpenSpec.ofChange namesSpec)

/-- ITS FALSE NEIGHBOUR: 'it returns false'. Refute it at one input. -/
def namesWrong : ChangeSpec := { name := "names", fn := fun _ => fun
  | [] => { results := [.lit (.bool false)], args := [] }
  | _ => none }
def NamesWrongFalsely : Prop := namesRow.holds Try.pinned (OpenSpec.ofChange namesWrong)

/-- 'chirographlaw.WirePacks': WHATEVER THE INPUT: true; the input reads as it did. -/
def wirePacksSpec : ChangeSpec := { name := "wirePacks", fn := fun _ => fun
  | [d] => { results := [.lit (.bool true)], args := [d] }
  | _ => none }
def wirePacksRow : OpenClaim := { program := "ytbpibblidokhfaa", sum := "a42c2658c5ed22979f5dec3178babc22d77a54937bae003249424352ab38390d", func := "chirograph/chirographlaw.WirePacks", spec := "wirePacks", apart := false }
def WirePacksSaid : Prop := wirePacksRow.holds Try.pinned (OpenSpec.ofChange wirePacksSpec)

/-- ITS FALSE NEIGHBOUR: 'it returns false'. Refute it at one input. -/
def wirePacksWrong : ChangeSpec := { name := "wirePacks", fn := fun _ => fun
  | [d] => { results := [.lit (.bool false)], args := [d] }
  | _ => none }
def WirePacksWrongFalsely : Prop := wirePacksRow.holds Try.pinned (OpenSpec.ofChange wirePacksWrong)

/-- 'chirographlaw.TruthNots': WHATEVER THE INPUT: true; the input reads as it did. -/
def truthNotsSpec : ChangeSpec := { name := "truthNots", fn := fun _ => fun
  | [d] => { results := [.lit (.bool true)], args := [d] }
  | _ => none }
def truthNotsRow : OpenClaim := { program := "ytbpibblidokhfaa", sum := "a42c2658c5ed22979f5dec3178babc22d77a54937bae003249424352ab38390d", func := "chirograph/chirographlaw.TruthNots", spec := "truthNots", apart := false }
def TruthNotsSaid : Prop := truthNotsRow.holds Try.pinned (OpenSpec.ofChange truthNotsSpec)

/-- ITS FALSE NEIGHBOUR: 'it returns false'. Refute it at one input. -/
def truthNotsWrong : ChangeSpec := { name := "truthNots", fn := fun _ => fun
  | [d] => { results := [.lit (.bool false)], args := [d] }
  | _ => none }
def TruthNotsWrongFalsely : Prop := truthNotsRow.holds Try.pinned (OpenSpec.ofChange truthNotsWrong)

/-- 'chirographlaw.CrcSums': WHATEVER THE INPUT: true; the input reads as it did. -/
def crcSumsSpec : ChangeSpec := { name := "crcSums", fn := fun _ => fun
  | [d] => { results := [.lit (.bool true)], args := [d] }
  | _ => none }
def crcSumsRow : OpenClaim := { program := "ytbpibblidokhfaa", sum := "a42c2658c5ed22979f5dec3178babc22d77a54937bae003249424352ab38390d", func := "chirograph/chirographlaw.CrcSums", spec := "crcSums", apart := false }
def CrcSumsSaid : Prop := crcSumsRow.holds Try.pinned (OpenSpec.ofChange crcSumsSpec)

/-- ITS FALSE NEIGHBOUR: 'it returns false'. Refute it at one input. -/
def crcSumsWrong : ChangeSpec := { name := "crcSums", fn := fun _ => fun
  | [d] => { results := [.lit (.bool false)], args := [d] }
  | _ => none }
def CrcSumsWrongFalsely : Prop := crcSumsRow.holds Try.pinned (OpenSpec.ofChange crcSumsWrong)

/-- 'chirographlaw.ServerStarts': WHATEVER THE INPUT: true; the input reads as it did. -/
def serverStartsSpec : ChangeSpec := { name := "serverStarts", fn := fun _ => fun
  | [d1, d2] => { results := [.lit (.bool true)], args := [d1, d2] }
  | _ => none }
def serverStartsRow : OpenClaim := { program := "ytbpibblidokhfaa", sum := "a42c2658c5ed22979f5dec3178babc22d77a54937bae003249424352ab38390d", func := "chirograph/chirographlaw.ServerStarts", spec := "serverStarts", apart := false }
def ServerStartsSaid : Prop := serverStartsRow.holds Try.pinned (OpenSpec.ofChange serverStartsSpec)

/-- ITS FALSE NEIGHBOUR: 'it returns false'. Refute it at one input. -/
def serverStartsWrong : ChangeSpec := { name := "serverStarts", fn := fun _ => fun
  | [d1, d2] => { results := [.lit (.bool false)], args := [d1, d2] }
  | _ => none }
def ServerStartsWrongFalsely : Prop := serverStartsRow.holds Try.pinned (OpenSpec.ofChange serverStartsWrong)

/-- 'chirographlaw.SplitShares': WHATEVER THE INPUT: true; the input reads as it did. -/
def splitSharesSpec : ChangeSpec := { name := "splitShares", fn := fun _ => fun
  | [d1, d2] => { results := [.lit (.bool true)], args := [d1, d2] }
  | _ => none }
def splitSharesRow : OpenClaim := { program := "ytbpibblidokhfaa", sum := "a42c2658c5ed22979f5dec3178babc22d77a54937bae003249424352ab38390d", func := "chirograph/chirographlaw.SplitShares", spec := "splitShares", apart := false }
def SplitSharesSaid : Prop := splitSharesRow.holds Try.pinned (OpenSpec.ofChange splitSharesSpec)

/-- ITS FALSE NEIGHBOUR: 'it returns false'. Refute it at one input. -/
def splitSharesWrong : ChangeSpec := { name := "splitShares", fn := fun _ => fun
  | [d1, d2] => { results := [.lit (.bool false)], args := [d1, d2] }
  | _ => none }
def SplitSharesWrongFalsely : Prop := splitSharesRow.holds Try.pinned (OpenSpec.ofChange splitSharesWrong)

/-- 'chirographlaw.DiskChecks': WHATEVER THE INPUT: true; the input reads as it did. -/
def diskChecksSpec : ChangeSpec := { name := "diskChecks", fn := fun _ => fun
  | [d1, d2] => { results := [.lit (.bool true)], args := [d1, d2] }
  | _ => none }
def diskChecksRow : OpenClaim := { program := "ytbpibblidokhfaa", sum := "a42c2658c5ed22979f5dec3178babc22d77a54937bae003249424352ab38390d", func := "chirograph/chirographlaw.DiskChecks", spec := "diskChecks", apart := false }
def DiskChecksSaid : Prop := diskChecksRow.holds Try.pinned (OpenSpec.ofChange diskChecksSpec)

/-- ITS FALSE NEIGHBOUR: 'it returns false'. Refute it at one input. -/
def diskChecksWrong : ChangeSpec := { name := "diskChecks", fn := fun _ => fun
  | [d1, d2] => { results := [.lit (.bool false)], args := [d1, d2] }
  | _ => none }
def DiskChecksWrongFalsely : Prop := diskChecksRow.holds Try.pinned (OpenSpec.ofChange diskChecksWrong)

/-- 'chirographlaw.WireFeeds': WHATEVER THE INPUT: true; the input reads as it did. -/
def wireFeedsSpec : ChangeSpec := { name := "wireFeeds", fn := fun _ => fun
  | [d1, d2] => { results := [.lit (.bool true)], args := [d1, d2] }
  | _ => none }
def wireFeedsRow : OpenClaim := { program := "ytbpibblidokhfaa", sum := "a42c2658c5ed22979f5dec3178babc22d77a54937bae003249424352ab38390d", func := "chirograph/chirographlaw.WireFeeds", spec := "wireFeeds", apart := false }
def WireFeedsSaid : Prop := wireFeedsRow.holds Try.pinned (OpenSpec.ofChange wireFeedsSpec)

/-- ITS FALSE NEIGHBOUR: 'it returns false'. Refute it at one input. -/
def wireFeedsWrong : ChangeSpec := { name := "wireFeeds", fn := fun _ => fun
  | [d1, d2] => { results := [.lit (.bool false)], args := [d1, d2] }
  | _ => none }
def WireFeedsWrongFalsely : Prop := wireFeedsRow.holds Try.pinned (OpenSpec.ofChange wireFeedsWrong)

/-- 'chirographlaw.TruthPairs': WHATEVER THE INPUT: true; the input reads as it did. -/
def truthPairsSpec : ChangeSpec := { name := "truthPairs", fn := fun _ => fun
  | [d1, d2] => { results := [.lit (.bool true)], args := [d1, d2] }
  | _ => none }
def truthPairsRow : OpenClaim := { program := "ytbpibblidokhfaa", sum := "a42c2658c5ed22979f5dec3178babc22d77a54937bae003249424352ab38390d", func := "chirograph/chirographlaw.TruthPairs", spec := "truthPairs", apart := false }
def TruthPairsSaid : Prop := truthPairsRow.holds Try.pinned (OpenSpec.ofChange truthPairsSpec)

/-- ITS FALSE NEIGHBOUR: 'it returns false'. Refute it at one input. -/
def truthPairsWrong : ChangeSpec := { name := "truthPairs", fn := fun _ => fun
  | [d1, d2] => { results := [.lit (.bool false)], args := [d1, d2] }
  | _ => none }
def TruthPairsWrongFalsely : Prop := truthPairsRow.holds Try.pinned (OpenSpec.ofChange truthPairsWrong)

/-- 'chirographlaw.DiskReads': WHATEVER THE INPUT: true; the input reads as it did. -/
def diskReadsSpec : ChangeSpec := { name := "diskReads", fn := fun _ => fun
  | [d1, d2] => { results := [.lit (.bool true)], args := [d1, d2] }
  | _ => none }
def diskReadsRow : OpenClaim := { program := "ytbpibblidokhfaa", sum := "a42c2658c5ed22979f5dec3178babc22d77a54937bae003249424352ab38390d", func := "chirograph/chirographlaw.DiskReads", spec := "diskReads", apart := false }
def DiskReadsSaid : Prop := diskReadsRow.holds Try.pinned (OpenSpec.ofChange diskReadsSpec)

/-- ITS FALSE NEIGHBOUR: 'it returns false'. Refute it at one input. -/
def diskReadsWrong : ChangeSpec := { name := "diskReads", fn := fun _ => fun
  | [d1, d2] => { results := [.lit (.bool false)], args := [d1, d2] }
  | _ => none }
def DiskReadsWrongFalsely : Prop := diskReadsRow.holds Try.pinned (OpenSpec.ofChange diskReadsWrong)

/-- 'chirographlaw.OracleFrames': WHATEVER THE INPUT: true; the input reads as it did. -/
def oracleFramesSpec : ChangeSpec := { name := "oracleFrames", fn := fun _ => fun
  | [d1, d2] => { results := [.lit (.bool true)], args := [d1, d2] }
  | _ => none }
def oracleFramesRow : OpenClaim := { program := "ytbpibblidokhfaa", sum := "a42c2658c5ed22979f5dec3178babc22d77a54937bae003249424352ab38390d", func := "chirograph/chirographlaw.OracleFrames", spec := "oracleFrames", apart := false }
def OracleFramesSaid : Prop := oracleFramesRow.holds Try.pinned (OpenSpec.ofChange oracleFramesSpec)

/-- ITS FALSE NEIGHBOUR: 'it returns false'. Refute it at one input. -/
def oracleFramesWrong : ChangeSpec := { name := "oracleFrames", fn := fun _ => fun
  | [d1, d2] => { results := [.lit (.bool false)], args := [d1, d2] }
  | _ => none }
def OracleFramesWrongFalsely : Prop := oracleFramesRow.holds Try.pinned (OpenSpec.ofChange oracleFramesWrong)

/-- 'chirographlaw.DiskFalls': WHATEVER THE INPUT: true; the input reads as it did. -/
def diskFallsSpec : ChangeSpec := { name := "diskFalls", fn := fun _ => fun
  | [d1, d2] => { results := [.lit (.bool true)], args := [d1, d2] }
  | _ => none }
def diskFallsRow : OpenClaim := { program := "ytbpibblidokhfaa", sum := "a42c2658c5ed22979f5dec3178babc22d77a54937bae003249424352ab38390d", func := "chirograph/chirographlaw.DiskFalls", spec := "diskFalls", unfollowed := true, recurses := true, apart := false }
def DiskFallsSaid : Prop := diskFallsRow.holds Try.pinned (OpenSpec.ofChange diskFallsSpec)

/-- ITS FALSE NEIGHBOUR: 'it returns false'. Refute it at one input. -/
def diskFallsWrong : ChangeSpec := { name := "diskFalls", fn := fun _ => fun
  | [d1, d2] => { results := [.lit (.bool false)], args := [d1, d2] }
  | _ => none }
def DiskFallsWrongFalsely : Prop := diskFallsRow.holds Try.pinned (OpenSpec.ofChange diskFallsWrong)

/- THE SECOND FORM. 'bulk': how many values and letters a reading holds, each counted each time it is reached (what is shared counts as often as it is met; a slice's spare places count too). A statement '..UptoSaid' is the law's where the arguments, and the package variables that the reading takes, are together of bulk at most 1048576: NARROWER than '..Said'. Prove '..Said' where nothing that the law and all that it calls make is longer than what came in: it says more and counts as full. Else prove '..UptoSaid'. A law counts once. -/
mutual
def uptoBulk {H : Type} : DataW H → Nat
  | .lit (.string bytes) => bytes.length + 1
  | .lit _ => 1
  | .nil => 1
  | .ptr d => uptoBulk d + 1
  | .slice elems spare => uptoBulkAll elems + uptoBulkAll spare + 1
  | .agg parts => uptoBulkAll parts + 1
  | .iface _ d => uptoBulk d + 1
  | .map entries => uptoBulkEntries entries + 1
  | .held _ => 1
def uptoBulkAll {H : Type} : List (DataW H) → Nat
  | [] => 0
  | d :: r => uptoBulk d + uptoBulkAll r
def uptoBulkEntries {H : Type} : List (Lit × DataW H) → Nat
  | [] => 0
  | x :: r => uptoBulkEntry x + uptoBulkEntries r
def uptoBulkEntry {H : Type} : Lit × DataW H → Nat
  | (.string bytes, d) => bytes.length + uptoBulk d + 1
  | (_, d) => uptoBulk d + 1
 end
def uptoSmall : (H : Type) → List (DataW H) → Bool := fun _ ds => decide (uptoBulkAll ds ≤ 1048576)
def OpenSpec.upto (s : _root_.Go.ChangeSpec) : _root_.Go.OpenSpec := { _root_.Go.OpenSpec.ofChange s with cond := some uptoSmall }

/-- 'chirographlaw.Names', WHERE WHAT IT READS IS OF BULK AT MOST 1048576: true; the input reads as it did. -/
def namesUptoRow : OpenClaim := { program := "ytbpibblidokhfaa", sum := "a42c2658c5ed22979f5dec3178babc22d77a54937bae003249424352ab38390d", func := "chirograph/chirographlaw.Names", spec := "names", apart := false, narrowed := true }
def NamesUptoSaid : Prop := namesUptoRow.holds Try.pinned (OpenSpec.upto namesSpec)

/-- 'chirographlaw.WirePacks', WHERE WHAT IT READS IS OF BULK AT MOST 1048576: true; the input reads as it did. -/
def wirePacksUptoRow : OpenClaim := { program := "ytbpibblidokhfaa", sum := "a42c2658c5ed22979f5dec3178babc22d77a54937bae003249424352ab38390d", func := "chirograph/chirographlaw.WirePacks", spec := "wirePacks", apart := false, narrowed := true }
def WirePacksUptoSaid : Prop := wirePacksUptoRow.holds Try.pinned (OpenSpec.upto wirePacksSpec)

/-- 'chirographlaw.TruthNots', WHERE WHAT IT READS IS OF BULK AT MOST 1048576: true; the input reads as it did. -/
def truthNotsUptoRow : OpenClaim := { program := "ytbpibblidokhfaa", sum := "a42c2658c5ed22979f5dec3178babc22d77a54937bae003249424352ab38390d", func := "chirograph/chirographlaw.TruthNots", spec := "truthNots", apart := false, narrowed := true }
def TruthNotsUptoSaid : Prop := truthNotsUptoRow.holds Try.pinned (OpenSpec.upto truthNotsSpec)

/-- 'chirographlaw.CrcSums', WHERE WHAT IT READS IS OF BULK AT MOST 1048576: true; the input reads as it did. -/
def crcSumsUptoRow : OpenClaim := { program := "ytbpibblidokhfaa", sum := "a42c2658c5ed22979f5dec3178babc22d77a54937bae003249424352ab38390d", func := "chirograph/chirographlaw.CrcSums", spec := "crcSums", apart := false, narrowed := true }
def CrcSumsUptoSaid : Prop := crcSumsUptoRow.holds Try.pinned (OpenSpec.upto crcSumsSpec)

/-- 'chirographlaw.ServerStarts', WHERE WHAT IT READS IS OF BULK AT MOST 1048576: true; the input reads as it did. -/
def serverStartsUptoRow : OpenClaim := { program := "ytbpibblidokhfaa", sum := "a42c2658c5ed22979f5dec3178babc22d77a54937bae003249424352ab38390d", func := "chirograph/chirographlaw.ServerStarts", spec := "serverStarts", apart := false, narrowed := true }
def ServerStartsUptoSaid : Prop := serverStartsUptoRow.holds Try.pinned (OpenSpec.upto serverStartsSpec)

/-- 'chirographlaw.SplitShares', WHERE WHAT IT READS IS OF BULK AT MOST 1048576: true; the input reads as it did. -/
def splitSharesUptoRow : OpenClaim := { program := "ytbpibblidokhfaa", sum := "a42c2658c5ed22979f5dec3178babc22d77a54937bae003249424352ab38390d", func := "chirograph/chirographlaw.SplitShares", spec := "splitShares", apart := false, narrowed := true }
def SplitSharesUptoSaid : Prop := splitSharesUptoRow.holds Try.pinned (OpenSpec.upto splitSharesSpec)

/-- 'chirographlaw.DiskChecks', WHERE WHAT IT READS IS OF BULK AT MOST 1048576: true; the input reads as it did. -/
def diskChecksUptoRow : OpenClaim := { program := "ytbpibblidokhfaa", sum := "a42c2658c5ed22979f5dec3178babc22d77a54937bae003249424352ab38390d", func := "chirograph/chirographlaw.DiskChecks", spec := "diskChecks", apart := false, narrowed := true }
def DiskChecksUptoSaid : Prop := diskChecksUptoRow.holds Try.pinned (OpenSpec.upto diskChecksSpec)

/-- 'chirographlaw.WireFeeds', WHERE WHAT IT READS IS OF BULK AT MOST 1048576: true; the input reads as it did. -/
def wireFeedsUptoRow : OpenClaim := { program := "ytbpibblidokhfaa", sum := "a42c2658c5ed22979f5dec3178babc22d77a54937bae003249424352ab38390d", func := "chirograph/chirographlaw.WireFeeds", spec := "wireFeeds", apart := false, narrowed := true }
def WireFeedsUptoSaid : Prop := wireFeedsUptoRow.holds Try.pinned (OpenSpec.upto wireFeedsSpec)

/-- 'chirographlaw.TruthPairs', WHERE WHAT IT READS IS OF BULK AT MOST 1048576: true; the input reads as it did. -/
def truthPairsUptoRow : OpenClaim := { program := "ytbpibblidokhfaa", sum := "a42c2658c5ed22979f5dec3178babc22d77a54937bae003249424352ab38390d", func := "chirograph/chirographlaw.TruthPairs", spec := "truthPairs", apart := false, narrowed := true }
def TruthPairsUptoSaid : Prop := truthPairsUptoRow.holds Try.pinned (OpenSpec.upto truthPairsSpec)

/-- 'chirographlaw.DiskReads', WHERE WHAT IT READS IS OF BULK AT MOST 1048576: true; the input reads as it did. -/
def diskReadsUptoRow : OpenClaim := { program := "ytbpibblidokhfaa", sum := "a42c2658c5ed22979f5dec3178babc22d77a54937bae003249424352ab38390d", func := "chirograph/chirographlaw.DiskReads", spec := "diskReads", apart := false, narrowed := true }
def DiskReadsUptoSaid : Prop := diskReadsUptoRow.holds Try.pinned (OpenSpec.upto diskReadsSpec)

/-- 'chirographlaw.OracleFrames', WHERE WHAT IT READS IS OF BULK AT MOST 1048576: true; the input reads as it did. -/
def oracleFramesUptoRow : OpenClaim := { program := "ytbpibblidokhfaa", sum := "a42c2658c5ed22979f5dec3178babc22d77a54937bae003249424352ab38390d", func := "chirograph/chirographlaw.OracleFrames", spec := "oracleFrames", apart := false, narrowed := true }
def OracleFramesUptoSaid : Prop := oracleFramesUptoRow.holds Try.pinned (OpenSpec.upto oracleFramesSpec)

/-- 'chirographlaw.DiskFalls', WHERE WHAT IT READS IS OF BULK AT MOST 1048576: true; the input reads as it did. -/
def diskFallsUptoRow : OpenClaim := { program := "ytbpibblidokhfaa", sum := "a42c2658c5ed22979f5dec3178babc22d77a54937bae003249424352ab38390d", func := "chirograph/chirographlaw.DiskFalls", spec := "diskFalls", unfollowed := true, recurses := true, apart := false, narrowed := true }
def DiskFallsUptoSaid : Prop := diskFallsUptoRow.holds Try.pinned (OpenSpec.upto diskFallsSpec)

end Rows
end Go.Proofs.Ytbpibblidokhfaa
