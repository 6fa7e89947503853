/- The walk of TableRows: it returns true, and nothing that was there is turned. -/
import Derived.Test.YtcjeeoimjkhijaaDoorAbEnc
import Derived.Test.YtcjeeoimjkhijaaDoorEncR
import Derived.Test.YtcjeeoimjkhijaaDoorTLTr
namespace Go.Proofs.YtcjeeoimjkhijaaDoor
open Go.ChangeShapes Go.WideShapes Go.ChangeAt Go.RowKit Go.Deep Go.Proofs.YtcjeeoimjkhijaaDoor.Ab

theorem walkTableRows (W : World) (x0 : Array Value) (a0 : (Bool × (ByteArray × ((List (ByteArray × (Int × (Bool × Unit)))) × ((List (List (Bool × ((List (Int × (Int × (Int × (ByteArray × Unit))))) × Unit)))) × Unit))))) (h0 : (cStruct (cCons cBool (cCons cStr (cCons (cSlice (cStruct (cCons cStr (cCons (cInt .i64) (cCons cBool cEnd))))) (cCons (cArr 2 (cArr 4 (cStruct (cCons cBool (cCons (cSlice (cStruct (cCons (cInt .i64) (cCons (cInt .i64) (cCons (cInt .u64) (cCons cStr cEnd)))))) cEnd))))) cEnd))))).rel W (lt W.heap.size) (.agg x0 : Value).cells.toList a0) (x1 : Array Value) (a1 : (List Bool)) (h1 : (cArr 2 cBool).rel W (lt W.heap.size) (.agg x1 : Value).cells.toList a1) (hG : ∀ x ∈ gK, RepD p0 (CI W anyI) W (.one (.eptr x.2)) (.pointer (some ⟨x.1, 0, none⟩))) :
    Calls Tryd.prog 5 #[.agg x0, .agg x1] W fun e W' => e = .returned (.bool true) ∧ Below W.heap.size W W' := by
  refine law_trueG' (tableRows_fn (tbOf a0) a1 (okTab h0) (lenOpen h1)) hG ⟨rfl, fun i d v hd hv => ?_⟩
  match i, hd, hv with
  | 0, hd, hv => cases Option.some.inj hd; cases Option.some.inj hv; exact arg_agg encTab h0
  | 1, hd, hv => cases Option.some.inj hd; cases Option.some.inj hv; exact arg_agg encOpen h1
  | n + 2, hd, hv => cases hd

end Go.Proofs.YtcjeeoimjkhijaaDoor
