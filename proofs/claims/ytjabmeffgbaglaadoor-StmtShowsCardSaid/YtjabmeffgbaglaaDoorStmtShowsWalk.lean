/- The walk of StmtShows: it returns true, and nothing that was there is turned. -/
import Derived.Test.YtjabmeffgbaglaaDoorAbEnc
import Derived.Test.YtjabmeffgbaglaaDoorEncM
import Derived.Test.YtjabmeffgbaglaaDoorTWsT
namespace Go.Proofs.YtjabmeffgbaglaaDoor
open Go.ChangeShapes Go.WideShapes Go.ChangeAt Go.RowKit Go.Deep Go.Proofs.YtjabmeffgbaglaaDoor.Ab
theorem walkStmtShows (W : World) (x0 : Array Value) (a0 : (Int × (Int × (ByteArray × (Int × ((List (ByteArray × (Int × (Bool × Unit)))) × ((List (Int × (Int × (Int × (ByteArray × Unit))))) × ((List (ByteArray × (Ex × Unit))) × (Ex × (((List (Int × (Ex × Unit))) × (Ex × (ByteArray × ((List (Int × (Bool × Unit))) × (Bool × (Int × Unit)))))) × (Int × (Int × (Bool × Unit))))))))))))) (h0 : (cStruct (cCons (cInt .i64) (cCons (cInt .i64) (cCons cStr (cCons (cInt .i64) (cCons (cSlice (cStruct (cCons cStr (cCons (cInt .i64) (cCons cBool cEnd))))) (cCons (cSlice (cStruct (cCons (cInt .i64) (cCons (cInt .i64) (cCons (cInt .u64) (cCons cStr cEnd)))))) (cCons (cSlice (cStruct (cCons cStr (cCons cEx cEnd)))) (cCons cEx (cCons (cStruct (cCons (cSlice (cStruct (cCons (cInt .i64) (cCons cEx cEnd)))) (cCons cEx (cCons cStr (cCons (cSlice (cStruct (cCons (cInt .i64) (cCons cBool cEnd)))) (cCons cBool (cCons (cInt .i64) cEnd))))))) (cCons (cInt .i64) (cCons (cInt .i64) (cCons cBool cEnd))))))))))))).rel W (lt W.heap.size) (.agg x0 : Value).cells.toList a0) (hG : ∀ x ∈ gY, RepD p0 (CI W anyI) W (.one (.eptr x.2)) (.pointer (some ⟨x.1, 0, none⟩))) :
  Calls Tryd.prog 3 #[.agg x0] W fun e W' => e = .returned (.bool true) ∧ Below W.heap.size W W' := by
 refine law_trueG' (stmtShows_fn (cmOf a0) (okCmd h0)) hG ⟨rfl, fun i d v hd hv => ?_⟩
 match i, hd, hv with
 | 0, hd, hv => cases Option.some.inj hd; cases Option.some.inj hv; exact arg_agg encCmd h0
 | n + 1, hd, hv => cases hd
end Go.Proofs.YtjabmeffgbaglaaDoor
