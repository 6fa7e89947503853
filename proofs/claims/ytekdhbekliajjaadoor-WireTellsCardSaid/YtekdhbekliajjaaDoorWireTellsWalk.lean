/- The walk of WireTells: it returns true, and nothing that was there is turned. -/
import Derived.Test.YtekdhbekliajjaaDoorAbEnc
import Derived.Test.YtekdhbekliajjaaDoorEncP
import Derived.Test.YtekdhbekliajjaaDoorTLWt
namespace Go.Proofs.YtekdhbekliajjaaDoor
open Go.ChangeShapes Go.WideShapes Go.ChangeAt Go.RowKit Go.Deep Go.Proofs.YtekdhbekliajjaaDoor.Ab

theorem walkWireTells (m : Int) (W : World) (x0 : Array Value) (a0 : (Int × (Int × ((List (List (Int × (Int × (Int × (ByteArray × Unit)))))) × Unit)))) (h0 : (cStruct (cCons (cInt .i64) (cCons (cInt .i64) (cCons (cSlice (cSlice (cStruct (cCons (cInt .i64) (cCons (cInt .i64) (cCons (cInt .u64) (cCons cStr cEnd))))))) cEnd)))).rel W (lt W.heap.size) (.agg x0 : Value).cells.toList a0) (hG : ∀ x ∈ gM m, RepD p0 (CI W anyI) W (.one (.eptr x.2)) (.pointer (some ⟨x.1, 0, none⟩))) :
    Calls Tryd.prog 7 #[.agg x0] W fun e W' => e = .returned (.bool true) ∧ Below W.heap.size W W' := by
  refine law_trueG' (wireTells_fn m (rpOf a0) (okRpl h0)) hG ⟨rfl, fun i d v hd hv => ?_⟩
  match i, hd, hv with
  | 0, hd, hv => cases Option.some.inj hd; cases Option.some.inj hv; exact arg_agg encRpl h0
  | n + 1, hd, hv => cases hd

end Go.Proofs.YtekdhbekliajjaaDoor
