/- The walk of ValueChecks: it returns true, and nothing that was there is turned. -/
import Derived.Test.YtpmldhpjenjhpaaDoorAbEnc
import Derived.Test.YtpmldhpjenjhpaaDoorEncV
import Derived.Test.YtpmldhpjenjhpaaDoorTVal
namespace Go.Proofs.YtpmldhpjenjhpaaDoor
open Go.ChangeShapes Go.WideShapes Go.ChangeAt Go.RowKit Go.Deep Go.Proofs.YtpmldhpjenjhpaaDoor.Ab

theorem walkValueChecks (W : World) (x0 : Array Value) (a0 : (Int × (Int × (Int × (ByteArray × Unit))))) (h0 : (cStruct (cCons (cInt .i64) (cCons (cInt .i64) (cCons (cInt .u64) (cCons cStr cEnd))))).rel W (lt W.heap.size) (.agg x0 : Value).cells.toList a0) (hG : ∀ x ∈ gK, RepD p0 (CI W anyI) W (.one (.eptr x.2)) (.pointer (some ⟨x.1, 0, none⟩))) :
    Calls Tryd.prog 3 #[.agg x0] W fun e W' => e = .returned (.bool true) ∧ Below W.heap.size W W' := by
  refine law_trueG' (valueChecks_fn (vOf a0) (okVal h0)) hG ⟨rfl, fun i d v hd hv => ?_⟩
  match i, hd, hv with
  | 0, hd, hv => cases Option.some.inj hd; cases Option.some.inj hv; exact arg_agg encVal h0
  | n + 1, hd, hv => cases hd

end Go.Proofs.YtpmldhpjenjhpaaDoor
