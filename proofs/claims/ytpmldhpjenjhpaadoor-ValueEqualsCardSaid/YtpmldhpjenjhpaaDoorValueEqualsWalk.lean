/- The walk of ValueEquals: it returns true, and nothing that was there is turned. -/
import Derived.Test.YtpmldhpjenjhpaaDoorAbEnc
import Derived.Test.YtpmldhpjenjhpaaDoorEncV
import Derived.Test.YtpmldhpjenjhpaaDoorTCm3
namespace Go.Proofs.YtpmldhpjenjhpaaDoor
open Go.ChangeShapes Go.WideShapes Go.ChangeAt Go.RowKit Go.Deep Go.Proofs.YtpmldhpjenjhpaaDoor.Ab

theorem walkValueEquals (W : World) (x0 : Array Value) (a0 : (Int × (Int × (Int × (ByteArray × Unit))))) (h0 : (cStruct (cCons (cInt .i64) (cCons (cInt .i64) (cCons (cInt .u64) (cCons cStr cEnd))))).rel W (lt W.heap.size) (.agg x0 : Value).cells.toList a0) (x1 : Array Value) (a1 : (Int × (Int × (Int × (ByteArray × Unit))))) (h1 : (cStruct (cCons (cInt .i64) (cCons (cInt .i64) (cCons (cInt .u64) (cCons cStr cEnd))))).rel W (lt W.heap.size) (.agg x1 : Value).cells.toList a1) (hG : ∀ x ∈ gK, RepD p0 (CI W anyI) W (.one (.eptr x.2)) (.pointer (some ⟨x.1, 0, none⟩))) :
    Calls Tryd.prog 5 #[.agg x0, .agg x1] W fun e W' => e = .returned (.bool true) ∧ Below W.heap.size W W' := by
  refine law_trueG' (valueEquals_fn (vOf a0) (vOf a1) (fitVal h0) (fitVal h1)) hG ⟨rfl, fun i d v hd hv => ?_⟩
  match i, hd, hv with
  | 0, hd, hv => cases Option.some.inj hd; cases Option.some.inj hv; exact arg_agg encVal h0
  | 1, hd, hv => cases Option.some.inj hd; cases Option.some.inj hv; exact arg_agg encVal h1
  | n + 2, hd, hv => cases hd

end Go.Proofs.YtpmldhpjenjhpaaDoor
