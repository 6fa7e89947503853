/- The walk of LexChecks: it returns true, and nothing that was there is turned. -/
import Derived.Test.YtpmldhpjenjhpaaDoorAbEnc
import Derived.Test.YtpmldhpjenjhpaaDoorEncT
import Derived.Test.YtpmldhpjenjhpaaDoorTLLx
namespace Go.Proofs.YtpmldhpjenjhpaaDoor
open Go.ChangeShapes Go.WideShapes Go.ChangeAt Go.RowKit Go.Deep Go.Proofs.YtpmldhpjenjhpaaDoor.Ab

theorem walkLexChecks (W : World) (x0 : Array Value) (a0 : (Int × (ByteArray × (Int × (Int × Unit))))) (h0 : (cStruct (cCons (cInt .i64) (cCons cStr (cCons (cInt .i64) (cCons (cInt .u64) cEnd))))).rel W (lt W.heap.size) (.agg x0 : Value).cells.toList a0) (hG : ∀ x ∈ gK, RepD p0 (CI W anyI) W (.one (.eptr x.2)) (.pointer (some ⟨x.1, 0, none⟩))) :
    Calls Tryd.prog 7 #[.agg x0] W fun e W' => e = .returned (.bool true) ∧ Below W.heap.size W W' := by
  refine law_trueG' (lexChecks_fn (tOf a0) (lenTok h0)) hG ⟨rfl, fun i d v hd hv => ?_⟩
  match i, hd, hv with
  | 0, hd, hv => cases Option.some.inj hd; cases Option.some.inj hv; exact arg_agg encTok h0
  | n + 1, hd, hv => cases hd

end Go.Proofs.YtpmldhpjenjhpaaDoor
