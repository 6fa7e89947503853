/- The walk of ExprParses: it returns true, and nothing that was there is turned. -/
import Derived.Test.YtcdifgacoleckaaDoorAbEnc
import Derived.Test.YtcdifgacoleckaaDoorEncL
import Derived.Test.YtcdifgacoleckaaDoorTRdZ
namespace Go.Proofs.YtcdifgacoleckaaDoor
open Go.ChangeShapes Go.WideShapes Go.ChangeAt Go.RowKit Go.Deep Go.Proofs.YtcdifgacoleckaaDoor.Ab

theorem walkExprParses (W : World) (A0 : Option Addr) (n0 c0 : Nat) (a0 : (List (Int × (ByteArray × (Int × (Int × Unit)))))) (h0 : (cSlice (cStruct (cCons (cInt .i64) (cCons cStr (cCons (cInt .i64) (cCons (cInt .u64) cEnd)))))).rel W (lt W.heap.size) (.slice A0 n0 c0 : Value).cells.toList a0) (hG : ∀ x ∈ gZ, RepD p0 (CI W anyI) W (.one (.eptr x.2)) (.pointer (some ⟨x.1, 0, none⟩))) :
    Calls Tryd.prog 4 #[.slice A0 n0 c0] W fun e W' => e = .returned (.bool true) ∧ Below W.heap.size W W' := by
  refine law_trueG' (exprParses_fn (a0.map tOf) (fitToks h0)) hG ⟨rfl, fun i d v hd hv => ?_⟩
  match i, hd, hv with
  | 0, hd, hv => cases Option.some.inj hd; cases Option.some.inj hv; exact arg_one encToks h0
  | n + 1, hd, hv => cases hd

end Go.Proofs.YtcdifgacoleckaaDoor
