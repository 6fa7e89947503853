/- The walk of KindsColumns: it returns true, and nothing that was there is turned. -/
import Derived.Test.YtpmldhpjenjhpaaDoorAbEnc
import Derived.Test.YtpmldhpjenjhpaaDoorEncC
import Derived.Test.YtpmldhpjenjhpaaDoorTLKc
namespace Go.Proofs.YtpmldhpjenjhpaaDoor
open Go.ChangeShapes Go.WideShapes Go.ChangeAt Go.RowKit Go.Deep Go.Proofs.YtpmldhpjenjhpaaDoor.Ab

theorem walkKindsColumns (W : World) (A0 : Option Addr) (n0 c0 : Nat) (a0 : (List (ByteArray × (Int × (Bool × Unit))))) (h0 : (cSlice (cStruct (cCons cStr (cCons (cInt .i64) (cCons cBool cEnd))))).rel W (lt W.heap.size) (.slice A0 n0 c0 : Value).cells.toList a0) (hG : ∀ x ∈ gK, RepD p0 (CI W anyI) W (.one (.eptr x.2)) (.pointer (some ⟨x.1, 0, none⟩))) :
    Calls Tryd.prog 8 #[.slice A0 n0 c0] W fun e W' => e = .returned (.bool true) ∧ Below W.heap.size W W' := by
  refine law_trueG' (kindsColumns_fn (a0.map cOf) (lenCols h0)) hG ⟨rfl, fun i d v hd hv => ?_⟩
  match i, hd, hv with
  | 0, hd, hv => cases Option.some.inj hd; cases Option.some.inj hv; exact arg_one encCols h0
  | n + 1, hd, hv => cases hd

end Go.Proofs.YtpmldhpjenjhpaaDoor
