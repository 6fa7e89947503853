/- The walk of KindsRows: it returns true, and nothing that was there is turned. -/
import Derived.Test.YtpmldhpjenjhpaaDoorAbEnc
import Derived.Test.YtpmldhpjenjhpaaDoorEncC
import Derived.Test.YtpmldhpjenjhpaaDoorTLKr
namespace Go.Proofs.YtpmldhpjenjhpaaDoor
open Go.ChangeShapes Go.WideShapes Go.ChangeAt Go.RowKit Go.Deep Go.Proofs.YtpmldhpjenjhpaaDoor.Ab

theorem walkKindsRows (W : World) (A0 : Option Addr) (n0 c0 : Nat) (a0 : (List (Int × (Int × (Int × (ByteArray × Unit)))))) (h0 : (cSlice (cStruct (cCons (cInt .i64) (cCons (cInt .i64) (cCons (cInt .u64) (cCons cStr cEnd)))))).rel W (lt W.heap.size) (.slice A0 n0 c0 : Value).cells.toList a0) (A1 : Option Addr) (n1 c1 : Nat) (a1 : (List (ByteArray × (Int × (Bool × Unit))))) (h1 : (cSlice (cStruct (cCons cStr (cCons (cInt .i64) (cCons cBool cEnd))))).rel W (lt W.heap.size) (.slice A1 n1 c1 : Value).cells.toList a1) (hG : ∀ x ∈ gK, RepD p0 (CI W anyI) W (.one (.eptr x.2)) (.pointer (some ⟨x.1, 0, none⟩))) :
    Calls Tryd.prog 9 #[.slice A0 n0 c0, .slice A1 n1 c1] W fun e W' => e = .returned (.bool true) ∧ Below W.heap.size W W' := by
  refine law_trueG' (kindsRows_fn (a0.map vOf) (a1.map cOf) (lenCols h1) (okRow h0)) hG ⟨rfl, fun i d v hd hv => ?_⟩
  match i, hd, hv with
  | 0, hd, hv => cases Option.some.inj hd; cases Option.some.inj hv; exact arg_one encRow h0
  | 1, hd, hv => cases Option.some.inj hd; cases Option.some.inj hv; exact arg_one encCols h1
  | n + 2, hd, hv => cases hd

end Go.Proofs.YtpmldhpjenjhpaaDoor
