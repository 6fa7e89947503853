/- The walk of QueryChecks: it returns true, and nothing that was there is turned. -/
import Derived.Test.YtekdhbekliajjaaDoorAbEnc
import Derived.Test.YtekdhbekliajjaaDoorEncQ
import Derived.Test.YtekdhbekliajjaaDoorTLQu
namespace Go.Proofs.YtekdhbekliajjaaDoor
open Go.ChangeShapes Go.WideShapes Go.ChangeAt Go.RowKit Go.Deep Go.Proofs.YtekdhbekliajjaaDoor.Ab

theorem walkQueryChecks (W : World) (A0 : Option Addr) (n0 c0 : Nat) (a0 : (List (ByteArray × (Int × (Bool × Unit))))) (h0 : (cSlice (cStruct (cCons cStr (cCons (cInt .i64) (cCons cBool cEnd))))).rel W (lt W.heap.size) (.slice A0 n0 c0 : Value).cells.toList a0) (x1 : Array Value) (a1 : ((List (Int × (Ex × Unit))) × (Ex × (ByteArray × ((List (Int × (Bool × Unit))) × (Bool × (Int × Unit))))))) (h1 : (cStruct (cCons (cSlice (cStruct (cCons (cInt .i64) (cCons cEx cEnd)))) (cCons cEx (cCons cStr (cCons (cSlice (cStruct (cCons (cInt .i64) (cCons cBool cEnd)))) (cCons cBool (cCons (cInt .i64) cEnd))))))).rel W (lt W.heap.size) (.agg x1 : Value).cells.toList a1) (hG : ∀ x ∈ gK, RepD p0 (CI W anyI) W (.one (.eptr x.2)) (.pointer (some ⟨x.1, 0, none⟩))) :
    Calls Tryd.prog 5 #[.slice A0 n0 c0, .agg x1] W fun e W' => e = .returned (.bool true) ∧ Below W.heap.size W W' := by
  refine law_trueG' (queryChecks_fn (a0.map cOf) (quOf a1) (okQry h1) (lenCols h0)) hG ⟨rfl, fun i d v hd hv => ?_⟩
  match i, hd, hv with
  | 0, hd, hv => cases Option.some.inj hd; cases Option.some.inj hv; exact arg_one encCols h0
  | 1, hd, hv => cases Option.some.inj hd; cases Option.some.inj hv; exact arg_agg encQry h1
  | n + 2, hd, hv => cases hd

end Go.Proofs.YtekdhbekliajjaaDoor
