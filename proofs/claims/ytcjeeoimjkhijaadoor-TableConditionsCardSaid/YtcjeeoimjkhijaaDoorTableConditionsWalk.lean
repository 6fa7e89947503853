/- The walk of TableConditions: it returns true, and nothing that was there is turned. -/
import Derived.Test.YtcjeeoimjkhijaaDoorAbEnc
import Derived.Test.YtcjeeoimjkhijaaDoorEncX
import Derived.Test.YtcjeeoimjkhijaaDoorEncC
import Derived.Test.YtcjeeoimjkhijaaDoorTKCd
namespace Go.Proofs.YtcjeeoimjkhijaaDoor
open Go.ChangeShapes Go.WideShapes Go.ChangeAt Go.RowKit Go.Deep Go.Proofs.YtcjeeoimjkhijaaDoor.Ab

theorem walkTableConditions (W : World) (x0 : Array Value) (a0 : Ex) (h0 : cEx.rel W (lt W.heap.size) (.agg x0 : Value).cells.toList a0) (A1 : Option Addr) (n1 c1 : Nat) (a1 : (List (ByteArray × (Int × (Bool × Unit))))) (h1 : (cSlice (cStruct (cCons cStr (cCons (cInt .i64) (cCons cBool cEnd))))).rel W (lt W.heap.size) (.slice A1 n1 c1 : Value).cells.toList a1) (hG : ∀ x ∈ gK, RepD p0 (CI W anyI) W (.one (.eptr x.2)) (.pointer (some ⟨x.1, 0, none⟩))) :
    Calls Tryd.prog 11 #[.agg x0, .slice A1 n1 c1] W fun e W' => e = .returned (.bool true) ∧ Below W.heap.size W W' := by
  refine law_trueG' (tableConditions_fn a0 (a1.map cOf) (okEx h0) (lenCols h1)) hG ⟨rfl, fun i d v hd hv => ?_⟩
  match i, hd, hv with
  | 0, hd, hv => cases Option.some.inj hd; cases Option.some.inj hv; exact arg_agg encExpr h0
  | 1, hd, hv => cases Option.some.inj hd; cases Option.some.inj hv; exact arg_one encCols h1
  | n + 2, hd, hv => cases hd

end Go.Proofs.YtcjeeoimjkhijaaDoor
