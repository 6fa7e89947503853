/- The walk of ExprShows: it returns true, and nothing that was there is turned. -/
import Derived.Test.YthnadkafegmacaaDoorAbEnc
import Derived.Test.YthnadkafegmacaaDoorEncX
import Derived.Test.YthnadkafegmacaaDoorTLXs
namespace Go.Proofs.YthnadkafegmacaaDoor
open Go.ChangeShapes Go.WideShapes Go.ChangeAt Go.RowKit Go.Deep Go.Proofs.YthnadkafegmacaaDoor.Ab

theorem walkExprShows (W : World) (x0 : Array Value) (a0 : Ex) (h0 : cEx.rel W (lt W.heap.size) (.agg x0 : Value).cells.toList a0) (hG : ∀ x ∈ gX, RepD p0 (CI W anyI) W (.one (.eptr x.2)) (.pointer (some ⟨x.1, 0, none⟩))) :
    Calls Tryd.prog 4 #[.agg x0] W fun e W' => e = .returned (.bool true) ∧ Below W.heap.size W W' := by
  refine law_trueG' (exprShows_fn a0 (okEx h0)) hG ⟨rfl, fun i d v hd hv => ?_⟩
  match i, hd, hv with
  | 0, hd, hv => cases Option.some.inj hd; cases Option.some.inj hv; exact arg_agg encExpr h0
  | n + 1, hd, hv => cases hd

end Go.Proofs.YthnadkafegmacaaDoor
