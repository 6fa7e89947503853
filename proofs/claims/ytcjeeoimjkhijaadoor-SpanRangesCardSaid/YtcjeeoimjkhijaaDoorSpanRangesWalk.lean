/- The walk of SpanRanges: it returns true, and nothing that was there is turned. -/
import Derived.Test.YtcjeeoimjkhijaaDoorAbEnc
import Derived.Test.YtcjeeoimjkhijaaDoorEncX
import Derived.Test.YtcjeeoimjkhijaaDoorEncT
import Derived.Test.YtcjeeoimjkhijaaDoorTLSp
namespace Go.Proofs.YtcjeeoimjkhijaaDoor
open Go.ChangeShapes Go.WideShapes Go.ChangeAt Go.RowKit Go.Deep Go.Proofs.YtcjeeoimjkhijaaDoor.Ab

theorem walkSpanRanges (W : World) (x0 : Array Value) (a0 : Ex) (h0 : cEx.rel W (lt W.heap.size) (.agg x0 : Value).cells.toList a0) (x1 : ByteArray) (a1 : ByteArray) (h1 : cStr.rel W (lt W.heap.size) (.string x1 : Value).cells.toList a1) (hG : ∀ x ∈ gK, RepD p0 (CI W anyI) W (.one (.eptr x.2)) (.pointer (some ⟨x.1, 0, none⟩))) :
    Calls Tryd.prog 8 #[.agg x0, .string x1] W fun e W' => e = .returned (.bool true) ∧ Below W.heap.size W W' := by
  refine law_trueG' (spanRanges_fn a0 a1.data.toList (okEx h0)) hG ⟨rfl, fun i d v hd hv => ?_⟩
  match i, hd, hv with
  | 0, hd, hv => cases Option.some.inj hd; cases Option.some.inj hv; exact arg_agg encExpr h0
  | 1, hd, hv => cases Option.some.inj hd; cases Option.some.inj hv; exact arg_one encT h1
  | n + 2, hd, hv => cases hd

end Go.Proofs.YtcjeeoimjkhijaaDoor
