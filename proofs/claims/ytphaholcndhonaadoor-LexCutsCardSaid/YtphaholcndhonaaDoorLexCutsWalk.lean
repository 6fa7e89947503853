/- The walk of LexCuts: it returns true, and nothing that was there is turned. -/
import Derived.Test.YtphaholcndhonaaDoorAbEnc
import Derived.Test.YtphaholcndhonaaDoorEncT
import Derived.Test.YtphaholcndhonaaDoorTLLc
namespace Go.Proofs.YtphaholcndhonaaDoor
open Go.ChangeShapes Go.WideShapes Go.ChangeAt Go.RowKit Go.Deep Go.Proofs.YtphaholcndhonaaDoor.Ab

theorem walkLexCuts (W : World) (x0 : ByteArray) (a0 : ByteArray) (h0 : cStr.rel W (lt W.heap.size) (.string x0 : Value).cells.toList a0) (hG : ∀ x ∈ gK, RepD p0 (CI W anyI) W (.one (.eptr x.2)) (.pointer (some ⟨x.1, 0, none⟩))) :
    Calls Tryd.prog 5 #[.string x0] W fun e W' => e = .returned (.bool true) ∧ Below W.heap.size W W' := by
  refine law_trueG' (lexCuts_fn a0.data.toList (lenStr h0)) hG ⟨rfl, fun i d v hd hv => ?_⟩
  match i, hd, hv with
  | 0, hd, hv => cases Option.some.inj hd; cases Option.some.inj hv; exact arg_one encT h0
  | n + 1, hd, hv => cases hd

end Go.Proofs.YtphaholcndhonaaDoor
