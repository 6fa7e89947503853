/- The walk of RollExtends: it returns true, and nothing that was there is turned. -/
import Derived.Test.YtjpmghphkkhcjaaDoorAbEnc
import Derived.Test.YtjpmghphkkhcjaaDoorTRoG
namespace Go.Proofs.YtjpmghphkkhcjaaDoor
open Go.ChangeShapes Go.WideShapes Go.ChangeAt Go.RowKit Go.Deep Go.Proofs.YtjpmghphkkhcjaaDoor.Ab

theorem walkRollExtends (W : World) (x0 : Int) (a0 : Int) (h0 : (cInt .i64).rel W (lt W.heap.size) (.int .i64 x0 : Value).cells.toList a0) (A1 : Option Addr) (n1 c1 : Nat) (a1 : (List (List UInt8))) (h1 : (cSlice (cSlice cByte)).rel W (lt W.heap.size) (.slice A1 n1 c1 : Value).cells.toList a1) (x2 : Int) (a2 : Int) (h2 : (cInt .i64).rel W (lt W.heap.size) (.int .i64 x2 : Value).cells.toList a2) (hG : ∀ x ∈ gK, RepD p0 (CI W anyI) W (.one (.eptr x.2)) (.pointer (some ⟨x.1, 0, none⟩))) :
    Calls Tryd.prog 11 #[.int .i64 x0, .slice A1 n1 c1, .int .i64 x2] W fun e W' => e = .returned (.bool true) ∧ Below W.heap.size W W' := by
  refine law_trueG (extends_fn a0 a1 a2) hG ⟨rfl, fun i d v hd hv => ?_⟩
  match i, hd, hv with
  | 0, hd, hv => cases Option.some.inj hd; cases Option.some.inj hv; exact arg_one (e := eI) (enc_int .i64) h0
  | 1, hd, hv => cases Option.some.inj hd; cases Option.some.inj hv; exact arg_one (e := eLists) (enc_slice (enc_slice (enc_byte))) h1
  | 2, hd, hv => cases Option.some.inj hd; cases Option.some.inj hv; exact arg_one (e := eI) (enc_int .i64) h2
  | n + 3, hd, hv => cases hd

end Go.Proofs.YtjpmghphkkhcjaaDoor
