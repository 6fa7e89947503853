/- The walk of ServerStarts: it returns true, and nothing that was there is turned. -/
import Derived.Test.YthmkicejaipjmaaAbEnc
import Derived.Test.YthmkicejaipjmaaTSv4
namespace Go.Proofs.Ythmkicejaipjmaa
open Go.ChangeShapes Go.WideShapes Go.ChangeAt Go.RowKit Go.Deep Go.Proofs.Ythmkicejaipjmaa.Ab

theorem walkServerStarts (W : World) (x0 : Int) (a0 : Int) (h0 : (cInt .i64).rel W (lt W.heap.size) (.int .i64 x0 : Value).cells.toList a0) (A1 : Option Addr) (n1 c1 : Nat) (a1 : (List UInt8)) (h1 : (cSlice cByte).rel W (lt W.heap.size) (.slice A1 n1 c1 : Value).cells.toList a1) :
    Calls Try.prog 3 #[.int .i64 x0, .slice A1 n1 c1] W fun e W' => e = .returned (.bool true) ∧ Below W.heap.size W W' := by
  refine law_true (starts_fn a0 a1) ⟨rfl, fun i d v hd hv => ?_⟩
  match i, hd, hv with
  | 0, hd, hv => cases Option.some.inj hd; cases Option.some.inj hv; exact arg_one (e := fun x => .v (.int .i64 x)) (enc_int .i64) h0
  | 1, hd, hv => cases Option.some.inj hd; cases Option.some.inj hv; exact arg_one (e := eBytes) (enc_slice enc_byte) h1
  | n + 2, hd, hv => cases hd

end Go.Proofs.Ythmkicejaipjmaa
