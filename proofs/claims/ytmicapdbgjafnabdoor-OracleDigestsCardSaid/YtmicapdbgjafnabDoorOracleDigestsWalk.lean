/- The walk of OracleDigests: it returns true, and nothing that was there is turned. -/
import Derived.Test.YtmicapdbgjafnabDoorAbEnc
import Derived.Test.YtmicapdbgjafnabDoorTOrB
namespace Go.Proofs.YtmicapdbgjafnabDoor
open Go.ChangeShapes Go.WideShapes Go.ChangeAt Go.RowKit Go.Deep Go.Proofs.YtmicapdbgjafnabDoor.Ab

theorem walkOracleDigests (W : World) (x0 : Int) (a0 : Int) (h0 : (cInt .i64).rel W (lt W.heap.size) (.int .i64 x0 : Value).cells.toList a0) (x1 : Int) (a1 : Int) (h1 : (cInt .i64).rel W (lt W.heap.size) (.int .i64 x1 : Value).cells.toList a1) (A2 : Option Addr) (n2 c2 : Nat) (a2 : (List (List UInt8))) (h2 : (cSlice (cSlice cByte)).rel W (lt W.heap.size) (.slice A2 n2 c2 : Value).cells.toList a2) (hG : ∀ x ∈ gK, RepD p0 (CI W anyI) W (.one (.eptr x.2)) (.pointer (some ⟨x.1, 0, none⟩))) :
    Calls Tryd.prog 4 #[.int .i64 x0, .int .i64 x1, .slice A2 n2 c2] W fun e W' => e = .returned (.bool true) ∧ Below W.heap.size W W' := by
  refine law_trueG (digests_fn a0 a1 a2) hG ⟨rfl, fun i d v hd hv => ?_⟩
  match i, hd, hv with
  | 0, hd, hv => cases Option.some.inj hd; cases Option.some.inj hv; exact arg_one (e := eI) (enc_int .i64) h0
  | 1, hd, hv => cases Option.some.inj hd; cases Option.some.inj hv; exact arg_one (e := eI) (enc_int .i64) h1
  | 2, hd, hv => cases Option.some.inj hd; cases Option.some.inj hv; exact arg_one (e := eLists) (enc_slice (enc_slice enc_byte)) h2
  | n + 3, hd, hv => cases hd

end Go.Proofs.YtmicapdbgjafnabDoor
