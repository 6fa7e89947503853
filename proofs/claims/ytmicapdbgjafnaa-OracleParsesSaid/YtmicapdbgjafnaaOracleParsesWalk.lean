/- The walk of OracleParses: it returns true, and nothing that was there is turned. -/
import Derived.Test.YtmicapdbgjafnaaAbEnc
import Derived.Test.YtmicapdbgjafnaaTOracle
namespace Go.Proofs.Ytmicapdbgjafnaa
open Go.ChangeShapes Go.WideShapes Go.ChangeAt Go.RowKit Go.Deep Go.Proofs.Ytmicapdbgjafnaa.Ab

theorem walkOracleParses (W : World) (A0 : Option Addr) (n0 c0 : Nat) (a0 : (List UInt8)) (h0 : (cSlice cByte).rel W (lt W.heap.size) (.slice A0 n0 c0 : Value).cells.toList a0) :
    Calls Try.prog 4 #[.slice A0 n0 c0] W fun e W' => e = .returned (.bool true) ∧ Below W.heap.size W W' := by
  refine law_true (oracle_fn a0) ⟨rfl, fun i d v hd hv => ?_⟩
  obtain ⟨rfl, rfl⟩ := single hd
  obtain ⟨_, rfl⟩ := single hv
  exact arg_one (e := eBytes) (enc_slice enc_byte) h0

end Go.Proofs.Ytmicapdbgjafnaa
