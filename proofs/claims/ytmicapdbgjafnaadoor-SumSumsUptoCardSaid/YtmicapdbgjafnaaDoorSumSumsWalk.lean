/- The walk of SumSums: it returns true, and nothing that was there is turned. -/
import Derived.Test.YtmicapdbgjafnaaDoorAbEnc
import Derived.Test.YtmicapdbgjafnaaDoorTSh13
namespace Go.Proofs.YtmicapdbgjafnaaDoor
open Go.ChangeShapes Go.WideShapes Go.ChangeAt Go.RowKit Go.Deep Go.Proofs.YtmicapdbgjafnaaDoor.Ab

theorem walkSumSums (W : World) (A0 : Option Addr) (n0 c0 : Nat) (a0 : (List UInt8)) (h0 : (cSlice cByte).rel W (lt W.heap.size) (.slice A0 n0 c0 : Value).cells.toList a0) (hk : (cSlice cByte).bulk a0 ≤ 1048576) (hG : ∀ x ∈ gK, RepD p0 (CI W anyI) W (.one (.eptr x.2)) (.pointer (some ⟨x.1, 0, none⟩))) :
    Calls Tryd.prog 3 #[.slice A0 n0 c0] W fun e W' => e = .returned (.bool true) ∧ Below W.heap.size W W' := by
  rw [bulk_bytes] at hk
  refine law_trueG (sums_fn a0 (by omega)) hG ⟨rfl, fun i d v hd hv => ?_⟩
  obtain ⟨rfl, rfl⟩ := single hd
  obtain ⟨_, rfl⟩ := single hv
  exact arg_one (e := eBytes) (enc_slice enc_byte) h0

end Go.Proofs.YtmicapdbgjafnaaDoor
