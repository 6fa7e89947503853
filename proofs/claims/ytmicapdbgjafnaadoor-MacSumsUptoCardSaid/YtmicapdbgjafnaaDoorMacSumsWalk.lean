/- The walk of MacSums: it returns true, and nothing that was there is turned. -/
import Derived.Test.YtmicapdbgjafnaaDoorAbEnc
import Derived.Test.YtmicapdbgjafnaaDoorTShL
namespace Go.Proofs.YtmicapdbgjafnaaDoor
open Go.ChangeShapes Go.WideShapes Go.ChangeAt Go.RowKit Go.Deep Go.Proofs.YtmicapdbgjafnaaDoor.Ab

theorem walkMacSums (W : World) (A0 : Option Addr) (n0 c0 : Nat) (a0 : (List UInt8)) (h0 : (cSlice cByte).rel W (lt W.heap.size) (.slice A0 n0 c0 : Value).cells.toList a0) (A1 : Option Addr) (n1 c1 : Nat) (a1 : (List UInt8)) (h1 : (cSlice cByte).rel W (lt W.heap.size) (.slice A1 n1 c1 : Value).cells.toList a1) (hk : (cSlice cByte).bulk a0 + (cSlice cByte).bulk a1 ≤ 1048576) (hG : ∀ x ∈ gK, RepD p0 (CI W anyI) W (.one (.eptr x.2)) (.pointer (some ⟨x.1, 0, none⟩))) :
    Calls Tryd.prog 6 #[.slice A0 n0 c0, .slice A1 n1 c1] W fun e W' => e = .returned (.bool true) ∧ Below W.heap.size W W' := by
  rw [bulk_bytes, bulk_bytes] at hk
  refine law_trueG (macs_fn a0 a1 (by omega) (by omega)) hG ⟨rfl, fun i d v hd hv => ?_⟩
  match i, hd, hv with
  | 0, hd, hv => cases Option.some.inj hd; cases Option.some.inj hv; exact arg_one (e := eBytes) (enc_slice enc_byte) h0
  | 1, hd, hv => cases Option.some.inj hd; cases Option.some.inj hv; exact arg_one (e := eBytes) (enc_slice enc_byte) h1
  | n + 2, hd, hv => cases hd

end Go.Proofs.YtmicapdbgjafnaaDoor
