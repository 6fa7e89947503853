/- The walk of CodeDecodes: it returns true, and nothing that was there is turned. -/
import Derived.Test.YtcjeeoimjkhijaaDoorAbEnc
import Derived.Test.YtcjeeoimjkhijaaDoorEncC
import Derived.Test.YtcjeeoimjkhijaaDoorTLDe
namespace Go.Proofs.YtcjeeoimjkhijaaDoor
open Go.ChangeShapes Go.WideShapes Go.ChangeAt Go.RowKit Go.Deep Go.Proofs.YtcjeeoimjkhijaaDoor.Ab

theorem walkCodeDecodes (W : World) (A0 : Option Addr) (n0 c0 : Nat) (a0 : (List UInt8)) (h0 : (cSlice cByte).rel W (lt W.heap.size) (.slice A0 n0 c0 : Value).cells.toList a0) (x1 : Int) (a1 : Int) (h1 : (cInt .i64).rel W (lt W.heap.size) (.int .i64 x1 : Value).cells.toList a1) (x2 : Int) (a2 : Int) (h2 : (cInt .i64).rel W (lt W.heap.size) (.int .i64 x2 : Value).cells.toList a2) (hG : ∀ x ∈ gK, RepD p0 (CI W anyI) W (.one (.eptr x.2)) (.pointer (some ⟨x.1, 0, none⟩))) :
    Calls Tryd.prog 6 #[.slice A0 n0 c0, .int .i64 x1, .int .i64 x2] W fun e W' => e = .returned (.bool true) ∧ Below W.heap.size W W' := by
  refine law_trueG' (decodes_fn a0 a1 a2) hG ⟨rfl, fun i d v hd hv => ?_⟩
  match i, hd, hv with
  | 0, hd, hv => cases Option.some.inj hd; cases Option.some.inj hv; exact arg_one (e := eBytes) (enc_slice (enc_byte)) h0
  | 1, hd, hv => cases Option.some.inj hd; cases Option.some.inj hv; exact arg_one (e := eI) (enc_int .i64) h1
  | 2, hd, hv => cases Option.some.inj hd; cases Option.some.inj hv; exact arg_one (e := eI) (enc_int .i64) h2
  | n + 3, hd, hv => cases hd

end Go.Proofs.YtcjeeoimjkhijaaDoor
