/- The walk of TapeOpens: it returns true, and nothing that was there is turned. -/
import Derived.Test.YtphaholcndhonaaAbEnc
import Derived.Test.YtphaholcndhonaaEncD
import Derived.Test.YtphaholcndhonaaTLTa
namespace Go.Proofs.Ytphaholcndhonaa
open Go.ChangeShapes Go.WideShapes Go.ChangeAt Go.RowKit Go.Deep Go.Proofs.Ytphaholcndhonaa.Ab

theorem walkTapeOpens (W : World) (x0 : Array Value) (a0 : ((List (List UInt8)) × ((List (Int × ((List UInt8) × Unit))) × Unit))) (h0 : (cStruct (cCons (cSlice (cArr 32 cByte)) (cCons (cSlice (cStruct (cCons (cInt .i64) (cCons (cArr 32 cByte) cEnd)))) cEnd))).rel W (lt W.heap.size) (.agg x0 : Value).cells.toList a0) :
    Calls Try.prog 5 #[.agg x0] W fun e W' => e = .returned (.bool true) ∧ Below W.heap.size W W' := by
  refine law_true (tapeOpens_fn (dkOf a0) (okDisk h0)) ⟨rfl, fun i d v hd hv => ?_⟩
  match i, hd, hv with
  | 0, hd, hv => cases Option.some.inj hd; cases Option.some.inj hv; exact arg_agg encDisk h0
  | n + 1, hd, hv => cases hd

end Go.Proofs.Ytphaholcndhonaa
