/- The walk of TapeAppends: it returns true, and nothing that was there is turned. -/
import Derived.Test.YtphaholcndhonaaAbEnc
import Derived.Test.YtphaholcndhonaaEncD
import Derived.Test.YtphaholcndhonaaTLAp
namespace Go.Proofs.Ytphaholcndhonaa
open Go.ChangeShapes Go.WideShapes Go.ChangeAt Go.RowKit Go.Deep Go.Proofs.Ytphaholcndhonaa.Ab

theorem walkTapeAppends (W : World) (x0 : Array Value) (a0 : ((List (List UInt8)) × ((List (Int × ((List UInt8) × Unit))) × Unit))) (h0 : (cStruct (cCons (cSlice (cArr 32 cByte)) (cCons (cSlice (cStruct (cCons (cInt .i64) (cCons (cArr 32 cByte) cEnd)))) cEnd))).rel W (lt W.heap.size) (.agg x0 : Value).cells.toList a0) (A1 : Option Addr) (n1 c1 : Nat) (a1 : (List UInt8)) (h1 : (cSlice cByte).rel W (lt W.heap.size) (.slice A1 n1 c1 : Value).cells.toList a1) (x2 : Int) (a2 : Int) (h2 : (cInt .i64).rel W (lt W.heap.size) (.int .i64 x2 : Value).cells.toList a2) :
    Calls Try.prog 7 #[.agg x0, .slice A1 n1 c1, .int .i64 x2] W fun e W' => e = .returned (.bool true) ∧ Below W.heap.size W W' := by
  refine law_true (tapeAppends_fn (dkOf a0) (okDisk h0) a1 a2 (wf_i64 h2.2).1 (wf_i64 h2.2).2) ⟨rfl, fun i d v hd hv => ?_⟩
  match i, hd, hv with
  | 0, hd, hv => cases Option.some.inj hd; cases Option.some.inj hv; exact arg_agg encDisk h0
  | 1, hd, hv => cases Option.some.inj hd; cases Option.some.inj hv; exact arg_one (e := eBytes) (enc_slice (enc_byte)) h1
  | 2, hd, hv => cases Option.some.inj hd; cases Option.some.inj hv; exact arg_one (e := eI) (enc_int .i64) h2
  | n + 3, hd, hv => cases hd

end Go.Proofs.Ytphaholcndhonaa
