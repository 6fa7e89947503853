/- The walk of DiskWrites: it returns true, and nothing that was there is turned. -/
import Derived.Test.YtpgocgmpjbffaaaAbEnc
import Derived.Test.YtpgocgmpjbffaaaEncD
import Derived.Test.YtpgocgmpjbffaaaTDk3
namespace Go.Proofs.Ytpgocgmpjbffaaa
open Go.ChangeShapes Go.WideShapes Go.ChangeAt Go.RowKit Go.Deep Go.Proofs.Ytpgocgmpjbffaaa.Ab

theorem walkDiskWrites (W : World) (x0 : Array Value) (a0 : ((List (List UInt8)) × ((List (Int × ((List UInt8) × Unit))) × Unit))) (h0 : (cStruct (cCons (cSlice (cArr 32 cByte)) (cCons (cSlice (cStruct (cCons (cInt .i64) (cCons (cArr 32 cByte) cEnd)))) cEnd))).rel W (lt W.heap.size) (.agg x0 : Value).cells.toList a0) (x1 : Int) (a1 : Int) (h1 : (cInt .i64).rel W (lt W.heap.size) (.int .i64 x1 : Value).cells.toList a1) (x2 : Array Value) (a2 : (List UInt8)) (h2 : (cArr 32 cByte).rel W (lt W.heap.size) (.agg x2 : Value).cells.toList a2) :
    Calls Try.prog 3 #[.agg x0, .int .i64 x1, .agg x2] W fun e W' => e = .returned (.bool true) ∧ Below W.heap.size W W' := by
  refine law_true (diskWrites_fn (dkOf a0) a1 a2 (okDisk h0) (lenSec h2)) ⟨rfl, fun i d v hd hv => ?_⟩
  match i, hd, hv with
  | 0, hd, hv => cases Option.some.inj hd; cases Option.some.inj hv; exact arg_agg encDisk h0
  | 1, hd, hv => cases Option.some.inj hd; cases Option.some.inj hv; exact arg_one (e := eI) (enc_int .i64) h1
  | 2, hd, hv => cases Option.some.inj hd; cases Option.some.inj hv; exact arg_agg encSec h2
  | n + 3, hd, hv => cases hd

end Go.Proofs.Ytpgocgmpjbffaaa
