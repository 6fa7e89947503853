/- The walk of DeedPlaces: it returns true, and nothing that was there is turned. -/
import Derived.Test.YtphaholcndhonaaDoorAbEnc
import Derived.Test.YtphaholcndhonaaDoorEncS
import Derived.Test.YtphaholcndhonaaDoorTDp3
namespace Go.Proofs.YtphaholcndhonaaDoor
open Go.ChangeShapes Go.WideShapes Go.ChangeAt Go.RowKit Go.Deep Go.Proofs.YtphaholcndhonaaDoor.Ab

theorem walkDeedPlaces (W : World) (x0 : Array Value) (a0 : ((List (List (Bool × (ByteArray × ((List (ByteArray × (Int × (Bool × Unit)))) × ((List (List (Bool × ((List (Int × (Int × (Int × (ByteArray × Unit))))) × Unit)))) × Unit)))))) × ((List (Int × (Int × (Int × (Int × (Bool × Unit)))))) × ((List Int) × Unit)))) (h0 : (cStruct (cCons (cArr 3 (cArr 2 (cStruct (cCons cBool (cCons cStr (cCons (cSlice (cStruct (cCons cStr (cCons (cInt .i64) (cCons cBool cEnd))))) (cCons (cArr 2 (cArr 4 (cStruct (cCons cBool (cCons (cSlice (cStruct (cCons (cInt .i64) (cCons (cInt .i64) (cCons (cInt .u64) (cCons cStr cEnd)))))) cEnd))))) cEnd))))))) (cCons (cSlice (cStruct (cCons (cInt .i64) (cCons (cInt .i64) (cCons (cInt .i64) (cCons (cInt .i64) (cCons cBool cEnd))))))) (cCons (cArr 3 (cInt .i64)) cEnd)))).rel W (lt W.heap.size) (.agg x0 : Value).cells.toList a0) (x1 : Int) (a1 : Int) (h1 : (cInt .i64).rel W (lt W.heap.size) (.int .i64 x1 : Value).cells.toList a1) (x2 : Int) (a2 : Int) (h2 : (cInt .i64).rel W (lt W.heap.size) (.int .i64 x2 : Value).cells.toList a2) (x3 : ByteArray) (a3 : ByteArray) (h3 : cStr.rel W (lt W.heap.size) (.string x3 : Value).cells.toList a3) (hG : ∀ x ∈ gK, RepD p0 (CI W anyI) W (.one (.eptr x.2)) (.pointer (some ⟨x.1, 0, none⟩))) :
    Calls Tryd.prog 8 #[.agg x0, .int .i64 x1, .int .i64 x2, .string x3] W fun e W' => e = .returned (.bool true) ∧ Below W.heap.size W W' := by
  refine law_trueG' (deedPlaces_fn (saOf a0) (okSta h0) a1 a2 a3.data.toList) hG ⟨rfl, fun i d v hd hv => ?_⟩
  match i, hd, hv with
  | 0, hd, hv => cases Option.some.inj hd; cases Option.some.inj hv; exact arg_agg encSta h0
  | 1, hd, hv => cases Option.some.inj hd; cases Option.some.inj hv; exact arg_one (e := eI) (enc_int .i64) h1
  | 2, hd, hv => cases Option.some.inj hd; cases Option.some.inj hv; exact arg_one (e := eI) (enc_int .i64) h2
  | 3, hd, hv => cases Option.some.inj hd; cases Option.some.inj hv; exact arg_one encT h3
  | n + 4, hd, hv => cases hd

end Go.Proofs.YtphaholcndhonaaDoor
