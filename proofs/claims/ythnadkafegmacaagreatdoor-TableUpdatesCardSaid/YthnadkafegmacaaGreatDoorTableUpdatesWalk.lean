/- The walk of TableUpdates: it returns true, and nothing that was there is turned. -/
import Derived.Test.YthnadkafegmacaaGreatDoorAbEnc
import Derived.Test.YthnadkafegmacaaGreatDoorEncX
import Derived.Test.YthnadkafegmacaaGreatDoorEncB
import Derived.Test.YthnadkafegmacaaGreatDoorEncU
import Derived.Test.YthnadkafegmacaaGreatDoorTLUp
namespace Go.Proofs.YthnadkafegmacaaGreatDoor
open Go.ChangeShapes Go.WideShapes Go.ChangeAt Go.RowKit Go.Deep Go.Proofs.YthnadkafegmacaaGreatDoor.Ab

theorem walkTableUpdates (W : World) (x0 : Array Value) (a0 : (Bool × (ByteArray × ((List (ByteArray × (Int × (Bool × Unit)))) × ((List (List (Bool × ((List (Int × (Int × (Int × (ByteArray × Unit))))) × Unit)))) × Unit))))) (h0 : (cStruct (cCons cBool (cCons cStr (cCons (cSlice (cStruct (cCons cStr (cCons (cInt .i64) (cCons cBool cEnd))))) (cCons (cArr 2 (cArr 4 (cStruct (cCons cBool (cCons (cSlice (cStruct (cCons (cInt .i64) (cCons (cInt .i64) (cCons (cInt .u64) (cCons cStr cEnd)))))) cEnd))))) cEnd))))).rel W (lt W.heap.size) (.agg x0 : Value).cells.toList a0) (x1 : Int) (a1 : Int) (h1 : (cInt .i64).rel W (lt W.heap.size) (.int .i64 x1 : Value).cells.toList a1) (x2 : Array Value) (a2 : Ex) (h2 : cEx.rel W (lt W.heap.size) (.agg x2 : Value).cells.toList a2) (A3 : Option Addr) (n3 c3 : Nat) (a3 : (List (ByteArray × (Ex × Unit)))) (h3 : (cSlice (cStruct (cCons cStr (cCons cEx cEnd)))).rel W (lt W.heap.size) (.slice A3 n3 c3 : Value).cells.toList a3) (hG : ∀ x ∈ gK, RepD p0 (CI W anyI) W (.one (.eptr x.2)) (.pointer (some ⟨x.1, 0, none⟩))) :
    Calls Tryz.prog 6 #[.agg x0, .int .i64 x1, .agg x2, .slice A3 n3 c3] W fun e W' => e = .returned (.bool true) ∧ Below W.heap.size W W' := by
  refine law_trueG' (tableUpdates_fn (tbOf a0) a1 a2 (a3.map seOf) (okTab h0) (okEx h2) (okSets h3)) hG ⟨rfl, fun i d v hd hv => ?_⟩
  match i, hd, hv with
  | 0, hd, hv => cases Option.some.inj hd; cases Option.some.inj hv; exact arg_agg encTab h0
  | 1, hd, hv => cases Option.some.inj hd; cases Option.some.inj hv; exact arg_one (e := eI) (enc_int .i64) h1
  | 2, hd, hv => cases Option.some.inj hd; cases Option.some.inj hv; exact arg_agg encExpr h2
  | 3, hd, hv => cases Option.some.inj hd; cases Option.some.inj hv; exact arg_one encSets h3
  | n + 4, hd, hv => cases hd

end Go.Proofs.YthnadkafegmacaaGreatDoor
