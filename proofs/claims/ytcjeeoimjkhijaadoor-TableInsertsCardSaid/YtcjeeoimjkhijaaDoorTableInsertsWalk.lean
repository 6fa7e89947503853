/- The walk of TableInserts: it returns true, and nothing that was there is turned. -/
import Derived.Test.YtcjeeoimjkhijaaDoorAbEnc
import Derived.Test.YtcjeeoimjkhijaaDoorEncB
import Derived.Test.YtcjeeoimjkhijaaDoorTLTi
namespace Go.Proofs.YtcjeeoimjkhijaaDoor
open Go.ChangeShapes Go.WideShapes Go.ChangeAt Go.RowKit Go.Deep Go.Proofs.YtcjeeoimjkhijaaDoor.Ab

theorem walkTableInserts (W : World) (x0 : Array Value) (a0 : (Bool × (ByteArray × ((List (ByteArray × (Int × (Bool × Unit)))) × ((List (List (Bool × ((List (Int × (Int × (Int × (ByteArray × Unit))))) × Unit)))) × Unit))))) (h0 : (cStruct (cCons cBool (cCons cStr (cCons (cSlice (cStruct (cCons cStr (cCons (cInt .i64) (cCons cBool cEnd))))) (cCons (cArr 2 (cArr 4 (cStruct (cCons cBool (cCons (cSlice (cStruct (cCons (cInt .i64) (cCons (cInt .i64) (cCons (cInt .u64) (cCons cStr cEnd)))))) cEnd))))) cEnd))))).rel W (lt W.heap.size) (.agg x0 : Value).cells.toList a0) (x1 : Int) (a1 : Int) (h1 : (cInt .i64).rel W (lt W.heap.size) (.int .i64 x1 : Value).cells.toList a1) (A2 : Option Addr) (n2 c2 : Nat) (a2 : (List (Int × (Int × (Int × (ByteArray × Unit)))))) (h2 : (cSlice (cStruct (cCons (cInt .i64) (cCons (cInt .i64) (cCons (cInt .u64) (cCons cStr cEnd)))))).rel W (lt W.heap.size) (.slice A2 n2 c2 : Value).cells.toList a2) (hG : ∀ x ∈ gK, RepD p0 (CI W anyI) W (.one (.eptr x.2)) (.pointer (some ⟨x.1, 0, none⟩))) :
    Calls Tryd.prog 7 #[.agg x0, .int .i64 x1, .slice A2 n2 c2] W fun e W' => e = .returned (.bool true) ∧ Below W.heap.size W W' := by
  refine law_trueG' (tableInserts_fn (tbOf a0) a1 (a2.map vOf) (okTab h0) (fitRow h2)) hG ⟨rfl, fun i d v hd hv => ?_⟩
  match i, hd, hv with
  | 0, hd, hv => cases Option.some.inj hd; cases Option.some.inj hv; exact arg_agg encTab h0
  | 1, hd, hv => cases Option.some.inj hd; cases Option.some.inj hv; exact arg_one (e := eI) (enc_int .i64) h1
  | 2, hd, hv => cases Option.some.inj hd; cases Option.some.inj hv; exact arg_one encRow h2
  | n + 3, hd, hv => cases hd

end Go.Proofs.YtcjeeoimjkhijaaDoor
