/- The walk of TableHolds: it returns true, and nothing that was there is turned. -/
import Derived.Test.YthnadkafegmacaaDoorAbEnc
import Derived.Test.YthnadkafegmacaaDoorEncX
import Derived.Test.YthnadkafegmacaaDoorEncC
import Derived.Test.YthnadkafegmacaaDoorTLTh
namespace Go.Proofs.YthnadkafegmacaaDoor
open Go.ChangeShapes Go.WideShapes Go.ChangeAt Go.RowKit Go.Deep Go.Proofs.YthnadkafegmacaaDoor.Ab

theorem walkTableHolds (W : World) (x0 : Array Value) (a0 : Ex) (h0 : cEx.rel W (lt W.heap.size) (.agg x0 : Value).cells.toList a0) (A1 : Option Addr) (n1 c1 : Nat) (a1 : (List (ByteArray × (Int × (Bool × Unit))))) (h1 : (cSlice (cStruct (cCons cStr (cCons (cInt .i64) (cCons cBool cEnd))))).rel W (lt W.heap.size) (.slice A1 n1 c1 : Value).cells.toList a1) (A2 : Option Addr) (n2 c2 : Nat) (a2 : (List (Int × (Int × (Int × (ByteArray × Unit)))))) (h2 : (cSlice (cStruct (cCons (cInt .i64) (cCons (cInt .i64) (cCons (cInt .u64) (cCons cStr cEnd)))))).rel W (lt W.heap.size) (.slice A2 n2 c2 : Value).cells.toList a2) (hG : ∀ x ∈ gK, RepD p0 (CI W anyI) W (.one (.eptr x.2)) (.pointer (some ⟨x.1, 0, none⟩))) :
    Calls Tryd.prog 10 #[.agg x0, .slice A1 n1 c1, .slice A2 n2 c2] W fun e W' => e = .returned (.bool true) ∧ Below W.heap.size W W' := by
  refine law_trueG' (tableHolds_fn a0 (a1.map cOf) (a2.map vOf) (okEx h0) (lenCols h1) (okRow h2)) hG ⟨rfl, fun i d v hd hv => ?_⟩
  match i, hd, hv with
  | 0, hd, hv => cases Option.some.inj hd; cases Option.some.inj hv; exact arg_agg encExpr h0
  | 1, hd, hv => cases Option.some.inj hd; cases Option.some.inj hv; exact arg_one encCols h1
  | 2, hd, hv => cases Option.some.inj hd; cases Option.some.inj hv; exact arg_one encRow h2
  | n + 3, hd, hv => cases hd

end Go.Proofs.YthnadkafegmacaaDoor
