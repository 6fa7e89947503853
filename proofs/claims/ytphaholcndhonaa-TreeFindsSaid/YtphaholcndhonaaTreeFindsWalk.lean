/- The walk of TreeFinds: it returns true, and nothing that was there is turned. -/
import Derived.Test.YtphaholcndhonaaAbEnc
import Derived.Test.YtphaholcndhonaaEncN
import Derived.Test.YtphaholcndhonaaTLTf
namespace Go.Proofs.Ytphaholcndhonaa
open Go.ChangeShapes Go.WideShapes Go.ChangeAt Go.RowKit Go.Deep Go.Proofs.Ytphaholcndhonaa.Ab

theorem walkTreeFinds (W : World) (x0 : Array Value) (a0 : ((List ((List ByteArray) × ((List Int) × ((List Int) × Unit)))) × Unit)) (h0 : (cStruct (cCons (cSlice (cStruct (cCons (cSlice cStr) (cCons (cSlice (cInt .i64)) (cCons (cSlice (cInt .i64)) cEnd))))) cEnd)).rel W (lt W.heap.size) (.agg x0 : Value).cells.toList a0) (x1 : ByteArray) (a1 : ByteArray) (h1 : cStr.rel W (lt W.heap.size) (.string x1 : Value).cells.toList a1) :
    Calls Try.prog 6 #[.agg x0, .string x1] W fun e W' => e = .returned (.bool true) ∧ Below W.heap.size W W' := by
  refine law_true (treeFinds_fn (trOf a0) (lenTree h0) a1.data.toList (lenKy h1)) ⟨rfl, fun i d v hd hv => ?_⟩
  match i, hd, hv with
  | 0, hd, hv => cases Option.some.inj hd; cases Option.some.inj hv; exact arg_agg encTree h0
  | 1, hd, hv => cases Option.some.inj hd; cases Option.some.inj hv; exact arg_one encKy h1
  | n + 2, hd, hv => cases hd

end Go.Proofs.Ytphaholcndhonaa
