/- The walk of TreeLists: it returns true, and nothing that was there is turned. -/
import Derived.Test.YtphaholcndhonaaAbEnc
import Derived.Test.YtphaholcndhonaaEncN
import Derived.Test.YtphaholcndhonaaTLTl
namespace Go.Proofs.Ytphaholcndhonaa
open Go.ChangeShapes Go.WideShapes Go.ChangeAt Go.RowKit Go.Deep Go.Proofs.Ytphaholcndhonaa.Ab

theorem walkTreeLists (W : World) (x0 : Array Value) (a0 : ((List ((List ByteArray) × ((List Int) × ((List Int) × Unit)))) × Unit)) (h0 : (cStruct (cCons (cSlice (cStruct (cCons (cSlice cStr) (cCons (cSlice (cInt .i64)) (cCons (cSlice (cInt .i64)) cEnd))))) cEnd)).rel W (lt W.heap.size) (.agg x0 : Value).cells.toList a0) (x1 : ByteArray) (a1 : ByteArray) (h1 : cStr.rel W (lt W.heap.size) (.string x1 : Value).cells.toList a1) (x2 : ByteArray) (a2 : ByteArray) (h2 : cStr.rel W (lt W.heap.size) (.string x2 : Value).cells.toList a2) :
    Calls Try.prog 4 #[.agg x0, .string x1, .string x2] W fun e W' => e = .returned (.bool true) ∧ Below W.heap.size W W' := by
  refine law_true (treeLists_fn (trOf a0) (lenTree h0) a1.data.toList a2.data.toList (lenKy h1) (lenKy h2)) ⟨rfl, fun i d v hd hv => ?_⟩
  match i, hd, hv with
  | 0, hd, hv => cases Option.some.inj hd; cases Option.some.inj hv; exact arg_agg encTree h0
  | 1, hd, hv => cases Option.some.inj hd; cases Option.some.inj hv; exact arg_one encKy h1
  | 2, hd, hv => cases Option.some.inj hd; cases Option.some.inj hv; exact arg_one encKy h2
  | n + 3, hd, hv => cases hd

end Go.Proofs.Ytphaholcndhonaa
