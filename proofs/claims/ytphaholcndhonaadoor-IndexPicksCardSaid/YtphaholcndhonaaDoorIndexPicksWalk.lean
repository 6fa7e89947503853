/- The walk of IndexPicks: it returns true, and nothing that was there is turned. -/
import Derived.Test.YtphaholcndhonaaDoorAbEnc
import Derived.Test.YtphaholcndhonaaDoorEncNR
import Derived.Test.YtphaholcndhonaaDoorTLIp
namespace Go.Proofs.YtphaholcndhonaaDoor
open Go.ChangeShapes Go.WideShapes Go.ChangeAt Go.RowKit Go.Deep Go.Proofs.YtphaholcndhonaaDoor.Ab

theorem walkIndexPicks (W : World) (x0 : Array Value) (a0 : ((List ((List ByteArray) × ((List Int) × ((List Int) × Unit)))) × Unit)) (h0 : (cStruct (cCons (cSlice (cStruct (cCons (cSlice cStr) (cCons (cSlice (cInt .i64)) (cCons (cSlice (cInt .i64)) cEnd))))) cEnd)).rel W (lt W.heap.size) (.agg x0 : Value).cells.toList a0) (x1 : Array Value) (a1 : (Int × (Int × Unit))) (h1 : (cStruct (cCons (cInt .i64) (cCons (cInt .i64) cEnd))).rel W (lt W.heap.size) (.agg x1 : Value).cells.toList a1) (hG : ∀ x ∈ gK, RepD p0 (CI W anyI) W (.one (.eptr x.2)) (.pointer (some ⟨x.1, 0, none⟩))) :
    Calls Tryd.prog 9 #[.agg x0, .agg x1] W fun e W' => e = .returned (.bool true) ∧ Below W.heap.size W W' := by
  refine law_trueG' (indexPicks_fn (Tr.trOf a0) (Tr.lenTree h0) a1.1 a1.2.1) hG ⟨rfl, fun i d v hd hv => ?_⟩
  match i, hd, hv with
  | 0, hd, hv => cases Option.some.inj hd; cases Option.some.inj hv; exact arg_agg Tr.encTree h0
  | 1, hd, hv => cases Option.some.inj hd; cases Option.some.inj hv; exact arg_agg (e := (fun x => eRg2 x.1 x.2.1)) (enc_struct (enc_cons (enc_int .i64) (enc_cons (enc_int .i64) (enc_end)))) h1
  | n + 2, hd, hv => cases hd

end Go.Proofs.YtphaholcndhonaaDoor
