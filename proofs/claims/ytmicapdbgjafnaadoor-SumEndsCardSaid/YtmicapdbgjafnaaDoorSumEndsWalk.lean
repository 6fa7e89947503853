/- The walk of SumEnds: it returns true, and nothing that was there is turned. -/
import Derived.Test.YtmicapdbgjafnaaDoorAbEnc
import Derived.Test.YtmicapdbgjafnaaDoorTSh15
namespace Go.Proofs.YtmicapdbgjafnaaDoor
open Go.ChangeShapes Go.WideShapes Go.ChangeAt Go.RowKit Go.Deep Go.Proofs.YtmicapdbgjafnaaDoor.Ab

theorem walkSumEnds (W : World) (x0 : Array Value) (a0 : ((List Int) × ((List UInt8) × (Int × (Int × Unit))))) (h0 : (cStruct (cCons (cArr 8 (cInt .u32)) (cCons (cArr 64 cByte) (cCons (cInt .i64) (cCons (cInt .i64) cEnd))))).rel W (lt W.heap.size) (.agg x0 : Value).cells.toList a0) (hG : ∀ x ∈ gK, RepD p0 (CI W anyI) W (.one (.eptr x.2)) (.pointer (some ⟨x.1, 0, none⟩))) :
    Calls Tryd.prog 5 #[.agg x0] W fun e W' => e = .returned (.bool true) ∧ Below W.heap.size W W' := by
  obtain ⟨H, hl, he⟩ := str_of h0
  refine law_trueG (ends_fn H a0.2.1 a0.2.2.1 a0.2.2.2.1 hl) hG ⟨rfl, fun i d v hd hv => ?_⟩
  rw [← he] at hd
  obtain ⟨rfl, rfl⟩ := single hd
  obtain ⟨_, rfl⟩ := single hv
  exact arg_agg (e := strE) (enc_struct (enc_cons (enc_arr 8 (enc_int .u32)) (enc_cons (enc_arr 64 enc_byte) (enc_cons (enc_int .i64) (enc_cons (enc_int .i64) enc_end))))) h0

end Go.Proofs.YtmicapdbgjafnaaDoor
