/- The walk of SumAdds: it returns true, and nothing that was there is turned. -/
import Derived.Test.YtmicapdbgjafnaaDoorAbEnc
import Derived.Test.YtmicapdbgjafnaaDoorTSh15
namespace Go.Proofs.YtmicapdbgjafnaaDoor
open Go.ChangeShapes Go.WideShapes Go.ChangeAt Go.RowKit Go.Deep Go.Proofs.YtmicapdbgjafnaaDoor.Ab

theorem walkSumAdds (W : World) (x0 : Array Value) (a0 : ((List Int) × ((List UInt8) × (Int × (Int × Unit))))) (h0 : (cStruct (cCons (cArr 8 (cInt .u32)) (cCons (cArr 64 cByte) (cCons (cInt .i64) (cCons (cInt .i64) cEnd))))).rel W (lt W.heap.size) (.agg x0 : Value).cells.toList a0) (A1 : Option Addr) (n1 c1 : Nat) (a1 : (List UInt8)) (h1 : (cSlice cByte).rel W (lt W.heap.size) (.slice A1 n1 c1 : Value).cells.toList a1) (hG : ∀ x ∈ gK, RepD p0 (CI W anyI) W (.one (.eptr x.2)) (.pointer (some ⟨x.1, 0, none⟩))) :
    Calls Tryd.prog 4 #[.agg x0, .slice A1 n1 c1] W fun e W' => e = .returned (.bool true) ∧ Below W.heap.size W W' := by
  obtain ⟨H, hl, he⟩ := str_of h0
  have hb : a1.length ≤ 9223372036854775807 := by
    obtain ⟨A, n, cap, e1, h2, h3, h4⟩ := h1
    have := h4.1
    have hm : maxLen = 9223372036854775807 := rfl
    omega
  refine law_trueG (adds_fn H a0.2.1 a0.2.2.1 a0.2.2.2.1 hl a1 hb) hG ⟨rfl, fun i d v hd hv => ?_⟩
  rw [← he] at hd
  match i, hd, hv with
  | 0, hd, hv => cases Option.some.inj hd; cases Option.some.inj hv; exact arg_agg (e := strE) (enc_struct (enc_cons (enc_arr 8 (enc_int .u32)) (enc_cons (enc_arr 64 enc_byte) (enc_cons (enc_int .i64) (enc_cons (enc_int .i64) enc_end))))) h0
  | 1, hd, hv => cases Option.some.inj hd; cases Option.some.inj hv; exact arg_one (e := eBytes) (enc_slice enc_byte) h1
  | n + 2, hd, hv => cases hd

end Go.Proofs.YtmicapdbgjafnaaDoor
