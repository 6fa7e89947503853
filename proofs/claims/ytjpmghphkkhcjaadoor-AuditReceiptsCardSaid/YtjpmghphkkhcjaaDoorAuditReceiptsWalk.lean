/- The walk of AuditReceipts: it returns true, and nothing that was there is turned. -/
import Derived.Test.YtjpmghphkkhcjaaDoorAbEnc
import Derived.Test.YtjpmghphkkhcjaaDoorTRoE
namespace Go.Proofs.YtjpmghphkkhcjaaDoor
open Go.ChangeShapes Go.WideShapes Go.ChangeAt Go.RowKit Go.Deep Go.Proofs.YtjpmghphkkhcjaaDoor.Ab

theorem walkAuditReceipts (W : World) (x0 : Int) (a0 : Int) (h0 : (cInt .i64).rel W (lt W.heap.size) (.int .i64 x0 : Value).cells.toList a0) (A1 : Option Addr) (n1 c1 : Nat) (a1 : (List UInt8)) (h1 : (cSlice cByte).rel W (lt W.heap.size) (.slice A1 n1 c1 : Value).cells.toList a1) (x2 : Int) (a2 : Int) (h2 : (cInt .i64).rel W (lt W.heap.size) (.int .i64 x2 : Value).cells.toList a2) (x3 : Int) (a3 : Int) (h3 : (cInt .i64).rel W (lt W.heap.size) (.int .i64 x3 : Value).cells.toList a3) (A4 : Option Addr) (n4 c4 : Nat) (a4 : (List UInt8)) (h4 : (cSlice cByte).rel W (lt W.heap.size) (.slice A4 n4 c4 : Value).cells.toList a4) (x5 : Array Value) (a5 : (Bool × ((List UInt8) × ((List UInt8) × Unit)))) (h5 : (cStruct (cCons cBool (cCons (cSlice cByte) (cCons (cSlice cByte) cEnd)))).rel W (lt W.heap.size) (.agg x5 : Value).cells.toList a5) (A6 : Option Addr) (n6 c6 : Nat) (a6 : (List (List UInt8))) (h6 : (cSlice (cSlice cByte)).rel W (lt W.heap.size) (.slice A6 n6 c6 : Value).cells.toList a6) (hG : ∀ x ∈ gK, RepD p0 (CI W anyI) W (.one (.eptr x.2)) (.pointer (some ⟨x.1, 0, none⟩))) :
    Calls Tryd.prog 12 #[.int .i64 x0, .slice A1 n1 c1, .int .i64 x2, .int .i64 x3, .slice A4 n4 c4, .agg x5, .slice A6 n6 c6] W fun e W' => e = .returned (.bool true) ∧ Below W.heap.size W W' := by
  refine law_trueG (receipts_fn a0 a1 a2 a3 a4 a5 a6) hG ⟨rfl, fun i d v hd hv => ?_⟩
  match i, hd, hv with
  | 0, hd, hv => cases Option.some.inj hd; cases Option.some.inj hv; exact arg_one (e := eI) (enc_int .i64) h0
  | 1, hd, hv => cases Option.some.inj hd; cases Option.some.inj hv; exact arg_one (e := eBytes) (enc_slice (enc_byte)) h1
  | 2, hd, hv => cases Option.some.inj hd; cases Option.some.inj hv; exact arg_one (e := eI) (enc_int .i64) h2
  | 3, hd, hv => cases Option.some.inj hd; cases Option.some.inj hv; exact arg_one (e := eI) (enc_int .i64) h3
  | 4, hd, hv => cases Option.some.inj hd; cases Option.some.inj hv; exact arg_one (e := eBytes) (enc_slice (enc_byte)) h4
  | 5, hd, hv => cases Option.some.inj hd; cases Option.some.inj hv; exact arg_agg (e := eS) (enc_struct (enc_cons (enc_bool) (enc_cons (enc_slice (enc_byte)) (enc_cons (enc_slice (enc_byte)) (enc_end))))) h5
  | 6, hd, hv => cases Option.some.inj hd; cases Option.some.inj hv; exact arg_one (e := eLists) (enc_slice (enc_slice (enc_byte))) h6
  | n + 7, hd, hv => cases hd

end Go.Proofs.YtjpmghphkkhcjaaDoor
