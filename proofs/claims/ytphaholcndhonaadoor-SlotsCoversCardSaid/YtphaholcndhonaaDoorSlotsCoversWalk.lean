/- The walk of SlotsCovers: it returns true, and nothing that was there is turned. -/
import Derived.Test.YtphaholcndhonaaDoorAbEnc
import Derived.Test.YtphaholcndhonaaDoorTCvA
namespace Go.Proofs.YtphaholcndhonaaDoor
open Go.ChangeShapes Go.WideShapes Go.ChangeAt Go.RowKit Go.Deep Go.Proofs.YtphaholcndhonaaDoor.Ab

theorem walkSlotsCovers (W : World) (x0 : Int) (a0 : Int) (h0 : (cInt .i64).rel W (lt W.heap.size) (.int .i64 x0 : Value).cells.toList a0) (A1 : Option Addr) (n1 c1 : Nat) (a1 : (List (Bool × ((List UInt8) × ((List UInt8) × Unit))))) (h1 : (cSlice (cStruct (cCons cBool (cCons (cSlice cByte) (cCons (cSlice cByte) cEnd))))).rel W (lt W.heap.size) (.slice A1 n1 c1 : Value).cells.toList a1) (A2 : Option Addr) (n2 c2 : Nat) (a2 : (List Bool)) (h2 : (cSlice cBool).rel W (lt W.heap.size) (.slice A2 n2 c2 : Value).cells.toList a2) (hG : ∀ x ∈ gK, RepD p0 (CI W anyI) W (.one (.eptr x.2)) (.pointer (some ⟨x.1, 0, none⟩))) :
    Calls Tryd.prog 4 #[.int .i64 x0, .slice A1 n1 c1, .slice A2 n2 c2] W fun e W' => e = .returned (.bool true) ∧ Below W.heap.size W W' := by
  refine law_trueG (slotsCovers_fn a0 a1 a2) hG ⟨rfl, fun i d v hd hv => ?_⟩
  match i, hd, hv with
  | 0, hd, hv => cases Option.some.inj hd; cases Option.some.inj hv; exact arg_one (e := eI) (enc_int .i64) h0
  | 1, hd, hv => cases Option.some.inj hd; cases Option.some.inj hv; exact arg_one (e := eSlots) (enc_slice (e := eS) (enc_struct (enc_cons (enc_bool) (enc_cons (enc_slice (enc_byte)) (enc_cons (enc_slice (enc_byte)) (enc_end)))))) h1
  | 2, hd, hv => cases Option.some.inj hd; cases Option.some.inj hv; exact arg_one (e := eBools) (enc_slice (enc_bool)) h2
  | n + 3, hd, hv => cases hd

end Go.Proofs.YtphaholcndhonaaDoor
