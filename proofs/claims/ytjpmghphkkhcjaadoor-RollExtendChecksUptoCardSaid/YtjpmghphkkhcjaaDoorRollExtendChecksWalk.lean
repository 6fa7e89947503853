/- The walk of RollExtendChecks: it returns true, and nothing that was there is turned. -/
import Derived.Test.YtjpmghphkkhcjaaDoorAbEnc
import Derived.Test.YtjpmghphkkhcjaaDoorTRoD
namespace Go.Proofs.YtjpmghphkkhcjaaDoor
open Go.ChangeShapes Go.WideShapes Go.ChangeAt Go.RowKit Go.Deep Go.Proofs.YtjpmghphkkhcjaaDoor.Ab

theorem walkRollExtendChecks (W : World) (x0 : Int) (a0 : Int) (h0 : (cInt .i64).rel W (lt W.heap.size) (.int .i64 x0 : Value).cells.toList a0) (A1 : Option Addr) (n1 c1 : Nat) (a1 : (List UInt8)) (h1 : (cSlice cByte).rel W (lt W.heap.size) (.slice A1 n1 c1 : Value).cells.toList a1) (x2 : Int) (a2 : Int) (h2 : (cInt .i64).rel W (lt W.heap.size) (.int .i64 x2 : Value).cells.toList a2) (A3 : Option Addr) (n3 c3 : Nat) (a3 : (List UInt8)) (h3 : (cSlice cByte).rel W (lt W.heap.size) (.slice A3 n3 c3 : Value).cells.toList a3) (x4 : Int) (a4 : Int) (h4 : (cInt .i64).rel W (lt W.heap.size) (.int .i64 x4 : Value).cells.toList a4) (A5 : Option Addr) (n5 c5 : Nat) (a5 : (List (List UInt8))) (h5 : (cSlice (cSlice cByte)).rel W (lt W.heap.size) (.slice A5 n5 c5 : Value).cells.toList a5) (hk : (cInt .i64).bulk a0 + (cSlice cByte).bulk a1 + (cInt .i64).bulk a2 + (cSlice cByte).bulk a3 + (cInt .i64).bulk a4 + (cSlice (cSlice cByte)).bulk a5 ≤ 1048576) (hG : ∀ x ∈ gK, RepD p0 (CI W anyI) W (.one (.eptr x.2)) (.pointer (some ⟨x.1, 0, none⟩))) :
    Calls Tryd.prog 8 #[.int .i64 x0, .slice A1 n1 c1, .int .i64 x2, .slice A3 n3 c3, .int .i64 x4, .slice A5 n5 c5] W fun e W' => e = .returned (.bool true) ∧ Below W.heap.size W W' := by
  have hb := bulk_long (cSlice cByte) a5 (fun _ => Nat.le_add_left 1 _)
  refine law_trueG (extendChecks_fn a0 a1 a2 a3 a4 a5 (by omega)) hG ⟨rfl, fun i d v hd hv => ?_⟩
  match i, hd, hv with
  | 0, hd, hv => cases Option.some.inj hd; cases Option.some.inj hv; exact arg_one (e := eI) (enc_int .i64) h0
  | 1, hd, hv => cases Option.some.inj hd; cases Option.some.inj hv; exact arg_one (e := eBytes) (enc_slice (enc_byte)) h1
  | 2, hd, hv => cases Option.some.inj hd; cases Option.some.inj hv; exact arg_one (e := eI) (enc_int .i64) h2
  | 3, hd, hv => cases Option.some.inj hd; cases Option.some.inj hv; exact arg_one (e := eBytes) (enc_slice (enc_byte)) h3
  | 4, hd, hv => cases Option.some.inj hd; cases Option.some.inj hv; exact arg_one (e := eI) (enc_int .i64) h4
  | 5, hd, hv => cases Option.some.inj hd; cases Option.some.inj hv; exact arg_one (e := eLists) (enc_slice (enc_slice (enc_byte))) h5
  | n + 6, hd, hv => cases hd

end Go.Proofs.YtjpmghphkkhcjaaDoor
