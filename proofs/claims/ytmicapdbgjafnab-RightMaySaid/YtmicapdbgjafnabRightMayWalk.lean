/- The walk of RightMay: it returns true, and nothing that was there is turned. -/
import Derived.Test.YtmicapdbgjafnabAbEnc
import Derived.Test.YtmicapdbgjafnabTMay
namespace Go.Proofs.Ytmicapdbgjafnab
open Go.ChangeShapes Go.WideShapes Go.ChangeAt Go.RowKit Go.Deep Go.Proofs.Ytmicapdbgjafnab.Ab

theorem enc_grantRightMay : Enc (cStruct (cCons (cInt .i64) (cCons (cInt .i64) (cCons (cInt .i64) (cCons (cInt .i64) (cCons cBool cEnd)))))) eGr :=
  enc_struct (enc_cons (enc_int .i64) (enc_cons (enc_int .i64) (enc_cons (enc_int .i64) (enc_cons (enc_int .i64) (enc_cons enc_bool enc_end)))))

theorem walkRightMay (W : World) (A0 : Option Addr) (n0 c0 : Nat) (a0 : (List (Int × (Int × (Int × (Int × (Bool × Unit))))))) (h0 : (cSlice (cStruct (cCons (cInt .i64) (cCons (cInt .i64) (cCons (cInt .i64) (cCons (cInt .i64) (cCons cBool cEnd))))))).rel W (lt W.heap.size) (.slice A0 n0 c0 : Value).cells.toList a0) (x1 : Int) (a1 : Int) (h1 : (cInt .i64).rel W (lt W.heap.size) (.int .i64 x1 : Value).cells.toList a1) (x2 : Int) (a2 : Int) (h2 : (cInt .i64).rel W (lt W.heap.size) (.int .i64 x2 : Value).cells.toList a2) (x3 : Int) (a3 : Int) (h3 : (cInt .i64).rel W (lt W.heap.size) (.int .i64 x3 : Value).cells.toList a3) :
    Calls Try.prog 3 #[.slice A0 n0 c0, .int .i64 x1, .int .i64 x2, .int .i64 x3] W fun e W' => e = .returned (.bool true) ∧ Below W.heap.size W W' := by
  refine law_true (rightMay_fn a0 a1 a2 a3) ⟨rfl, fun i d v hd hv => ?_⟩
  match i, hd, hv with
  | 0, hd, hv => cases Option.some.inj hd; cases Option.some.inj hv; exact arg_one (e := eGrs) (enc_slice enc_grantRightMay) h0
  | 1, hd, hv => cases Option.some.inj hd; cases Option.some.inj hv; exact arg_one (e := fun x => .v (.int .i64 x)) (enc_int .i64) h1
  | 2, hd, hv => cases Option.some.inj hd; cases Option.some.inj hv; exact arg_one (e := fun x => .v (.int .i64 x)) (enc_int .i64) h2
  | 3, hd, hv => cases Option.some.inj hd; cases Option.some.inj hv; exact arg_one (e := fun x => .v (.int .i64 x)) (enc_int .i64) h3
  | n + 4, hd, hv => cases hd

end Go.Proofs.Ytmicapdbgjafnab
