/- The walk of RightGives: it returns true, and nothing that was there is turned. -/
import Derived.Test.YtmicapdbgjafnabAbEnc
import Derived.Test.YtmicapdbgjafnabTGiveL
namespace Go.Proofs.Ytmicapdbgjafnab
open Go.ChangeShapes Go.WideShapes Go.ChangeAt Go.RowKit Go.Deep Go.Proofs.Ytmicapdbgjafnab.Ab

theorem enc_grantRightGives : Enc (cStruct (cCons (cInt .i64) (cCons (cInt .i64) (cCons (cInt .i64) (cCons (cInt .i64) (cCons cBool cEnd)))))) eGr :=
  enc_struct (enc_cons (enc_int .i64) (enc_cons (enc_int .i64) (enc_cons (enc_int .i64) (enc_cons (enc_int .i64) (enc_cons enc_bool enc_end)))))

theorem walkRightGives (W : World) (A0 : Option Addr) (n0 c0 : Nat) (a0 : (List (Int × (Int × (Int × (Int × (Bool × Unit))))))) (h0 : (cSlice (cStruct (cCons (cInt .i64) (cCons (cInt .i64) (cCons (cInt .i64) (cCons (cInt .i64) (cCons cBool cEnd))))))).rel W (lt W.heap.size) (.slice A0 n0 c0 : Value).cells.toList a0) (x1 : Array Value) (a1 : (Int × (Int × (Int × (Int × (Bool × Unit)))))) (h1 : (cStruct (cCons (cInt .i64) (cCons (cInt .i64) (cCons (cInt .i64) (cCons (cInt .i64) (cCons cBool cEnd)))))).rel W (lt W.heap.size) (.agg x1 : Value).cells.toList a1) :
    Calls Try.prog 5 #[.slice A0 n0 c0, .agg x1] W fun e W' => e = .returned (.bool true) ∧ Below W.heap.size W W' := by
  refine law_true (rightGives_fn a0 a1) ⟨rfl, fun i d v hd hv => ?_⟩
  match i, hd, hv with
  | 0, hd, hv => cases Option.some.inj hd; cases Option.some.inj hv; exact arg_one (e := eGrs) (enc_slice enc_grantRightGives) h0
  | 1, hd, hv => cases Option.some.inj hd; cases Option.some.inj hv; exact arg_agg (e := eGr) enc_grantRightGives h1
  | n + 2, hd, hv => cases hd

end Go.Proofs.Ytmicapdbgjafnab
