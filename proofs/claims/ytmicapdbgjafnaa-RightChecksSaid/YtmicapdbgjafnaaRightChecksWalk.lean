/- The walk of RightChecks: it returns true, and nothing that was there is turned. -/
import Derived.Test.YtmicapdbgjafnaaAbEnc
import Derived.Test.YtmicapdbgjafnaaTRc
namespace Go.Proofs.Ytmicapdbgjafnaa
open Go.ChangeShapes Go.WideShapes Go.ChangeAt Go.RowKit Go.Deep Go.Proofs.Ytmicapdbgjafnaa.Ab

theorem enc_grantRightChecks : Enc (cStruct (cCons (cInt .i64) (cCons (cInt .i64) (cCons (cInt .i64) (cCons (cInt .i64) (cCons cBool cEnd)))))) eGr :=
  enc_struct (enc_cons (enc_int .i64) (enc_cons (enc_int .i64) (enc_cons (enc_int .i64) (enc_cons (enc_int .i64) (enc_cons enc_bool enc_end)))))

theorem walkRightChecks (W : World) (A0 : Option Addr) (n0 c0 : Nat) (a0 : (List (Int × (Int × (Int × (Int × (Bool × Unit))))))) (h0 : (cSlice (cStruct (cCons (cInt .i64) (cCons (cInt .i64) (cCons (cInt .i64) (cCons (cInt .i64) (cCons cBool cEnd))))))).rel W (lt W.heap.size) (.slice A0 n0 c0 : Value).cells.toList a0) :
    Calls Try.prog 5 #[.slice A0 n0 c0] W fun e W' => e = .returned (.bool true) ∧ Below W.heap.size W W' := by
  refine law_true (rightChecks_fn a0) ⟨rfl, fun i d v hd hv => ?_⟩
  obtain ⟨rfl, rfl⟩ := single hd
  obtain ⟨_, rfl⟩ := single hv
  exact arg_one (e := eGrs) (enc_slice enc_grantRightChecks) h0

end Go.Proofs.Ytmicapdbgjafnaa
