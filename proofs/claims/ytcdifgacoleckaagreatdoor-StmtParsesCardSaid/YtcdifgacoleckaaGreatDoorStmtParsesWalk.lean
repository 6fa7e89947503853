/- The walk of StmtParses: it returns true, and nothing that was there is turned. -/
import Derived.Test.YtcdifgacoleckaaGreatDoorG04
import Derived.Test.YtcdifgacoleckaaGreatDoorG10
import Derived.Test.YtcdifgacoleckaaGreatDoorG14
namespace Go.Proofs.YtcdifgacoleckaaGreatDoor
open Go.ChangeShapes Go.WideShapes Go.ChangeAt Go.RowKit Go.Deep Go.Proofs.YtcdifgacoleckaaGreatDoor.Ab
theorem walkStmtParses (W : World) (A0 : Option Addr) (n0 c0 : Nat) (a0 : (List (Int × (ByteArray × (Int × (Int × Unit)))))) (h0 : (zD7 (zER (zDv (zLs .i64) (zDv zS6 (zDv (zLs .i64) (zDv (zLs .u64) zS7)))))).rel W (lt W.heap.size) (.slice A0 n0 c0 : Value).cells.toList a0) (hG : ∀ x ∈ gDc, zAy p0 (CI W zPF) W (.one (.eptr x.2)) (.pointer (some ⟨x.1, 0, none⟩))) :
    Calls Tryz.prog 3 #[.slice A0 n0 c0] W fun e W' => e = .returned (.bool true) /\ Below W.heap.size W W' := by
  refine zNn (zM1 (a0.map tOf) (zSR h0)) hG ⟨rfl, fun i d v hd hv => ?_⟩
  match i, hd, hv with
  | 0, hd, hv => cases Option.some.inj hd; cases Option.some.inj hv; exact zTc zSY h0
  | n + 1, hd, hv => cases hd
end Go.Proofs.YtcdifgacoleckaaGreatDoor
