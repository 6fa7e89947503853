/- Rows.StmtParsesSaid: for every input that can be read the law returns true (the frame round the walk). -/
import Derived.Test.YtcdifgacoleckaaGreatDoorStmtParsesWalk
import Derived.Test.YtcdifgacoleckaaGreatDoorCards
import Derived.Test.YtcdifgacoleckaaGreatDoorTie
import Derived.OpenShut
import Derived.Deep.DeepWitnessRowRef
import Derived.Lib.SpaceR
import Derived.Deep.DeepHandedRow
import Derived.Deep.DeepLaidRun
import Derived.Test.YtcdifgacoleckaaGreatDoorG14
namespace Go.Proofs.YtcdifgacoleckaaGreatDoor.lawStmtParses
open Go.ChangeShapes Go.WideShapes Go.ChangeAt Go.RowKit Go.Deep Go.Proofs.YtcdifgacoleckaaGreatDoor.Ab
theorem steps {W : World} (h : laidMetH Tryz.prog Rows.stmtParsesRow.laid W) : ∀ x ∈ gDc, zAy p0 (CI W zPF) W (.one (.eptr x.2)) (.pointer (some ⟨x.1, 0, none⟩)) := by
  have h : laidMet Tryz.prog Rows.stmtParsesRow.laid W := h
  intro x hx
  rcases List.mem_cons.1 hx with rfl | hx
  · exact zCk h (x := Rows.stmtParsesRow.laid[3]) (List.getElem_mem _) (g := 0) (by kernel_rfl) (t := ((Tryz.prog.globals[0]?).map (·.type)).getD 0) (by kernel_rfl) (f := 1000) (es := kwE) (by kernel_rfl) (by kernel_rfl) (by kernel_rfl)
  rcases List.mem_cons.1 hx with rfl | hx
  · exact zCk h (x := Rows.stmtParsesRow.laid[4]) (List.getElem_mem _) (g := 1) (by kernel_rfl) (t := ((Tryz.prog.globals[1]?).map (·.type)).getD 0) (by kernel_rfl) (f := 1000) (es := agE) (by kernel_rfl) (by kernel_rfl) (by kernel_rfl)
  rcases List.mem_cons.1 hx with rfl | hx
  · exact zCk h (x := Rows.stmtParsesRow.laid[5]) (List.getElem_mem _) (g := 2) (by kernel_rfl) (t := ((Tryz.prog.globals[2]?).map (·.type)).getD 0) (by kernel_rfl) (f := 1000) (es := rgE) (by kernel_rfl) (by kernel_rfl) (by kernel_rfl)
  rcases List.mem_cons.1 hx with rfl | hx
  · exact zCk h (x := Rows.stmtParsesRow.laid[2]) (List.getElem_mem _) (g := 3) (by kernel_rfl) (t := ((Tryz.prog.globals[3]?).map (·.type)).getD 0) (by kernel_rfl) (f := 1000) (es := spE) (by kernel_rfl) (by kernel_rfl) (by kernel_rfl)
  rcases List.mem_cons.1 hx with rfl | hx
  · exact zCk h (x := Rows.stmtParsesRow.laid[6]) (List.getElem_mem _) (g := 4) (by kernel_rfl) (t := ((Tryz.prog.globals[4]?).map (·.type)).getD 0) (by kernel_rfl) (f := 1000) (es := mkE) (by kernel_rfl) (by kernel_rfl) (by kernel_rfl)
  rcases List.mem_cons.1 hx with rfl | hx
  · exact zCk h (x := Rows.stmtParsesRow.laid[7]) (List.getElem_mem _) (g := 5) (by kernel_rfl) (t := ((Tryz.prog.globals[5]?).map (·.type)).getD 0) (by kernel_rfl) (f := 1000) (es := fsE) (by kernel_rfl) (by kernel_rfl) (by kernel_rfl)
  rcases List.mem_cons.1 hx with rfl | hx
  · exact zCk h (x := Rows.stmtParsesRow.laid[0]) (List.getElem_mem _) (g := 6) (by kernel_rfl) (t := ((Tryz.prog.globals[6]?).map (·.type)).getD 0) (by kernel_rfl) (f := 1000) (es := acE) (by kernel_rfl) (by kernel_rfl) (by kernel_rfl)
  cases hx
theorem own : ownKnob Tryz.prog.godebug = none := by kernel_rfl
theorem laidOut : laidOutB Tryz.prog = true := by kernel_rfl
def layC (es : List E) : Obj -> Obj
  | .cells _ t frozen => .cells (es.map E.vv).toArray t frozen
  | o => o
def putC (cs : Array Value) : Obj -> Obj
  | .cells _ t frozen => .cells cs t frozen
  | o => o
def layL (f : Nat -> Obj -> Obj) : Nat -> List Obj -> List Obj
  | _, [] => []
  | n, o :: r => f n o :: layL f (n + 1) r
noncomputable def laidWorld (os : Os) : World :=
  let N := (World.settled Tryz.prog os).heap.size
  let w0 := World.holding Tryz.prog os ⟨#[.cells (Lib.whiteT.map fun (z : Nat) => Value.int .u16 (z : Int)).toArray 155, .cells #[.slice (some ⟨N, 0, none⟩) 7 7, .slice none 0 0, .int .i64 2] 152], #[], []⟩
  { w0 with heap := ⟨layL (fun i o => match i with | 0 => layC kwE o | 1 => layC agE o | 2 => layC rgE o | 3 => layC spE o | 4 => layC mkE o | 5 => layC fsE o | 6 => layC acE o | 8 => putC #[.pointer (some ⟨N + 1, 0, none⟩)] o | _ => o) 0 w0.heap.toList⟩ }
def zArgs : Array Value := #[.slice none 0 0]
theorem laid1 (os : Os) : (DataW.laidRun Tryz.prog ((laidWorld os).forCall (fun _ _ => 0) ⟨#[], zArgs, []⟩).memory 8 (Rows.stmtParsesRow.laid.map (·.1))).map (·.1) = some Rows.stmtParsesRow.laid := by kernel_rfl
theorem laid2 (os : Os) : (DataW.laidRun Tryz.prog ((laidWorld os).forCall (fun _ _ => 0) ⟨#[], zArgs, []⟩).memory 8 (Rows.stmtParsesRow.laid.map (·.1))).map (fun x => nodupB (x.2.map MemPlace.codeOf)) = some true := by kernel_rfl
theorem laid3 (os : Os) : (DataW.laidRun Tryz.prog ((laidWorld os).forCall (fun _ _ => 0) ⟨#[], zArgs, []⟩).memory 8 (Rows.stmtParsesRow.laid.map (·.1))).map (fun x => laidRowsB Tryz.prog ((laidWorld os).forCall (fun _ _ => 0) ⟨#[], zArgs, []⟩).memory x.2) = some true := by kernel_rfl
theorem laid_met (os : Os) : laidMet Tryz.prog Rows.stmtParsesRow.laid ((laidWorld os).forCall (fun _ _ => 0) ⟨#[], zArgs, []⟩).memory :=
  laidMet_of_run3 8 (laid1 os) (laid2 os) (laid3 os)
end Go.Proofs.YtcdifgacoleckaaGreatDoor.lawStmtParses
