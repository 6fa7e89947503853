/- Rows.StmtShowsSaid: for every input that can be read the law returns true (the frame round the walk). -/
import Derived.Test.YtjabmeffgbaglaaDoorStmtShowsWalk
import Derived.Test.YtjabmeffgbaglaaDoorCards
import Derived.Test.YtjabmeffgbaglaaDoorTie
import Derived.OpenShut
import Derived.Deep.DeepWitnessRowRef
import Derived.Lib.SpaceR
import Derived.Deep.DeepHandedRow
import Derived.Deep.DeepLaidRun
import Derived.Test.YtjabmeffgbaglaaDoorGlob
namespace Go.Proofs.YtjabmeffgbaglaaDoor.lawStmtShows
open Go.ChangeShapes Go.WideShapes Go.ChangeAt Go.RowKit Go.Deep Go.Proofs.YtjabmeffgbaglaaDoor.Ab
theorem steps {W : World} (h : laidMetH Tryd.prog Rows.stmtShowsRow.laid W) : ∀ x ∈ gY, RepD p0 (CI W anyI) W (.one (.eptr x.2)) (.pointer (some ⟨x.1, 0, none⟩)) := by
 have h : laidMet Tryd.prog Rows.stmtShowsRow.laid W := h
 intro x hx
 rcases List.mem_cons.1 hx with rfl | hx
 ·exact glob_reads h (x := Rows.stmtShowsRow.laid[7]) (List.getElem_mem _) (g := 4) (by kernel_rfl) (t := ((Tryd.prog.globals[4]?).map (·.type)).getD 0) (by kernel_rfl) (f := 1000) (es := fsE) (by kernel_rfl) (by kernel_rfl) (by kernel_rfl)
 rcases List.mem_cons.1 hx with rfl | hx
 ·exact glob_reads h (x := Rows.stmtShowsRow.laid[0]) (List.getElem_mem _) (g := 5) (by kernel_rfl) (t := ((Tryd.prog.globals[5]?).map (·.type)).getD 0) (by kernel_rfl) (f := 1000) (es := acE) (by kernel_rfl) (by kernel_rfl) (by kernel_rfl)
 rcases List.mem_cons.1 hx with rfl | hx
 ·exact glob_reads h (x := Rows.stmtShowsRow.laid[2]) (List.getElem_mem _) (g := 3) (by kernel_rfl) (t := ((Tryd.prog.globals[3]?).map (·.type)).getD 0) (by kernel_rfl) (f := 1000) (es := spE) (by kernel_rfl) (by kernel_rfl) (by kernel_rfl)
 rcases List.mem_cons.1 hx with rfl | hx
 ·exact glob_reads h (x := Rows.stmtShowsRow.laid[6]) (List.getElem_mem _) (g := 6) (by kernel_rfl) (t := ((Tryd.prog.globals[6]?).map (·.type)).getD 0) (by kernel_rfl) (f := 1000) (es := mkE) (by kernel_rfl) (by kernel_rfl) (by kernel_rfl)
 rcases List.mem_cons.1 hx with rfl | hx
 ·exact glob_reads h (x := Rows.stmtShowsRow.laid[3]) (List.getElem_mem _) (g := 0) (by kernel_rfl) (t := ((Tryd.prog.globals[0]?).map (·.type)).getD 0) (by kernel_rfl) (f := 1000) (es := kwE) (by kernel_rfl) (by kernel_rfl) (by kernel_rfl)
 rcases List.mem_cons.1 hx with rfl | hx
 ·exact glob_reads h (x := Rows.stmtShowsRow.laid[5]) (List.getElem_mem _) (g := 1) (by kernel_rfl) (t := ((Tryd.prog.globals[1]?).map (·.type)).getD 0) (by kernel_rfl) (f := 1000) (es := rwE) (by kernel_rfl) (by kernel_rfl) (by kernel_rfl)
 rcases List.mem_cons.1 hx with rfl | hx
 ·exact glob_reads h (x := Rows.stmtShowsRow.laid[4]) (List.getElem_mem _) (g := 2) (by kernel_rfl) (t := ((Tryd.prog.globals[2]?).map (·.type)).getD 0) (by kernel_rfl) (f := 1000) (es := awE) (by kernel_rfl) (by kernel_rfl) (by kernel_rfl)
 cases hx
theorem own : ownKnob Tryd.prog.godebug = none := by kernel_rfl
theorem laidOut : laidOutB Tryd.prog = true := by kernel_rfl
def layC (es : List E) : Obj → Obj
 | .cells _ t frozen => .cells (es.map E.vv).toArray t frozen
 | o => o
def putC (cs : Array Value) : Obj → Obj
 | .cells _ t frozen => .cells cs t frozen
 | o => o
def layL (f : Nat → Obj → Obj) : Nat → List Obj → List Obj
 | _, [] => []
 | n, o :: r => f n o :: layL f (n + 1) r
noncomputable def laidWorld (os : Os) : World :=
 let N := (World.settled Tryd.prog os).heap.size
 let w0 := World.holding Tryd.prog os ⟨#[.cells (Lib.whiteT.map fun (z : Nat) => Value.int .u16 (z : Int)).toArray 127, .cells #[.slice (some ⟨N, 0, none⟩) 7 7, .slice none 0 0, .int .i64 2] 124], #[], []⟩
 { w0 with heap := ⟨layL (fun i o => match i with | 0 => layC kwE o | 1 => layC rwE o | 6 => layC mkE o | 4 => layC fsE o | 5 => layC acE o | 2 => layC awE o | 3 => layC spE o | 8 => putC #[.pointer (some ⟨N + 1, 0, none⟩)] o | _ => o) 0 w0.heap.toList⟩ }
def zArgs : Array Value := #[.agg #[.int .i64 0, .int .i64 0, .string .empty, .int .i64 0, .slice none 0 0, .slice none 0 0, .slice none 0 0, .int .i64 0, .int .i64 0, .int .i64 0, .int .u64 0, .string .empty, .string .empty, .slice none 0 0, .slice none 0 0, .int .i64 0, .int .i64 0, .int .i64 0, .int .u64 0, .string .empty, .string .empty, .slice none 0 0, .string .empty, .slice none 0 0, .bool false, .int .i64 0, .int .i64 0, .int .i64 0, .bool false]]
theorem laid1 (os : Os) : (DataW.laidRun Tryd.prog ((laidWorld os).forCall (fun _ _ => 0) ⟨#[], zArgs, []⟩).memory 8 (Rows.stmtShowsRow.laid.map (·.1))).map (·.1) = some Rows.stmtShowsRow.laid := by kernel_rfl
theorem laid2 (os : Os) : (DataW.laidRun Tryd.prog ((laidWorld os).forCall (fun _ _ => 0) ⟨#[], zArgs, []⟩).memory 8 (Rows.stmtShowsRow.laid.map (·.1))).map (fun x => nodupB (x.2.map MemPlace.codeOf)) = some true := by kernel_rfl
theorem laid3 (os : Os) : (DataW.laidRun Tryd.prog ((laidWorld os).forCall (fun _ _ => 0) ⟨#[], zArgs, []⟩).memory 8 (Rows.stmtShowsRow.laid.map (·.1))).map (fun x => laidRowsB Tryd.prog ((laidWorld os).forCall (fun _ _ => 0) ⟨#[], zArgs, []⟩).memory x.2) = some true := by kernel_rfl
theorem laid_met (os : Os) : laidMet Tryd.prog Rows.stmtShowsRow.laid ((laidWorld os).forCall (fun _ _ => 0) ⟨#[], zArgs, []⟩).memory :=
 laidMet_of_run3 8 (laid1 os) (laid2 os) (laid3 os)
end Go.Proofs.YtjabmeffgbaglaaDoor.lawStmtShows
