/- Commands as arguments. No condition. -/
import Derived.Test.YtjabmeffgbaglaaDoorEncQ
import Derived.Test.YtjabmeffgbaglaaDoorTStA
namespace Go.Proofs.YtjabmeffgbaglaaDoor
open Go Go.RowKit Go.Proofs.YtjabmeffgbaglaaDoor.Ab
abbrev XSet := ByteArray × Ex × Unit
def stOf (x : XSet) : CSet := ⟨x.1.data.toList, x.2.1⟩
abbrev cSet : Cd XSet := cStruct (cCons cStr (cCons cEx cEnd))
theorem eSet_eq (s : CSet) : eSet s = [eT s.c] ++ (eEx s.x ++ []) := by rw [eEx_eq]; rfl
theorem encSet : Enc cSet (fun x => eSet (stOf x)) :=
 (enc_struct (enc_cons enc_str (enc_cons encExpr enc_end))).of fun {_ _ _ x} _ => (eSet_eq (stOf x)).symm
theorem okSet {w : World} {S : Nat → Prop} {cs : List Value} {x : XSet} (h : cSet.rel w S cs x) : (stOf x).c.length ≤ maxLen ∧ exOk (stOf x).x := by
 obtain ⟨_, _, rfl, ⟨_, h0⟩, _, _, rfl, h1, _⟩ := h
 exact ⟨h0, okEx h1⟩
abbrev XCmd := Int × Int × ByteArray × Int × List (ByteArray × Int × Bool × Unit) × List (Int × Int × Int × ByteArray × Unit) × List XSet × Ex × XQry × Int × Int × Bool × Unit
def cmOf (x : XCmd) : Cmd := ⟨x.1, x.2.1, x.2.2.1.data.toList, x.2.2.2.1, x.2.2.2.2.1.map cOf, x.2.2.2.2.2.1.map vOf, x.2.2.2.2.2.2.1.map stOf, x.2.2.2.2.2.2.2.1, quOf x.2.2.2.2.2.2.2.2.1, x.2.2.2.2.2.2.2.2.2.1, x.2.2.2.2.2.2.2.2.2.2.1, x.2.2.2.2.2.2.2.2.2.2.2.1⟩
abbrev cCmd : Cd XCmd := cStruct (cCons (cInt .i64) (cCons (cInt .i64) (cCons cStr (cCons (cInt .i64) (cCons (cSlice cColm) (cCons (cSlice cVal) (cCons (cSlice cSet) (cCons cEx (cCons cQry (cCons (cInt .i64) (cCons (cInt .i64) (cCons cBool cEnd))))))))))))
theorem encCmd : Enc cCmd (fun x => eCmd (cmOf x)) :=
 (enc_struct (enc_cons (enc_int .i64) (enc_cons (enc_int .i64) (enc_cons enc_str (enc_cons (enc_int .i64) (enc_cons encCols (enc_cons encRow (enc_cons (enc_slice encSet) (enc_cons encExpr (enc_cons encQry (enc_cons (enc_int .i64) (enc_cons (enc_int .i64) (enc_cons enc_bool enc_end))))))))))))).of fun {_ _ _ x} _ => by
  unfold eCmd cmOf
  dsimp only
  rw [eEx_eq, List.map_map]
  rfl
theorem okCmd {w : World} {S : Nat → Prop} {cs : List Value} {x : XCmd} (h : cCmd.rel w S cs x) : (cmOf x).ok := by
 obtain ⟨_, _, rfl, _, _, _, rfl, _, _, _, rfl, ⟨_, h2⟩, _, _, rfl, _, _, _, rfl, h4, _, _, rfl, h5, _, _, rfl, h6, _, _, rfl, h7, _, _, rfl, h8, _⟩ := h
 refine ⟨h2, lenCols h4, okRow h5, ?_, okEx h7, okQry h8, ?_⟩
 ·intro s hs
  obtain ⟨y, hy, rfl⟩ := List.mem_map.1 hs
  exact slice_all okSet h6 y hy
 ·obtain ⟨_, _, rfl, _, _, _, rfl, _, _, _, rfl, ⟨_, h9⟩, _⟩ := h8
  exact h9
end Go.Proofs.YtjabmeffgbaglaaDoor
