/- Rows and columns as arguments. No condition. -/
import Derived.Test.YtjabmeffgbaglaaDoorEncV
import Derived.Test.YtjabmeffgbaglaaDoorTKinA
namespace Go.Proofs.YtjabmeffgbaglaaDoor
open Go Go.RowKit Go.Proofs.YtjabmeffgbaglaaDoor.Ab
def cOf (x : ByteArray × Int × Bool × Unit) : Colm := ⟨x.1.data.toList, x.2.1, x.2.2.1⟩
abbrev cColm : Cd (ByteArray × Int × Bool × Unit) := cStruct (cCons cStr (cCons (cInt .i64) (cCons cBool cEnd)))
theorem encColm : Enc cColm (fun x => eCol (cOf x)) := enc_struct (enc_cons enc_str (enc_cons (enc_int .i64) (enc_cons enc_bool enc_end)))
theorem lenColm {w : World} {S : Nat → Prop} {cs : List Value} {x : ByteArray × Int × Bool × Unit} (h : cColm.rel w S cs x) : (cOf x).n.length ≤ maxLen := by
 obtain ⟨_, _, rfl, ⟨_, h1⟩, _⟩ := h
 exact h1
theorem encCols : Enc (cSlice cColm) (fun xs => [eCols (xs.map cOf)]) :=
 (enc_slice encColm).of fun {w S cs x} _ => by unfold eCols; rw [List.map_map]; rfl
theorem lenCols {w : World} {S : Nat → Prop} {cs : List Value} {xs : List (ByteArray × Int × Bool × Unit)} (h : (cSlice cColm).rel w S cs xs) : ∀ c ∈ xs.map cOf, c.n.length ≤ maxLen := by
 intro c hc
 obtain ⟨x, hx, rfl⟩ := List.mem_map.1 hc
 exact slice_all lenColm h x hx
theorem encRow : Enc (cSlice cVal) (fun xs => [eRow (xs.map vOf)]) :=
 (enc_slice encVal).of fun {w S cs x} _ => by unfold eRow; rw [List.map_map]; rfl
theorem okRow {w : World} {S : Nat → Prop} {cs : List Value} {xs : List (Int × Int × Int × ByteArray × Unit)} (h : (cSlice cVal).rel w S cs xs) : ∀ v ∈ xs.map vOf, v.ok := by
 intro c hc
 obtain ⟨x, hx, rfl⟩ := List.mem_map.1 hc
 exact slice_all okVal h x hx
end Go.Proofs.YtjabmeffgbaglaaDoor
