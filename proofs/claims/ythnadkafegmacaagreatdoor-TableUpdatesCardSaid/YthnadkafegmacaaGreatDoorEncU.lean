/- What an UPDATE sets, as arguments. No condition. -/
import Derived.Test.YthnadkafegmacaaGreatDoorEncX
import Derived.Test.YthnadkafegmacaaGreatDoorTUpA
namespace Go.Proofs.YthnadkafegmacaaGreatDoor
open Go Go.RowKit Go.Proofs.YthnadkafegmacaaGreatDoor.Ab

abbrev XSet := ByteArray × Ex × Unit
def seOf (x : XSet) : USet := ⟨x.1.data.toList, x.2.1⟩
abbrev cSet : Cd XSet := cStruct (cCons cStr (cCons cEx cEnd))
theorem eUs_eq (s : USet) : eUs s = [eT s.c] ++ (eEx s.x ++ []) := by rw [eEx_eq]; rfl
theorem encSet : Enc cSet (fun x => eUs (seOf x)) :=
  (enc_struct (enc_cons enc_str (enc_cons encExpr enc_end))).of fun {_ _ _ x} _ => (eUs_eq (seOf x)).symm
theorem encSets : Enc (cSlice cSet) (fun l => [E.sl ((l.map seOf).map eUs)]) :=
  (enc_slice encSet).of fun {_ _ _ x} _ => by rw [List.map_map]; rfl
theorem okSet {w : World} {S : Nat → Prop} {cs : List Value} {x : XSet} (h : cSet.rel w S cs x) : exOk (seOf x).x := by
  obtain ⟨_, _, rfl, _, _, _, rfl, h1, _⟩ := h
  exact okEx h1
theorem okSets {w : World} {S : Nat → Prop} {cs : List Value} {l : List XSet} (h : (cSlice cSet).rel w S cs l) : ∀ s ∈ l.map seOf, exOk s.x := by
  intro s hs
  obtain ⟨y, hy, rfl⟩ := List.mem_map.1 hs
  exact slice_all okSet h y hy
end Go.Proofs.YthnadkafegmacaaGreatDoor
