/- Replies as arguments. No condition. -/
import Derived.Test.YtekdhbekliajjaaDoorEncC
import Derived.Test.YtekdhbekliajjaaDoorTWt
namespace Go.Proofs.YtekdhbekliajjaaDoor
open Go Go.RowKit Go.Proofs.YtekdhbekliajjaaDoor.Ab

abbrev XRpl := Int × Int × List (List (Int × Int × Int × ByteArray × Unit)) × Unit
def rpOf (x : XRpl) : Rpl := ⟨x.1, x.2.1, x.2.2.1.map fun r => r.map vOf⟩
abbrev cRpl : Cd XRpl := cStruct (cCons (cInt .i64) (cCons (cInt .i64) (cCons (cSlice (cSlice cVal)) cEnd)))
theorem encRpl : Enc cRpl (fun x => eRpl (rpOf x)) :=
  (enc_struct (enc_cons (enc_int .i64) (enc_cons (enc_int .i64) (enc_cons (enc_slice encRow) enc_end)))).of fun {_ _ _ x} _ => by
    unfold eRpl rpOf
    rw [List.map_map]
    rfl
theorem okRpl {w : World} {S : Nat → Prop} {cs : List Value} {x : XRpl} (h : cRpl.rel w S cs x) : (rpOf x).ok := by
  obtain ⟨_, _, rfl, _, _, _, rfl, _, _, _, rfl, h1, _⟩ := h
  refine ⟨fun r hr => ?_⟩
  obtain ⟨y, hy, rfl⟩ := List.mem_map.1 hr
  exact slice_all (Q := fun y => ∀ v ∈ y.map vOf, v.ok) okRow h1 y hy
end Go.Proofs.YtekdhbekliajjaaDoor
