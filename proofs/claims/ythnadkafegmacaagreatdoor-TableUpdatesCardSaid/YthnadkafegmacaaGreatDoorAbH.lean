/- Functions that are lent variables and rows of their caller's: they may write them. No condition. -/
import Derived.Test.YthnadkafegmacaaGreatDoorAbD
import Derived.Test.YthnadkafegmacaaGreatDoorAb25
namespace Go.Proofs.YthnadkafegmacaaGreatDoor.Ab
open Go Go.RowKit

/-! ### renaming of own blocks: id ↦ (new id, what is added to a version) -/
abbrev Rn := Nat → Nat × Nat
section
variable {ρ : Rn} {p p' : Rho} {C C' : Nat → Nat → Value → Prop} {w : World}
/-! ### the other way: what the renamed value reads as -/
end

/-! ### what such a function is -/
section
variable {P : Program} {T : Nat → Option TI} {X : Ctx}
end
end Go.Proofs.YthnadkafegmacaaGreatDoor.Ab
