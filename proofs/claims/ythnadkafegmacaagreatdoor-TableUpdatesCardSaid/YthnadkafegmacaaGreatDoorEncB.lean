/- Tables as arguments. No condition. -/
import Derived.Test.YthnadkafegmacaaGreatDoorEncC
import Derived.Test.YthnadkafegmacaaGreatDoorTTab2
namespace Go.Proofs.YthnadkafegmacaaGreatDoor
open Go Go.RowKit Go.Proofs.YthnadkafegmacaaGreatDoor.Ab

abbrev XCel := Bool × List (Int × Int × Int × ByteArray × Unit) × Unit
def celOf (x : XCel) : Cel := ⟨x.1, x.2.1.map vOf⟩
abbrev cCel : Cd XCel := cStruct (cCons cBool (cCons (cSlice cVal) cEnd))
theorem encCel : Enc cCel (fun x => eCel (celOf x)) := enc_struct (enc_cons enc_bool (enc_cons encRow enc_end))
theorem fitCel {w : World} {S : Nat → Prop} {cs : List Value} {x : XCel} (h : cCel.rel w S cs x) : ∀ v ∈ (celOf x).r, v.fit := by
  obtain ⟨_, _, rfl, _, _, _, rfl, h1, _⟩ := h
  exact fitRow h1
abbrev XTab := Bool × ByteArray × List (ByteArray × Int × Bool × Unit) × List (List XCel) × Unit
def tbOf (x : XTab) : Tbl := ⟨x.1, x.2.1.data.toList, x.2.2.1.map cOf, x.2.2.2.1.map fun d => d.map celOf⟩
abbrev cTab : Cd XTab := cStruct (cCons cBool (cCons cStr (cCons (cSlice cColm) (cCons (cArr 2 (cArr 4 cCel)) cEnd))))
theorem encTab : Enc cTab (fun x => eTab (tbOf x)) :=
  (enc_struct (enc_cons enc_bool (enc_cons enc_str (enc_cons encCols (enc_cons (enc_arr 2 (enc_arr 4 encCel)) enc_end))))).of fun {w S cs x} _ => by
    unfold eTab tbOf eDr
    simp only [List.map_map, List.append_nil, List.singleton_append, Function.comp_def]
    rfl
theorem okTab {w : World} {S : Nat → Prop} {cs : List Value} {x : XTab} (h : cTab.rel w S cs x) : (tbOf x).ok := by
  obtain ⟨_, _, rfl, _, _, _, rfl, ⟨_, h2⟩, _, _, rfl, h3, _, _, rfl, h4, _⟩ := h
  have ha := arr_all (c := cArr 4 cCel) (Q := fun d => d.length = 4 ∧ ∀ y ∈ d, ∀ v ∈ (celOf y).r, v.fit) (fun hd => arr_all (Q := fun y => ∀ v ∈ (celOf y).r, v.fit) fitCel hd) h4
  refine ⟨?_, ?_, h2, lenCols h3, ?_⟩
  · show (x.2.2.2.1.map _).length = 2
    rw [List.length_map, ha.1]
  · intro d hd
    obtain ⟨d', hd', rfl⟩ := List.mem_map.1 hd
    rw [List.length_map]
    exact (ha.2 d' hd').1
  · intro d hd y hy
    obtain ⟨d', hd', rfl⟩ := List.mem_map.1 hd
    obtain ⟨y', hy', rfl⟩ := List.mem_map.1 hy
    exact (ha.2 d' hd').2 y' hy'
end Go.Proofs.YthnadkafegmacaaGreatDoor
