/- Lists of tokens as arguments. No condition. -/
import Derived.Test.YtcdifgacoleckaaDoorAbEnc
import Derived.Test.YtcdifgacoleckaaDoorEncT
import Derived.Test.YtcdifgacoleckaaDoorTRdZ
namespace Go.Proofs.YtcdifgacoleckaaDoor
open Go.ChangeShapes Go.WideShapes Go.ChangeAt Go.RowKit Go.Deep Go.Proofs.YtcdifgacoleckaaDoor.Ab

theorem encToks : Enc (cSlice cTok) (fun l => [E.sl ((l.map tOf).map eTok)]) :=
  (enc_slice encTok).of fun {_ _ _ x} _ => by rw [List.map_map]; rfl
theorem fitTok {w : World} {S : Nat → Prop} {cs : List Value} {x : Int × ByteArray × Int × Int × Unit} (h : cTok.rel w S cs x) : (tOf x).t.length ≤ maxLen ∧ -9223372036854775808 ≤ (tOf x).i ∧ (tOf x).i ≤ 9223372036854775807 := by
  have hl := lenTok h
  obtain ⟨_, _, rfl, _, _, _, rfl, _, _, _, rfl, ⟨_, h3⟩, _⟩ := h
  exact ⟨hl, wf_i64 h3⟩
theorem fitToks {w : World} {S : Nat → Prop} {cs : List Value} {l : List (Int × ByteArray × Int × Int × Unit)} (h : (cSlice cTok).rel w S cs l) : tksFit (l.map tOf) := by
  have key : ∀ t ∈ l.map tOf, t.t.length ≤ maxLen ∧ -9223372036854775808 ≤ t.i ∧ t.i ≤ 9223372036854775807 := by
    intro t ht
    obtain ⟨y, hy, rfl⟩ := List.mem_map.1 ht
    exact slice_all fitTok h y hy
  exact ⟨⟨by rw [List.length_map]; exact slice_len h, fun t ht => (key t ht).1⟩, fun t ht => (key t ht).2⟩
end Go.Proofs.YtcdifgacoleckaaDoor
