/- Which drawers are open, as an argument. No condition. -/
import Derived.Test.YtcjeeoimjkhijaaDoorEncB
namespace Go.Proofs.YtcjeeoimjkhijaaDoor
open Go Go.RowKit Go.Proofs.YtcjeeoimjkhijaaDoor.Ab

theorem flat1 {α : Type} (f : α → E) : ∀ l : List α, (l.map fun x => [f x]).flatten = l.map f
  | [] => rfl
  | a :: l => by rw [List.map_cons, List.flatten_cons, flat1 f l]; rfl
theorem encOpen : Enc (cArr 2 cBool) (fun x => x.map eBl) :=
  (enc_arr 2 enc_bool).of fun _ => flat1 eBl _
theorem lenOpen {w : World} {S : Nat → Prop} {cs : List Value} {x : List Bool} (h : (cArr 2 cBool).rel w S cs x) : x.length = 2 :=
  (arr_all (Q := fun _ => True) (fun _ => trivial) h).1
theorem okWideArr {P : Program} {w : World} {r : Reach} {base : Nat} {t : TypeId} {n : Nat} {e : TypeId} {v : Value} (ht : P.underlying t = some (.array n e)) (h : Value.okWide P w r base t v) : ∃ xs : Array Value, v = .agg xs := by
  simp only [Value.okWide, ht] at h
  obtain ⟨cs, h1, _⟩ := h
  exact ⟨cs, h1⟩
end Go.Proofs.YtcjeeoimjkhijaaDoor
