/- A stream as a row reads it, and as the calculus has it. No condition. -/
import Derived.Test.YtmicapdbgjafnaaDoorBase
import Derived.Test.YtmicapdbgjafnaaDoorTSh14
namespace Go.Proofs.YtmicapdbgjafnaaDoor
open Go Go.RowKit Go.Proofs.YtmicapdbgjafnaaDoor.Ab

/-- the cells of a stream that was read -/
def strE (x : List Int × (List UInt8 × (Int × (Int × Unit)))) : List E := (x.1.map fun z => [E.v (.int .u32 z)]).flatten ++ ((x.2.1.map fun b => [eB b]).flatten ++ ([E.v (.int .i64 x.2.2.1)] ++ ([E.v (.int .i64 x.2.2.2.1)] ++ [])))
theorem flat_one {α : Type} (f : α → E) (l : List α) : (l.map fun b => [f b]).flatten = l.map f := by
  induction l with
  | nil => rfl
  | cons a l ih => simp [ih]
theorem wf_w {z : Int} (h : (Lit.int .u32 z).wf = true) : ∃ w : W, z = (w.toNat : Int) := by
  have hb : 0 ≤ z ∧ z ≤ 4294967295 := by simpa [Lit.wf, IntKind.min, IntKind.max, IntKind.signed, IntKind.bits] using h
  refine ⟨BitVec.ofInt 32 z, ?_⟩
  rw [BitVec.toNat_ofInt]
  omega
theorem ws_of : ∀ l : List Int, (∀ z ∈ l, (Lit.int .u32 z).wf = true) → ∃ ws : List W, ws.length = l.length ∧ l = ws.map fun w => (w.toNat : Int)
  | [], _ => ⟨[], rfl, rfl⟩
  | z :: l, h => by
    obtain ⟨w, rfl⟩ := wf_w (h z (List.mem_cons_self ..))
    obtain ⟨ws, h1, rfl⟩ := ws_of l (fun z hz => h z (List.mem_cons_of_mem _ hz))
    exact ⟨w :: ws, by simp, rfl⟩
theorem str_of {V : World} {S : Nat → Prop} {cs : List Value} {x : List Int × (List UInt8 × (Int × (Int × Unit)))} (h : (cStruct (cCons (cArr 8 (cInt .u32)) (cCons (cArr 64 cByte) (cCons (cInt .i64) (cCons (cInt .i64) cEnd))))).rel V S cs x) :
    ∃ H : H8, x.2.1.length = 64 ∧ strE x = stE H x.2.1 x.2.2.1 x.2.2.2.1 := by
  obtain ⟨l, r, rfl, ⟨h1, h2, h3⟩, l2, r2, rfl, ⟨h4, h5, h6⟩, _⟩ := h
  obtain ⟨ws, hw, he⟩ := ws_of x.1 (fun z hz => by
    obtain ⟨i, hi⟩ := List.getElem?_of_mem hz
    exact (h3 i z hi).2)
  have hw : ws.length = 8 := by rw [hw, h2]
  obtain ⟨a, b, c, d, e, f, g, k, rfl⟩ : ∃ a b c d e f g k, ws = [a, b, c, d, e, f, g, k] := by
    match ws, hw with
    | [a, b, c, d, e, f, g, k], _ => exact ⟨a, b, c, d, e, f, g, k, rfl⟩
  refine ⟨⟨a, b, c, d, e, f, g, k⟩, h5, ?_⟩
  unfold strE
  rw [flat_one, flat_one, he]
  rfl
end Go.Proofs.YtmicapdbgjafnaaDoor
