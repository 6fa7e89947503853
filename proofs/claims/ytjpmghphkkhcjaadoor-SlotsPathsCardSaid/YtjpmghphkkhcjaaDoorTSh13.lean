/- What a row says of the table of words, as the calculus asks it; laws that answer true. No condition. -/
import Derived.Test.YtjpmghphkkhcjaaDoorAbEnc
import Derived.Test.YtjpmghphkkhcjaaDoorTSh12
namespace Go.Proofs.YtjpmghphkkhcjaaDoor
open Go Go.RowKit Go.Proofs.YtjpmghphkkhcjaaDoor.Ab

theorem steps_of {V : World} (h : ∀ i, i < 64 → V.cell? ⟨0, i, none⟩ = some (.int .u32 ((kW.map fun w => (w.toNat : Int)).getD i 0))) : ∀ x ∈ gK, RepD p0 (CI V anyI) V (.one (.eptr x.2)) (.pointer (some ⟨x.1, 0, none⟩)) := by
  intro x hx
  obtain rfl := List.mem_singleton.1 hx
  refine ⟨0, 0, rfl, fun j e he => ?_⟩
  have hj : j < 64 := (List.getElem?_eq_some_iff.1 he).1
  have hl : j < kW.length := hj
  refine ⟨_, ⟨by rw [Nat.zero_add]; exact h j hj, trivial⟩, ?_⟩
  unfold kE at he
  rw [List.getElem?_map, List.getElem?_eq_getElem hl] at he
  cases he
  have e1 : (kW.map fun w => (w.toNat : Int)).getD j 0 = (kW[j].toNat : Int) := by simp [List.getD, hl]
  rw [e1]
  exact RepE.v _ rfl
/-- a law that answers true, the table of words given -/
theorem law_trueG {P : Program} {f : Nat} {gs : List (Nat × List E)} {ds : List D} {vs : Array Value} (h : FnG P f gs ds (.v (.bool true))) {V : World} (hg : ∀ x ∈ gs, RepD p0 (CI V anyI) V (.one (.eptr x.2)) (.pointer (some ⟨x.1, 0, none⟩))) (ha : RepAs (CI V anyI) V ds vs.toList) : Calls P f vs V fun e W' => e = .returned (.bool true) ∧ Below V.heap.size V W' := by
  refine (h.2 V vs anyI hg ha).mono ?_
  rintro e w' ⟨v, rfl, hb, hv⟩
  refine ⟨?_, hb⟩
  have hv : RepE _ (.v (.bool true)) v := hv
  cases hv
  rfl
end Go.Proofs.YtjpmghphkkhcjaaDoor
