/- The table of a program's types: it is as the program says. No condition. -/
import Derived.Test.YtcjeeoimjkhijaaDoorAb17
namespace Go.Proofs.YtcjeeoimjkhijaaDoor.Ab
open Go Go.RowKit

def kOf : TypeDesc → K
  | .slice e => .slice e
  | .array n e => .arr n e
  | .struct F => .struct (F.toList.map fun f => (f.offset, f.type))
  | .string => .str
  | .int k => .int k
  | .bool => .bool
  | .pointer e => .ptr e
  | _ => .other
theorem kOf_ok (d : TypeDesc) : KOk (kOf d) d := by
  cases d with
  | struct F => exact ⟨F, rfl, rfl⟩
  | slice e => rfl
  | array n e => rfl
  | string => rfl
  | int k => rfl
  | bool => rfl
  | pointer e => rfl
  | _ => exact ⟨(fun _ h => nomatch h), (fun _ _ h => nomatch h), (fun _ h => nomatch h), (fun h => nomatch h)⟩

def eqTyB (P : Program) (t : Nat) : TypeDesc → Bool
  | .struct F => !P.stoodInHeld t && !P.eqGuardType P.depth t && F.toList.all fun f => !(f.name == "_")
  | .array _ _ => !P.stoodInHeld t && !P.eqGuardType P.depth t
  | _ => true
theorem eqTyB_ok {P : Program} {t : Nat} {d : TypeDesc} (h : eqTyB P t d = true) (ha : (kOf d).agg = true) : EqTy P t d := by
  cases d with
  | struct F =>
    simp only [eqTyB, Bool.and_eq_true, Bool.not_eq_true', List.all_eq_true] at h
    refine ⟨h.1.1, h.1.2, fun F' e f hf => ?_⟩
    cases e
    have := h.2 f hf
    simpa using this
  | array n e =>
    simp only [eqTyB, Bool.and_eq_true, Bool.not_eq_true'] at h
    exact ⟨h.1, h.2, fun F' e => by cases e⟩
  | _ => cases ha
/-- what the program says of type t -/
def tiOf (P : Program) (t : Nat) : Option TI :=
  match P.info? t, P.underlying t with
  | some i, some d =>
    match i.zero with
    | some z => bif (Nat.beq z.cells.size i.size && z.cells.toList.all (·.oneCell')) && eqTyB P t d then some ⟨i.size, i.bytes, kOf d, z.cells.toList⟩ else none
    | none => none
  | _, _ => none
theorem tiOf_ok {P : Program} {t : Nat} {ti : TI} (h : tiOf P t = some ti) : TIOk P t ti := by
  unfold tiOf at h
  split at h
  · rename_i i d h1 h2
    split at h
    · rename_i z hz
      cases hb : ((Nat.beq z.cells.size i.size && z.cells.toList.all (·.oneCell')) && eqTyB P t d) with
      | false => rw [hb] at h; cases h
      | true =>
        rw [hb] at h
        cases h
        simp only [Bool.and_eq_true] at hb
        refine ⟨⟨i, d, z, h1, h2, rfl, rfl, kOf_ok d, hz, rfl, fun u hu => List.all_eq_true.1 hb.1.2 u hu⟩, ?_, fun ha d' hd' => ?_⟩
        · simpa using Nat.eq_of_beq_eq_true hb.1.1
        · rw [h2] at hd'
          cases hd'
          exact eqTyB_ok hb.2 ha
    · cases h
  · cases h

def tabOf (l : List (Option TI)) (t : Nat) : Option TI := l.getD t none
theorem tab_ok {P : Program} {l : List (Option TI)} {n : Nat} (h : l = (List.range n).map fun t => match l.getD t none with | some _ => tiOf P t | none => none) : TOk P (tabOf l) := by
  intro t ti ht
  unfold tabOf at ht
  have h1 : l[t]? = some (some ti) := by
    rw [List.getD_eq_getElem?_getD] at ht
    cases hg : l[t]? with
    | none => rw [hg] at ht; cases ht
    | some x => rw [hg] at ht; simp only [Option.getD_some] at ht; rw [ht]
  rw [h] at h1
  simp only [List.getElem?_map, Option.map_eq_some_iff] at h1
  obtain ⟨k, hk, h2⟩ := h1
  obtain rfl : t = k := by
    have := List.getElem?_eq_some_iff.1 hk
    obtain ⟨hlt, he⟩ := this
    simpa using he
  rw [ht] at h2
  exact tiOf_ok h2
end Go.Proofs.YtcjeeoimjkhijaaDoor.Ab
