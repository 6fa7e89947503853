/- kinds.Columns, kinds.Row and the document's answers. No condition. -/
import Derived.Test.YtjabmeffgbaglaaDoorTLexA
namespace Go.Proofs.YtjabmeffgbaglaaDoor
open Go Go.RowKit Go.Proofs.YtjabmeffgbaglaaDoor.Ab
set_option linter.unusedSimpArgs false
set_option linter.unusedVariables false
structure Colm where
 n : Byt
 k : Int
 u : Bool
def eBl (b : Bool) : E := .v (.bool b)
def eCol (c : Colm) : List E := [eT c.n, eI c.k, eBl c.u]
def eCols (l : List Colm) : E := .sl (l.map eCol)
def col0 : Colm := ⟨[], 0, false⟩
def val0 : Val := ⟨0, 0, 0, []⟩
theorem colsGet (l : List Colm) (i : Nat) (h : i < l.length) : (l.map eCol).getD i [] = eCol (l.getD i col0) := by
 rw [List.getD_eq_getElem?_getD, List.getElem?_map, List.getElem?_eq_getElem h, List.getD_eq_getElem?_getD, List.getElem?_eq_getElem h]
 rfl
theorem colsLen (l : List Colm) : (l.map eCol).length = l.length := List.length_map ..
def nmOk (s : Byt) : Prop := isNm s = true ∧ s.length ≤ 8
instance (s : Byt) : Decidable (nmOk s) := inferInstanceAs (Decidable (_ ∧ _))
theorem tkF_name (s : Byt) : tkF ⟨1, s, 0, 0⟩ = 0 ↔ nmOk s := by
 unfold tkF nmOk okTk
 rw [isNm_eq]
 dsimp only
 rw [if_neg (by omega)]
 by_cases h : 8 < s.length
 ·rw [if_pos (by omega)]
  exact iff_of_false (by decide) (by omega)
 ·rw [if_neg (by omega), if_neg (by simp), if_pos rfl]
  cases isNmP s with
  | true => exact iff_of_true rfl ⟨rfl, by omega⟩
  | false => exact iff_of_false (by decide) (fun h => Bool.false_ne_true h.1)
theorem take_succ {α : Type} {l : List α} {i : Nat} {d : α} (h : i < l.length) : l.take (i + 1) = l.take i ++ [l.getD i d] := by
 rw [List.take_add_one, List.getElem?_eq_getElem h, List.getD_eq_getElem?_getD, List.getElem?_eq_getElem h]
 rfl
end Go.Proofs.YtjabmeffgbaglaaDoor
namespace Go.Proofs.YtjabmeffgbaglaaDoor
open Go Go.RowKit Go.Proofs.YtjabmeffgbaglaaDoor.Ab
set_option linter.unusedSimpArgs false
set_option linter.unusedVariables false
theorem rowLen (r : List Val) : (r.map eVal).length = r.length := List.length_map ..
end Go.Proofs.YtjabmeffgbaglaaDoor
