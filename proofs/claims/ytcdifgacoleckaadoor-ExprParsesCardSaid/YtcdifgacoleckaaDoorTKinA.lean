/- kinds.Columns, kinds.Row and the document's answers. No condition. -/
import Derived.Test.YtcdifgacoleckaaDoorTLexA
namespace Go.Proofs.YtcdifgacoleckaaDoor
open Go Go.RowKit Go.Proofs.YtcdifgacoleckaaDoor.Ab
set_option linter.unusedSimpArgs false
set_option linter.unusedVariables false

structure Colm where
  n : Byt
  k : Int
  u : Bool
def eBl (b : Bool) : E := .v (.bool b)
def eCol (c : Colm) : List E := [eT c.n, eI c.k, eBl c.u]
def eCols (l : List Colm) : E := .sl (l.map eCol)
def col0 : Colm := ⟨[], 0, false⟩
def val0 : Val := ⟨0, 0, 0, []⟩
theorem eCol0 (c : Colm) : ((eCol c).getD (0 + 0) E.dflt).str = strB c.n := rfl
theorem eCol1 (c : Colm) : ((eCol c).getD (0 + 1) E.dflt).int = c.k := rfl
theorem eCol2 (c : Colm) : ((eCol c).getD (0 + 2) E.dflt).bool = c.u := rfl
theorem colBox (c : Colm) : List.take 0 (List.map E.v [Value.string ByteArray.empty, Value.int IntKind.i64 0, Value.bool false]) ++ List.take 3 (List.drop 0 (eCol c)) ++ List.drop (0 + 3) (List.map E.v [Value.string ByteArray.empty, Value.int IntKind.i64 0, Value.bool false]) = eCol c := rfl
theorem valBox (v : Val) : List.take 0 (List.map E.v [Value.int IntKind.i64 0, Value.int IntKind.i64 0, Value.int IntKind.u64 0, Value.string ByteArray.empty]) ++ List.take 4 (List.drop 0 (eVal v)) ++ List.drop (0 + 4) (List.map E.v [Value.int IntKind.i64 0, Value.int IntKind.i64 0, Value.int IntKind.u64 0, Value.string ByteArray.empty]) = eVal v := rfl
theorem colsGet (l : List Colm) (i : Nat) (h : i < l.length) : (l.map eCol).getD i [] = eCol (l.getD i col0) := by
  rw [List.getD_eq_getElem?_getD, List.getElem?_map, List.getElem?_eq_getElem h, List.getD_eq_getElem?_getD, List.getElem?_eq_getElem h]
  rfl
theorem colsLen (l : List Colm) : (l.map eCol).length = l.length := List.length_map ..
theorem cols3 (l : List Colm) : ∀ cs ∈ l.map eCol, cs.length = 3 := by
  intro cs h
  obtain ⟨q, _, rfl⟩ := List.mem_map.1 h
  rfl
theorem colsTake (l : List Colm) (i : Nat) : List.take (Int.toNat (i : Int) - Int.toNat 0) (List.drop (Int.toNat 0) (l.map eCol)) = (l.take i).map eCol := by simp
def nmOk (s : Byt) : Prop := isNm s = true ∧ s.length ≤ 8
instance (s : Byt) : Decidable (nmOk s) := inferInstanceAs (Decidable (_ ∧ _))
theorem tkF_name (s : Byt) : tkF ⟨1, s, 0, 0⟩ = 0 ↔ nmOk s := by
  unfold tkF nmOk okTk
  rw [isNm_eq]
  dsimp only
  rw [if_neg (by omega)]
  by_cases h : 8 < s.length
  · rw [if_pos (by omega)]
    exact iff_of_false (by decide) (by omega)
  · rw [if_neg (by omega), if_neg (by simp), if_pos rfl]
    cases isNmP s with
    | true => exact iff_of_true rfl ⟨rfl, by omega⟩
    | false => exact iff_of_false (by decide) (fun h => Bool.false_ne_true h.1)
def hasN (l : List Colm) (s : Byt) : Bool := l.any fun c => decide (c.n = s)
def clF : List Colm → List Colm → Int
  | _, [] => 0
  | d, c :: r => if ¬ nmOk c.n then 3 else if c.k < 1 ∨ 4 < c.k then 2 else if hasN d c.n = true then 8 else clF (d ++ [c]) r
def colsF (l : List Colm) : Int := if 5 < l.length then 1 else clF [] l
theorem take_succ {α : Type} {l : List α} {i : Nat} {d : α} (h : i < l.length) : l.take (i + 1) = l.take i ++ [l.getD i d] := by
  rw [List.take_add_one, List.getElem?_eq_getElem h, List.getD_eq_getElem?_getD, List.getElem?_eq_getElem h]
  rfl
def colAtN (l : List Colm) (s : Byt) : Nat → Int
  | 0 => -1
  | i + 1 => if (l.getD i col0).n = s then (i : Int) else colAtN l s i
def colAt (l : List Colm) (s : Byt) : Int := colAtN l s l.length
theorem colAtN_rng (l : List Colm) (s : Byt) : ∀ i, -1 ≤ colAtN l s i ∧ colAtN l s i < i
  | 0 => by rw [colAtN]; omega
  | i + 1 => by
    have := colAtN_rng l s i
    rw [colAtN]
    split <;> omega
theorem colAtN_has (l : List Colm) (s : Byt) : ∀ i, i ≤ l.length → (0 ≤ colAtN l s i ↔ hasN (l.take i) s = true)
  | 0, _ => by rw [colAtN]; exact iff_of_false (by decide) Bool.false_ne_true
  | i + 1, h => by
    have ih := colAtN_has l s i (by omega)
    rw [colAtN, take_succ (d := col0) (by omega), hasN, List.any_append, Bool.or_eq_true]
    split
    · rename_i he
      exact iff_of_true (by omega) (.inr (by rw [List.any_cons, decide_eq_true he]; rfl))
    · rename_i he
      rw [ih, hasN, List.any_cons, decide_eq_false he]
      simp
end Go.Proofs.YtcdifgacoleckaaDoor
namespace Go.Proofs.YtcdifgacoleckaaDoor
open Go Go.RowKit Go.Proofs.YtcdifgacoleckaaDoor.Ab
set_option linter.unusedSimpArgs false
set_option linter.unusedVariables false

def rwF : List Val → List Colm → Int
  | v :: r, c :: l => if chk v ≠ 0 then chk v else if v.k = 0 then (if c.u = false then 12 else rwF r l) else if v.k ≠ c.k then 2 else rwF r l
  | _, _ => 0
theorem rwF_nil (l : List Colm) : rwF [] l = 0 := by cases l <;> rfl
def rowF (r : List Val) (l : List Colm) : Int := if colsF l ≠ 0 then colsF l else if r.length ≠ l.length then 1 else rwF r l
theorem rowLen (r : List Val) : (r.map eVal).length = r.length := List.length_map ..
theorem eVal_d (l : List Colm) : ∀ c ∈ l, True := fun _ _ => trivial
end Go.Proofs.YtcdifgacoleckaaDoor
