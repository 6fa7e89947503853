/- Queries: items, the checks of a query. No condition. -/
import Derived.Test.YtjabmeffgbaglaaDoorTKCd
namespace Go.Proofs.YtjabmeffgbaglaaDoor
open Go Go.RowKit Go.Proofs.YtjabmeffgbaglaaDoor.Ab
set_option linter.unusedSimpArgs false
set_option linter.unusedVariables false
structure Itm where
 a : Int
 x : Ex
structure QSo where
 i : Int
 d : Bool
structure Qry where
 is : List Itm
 w : Ex
 g : Byt
 ss : List QSo
 c : Bool
 m : Int
def itm0 : Itm := ⟨0, ex0⟩
def srt0 : QSo := ⟨0, false⟩
def eItm (t : Itm) : List E := [eI t.a, eI t.x.op, eI t.x.v.k, eI t.x.v.i, eQ t.x.v.b, eT t.x.v.t, eT t.x.n, .sl (eExs t.x.ar)]
def eSrt (s : QSo) : List E := [eI s.i, eBl s.d]
def eQry (q : Qry) : List E := [.sl (q.is.map eItm), eI q.w.op, eI q.w.v.k, eI q.w.v.i, eQ q.w.v.b, eT q.w.v.t, eT q.w.n, .sl (eExs q.w.ar), eT q.g, .sl (q.ss.map eSrt), eBl q.c, eI q.m]
theorem itX (t : Itm) : List.take 7 (List.drop (0 + 1) (eItm t)) = eEx t.x := by rw [eEx_eq]; rfl
theorem quW (q : Qry) : List.take 7 (List.drop (0 + 1) (eQry q)) = eEx q.w := by rw [eEx_eq]; rfl
theorem itmLen (l : List Itm) : (l.map eItm).length = l.length := List.length_map ..
theorem srtLen (l : List QSo) : (l.map eSrt).length = l.length := List.length_map ..
theorem itmGet (l : List Itm) (i : Nat) (h : i < l.length) : (l.map eItm).getD i [] = eItm (l.getD i itm0) := by
 rw [List.getD_eq_getElem?_getD, List.getElem?_map, List.getElem?_eq_getElem h, List.getD_eq_getElem?_getD, List.getElem?_eq_getElem h]
 rfl
theorem srtGet (l : List QSo) (i : Nat) (h : i < l.length) : (l.map eSrt).getD i [] = eSrt (l.getD i srt0) := by
 rw [List.getD_eq_getElem?_getD, List.getElem?_map, List.getElem?_eq_getElem h, List.getD_eq_getElem?_getD, List.getElem?_eq_getElem h]
 rfl
end Go.Proofs.YtjabmeffgbaglaaDoor
namespace Go.Proofs.YtjabmeffgbaglaaDoor
open Go Go.RowKit Go.Proofs.YtjabmeffgbaglaaDoor.Ab
set_option linter.unusedSimpArgs false
set_option linter.unusedVariables false
structure Qry.ok (q : Qry) : Prop where
 w : exOk q.w
 is : ∀ t ∈ q.is, exOk t.x
 li : q.is.length ≤ maxLen
 ls : q.ss.length ≤ maxLen
theorem memQ {α : Type} {l : List α} {i : Nat} {d : α} (h : i < l.length) : l.getD i d ∈ l := by
 rw [List.getD_eq_getElem?_getD, List.getElem?_eq_getElem h]
 exact List.getElem_mem h
end Go.Proofs.YtjabmeffgbaglaaDoor
