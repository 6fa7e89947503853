/- Queries: items, the checks of a query. No condition. -/
import Derived.Test.YtphaholcndhonaaDoorTKCd
namespace Go.Proofs.YtphaholcndhonaaDoor
open Go Go.RowKit Go.Proofs.YtphaholcndhonaaDoor.Ab
set_option linter.unusedSimpArgs false
set_option linter.unusedVariables false

structure Itm where
  a : Int
  x : Ex
structure QSo where
  i : Int
  d : Bool
structure Qry where
  is : List Itm
  w : Ex
  g : Byt
  ss : List QSo
  c : Bool
  m : Int
def itm0 : Itm := ⟨0, ex0⟩
def srt0 : QSo := ⟨0, false⟩
def eItm (t : Itm) : List E := [eI t.a, eI t.x.op, eI t.x.v.k, eI t.x.v.i, eQ t.x.v.b, eT t.x.v.t, eT t.x.n, .sl (eExs t.x.ar)]
def eSrt (s : QSo) : List E := [eI s.i, eBl s.d]
def eQry (q : Qry) : List E := [.sl (q.is.map eItm), eI q.w.op, eI q.w.v.k, eI q.w.v.i, eQ q.w.v.b, eT q.w.v.t, eT q.w.n, .sl (eExs q.w.ar), eT q.g, .sl (q.ss.map eSrt), eBl q.c, eI q.m]
theorem itX (t : Itm) : List.take 7 (List.drop (0 + 1) (eItm t)) = eEx t.x := by rw [eEx_eq]; rfl
theorem itAll (t : Itm) : List.take 8 (List.drop 0 (eItm t)) = eItm t := rfl
theorem quW (q : Qry) : List.take 7 (List.drop (0 + 1) (eQry q)) = eEx q.w := by rw [eEx_eq]; rfl
theorem quAll (q : Qry) : List.take 12 (List.drop 0 (eQry q)) = eQry q := rfl
theorem itmLen (l : List Itm) : (l.map eItm).length = l.length := List.length_map ..
theorem srtLen (l : List QSo) : (l.map eSrt).length = l.length := List.length_map ..
theorem itmGet (l : List Itm) (i : Nat) (h : i < l.length) : (l.map eItm).getD i [] = eItm (l.getD i itm0) := by
  rw [List.getD_eq_getElem?_getD, List.getElem?_map, List.getElem?_eq_getElem h, List.getD_eq_getElem?_getD, List.getElem?_eq_getElem h]
  rfl
theorem srtGet (l : List QSo) (i : Nat) (h : i < l.length) : (l.map eSrt).getD i [] = eSrt (l.getD i srt0) := by
  rw [List.getD_eq_getElem?_getD, List.getElem?_map, List.getElem?_eq_getElem h, List.getD_eq_getElem?_getD, List.getElem?_eq_getElem h]
  rfl
def itF (t : Itm) (l : List Colm) (g : Byt) : Int :=
  if t.a < 0 ∨ 4 < t.a then 2 else
  if t.a = 1 then (if noC t.x then 0 else 3) else
  if (koF t.x l).2.2 ≠ 0 then (koF t.x l).2.2 else
  if (t.a = 2 ∧ (koF t.x l).1 ≠ 2) ∧ (koF t.x l).1 ≠ 0 then 2 else
  if (t.a = 0 ∧ g.length ≠ 0) ∧ (t.x.op ≠ 2 ∨ t.x.n ≠ g) then 3 else 0
end Go.Proofs.YtphaholcndhonaaDoor
namespace Go.Proofs.YtphaholcndhonaaDoor
open Go Go.RowKit Go.Proofs.YtphaholcndhonaaDoor.Ab
set_option linter.unusedSimpArgs false
set_option linter.unusedVariables false

def itsF (l : List Colm) (g : Byt) : List Itm → Int
  | [] => 0
  | t :: r => if itF t l g ≠ 0 then itF t l g else itsF l g r
def plN : List Itm → Nat
  | [] => 0
  | t :: r => (if t.a = 0 then 1 else 0) + plN r
def soB (n : Nat) : List QSo → Bool
  | [] => true
  | s :: r => if s.i < 1 ∨ (n : Int) < s.i then false else soB n r
/-- what is wrong behind the items -/
def tlF (q : Qry) : Int :=
  if (q.g.length = 0 ∧ plN q.is ≠ 0) ∧ plN q.is ≠ q.is.length then 3 else
  if soB q.is.length q.ss = false then 6 else
  if (q.c = true ∧ q.m < 0) ∨ (q.c = false ∧ q.m ≠ 0) then 6 else 0
def quF (l : List Colm) (q : Qry) : Int :=
  if colsF l ≠ 0 then colsF l else
  if (q.is.length < 1 ∨ 4 < q.is.length) ∨ 4 < q.ss.length then 1 else
  if cdF q.w l ≠ 0 then cdF q.w l else
  if q.g.length ≠ 0 ∧ hasN l q.g = false then 5 else
  if itsF l q.g q.is ≠ 0 then itsF l q.g q.is else tlF q
structure Qry.ok (q : Qry) : Prop where
  w : exOk q.w
  is : ∀ t ∈ q.is, exOk t.x
  li : q.is.length ≤ maxLen
  ls : q.ss.length ≤ maxLen
theorem plN_app : ∀ (p : List Itm) (t : Itm), plN (p ++ [t]) = plN p + (if t.a = 0 then 1 else 0)
  | [], t => by simp [plN]
  | a :: p, t => by rw [List.cons_append, plN, plN, plN_app p t]; omega
theorem plN_le : ∀ p : List Itm, plN p ≤ p.length
  | [] => Nat.le_refl _
  | a :: p => by have := plN_le p; rw [plN, List.length_cons]; split <;> omega
theorem memQ {α : Type} {l : List α} {i : Nat} {d : α} (h : i < l.length) : l.getD i d ∈ l := by
  rw [List.getD_eq_getElem?_getD, List.getElem?_eq_getElem h]
  exact List.getElem_mem h
theorem colsF_le {l : List Colm} (h : colsF l = 0) : l.length ≤ 5 := by
  unfold colsF at h
  split at h
  · exact absurd h (by decide)
  · omega
theorem hasN_succ {l : List Colm} {i : Nat} {s : Byt} (h : i < l.length) : hasN (l.take (i + 1)) s = (hasN (l.take i) s || decide ((l.getD i col0).n = s)) := by
  unfold hasN
  rw [take_succ (d := col0) h, List.any_append]
  simp
end Go.Proofs.YtphaholcndhonaaDoor
