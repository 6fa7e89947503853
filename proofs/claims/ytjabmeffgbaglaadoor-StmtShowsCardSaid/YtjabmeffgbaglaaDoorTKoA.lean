/- kinds.Of: its joints. No condition. -/
import Derived.Test.YtjabmeffgbaglaaDoorTExA
namespace Go.Proofs.YtjabmeffgbaglaaDoor
open Go Go.RowKit Go.Proofs.YtjabmeffgbaglaaDoor.Ab
set_option linter.unusedSimpArgs false
set_option linter.unusedVariables false
abbrev Srt := Int × Bool
abbrev KR := Int × Bool × Int
def s0 : Srt := (0, false)
def ftB (s : Srt) (k : Int) : Bool := bif decide (s.1 = k) then true else decide (s.1 = 0)
def wiF (a b : Srt) : Srt := (if a.1 = 0 then b.1 else a.1, a.2 || b.2)
def akF (k g : Int) : Bool → List Srt → KR
 | u, [] => (g, u, 0)
 | u, x :: r => if ftB x k = false then (0, false, 2) else akF k g (u || x.2) r
def twF (op : Int) (a b : Srt) : KR := if (bif !ftB a (wiF a b).1 then true else !ftB b (wiF a b).1) = true then (0, false, 2) else if op = 20 then ((wiF a b).1, (bif a.2 then b.2 else false), 0) else (1, (wiF a b).2, 0)
def joF (op : Int) (l : List Srt) : KR :=
 if op = 3 ∨ op = 5 ∨ op = 6 ∨ op = 7 ∨ op = 8 then akF 2 2 false l else if op = 4 ∨ op = 15 ∨ op = 16 then akF 1 1 false l else if op = 18 then akF 4 2 false l else if op = 19 then akF 4 4 false l else if op = 17 then (1, false, 0)
 else twF op (l.getD 0 s0) (l.getD 1 s0)
end Go.Proofs.YtjabmeffgbaglaaDoor
namespace Go.Proofs.YtjabmeffgbaglaaDoor
open Go Go.RowKit Go.Proofs.YtjabmeffgbaglaaDoor.Ab
set_option linter.unusedSimpArgs false
set_option linter.unusedVariables false
def fndF (l : List Colm) (s : Byt) : KR :=
 match l.find? (fun c => decide (c.n = s)) with
 | some c => (c.k, c.u, 0)
 | none => (0, false, 5)
mutual
def kdF (l : List Colm) : Ex → KR
 | .mk op v n ar => if op = 1 then (v.k, decide (v.k = 0), 0) else if op = 2 then fndF l n else if (kdA l [] ar).1 ≠ 0 then (0, false, (kdA l [] ar).1) else joF op (kdA l [] ar).2
def kdA (l : List Colm) : List Srt → List Ex → Int × List Srt
 | ss, [] => (0, ss)
 | ss, a :: r => if (kdF l a).2.2 ≠ 0 then ((kdF l a).2.2, []) else kdA l (ss ++ [((kdF l a).1, (kdF l a).2.1)]) r
end
end Go.Proofs.YtjabmeffgbaglaaDoor
namespace Go.Proofs.YtjabmeffgbaglaaDoor
open Go Go.RowKit Go.Proofs.YtjabmeffgbaglaaDoor.Ab
set_option linter.unusedSimpArgs false
set_option linter.unusedVariables false
end Go.Proofs.YtjabmeffgbaglaaDoor
namespace Go.Proofs.YtjabmeffgbaglaaDoor
open Go Go.RowKit Go.Proofs.YtjabmeffgbaglaaDoor.Ab
set_option linter.unusedSimpArgs false
set_option linter.unusedVariables false
end Go.Proofs.YtjabmeffgbaglaaDoor
