/- table.Update. No condition. -/
import Derived.Test.YthnadkafegmacaaGreatDoorTUpD
namespace Go.Proofs.YthnadkafegmacaaGreatDoor
open Go Go.RowKit Go.Proofs.YthnadkafegmacaaGreatDoor.Ab
set_option linter.unusedSimpArgs false
set_option linter.unusedVariables false

/-- the drawer's cells from place j on: those of which x holds are changed -/
def upW (x : Ex) (l : List USet) (m : Nat) : Nat → Nat → Tbl → Int → Tbl × Int × Int
  | 0, _, t, n => if kF [] (t.d.getD m []) ≠ 0 then (tz, 0, kF [] (t.d.getD m [])) else (t, n, 0)
  | f + 1, j, t, n =>
    if ((t.d.getD m []).getD j cel0).f = false then upW x l m f (j + 1) t n
    else if (hdF x t.c ((t.d.getD m []).getD j cel0).r).2 ≠ 0 then (tz, 0, (hdF x t.c ((t.d.getD m []).getD j cel0).r).2)
    else if (hdF x t.c ((t.d.getD m []).getD j cel0).r).1 = false then upW x l m f (j + 1) t n
    else if (chF t.c ((t.d.getD m []).getD j cel0).r ((t.d.getD m []).getD j cel0).r l).2 ≠ 0 then (tz, 0, (chF t.c ((t.d.getD m []).getD j cel0).r ((t.d.getD m []).getD j cel0).r l).2)
    else upW x l m f (j + 1) (putT t m j ⟨true, (chF t.c ((t.d.getD m []).getD j cel0).r ((t.d.getD m []).getD j cel0).r l).1⟩) (n + 1)
/-- what table.Update answers -/
def updF (t : Tbl) (i : Int) (x : Ex) (l : List USet) : Tbl × Int × Int :=
  if bgE t i ≠ 0 then (tz, 0, bgE t i) else if cdF x t.c ≠ 0 then (tz, 0, cdF x t.c) else if setsF l t.c ≠ 0 then (tz, 0, setsF l t.c) else upW x l i.toNat 4 0 t 0
theorem stL_all {cols : List Colm} : ∀ {l done : List USet}, stL cols done l = 0 → ∀ s ∈ l, 0 ≤ fsF cols s.c 0
  | [], _, _ => fun s hs => (nomatch hs)
  | a :: r, done, h => by
    rw [stL] at h
    split at h
    · cases h
    · rename_i h0
      split at h
      · cases h
      split at h
      · contradiction
      split at h
      · cases h
      · intro s hs
        rcases List.mem_cons.1 hs with rfl | hs
        · omega
        · exact stL_all h s hs
theorem sets_all {cols : List Colm} {l : List USet} (h : setsF l cols = 0) : l.length ≤ 4 ∧ ∀ s ∈ l, 0 ≤ fsF cols s.c 0 := by
  unfold setsF at h
  split at h
  · cases h
  · exact ⟨by omega, stL_all h⟩
theorem rowPut {t : Tbl} (h : t.ok) {i j : Nat} (hi : i < 2) (hj : j < 4) (r : List Val) (hf : ((t.d.getD i []).getD j cel0).f = true) : List.take (0 + 3 + i * 8 + j * 2 + 1) (eTab t) ++ [eRow r] ++ List.drop (0 + 3 + i * 8 + j * 2 + 1 + 1) (eTab t) = eTab (putT t i j ⟨true, r⟩) := by
  rw [← tabPut h hi hj ⟨true, r⟩]
  obtain ⟨g1, _⟩ := take2_get (tabCel h (i := i) (j := j) hi hj)
  have hlen := tabLen h
  have hlt : 0 + 3 + i * 8 + j * 2 < (eTab t).length := by omega
  rw [hf] at g1
  rw [take_succ (d := E.dflt) hlt, g1]
  simp [eCel]
end Go.Proofs.YthnadkafegmacaaGreatDoor
