/- Parts that table.Update and its law share with others. No condition. -/
import Derived.Test.YthnadkafegmacaaGreatDoorTTj
import Derived.Test.YthnadkafegmacaaGreatDoorTTha
namespace Go.Proofs.YthnadkafegmacaaGreatDoor
open Go Go.RowKit Go.Proofs.YthnadkafegmacaaGreatDoor.Ab
set_option linter.unusedSimpArgs false
set_option linter.unusedVariables false

def rTn (r : Tbl × Int × Int) : D := .tup [(true, .es (eTab r.1)), (false, .es [eI r.2.1]), (false, .es [eI r.2.2])]
theorem take2_get {l : List E} {k : Nat} {a b : E} (h : List.take 2 (List.drop k l) = [a, b]) : l.getD k E.dflt = a ∧ l.getD (k + 1) E.dflt = b := by
  have h0 := congrArg (fun z : List E => z[0]?) h
  have h1 := congrArg (fun z : List E => z[1]?) h
  simp only [List.getElem?_take, List.getElem?_drop] at h0 h1
  rw [List.getD_eq_getElem?_getD, List.getD_eq_getElem?_getD]
  exact ⟨by rw [show l[k]? = some a from h0]; rfl, by rw [show l[k + 1]? = some b from h1]; rfl⟩
theorem bg_in {t : Tbl} {i : Int} (hb : bgE t i = 0) : tabF t = 0 ∧ 0 ≤ i ∧ i < 2 := by
  unfold bgE at hb
  split at hb
  · contradiction
  · rename_i h0
    split at hb
    · exact absurd hb (by decide)
    · exact ⟨Classical.not_not.1 h0, by omega, by omega⟩
theorem putT_drw {t : Tbl} {i j : Nat} (hi : i < t.d.length) (x : Cel) : (putT t i j x).d.getD i [] = (t.d.getD i []).set j x := by
  show (t.d.set i _).getD i [] = _
  rw [List.getD_eq_getElem?_getD, List.getElem?_set_self hi]
  rfl
theorem tzOk : tz.ok := by
  refine ⟨rfl, ?_, Nat.zero_le _, fun c hc => absurd hc List.not_mem_nil, ?_⟩
  · intro d hd
    simp only [tz, List.mem_cons, List.not_mem_nil, or_false] at hd
    rcases hd with rfl | rfl <;> rfl
  · intro d hd x hx v hv
    simp only [tz, List.mem_cons, List.not_mem_nil, or_false] at hd
    rcases hd with rfl | rfl <;> (simp only [List.mem_cons, List.not_mem_nil, or_false, or_self] at hx; subst hx; exact absurd hv List.not_mem_nil)
end Go.Proofs.YthnadkafegmacaaGreatDoor
