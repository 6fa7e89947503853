/- What an UPDATE leaves, cell by cell. No condition. -/
import Derived.Test.YthnadkafegmacaaGreatDoorTUpF
namespace Go.Proofs.YthnadkafegmacaaGreatDoor
open Go Go.RowKit Go.Proofs.YthnadkafegmacaaGreatDoor.Ab
set_option linter.unusedSimpArgs false
set_option linter.unusedVariables false

theorem celF_get {c : List Colm} : ∀ {d : List Cel} {j : Nat}, celF c d = 0 → j < d.length → (d.getD j cel0).f = true → rowF (d.getD j cel0).r c = 0
  | [], _, _, h, _ => absurd h (Nat.not_lt_zero _)
  | y :: r, 0, h, _, hf => by
    have hf : y.f = true := hf
    show rowF y.r c = 0
    unfold celF at h
    rw [if_neg (by rw [hf]; exact Bool.noConfusion)] at h
    split at h
    · contradiction
    · rename_i h1
      exact Classical.not_not.1 h1
  | y :: r, j + 1, h, hj, hf => by
    refine celF_get (d := r) (j := j) ?_ (Nat.lt_of_succ_lt_succ hj) hf
    unfold celF at h
    split at h
    · split at h
      · cases h
      · exact h
    · split at h
      · contradiction
      · exact h
theorem celF_set {c : List Colm} {q : List Val} (hq : rowF q c = 0) : ∀ {d : List Cel} {j : Nat}, celF c d = 0 → celF c (d.set j ⟨true, q⟩) = 0
  | [], _, h => h
  | y :: r, 0, h => by
    have ht : celF c r = 0 := by
      unfold celF at h
      split at h
      · split at h
        · cases h
        · exact h
      · split at h
        · contradiction
        · exact h
    show celF c (⟨true, q⟩ :: r) = 0
    unfold celF
    rw [if_neg Bool.noConfusion, if_neg (not_not_intro hq)]
    exact ht
  | y :: r, j + 1, h => by
    show celF c (y :: r.set j ⟨true, q⟩) = 0
    unfold celF at h ⊢
    split at h
    · rename_i h1
      rw [if_pos h1]
      split at h
      · cases h
      · rename_i h2
        rw [if_neg h2]
        exact celF_set hq h
    · rename_i h1
      rw [if_neg h1]
      split at h
      · contradiction
      · rename_i h2
        rw [if_neg h2]
        exact celF_set hq h
theorem rowF_of {r : List Val} {l : List Colm} (h1 : colsF l = 0) (h2 : r.length = l.length) (h3 : rwF r l = 0) : rowF r l = 0 := by
  unfold rowF
  rw [if_neg (not_not_intro h1), if_neg (not_not_intro h2)]
  exact h3
/-- a cell changed: the table stays in form -/
theorem up_step {t : Tbl} {m j : Nat} {l : List USet} (hok : t.ok) (hm : m < 2) (hj : j < 4) (hc : celF t.c (t.d.getD m []) = 0) (hs : ∀ s ∈ l, exOk s.x ∧ stOk t.c s) (hf : ((t.d.getD m []).getD j cel0).f = true) (he : (chF t.c ((t.d.getD m []).getD j cel0).r ((t.d.getD m []).getD j cel0).r l).2 = 0) : (putT t m j ⟨true, (chF t.c ((t.d.getD m []).getD j cel0).r ((t.d.getD m []).getD j cel0).r l).1⟩).ok ∧ celF t.c ((putT t m j ⟨true, (chF t.c ((t.d.getD m []).getD j cel0).r ((t.d.getD m []).getD j cel0).r l).1⟩).d.getD m []) = 0 := by
  have hmd : m < t.d.length := by rw [hok.h2]; exact hm
  have hmem := memD (d := []) hmd
  have hj4 : j < (t.d.getD m []).length := by rw [hok.h4 _ hmem]; exact hj
  have hfv := hok.vs _ hmem _ (memD (d := cel0) hj4)
  have hr := celF_get hc hj4 hf
  have hv := fun v hv => (hfv v hv).1
  obtain ⟨q1, q2, q3⟩ := chF_right hr hv l _ hs (row_rw hr) (rowF_len hr) hfv he
  refine ⟨putT_ok hok hm _ q3, ?_⟩
  rw [putT_drw hmd]
  exact celF_set (rowF_of (row_ok hv hr).1 q2 q1) hc
end Go.Proofs.YthnadkafegmacaaGreatDoor
