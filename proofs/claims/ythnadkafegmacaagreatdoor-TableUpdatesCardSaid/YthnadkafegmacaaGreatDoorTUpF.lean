/- What an UPDATE leaves is right. No condition. -/
import Derived.Test.YthnadkafegmacaaGreatDoorTUpE
namespace Go.Proofs.YthnadkafegmacaaGreatDoor
open Go Go.RowKit Go.Proofs.YthnadkafegmacaaGreatDoor.Ab
set_option linter.unusedSimpArgs false
set_option linter.unusedVariables false

theorem rwF_set : ∀ (r : List Val) (l : List Colm) (q : Nat) (v : Val), rwF r l = 0 → r.length = l.length → q < l.length → chk v = 0 → (v.k = 0 → (l.getD q col0).u = true) → (v.k = 0 ∨ v.k = (l.getD q col0).k) → rwF (r.set q v) l = 0
  | [], [], q, v, _, _, hq, _, _, _ => absurd hq (Nat.not_lt_zero _)
  | [], _ :: _, q, v, _, hl, _, _, _, _ => absurd hl (by simp)
  | _ :: _, [], q, v, _, hl, _, _, _, _ => absurd hl (by simp)
  | w :: r, c :: l, 0, v, h, hl, hq, hc, hn, hk => by
    have hn : v.k = 0 → c.u = true := hn
    have hk : v.k = 0 ∨ v.k = c.k := hk
    have hr : rwF r l = 0 := by
      rw [rwF] at h
      split at h
      · contradiction
      split at h
      · split at h
        · cases h
        · exact h
      · split at h
        · cases h
        · exact h
    show rwF (v :: r) (c :: l) = 0
    rw [rwF, if_neg (not_not_intro hc)]
    split
    · rename_i h0
      rw [if_neg (by rw [hn h0]; exact Bool.noConfusion)]
      exact hr
    · rename_i h0
      rw [if_neg (by omega)]
      exact hr
  | w :: r, c :: l, q + 1, v, h, hl, hq, hc, hn, hk => by
    have ih := fun hr => rwF_set r l q v hr (by simpa using hl) (by simpa using hq) hc hn hk
    show rwF (w :: r.set q v) (c :: l) = 0
    rw [rwF] at h ⊢
    split at h
    · contradiction
    · rename_i h1
      rw [if_neg h1]
      split at h
      · rename_i h2
        rw [if_pos h2]
        split at h
        · cases h
        · rename_i h3
          rw [if_neg h3]
          exact ih h
      · rename_i h2
        rw [if_neg h2]
        split at h
        · cases h
        · rename_i h3
          rw [if_neg h3]
          exact ih h
theorem good_fit {v : Val} (h : good v) : v.fit := by
  obtain ⟨h1, h2⟩ := h
  obtain ⟨a, b, c, _⟩ := chk_cases h1
  obtain ⟨i1, i2⟩ := h2
  refine ⟨⟨⟨by omega, by omega⟩, by omega, by omega⟩, ?_⟩
  simp only [maxLen]
  omega
theorem ev_right {x : Ex} {cols : List Colm} {old : List Val} (hx : exOk x) (hr : rowF old cols = 0) (hv : ∀ v ∈ old, v.ok) (hk : (koF x cols).2.2 = 0) (he : (evF x cols old).2 = 0) : good (evF x cols old).1 ∧ ((evF x cols old).1.k = 0 ∨ (evF x cols old).1.k = (koF x cols).1) := by
  obtain ⟨r1, r2, r3⟩ := row_ok hv hr
  unfold koF at hk ⊢
  by_cases h1 : exF x ≠ 0
  · rw [if_pos h1] at hk; exact absurd hk h1
  rw [if_neg h1, if_neg (not_not_intro r1)] at hk ⊢
  unfold evF at he ⊢
  rw [if_neg h1, if_neg (not_not_intro hr)] at he ⊢
  by_cases h2 : ((thO cols x).ev old).2 ≠ 0
  · rw [if_pos h2] at he; exact absurd he h2
  rw [if_neg h2]
  have h2 := Classical.not_not.1 h2
  have hn := exF_ok (Classical.not_not.1 h1)
  exact ⟨Th.ev_good (thO cols x) (th_ok cols old r2 r3 (nodes x) x (Nat.le_refl _) hx hn) h2, typed cols old r2 (row_rw hr) (nodes x) x (Nat.le_refl _) hn hk h2⟩
/-- what is set goes well for each -/
def stOk (cols : List Colm) (s : USet) : Prop := 0 ≤ fsF cols s.c 0 ∧ (koF s.x cols).2.2 = 0 ∧ ((koF s.x cols).1 = 0 ∨ (koF s.x cols).1 = (cols.getD (fsF cols s.c 0).toNat col0).k)
theorem stL_ok {cols : List Colm} : ∀ {l done : List USet}, stL cols done l = 0 → ∀ s ∈ l, stOk cols s
  | [], _, _ => fun s hs => (nomatch hs)
  | a :: r, done, h => by
    rw [stL] at h
    split at h
    · cases h
    · rename_i h0
      split at h
      · cases h
      split at h
      · contradiction
      · rename_i h2
        split at h
        · cases h
        · rename_i h3
          intro s hs
          rcases List.mem_cons.1 hs with rfl | hs
          · exact ⟨by omega, Classical.not_not.1 h2, by omega⟩
          · exact stL_ok h s hs
theorem chF_right {cols : List Colm} {old : List Val} (hr : rowF old cols = 0) (hv : ∀ v ∈ old, v.ok) : ∀ (l : List USet) (out : List Val), (∀ s ∈ l, exOk s.x ∧ stOk cols s) → rwF out cols = 0 → out.length = cols.length → (∀ v ∈ out, v.fit) → (chF cols old out l).2 = 0 → rwF (chF cols old out l).1 cols = 0 ∧ (chF cols old out l).1.length = cols.length ∧ ∀ v ∈ (chF cols old out l).1, v.fit
  | [], out, _, h, hl, hf, _ => ⟨h, hl, hf⟩
  | s :: r, out, hs, h, hl, hf, he => by
    rw [chF] at he ⊢
    obtain ⟨hx, s1, s2, s3⟩ := hs s List.mem_cons_self
    by_cases h1 : (evF s.x cols old).2 ≠ 0
    · rw [if_pos h1] at he; exact absurd he h1
    rw [if_neg h1] at he ⊢
    by_cases h2 : (evF s.x cols old).1.k = 0 ∧ (cols.getD (fsF cols s.c 0).toNat col0).u = false
    · rw [if_pos h2] at he; cases he
    rw [if_neg h2] at he ⊢
    obtain ⟨e1, e2⟩ := ev_right hx hr hv s2 (Classical.not_not.1 h1)
    have hrg := fs_rng cols s.c
    have hq : (fsF cols s.c 0).toNat < cols.length := by omega
    refine chF_right hr hv r _ (fun s hs' => hs s (List.mem_cons_of_mem _ hs')) (rwF_set out cols _ _ h hl hq e1.1 ?_ ?_) (by rw [List.length_set]; exact hl) ?_ he
    · intro h0
      cases hu : (cols.getD (fsF cols s.c 0).toNat col0).u with
      | true => rfl
      | false => exact absurd ⟨h0, hu⟩ h2
    · rcases e2 with e2 | e2
      · exact .inl e2
      · rcases s3 with s3 | s3
        · exact .inl (e2.trans s3)
        · exact .inr (e2.trans s3)
    · intro v hv'
      rcases List.mem_or_eq_of_mem_set hv' with hv' | rfl
      · exact hf v hv'
      · exact good_fit e1
end Go.Proofs.YthnadkafegmacaaGreatDoor
