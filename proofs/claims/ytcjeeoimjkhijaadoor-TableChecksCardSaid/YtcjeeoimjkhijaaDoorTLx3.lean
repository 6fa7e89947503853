/- The document's TokenFault; the law of lex.Check. No condition. -/
import Derived.Test.YtcjeeoimjkhijaaDoorTLx2
namespace Go.Proofs.YtcjeeoimjkhijaaDoor
open Go Go.RowKit Go.Proofs.YtcjeeoimjkhijaaDoor.Ab
set_option linter.unusedSimpArgs false
set_option linter.unusedVariables false

def U0 (v : Tok) : Tok := ⟨v.k, if v.k = 3 ∨ v.k = 5 then [] else v.t, if v.k = 3 then v.i else 0, if v.k = 5 then v.b else 0⟩
def lngB (v : Tok) : Bool := decide ((v.k = 4 ∧ 40 < v.t.length) ∨ ((v.k = 1 ∨ v.k = 2) ∧ 8 < v.t.length))
theorem eqT1 (v w : Tok) : (eqD tab 9 75 (.agg (.es (List.take 4 (List.drop 0 (eTok v))))) (.agg (.es (List.take 4 (List.drop 0 (eTok w)))))).1 :=
  ⟨⟨Nat.le_of_ble_eq_true rfl, rfl⟩, ⟨Nat.le_of_ble_eq_true rfl, rfl⟩, rfl, ⟨Nat.le_of_ble_eq_true rfl, rfl⟩, ⟨Nat.le_of_ble_eq_true rfl, rfl⟩, trivial, ⟨Nat.le_of_ble_eq_true rfl, rfl⟩, ⟨Nat.le_of_ble_eq_true rfl, rfl⟩, rfl, ⟨Nat.le_of_ble_eq_true rfl, rfl⟩, ⟨Nat.le_of_ble_eq_true rfl, rfl⟩, rfl, trivial⟩
theorem eqT2 (v w : Tok) : (eqD tab 9 75 (.agg (.es (List.take 4 (List.drop 0 (eTok v))))) (.agg (.es (List.take 4 (List.drop 0 (eTok w)))))).2 = decide (v.k = w.k ∧ v.t = w.t ∧ v.i = w.i ∧ v.b.toNat = w.b.toNat) := by
  show (v.k == w.k && (strEq (strB v.t) (strB w.t) && (v.i == w.i && ((v.b.toNat : Int) == (w.b.toNat : Int) && true)))) = _
  rw [strEq_B, Bool.eq_iff_iff]
  simp
  omega
theorem isNm_eq (s : Byt) : isNm s = isNmP s := by
  unfold isNm isNmP
  cases decide (s.length ≠ 0) <;> cases s.all nameB <;> cases smallB (s.getD 0 0) <;> rfl
theorem chk_real0 (b : BitVec 64) : decide (chk ⟨3, 0, b, []⟩ = 0) = !badQ b := by
  unfold chk
  rw [badR_eq]
  cases h : badQ b <;> simp
/-- the rest of the document's answer -/
theorem tk_pure {v : Tok} (h1 : 1 ≤ v.k) (h6 : v.k ≤ 6) : tkF v = if lngB v = true then 1 else if (bif !okTk v then true else !decide (v.k = (U0 v).k ∧ v.t = (U0 v).t ∧ v.i = (U0 v).i ∧ v.b.toNat = (U0 v).b.toNat)) = true then 3 else 0 := by
  unfold tkF lngB
  rw [if_neg (by omega)]
  simp only [condT_tt, condT_ff, condF_tt, condF_ff, notE_t, notE_f, decide_eq_true_eq, decide_eq_false_iff_not]
  by_cases hl : (v.k = 4 ∧ 40 < v.t.length) ∨ ((v.k = 1 ∨ v.k = 2) ∧ 8 < v.t.length)
  · rw [if_pos hl, if_pos hl]
  · rw [if_neg hl, if_neg hl]
    have hu : (v.k = (U0 v).k ∧ v.t = (U0 v).t ∧ v.i = (U0 v).i ∧ v.b.toNat = (U0 v).b.toNat) ↔ ¬ (((v.k ≠ 3 ∧ v.i ≠ 0) ∨ (v.k ≠ 5 ∧ v.b.toNat ≠ 0)) ∨ ((v.k = 3 ∨ v.k = 5) ∧ v.t.length ≠ 0)) := by
      have hn : v.t = [] ↔ v.t.length = 0 := List.length_eq_zero_iff.symm
      have hz : (0 : BitVec 64).toNat = 0 := rfl
      unfold U0
      dsimp only
      by_cases k3 : v.k = 3
      · rw [if_pos (.inl k3), if_pos k3, if_neg (by omega), hz, hn]
        omega
      · by_cases k5 : v.k = 5
        · rw [if_pos (.inr k5), if_neg k3, if_pos k5, hn]
          omega
        · rw [if_neg (by omega), if_neg k3, if_neg k5, hz, eq_self v.t, true_and]
          omega
    by_cases hx : ((v.k ≠ 3 ∧ v.i ≠ 0) ∨ (v.k ≠ 5 ∧ v.b.toNat ≠ 0)) ∨ ((v.k = 3 ∨ v.k = 5) ∧ v.t.length ≠ 0)
    · rw [if_pos hx, if_pos (.inr (fun h => hu.1 h hx))]
    · rw [if_neg hx]
      cases ho : okTk v with
      | true => rw [if_pos rfl, if_neg]; rintro (h | h); cases h; exact h (hu.2 hx)
      | false => rw [if_neg Bool.false_ne_true, if_pos (.inl rfl)]
end Go.Proofs.YtcjeeoimjkhijaaDoor
