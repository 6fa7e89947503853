/- Part of the proof: steps of the program over abstract states. No condition. -/
import Derived.Test.YtmicapdbgjafnaaTSame
import Derived.Test.YtmicapdbgjafnaaAbF
namespace Go.Proofs.Ytmicapdbgjafnaa
open Go Go.RowKit Go.Proofs.Ytmicapdbgjafnaa.Ab

theorem prs_len : ∀ (n : Nat) (b : List UInt8) (acc l : List (List UInt8)) (r : List UInt8), prs n b acc = some (l, r) → l.length = acc.length + n
  | 0, b, acc, l, r, h => by
    rw [prs] at h
    cases h
    rfl
  | n + 1, b, acc, l, r, h => by
    rw [prs] at h
    split at h
    · cases h
    · split at h
      · cases h
      · have := prs_len n _ _ _ _ h
        simp at this
        omega
theorem parse_len (b : List UInt8) : (parseF b).2.1.length ≤ 1000000000 := by
  by_cases h1 : 16777216 < b.length
  · rw [pf1 h1]; decide
  by_cases h2 : b.length < 1
  · rw [pf2 h1 h2]; decide
  by_cases h3 : (b.getD 0 0).toNat < 1 ∨ 9 < (b.getD 0 0).toNat
  · rw [pf3 h1 h2 h3]; decide
  by_cases h4 : b.length < 2
  · rw [pf4 h1 h2 h3 h4]; decide
  by_cases h5 : 8 < (b.getD 1 0).toNat
  · rw [pf5 h1 h2 h3 h4 h5]; decide
  rw [pf6 h1 h2 h3 h4 h5]
  cases hp : prs (b.getD 1 0).toNat (b.drop 2) [] with
  | none => exact Nat.zero_le _
  | some x =>
    obtain ⟨l, r⟩ := x
    have := prs_len _ _ _ _ _ hp
    dsimp only
    split <;> simp at * <;> omega

set_option maxRecDepth 10000 in
theorem oracle_fn (b : List UInt8) : FnD Try.prog 4 [.one (.e (eBytes b))] (.v (.bool true)) := by
  refine fn_intro (T := tab) tOk Try.func4 rfl (by kernel_rfl) (by simp [Try.ntmps4]) ?_
  intro X hX
  have hnt : X.nt = 34 := hX
  clear hX
  refine tr_seq (reg (T := tab) tOk hnt rfl ?_ ?_)
  · simp only [AllP, true_and, and_true, implies_true]
  refine tr_seq (tr_region (lex (T := tab) tOk hnt rfl ?_ (call rfl rfl rfl rfl rfl rfl rfl hnt (parse_fn b) (lex (T := tab) tOk hnt rfl ?_ (Lex.nil _)))) ?_)
  · simp only [AllP, true_and, and_true, implies_true]
  · simp only [AllP, true_and, and_true, implies_true]
    exact ⟨rfl, rfl, rfl⟩
  refine tr_seq (tr_region (lex (T := tab) tOk hnt rfl ?_ (call rfl rfl rfl rfl rfl rfl rfl hnt (parts_fn b) (lex (T := tab) tOk hnt rfl ?_ (Lex.nil _)))) ?_)
  · simp only [AllP, true_and, and_true, implies_true]
  · simp only [AllP, true_and, and_true, implies_true]
    exact ⟨rfl, rfl, rfl⟩
  refine tr_seq (tr_region (lex (T := tab) tOk hnt rfl ?_ (callG rfl rfl rfl rfl rfl rfl hnt rfl (fun hq => ?_) (fun _ => same_fn _ (parse_len b)) (lex (T := tab) tOk hnt rfl ?_ (Lex.nil _)))) ?_)
  · simp only [AllP, true_and, and_true, implies_true]
    exact ⟨fun h => h, fun h => ⟨h, h⟩⟩
  · exact ⟨hq, hq⟩
  · exact ⟨trivial, fun h => h⟩
  refine tr_ret ⟨.inr rfl, _, _, rfl, by trivial, ?_⟩
  simp
  rfl
end Go.Proofs.Ytmicapdbgjafnaa
