/- Package right: what may be asked of grants. No condition. -/
import Derived.Test.YtmicapdbgjafnabTGr7
namespace Go.Proofs.Ytmicapdbgjafnab
open Go Go.RowKit Go.Proofs.Ytmicapdbgjafnab.Ab

def askF (l : List Gr) (u o r : Int) : Int :=
  if gfaultF l ≠ 0 then gfaultF l else if u < 0 ∨ 3 ≤ u ∨ o < 0 ∨ 12 ≤ o then 6 else if r ≠ 1 ∧ r ≠ 2 then 2 else 0
theorem askA {l : List Gr} {u o r : Int} (h : gfaultF l ≠ 0) : askF l u o r = gfaultF l := if_pos h
theorem askB {l : List Gr} {u o r : Int} (h : gfaultF l = 0) (h1 : u < 0 ∨ 3 ≤ u ∨ o < 0 ∨ 12 ≤ o) : askF l u o r = 6 := (if_neg (fun k => k h)).trans (if_pos h1)
theorem askC {l : List Gr} {u o r : Int} (h : gfaultF l = 0) (h1 : ¬ (u < 0 ∨ 3 ≤ u ∨ o < 0 ∨ 12 ≤ o)) (h2 : r ≠ 1 ∧ r ≠ 2) : askF l u o r = 2 := (if_neg (fun k => k h)).trans ((if_neg h1).trans (if_pos h2))
theorem askD {l : List Gr} {u o r : Int} (h : gfaultF l = 0) (h1 : ¬ (u < 0 ∨ 3 ≤ u ∨ o < 0 ∨ 12 ≤ o)) (h2 : ¬ (r ≠ 1 ∧ r ≠ 2)) : askF l u o r = 0 := (if_neg (fun k => k h)).trans ((if_neg h1).trans (if_neg h2))
set_option maxRecDepth 10000 in
theorem asked_fn (l : List Gr) (u o r : Int) : FnD Try.prog 14 [.one (.e (eGrs l)), .v (.int .i64 u), .v (.int .i64 o), .v (.int .i64 r)] (.v (.int .i64 (askF l u o r))) := by
  refine fn_intro (T := tab) tOk Try.func14 rfl (by kernel_rfl) (by simp [Try.ntmps14]) ?_
  intro X hX
  have hnt : X.nt = 35 := hX
  clear hX
  refine tr_seq (reg (T := tab) tOk hnt rfl ?_ ?_)
  · (dsimp only [AllP]; (repeat' first | exact trivial | assumption | exact Nat.le_of_ble_eq_true rfl | apply And.intro | intro _ | exact rfl))
  repeat' (first | refine tr_seq ?_ | refine tr_block ?_)
  refine tr_region (lex (T := tab) tOk hnt rfl ?_ (call rfl rfl rfl rfl rfl rfl rfl hnt (Check_fn l) (lex (T := tab) tOk hnt rfl ?_ (Lex.nil _)))) ?_
  · (dsimp only [AllP]; (repeat' first | exact trivial | assumption | exact Nat.le_of_ble_eq_true rfl | apply And.intro | intro _ | exact rfl))
  · (dsimp only [AllP]; (repeat' first | exact trivial | assumption | exact Nat.le_of_ble_eq_true rfl | apply And.intro | intro _ | exact rfl))
  repeat' (first | refine tr_seq ?_ | refine reg (T := tab) tOk hnt rfl ?_ ?_ | refine regD (T := tab) tOk mixedR hnt rfl (by decide +kernel) ?_ ?_ | refine tr_cond rfl (fun _ => ?_) (fun _ => ?_) | refine tr_block ?_ | refine tr_skip ?_ | refine tr_ret ?_ | refine tr_exit ?_)
  all_goals (try ((dsimp only [AllP]; (repeat' first | exact trivial | assumption | exact Nat.le_of_ble_eq_true rfl | apply And.intro | intro _ | exact rfl)); done))
  · rename_i h
    refine ⟨.inr rfl, _, _, rfl, by trivial, ?_⟩
    rw [askA (by simpa using h)]
    rfl
  all_goals (have hz : gfaultF l = 0 := by first | (rename_i h _; simpa using h) | (rename_i h _ _; simpa using h))
  · rename_i h
    refine ⟨.inr rfl, _, _, rfl, by trivial, ?_⟩
    simp at h
    rw [askB hz (by omega)]
    rfl
  · rename_i h1 h
    refine ⟨.inr rfl, _, _, rfl, by trivial, ?_⟩
    simp at h h1
    rw [askC hz (by omega) (by omega)]
    rfl
  · rename_i h1 h
    refine ⟨.inr rfl, _, _, rfl, by trivial, ?_⟩
    simp at h h1
    rw [askD hz (by omega) (by omega)]
    rfl
set_option maxRecDepth 10000 in
theorem rfault_fn (l : List Gr) (u o r : Int) : FnD Try.prog 16 [.one (.e (eGrs l)), .v (.int .i64 u), .v (.int .i64 o), .v (.int .i64 r)] (.v (.int .i64 (askF l u o r))) := by
  refine fn_intro (T := tab) tOk Try.func16 rfl (by kernel_rfl) (by simp [Try.ntmps16]) ?_
  intro X hX
  have hnt : X.nt = 35 := hX
  clear hX
  refine tr_seq (reg (T := tab) tOk hnt rfl ?_ ?_)
  · (dsimp only [AllP]; (repeat' first | exact trivial | assumption | exact Nat.le_of_ble_eq_true rfl | apply And.intro | intro _ | exact rfl))
  repeat' (first | refine tr_seq ?_ | refine tr_block ?_)
  refine tr_region (lex (T := tab) tOk hnt rfl ?_ (call rfl rfl rfl rfl rfl rfl rfl hnt (gfault_fn l) (lex (T := tab) tOk hnt rfl ?_ (Lex.nil _)))) ?_
  · (dsimp only [AllP]; (repeat' first | exact trivial | assumption | exact Nat.le_of_ble_eq_true rfl | apply And.intro | intro _ | exact rfl))
  · (dsimp only [AllP]; (repeat' first | exact trivial | assumption | exact Nat.le_of_ble_eq_true rfl | apply And.intro | intro _ | exact rfl))
  repeat' (first | refine tr_seq ?_ | refine reg (T := tab) tOk hnt rfl ?_ ?_ | refine regD (T := tab) tOk mixedR hnt rfl (by decide +kernel) ?_ ?_ | refine tr_cond rfl (fun _ => ?_) (fun _ => ?_) | refine tr_block ?_ | refine tr_skip ?_ | refine tr_ret ?_ | refine tr_exit ?_)
  all_goals (try ((dsimp only [AllP]; (repeat' first | exact trivial | assumption | exact Nat.le_of_ble_eq_true rfl | apply And.intro | intro _ | exact rfl)); done))
  · rename_i h
    refine ⟨.inr rfl, _, _, rfl, by trivial, ?_⟩
    rw [askA (by simpa using h)]
    rfl
  all_goals (have hz : gfaultF l = 0 := by first | (rename_i h _; simpa using h) | (rename_i h _ _; simpa using h))
  · rename_i h
    refine ⟨.inr rfl, _, _, rfl, by trivial, ?_⟩
    simp at h
    rw [askB hz (by omega)]
    rfl
  · rename_i h1 h
    refine ⟨.inr rfl, _, _, rfl, by trivial, ?_⟩
    simp at h h1
    rw [askC hz (by omega) (by omega)]
    rfl
  · rename_i h1 h
    refine ⟨.inr rfl, _, _, rfl, by trivial, ?_⟩
    simp at h h1
    rw [askD hz (by omega) (by omega)]
    rfl
end Go.Proofs.Ytmicapdbgjafnab
