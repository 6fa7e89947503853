/- The law's own function: DeedChecks. No condition. -/
import Derived.Test.YtphaholcndhonaaDoorTDd4
namespace Go.Proofs.YtphaholcndhonaaDoor
open Go Go.RowKit Go.Proofs.YtphaholcndhonaaDoor.Ab
set_option linter.unusedSimpArgs false
set_option linter.unusedVariables false

set_option maxRecDepth 10000 in
set_option maxHeartbeats 2000000 in
theorem deedChecks_fn (s : Sta) (h : s.ok) : FnG Tryd.prog 7 gK [.agg (.es (eSta s))] (.v (.bool true)) := by
  refine fn_introG (T := tab) tOk Tryd.func7 rfl (by kernel_rfl) (by simp [Tryd.ntmps7]) ?_
  intro X hX
  have hnt : X.nt = 12 := hX
  clear hX
  have h1 := deedCheck_fn s h
  have h2 := stateFault_fn s h
  have h118 := staLen h
  generalize staF s = e at *
  have e19 : List.take 118 (List.drop 0 (eSta s)) = eSta s := List.take_of_length_le (Nat.le_of_eq h118)
  have f19 : 0 + 118 ≤ (Cs.es (eSta s)).len := by show 0 + 118 ≤ (eSta s).length; omega
  rw [← e19] at h1 h2
  repeat' (first | refine tr_seq ?_ | refine reg (T := tab) tOk hnt rfl ?_ ?_ | refine regD (T := tab) tOk mixedR hnt rfl (by first | decide +kernel | kernel_rfl) ?_ ?_ | refine tr_block ?_ | refine tr_skip ?_)
  · (dsimp only [AllP]; (repeat' first | exact trivial | assumption | exact Nat.le_of_ble_eq_true rfl | apply And.intro | decide | intro _ | exact rfl))
  repeat' (first | refine tr_seq ?_ | refine tr_block ?_ | refine tr_skip ?_)
  refine tr_region (lex (T := tab) tOk hnt rfl ?_ (callV rfl rfl rfl rfl rfl rfl rfl hnt rfl (h1) (lex (T := tab) tOk hnt rfl ?_ (Lex.nil _)))) ?_
  · (dsimp only [AllP]; (repeat' first | exact trivial | assumption | exact Nat.le_of_ble_eq_true rfl | apply And.intro | exact eCells_len1 _ _ ‹_› | exact eCells_isByte _ _ ‹_› | (intro hh_; have hg_ := hh_; (try simp only [condT_ff, condF_tt, notE_t, notE_f, Bool.and_eq_true, ne_eq, decide_eq_true_eq, decide_eq_false_iff_not] at hg_)) | intro _ | exact rfl | omega))
  · (dsimp only [AllP]; (repeat' first | exact trivial | assumption | exact Nat.le_of_ble_eq_true rfl | apply And.intro | decide | intro _ | exact rfl))
  repeat' (first | refine tr_seq ?_ | refine tr_block ?_ | refine tr_skip ?_)
  refine tr_region (lex (T := tab) tOk hnt rfl ?_ (callV rfl rfl rfl rfl rfl rfl rfl hnt rfl (h2) (lex (T := tab) tOk hnt rfl ?_ (Lex.nil _)))) ?_
  · (dsimp only [AllP]; (repeat' first | exact trivial | assumption | exact Nat.le_of_ble_eq_true rfl | apply And.intro | exact eCells_len1 _ _ ‹_› | exact eCells_isByte _ _ ‹_› | (intro hh_; have hg_ := hh_; (try simp only [condT_ff, condF_tt, notE_t, notE_f, Bool.and_eq_true, ne_eq, decide_eq_true_eq, decide_eq_false_iff_not] at hg_)) | intro _ | exact rfl | omega))
  · (dsimp only [AllP]; (repeat' first | exact trivial | assumption | exact Nat.le_of_ble_eq_true rfl | apply And.intro | decide | intro _ | exact rfl))
  repeat' (first | refine tr_seq ?_ | refine reg (T := tab) tOk hnt rfl ?_ ?_ | refine regD (T := tab) tOk mixedR hnt rfl (by first | decide +kernel | kernel_rfl) ?_ ?_ | refine tr_block ?_ | refine tr_skip ?_)
  · (dsimp only [AllP]; (repeat' first | exact trivial | assumption | exact Nat.le_of_ble_eq_true rfl | apply And.intro | decide | intro _ | exact rfl))
  refine tr_ret ⟨.inr rfl, _, _, rfl, by trivial, ?_⟩
  simp
  rfl
end Go.Proofs.YtphaholcndhonaaDoor
