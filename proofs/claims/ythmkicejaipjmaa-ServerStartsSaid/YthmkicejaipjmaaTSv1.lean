/- Package server: a server is started; the parts of the comparison at empty lists. No condition. -/
import Derived.Test.YthmkicejaipjmaaAbF
import Derived.Test.YthmkicejaipjmaaAbTab
namespace Go.Proofs.Ythmkicejaipjmaa
open Go Go.RowKit Go.Proofs.Ythmkicejaipjmaa.Ab

theorem mixedR : Try.prog.follows .mixedOrders = true := by kernel_rfl
def nilE : D := .one (.e (.sl []))

set_option maxRecDepth 10000 in
theorem lists_nil : FnD Try.prog 11 [nilE, nilE] (.v (.bool true)) := by
  refine fn_intro (T := tab) tOk Try.func11 rfl (by kernel_rfl) (by simp [Try.ntmps11]) ?_
  intro X hX
  have hnt : X.nt = 28 := hX
  clear hX
  repeat' (first | refine tr_seq ?_ | refine reg (T := tab) tOk hnt rfl ?_ ?_ | refine regD (T := tab) tOk mixedR hnt rfl (by decide +kernel) ?_ ?_ | refine tr_cond rfl (fun _ => ?_) (fun _ => ?_) | refine tr_block ?_ | refine tr_skip ?_ | refine tr_ret ?_ | refine tr_exit ?_)
  all_goals (try ((dsimp only [AllP]; (repeat' first | exact trivial | assumption | exact Nat.le_of_ble_eq_true rfl | apply And.intro | intro _ | exact rfl)); done))
  · rename_i h
    exact absurd h (by decide)
  refine tr_loop (σ := Unit) (fun _ => St.of [(0, nilE), (1, nilE), (12, .v (.int .i64 0)), (13, .v (.int .i64 0))] []) (fun _ => True) (fun _ => 0) () (le_of (ad := []) ⟨rfl, rfl, rfl, rfl, trivial⟩ trivial) trivial ?_
  intro x _
  cases x
  refine tr_seq (reg (T := tab) tOk hnt rfl (by (dsimp only [AllP]; (repeat' first | exact trivial | assumption | exact Nat.le_of_ble_eq_true rfl | apply And.intro | intro _ | exact rfl))) ?_)
  refine tr_seq (tr_cond rfl (fun hk => absurd hk (by decide)) (fun _ => ?_))
  repeat' (first | refine tr_seq ?_ | refine reg (T := tab) tOk hnt rfl ?_ ?_ | refine regD (T := tab) tOk mixedR hnt rfl (by decide +kernel) ?_ ?_ | refine tr_cond rfl (fun _ => ?_) (fun _ => ?_) | refine tr_block ?_ | refine tr_skip ?_ | refine tr_ret ?_ | refine tr_exit ?_)
  all_goals (try ((dsimp only [AllP]; (repeat' first | exact trivial | assumption | exact Nat.le_of_ble_eq_true rfl | apply And.intro | intro _ | exact rfl)); done))
  exact ⟨.inr rfl, _, _, rfl, by trivial, rfl⟩

set_option maxRecDepth 10000 in
theorem grants_nil : FnD Try.prog 14 [nilE, nilE] (.v (.bool true)) := by
  refine fn_intro (T := tab) tOk Try.func14 rfl (by kernel_rfl) (by simp [Try.ntmps14]) ?_
  intro X hX
  have hnt : X.nt = 26 := hX
  clear hX
  repeat' (first | refine tr_seq ?_ | refine reg (T := tab) tOk hnt rfl ?_ ?_ | refine regD (T := tab) tOk mixedR hnt rfl (by decide +kernel) ?_ ?_ | refine tr_cond rfl (fun _ => ?_) (fun _ => ?_) | refine tr_block ?_ | refine tr_skip ?_ | refine tr_ret ?_ | refine tr_exit ?_)
  all_goals (try ((dsimp only [AllP]; (repeat' first | exact trivial | assumption | exact Nat.le_of_ble_eq_true rfl | apply And.intro | intro _ | exact rfl)); done))
  · rename_i h
    exact absurd h (by decide)
  refine tr_loop (σ := Unit) (fun _ => St.of [(0, nilE), (1, nilE), (12, .v (.int .i64 0)), (13, .v (.int .i64 0))] []) (fun _ => True) (fun _ => 0) () (le_of (ad := []) ⟨rfl, rfl, rfl, rfl, trivial⟩ trivial) trivial ?_
  intro x _
  cases x
  refine tr_seq (reg (T := tab) tOk hnt rfl (by (dsimp only [AllP]; (repeat' first | exact trivial | assumption | exact Nat.le_of_ble_eq_true rfl | apply And.intro | intro _ | exact rfl))) ?_)
  refine tr_seq (tr_cond rfl (fun hk => absurd hk (by decide)) (fun _ => ?_))
  repeat' (first | refine tr_seq ?_ | refine reg (T := tab) tOk hnt rfl ?_ ?_ | refine regD (T := tab) tOk mixedR hnt rfl (by decide +kernel) ?_ ?_ | refine tr_cond rfl (fun _ => ?_) (fun _ => ?_) | refine tr_block ?_ | refine tr_skip ?_ | refine tr_ret ?_ | refine tr_exit ?_)
  all_goals (try ((dsimp only [AllP]; (repeat' first | exact trivial | assumption | exact Nat.le_of_ble_eq_true rfl | apply And.intro | intro _ | exact rfl)); done))
  exact ⟨.inr rfl, _, _, rfl, by trivial, rfl⟩

set_option maxRecDepth 10000 in
theorem columns_nil : FnD Try.prog 15 [nilE, nilE] (.v (.bool true)) := by
  refine fn_intro (T := tab) tOk Try.func15 rfl (by kernel_rfl) (by simp [Try.ntmps15]) ?_
  intro X hX
  have hnt : X.nt = 26 := hX
  clear hX
  repeat' (first | refine tr_seq ?_ | refine reg (T := tab) tOk hnt rfl ?_ ?_ | refine regD (T := tab) tOk mixedR hnt rfl (by decide +kernel) ?_ ?_ | refine tr_cond rfl (fun _ => ?_) (fun _ => ?_) | refine tr_block ?_ | refine tr_skip ?_ | refine tr_ret ?_ | refine tr_exit ?_)
  all_goals (try ((dsimp only [AllP]; (repeat' first | exact trivial | assumption | exact Nat.le_of_ble_eq_true rfl | apply And.intro | intro _ | exact rfl)); done))
  · rename_i h
    exact absurd h (by decide)
  refine tr_loop (σ := Unit) (fun _ => St.of [(0, nilE), (1, nilE), (12, .v (.int .i64 0)), (13, .v (.int .i64 0))] []) (fun _ => True) (fun _ => 0) () (le_of (ad := []) ⟨rfl, rfl, rfl, rfl, trivial⟩ trivial) trivial ?_
  intro x _
  cases x
  refine tr_seq (reg (T := tab) tOk hnt rfl (by (dsimp only [AllP]; (repeat' first | exact trivial | assumption | exact Nat.le_of_ble_eq_true rfl | apply And.intro | intro _ | exact rfl))) ?_)
  refine tr_seq (tr_cond rfl (fun hk => absurd hk (by decide)) (fun _ => ?_))
  repeat' (first | refine tr_seq ?_ | refine reg (T := tab) tOk hnt rfl ?_ ?_ | refine regD (T := tab) tOk mixedR hnt rfl (by decide +kernel) ?_ ?_ | refine tr_cond rfl (fun _ => ?_) (fun _ => ?_) | refine tr_block ?_ | refine tr_skip ?_ | refine tr_ret ?_ | refine tr_exit ?_)
  all_goals (try ((dsimp only [AllP]; (repeat' first | exact trivial | assumption | exact Nat.le_of_ble_eq_true rfl | apply And.intro | intro _ | exact rfl)); done))
  exact ⟨.inr rfl, _, _, rfl, by trivial, rfl⟩

set_option maxRecDepth 10000 in
theorem row_nil : FnD Try.prog 16 [nilE, nilE] (.v (.bool true)) := by
  refine fn_intro (T := tab) tOk Try.func16 rfl (by kernel_rfl) (by simp [Try.ntmps16]) ?_
  intro X hX
  have hnt : X.nt = 26 := hX
  clear hX
  repeat' (first | refine tr_seq ?_ | refine reg (T := tab) tOk hnt rfl ?_ ?_ | refine regD (T := tab) tOk mixedR hnt rfl (by decide +kernel) ?_ ?_ | refine tr_cond rfl (fun _ => ?_) (fun _ => ?_) | refine tr_block ?_ | refine tr_skip ?_ | refine tr_ret ?_ | refine tr_exit ?_)
  all_goals (try ((dsimp only [AllP]; (repeat' first | exact trivial | assumption | exact Nat.le_of_ble_eq_true rfl | apply And.intro | intro _ | exact rfl)); done))
  · rename_i h
    exact absurd h (by decide)
  refine tr_loop (σ := Unit) (fun _ => St.of [(0, nilE), (1, nilE), (12, .v (.int .i64 0)), (13, .v (.int .i64 0))] []) (fun _ => True) (fun _ => 0) () (le_of (ad := []) ⟨rfl, rfl, rfl, rfl, trivial⟩ trivial) trivial ?_
  intro x _
  cases x
  refine tr_seq (reg (T := tab) tOk hnt rfl (by (dsimp only [AllP]; (repeat' first | exact trivial | assumption | exact Nat.le_of_ble_eq_true rfl | apply And.intro | intro _ | exact rfl))) ?_)
  refine tr_seq (tr_cond rfl (fun hk => absurd hk (by decide)) (fun _ => ?_))
  repeat' (first | refine tr_seq ?_ | refine reg (T := tab) tOk hnt rfl ?_ ?_ | refine regD (T := tab) tOk mixedR hnt rfl (by decide +kernel) ?_ ?_ | refine tr_cond rfl (fun _ => ?_) (fun _ => ?_) | refine tr_block ?_ | refine tr_skip ?_ | refine tr_ret ?_ | refine tr_exit ?_)
  all_goals (try ((dsimp only [AllP]; (repeat' first | exact trivial | assumption | exact Nat.le_of_ble_eq_true rfl | apply And.intro | intro _ | exact rfl)); done))
  exact ⟨.inr rfl, _, _, rfl, by trivial, rfl⟩

set_option maxRecDepth 10000 in
theorem bytes_same (b : List UInt8) : FnD Try.prog 9 [.one (.e (eBytes b)), .one (.e (eBytes b))] (.v (.bool true)) := by
  refine fn_intro (T := tab) tOk Try.func9 rfl (by kernel_rfl) (by simp [Try.ntmps9]) ?_
  intro X hX
  have hnt : X.nt = 10 := hX
  clear hX
  have hby : ∀ cs ∈ eCells b, isByte cs := eCells_isByte _
  repeat' (first | refine tr_seq ?_ | refine reg (T := tab) tOk hnt rfl ?_ ?_ | refine regD (T := tab) tOk mixedR hnt rfl (by decide +kernel) ?_ ?_ | refine tr_cond rfl (fun _ => ?_) (fun _ => ?_) | refine tr_block ?_ | refine tr_skip ?_ | refine tr_ret ?_ | refine tr_exit ?_)
  all_goals (try ((dsimp only [AllP]; (repeat' first | exact trivial | assumption | exact Nat.le_of_ble_eq_true rfl | apply And.intro | intro _ | exact rfl)); done))
  refine ⟨.inr rfl, _, _, rfl, by trivial, ?_⟩
  show D.v (.bool (strEq _ _)) = _
  rw [show strEq (bytesOf (eCells b)) (bytesOf (eCells b)) = true from by simp [strEq]]
end Go.Proofs.Ythmkicejaipjmaa
