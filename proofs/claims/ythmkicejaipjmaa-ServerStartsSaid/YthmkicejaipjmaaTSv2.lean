/- Package server: a server is started; tables compared. No condition. -/
import Derived.Test.YthmkicejaipjmaaTSv1
namespace Go.Proofs.Ythmkicejaipjmaa
open Go Go.RowKit Go.Proofs.Ythmkicejaipjmaa.Ab

def zCell : List E := [.v (.bool false), .sl []]
def zTab : List E := [.v (.bool false), .v (.string .empty), .sl []] ++ (zCell ++ zCell ++ zCell ++ zCell ++ zCell ++ zCell ++ zCell ++ zCell)
theorem ft {p : Prop} (h : false = true) : p := nomatch h
theorem tf {p : Prop} (h : true = false) : p := nomatch h

set_option maxRecDepth 10000 in
theorem table_zero : FnD Try.prog 13 [.agg (.es zTab), .agg (.es zTab)] (.v (.bool true)) := by
  refine fn_intro (T := tab) tOk Try.func13 rfl (by kernel_rfl) (by simp [Try.ntmps13]) ?_
  intro X hX
  have hnt : X.nt = 62 := hX
  clear hX
  refine tr_seq (reg (T := tab) tOk hnt rfl ?_ ?_)
  · (dsimp only [AllP]; (repeat' first | exact trivial | assumption | exact Nat.le_of_ble_eq_true rfl | apply And.intro | intro _ | exact rfl))
  repeat' (first | refine tr_seq ?_ | refine tr_block ?_)
  refine tr_region (lex (T := tab) tOk hnt rfl ?_ (callG rfl rfl rfl rfl rfl rfl hnt rfl (fun hq => ?_) (fun hq => columns_nil) (lex (T := tab) tOk hnt rfl ?_ (Lex.nil _)))) ?_
  · (dsimp only [AllP]; (repeat' first | exact trivial | assumption | exact Nat.le_of_ble_eq_true rfl | apply And.intro | intro _ | exact rfl))
  · (dsimp only [AllP]; (repeat' first | exact trivial | assumption | exact Nat.le_of_ble_eq_true rfl | apply And.intro | intro _ | exact rfl))
  · (dsimp only [AllP]; (repeat' first | exact trivial | assumption | exact Nat.le_of_ble_eq_true rfl | apply And.intro | intro _ | exact rfl))
  refine tr_cond rfl (fun h => by simp [strEq] at h) (fun _ => ?_)
  repeat' (first | refine tr_seq ?_ | refine reg (T := tab) tOk hnt rfl ?_ ?_ | refine tr_block ?_ | refine tr_skip ?_)
  · (dsimp only [AllP]; (repeat' first | exact trivial | assumption | exact Nat.le_of_ble_eq_true rfl | apply And.intro | intro _ | exact rfl))
  refine tr_loop (σ := Nat) (fun d => St.of [(2, .one (.ptr 2 0 0)), (3, .one (.ptr 3 0 0)), (29, .v (.int .i64 d))] [(2, ⟨0, .box (.es zTab), 0⟩), (3, ⟨0, .box (.es zTab), 0⟩)]) (fun d => d ≤ 2) (fun d => 2 - d) 0 (le_of (ad := []) ⟨⟨rfl, rfl, rfl, rfl, rfl⟩, ⟨rfl, rfl, rfl, rfl, rfl⟩, rfl, trivial⟩ (memOk_box rfl rfl rfl (memOk_box rfl rfl rfl trivial))) (Nat.zero_le _) ?_
  intro d hd
  refine tr_seq (reg (T := tab) tOk hnt rfl ?_ ?_)
  · (dsimp only [AllP]; (repeat' first | exact trivial | assumption | exact Nat.le_of_ble_eq_true rfl | apply And.intro | intro _ | exact rfl))
  refine tr_seq (tr_cond rfl (fun h => ?_) (fun h => ?_))
  · have h := of_decide_eq_true h
    have hd2 : d < 2 := by omega
    repeat' (first | refine tr_seq ?_ | refine reg (T := tab) tOk hnt rfl ?_ ?_ | refine tr_block ?_ | refine tr_skip ?_)
    all_goals (try ((dsimp only [AllP]; (repeat' first | exact trivial | assumption | exact Nat.le_of_ble_eq_true rfl | apply And.intro | intro _ | exact rfl)); done))
    refine tr_loop (σ := Nat) (fun i => St.of [(2, .one (.ptr 2 0 0)), (3, .one (.ptr 3 0 0)), (5, .v (.int .i64 d)), (29, .v (.int .i64 d)), (32, .v (.int .i64 i))] [(2, ⟨0, .box (.es zTab), 0⟩), (3, ⟨0, .box (.es zTab), 0⟩)]) (fun d => d ≤ 4) (fun d => 4 - d) 0 (le_of (ad := []) ⟨⟨rfl, rfl, rfl, rfl, rfl⟩, ⟨rfl, rfl, rfl, rfl, rfl⟩, rfl, rfl, rfl, trivial⟩ (memOk_box rfl rfl rfl (memOk_box rfl rfl rfl trivial))) (Nat.zero_le _) ?_
    intro i hi
    refine tr_seq (reg (T := tab) tOk hnt rfl ?_ ?_)
    · (dsimp only [AllP]; (repeat' first | exact trivial | assumption | exact Nat.le_of_ble_eq_true rfl | apply And.intro | intro _ | exact rfl))
    refine tr_seq (tr_cond rfl (fun h => ?_) (fun h => ?_))
    · have h := of_decide_eq_true h
      have hi4 : i < 4 := by omega
      refine tr_skip ?_
      clear h hd hi
      rcases (show d = 0 ∨ d = 1 by omega) with rfl | rfl <;> rcases (show i = 0 ∨ i = 1 ∨ i = 2 ∨ i = 3 by omega) with rfl | rfl | rfl | rfl
      all_goals
        repeat' (first | refine tr_seq ?_ | refine reg (T := tab) tOk hnt rfl ?_ ?_ | refine regD (T := tab) tOk mixedR hnt rfl (by decide +kernel) ?_ ?_ | refine tr_block ?_ | refine tr_skip ?_)
      all_goals (try ((dsimp only [AllP]; (repeat' first | exact trivial | assumption | exact Nat.le_of_ble_eq_true rfl | apply And.intro | intro _ | exact rfl | decide)); done))
      all_goals
        refine tr_region (lex (T := tab) tOk hnt rfl ?_ (callG rfl rfl rfl rfl rfl rfl hnt rfl (fun hq => ?_) (fun hq => row_nil) (lex (T := tab) tOk hnt rfl ?_ (Lex.nil _)))) ?_
      all_goals (try ((dsimp only [AllP]; (repeat' first | exact trivial | assumption | exact Nat.le_of_ble_eq_true rfl | apply And.intro | intro _ | exact rfl | decide)); done))
      all_goals
        refine tr_cond rfl (fun h => ft h) (fun _ => ?_)
        repeat' (first | refine tr_seq ?_ | refine reg (T := tab) tOk hnt rfl ?_ ?_ | refine tr_block ?_ | refine tr_skip ?_)
      all_goals (try ((dsimp only [AllP]; (repeat' first | exact trivial | assumption | exact Nat.le_of_ble_eq_true rfl | apply And.intro | intro _ | exact rfl | decide)); done))
      · exact ⟨1, by decide, by decide, le_of (ad := []) ⟨⟨rfl, rfl, rfl, rfl, rfl⟩, ⟨rfl, rfl, rfl, rfl, rfl⟩, rfl, rfl, rfl, trivial⟩ (memOk_box rfl rfl rfl (memOk_box rfl rfl rfl trivial))⟩
      · exact ⟨2, by decide, by decide, le_of (ad := []) ⟨⟨rfl, rfl, rfl, rfl, rfl⟩, ⟨rfl, rfl, rfl, rfl, rfl⟩, rfl, rfl, rfl, trivial⟩ (memOk_box rfl rfl rfl (memOk_box rfl rfl rfl trivial))⟩
      · exact ⟨3, by decide, by decide, le_of (ad := []) ⟨⟨rfl, rfl, rfl, rfl, rfl⟩, ⟨rfl, rfl, rfl, rfl, rfl⟩, rfl, rfl, rfl, trivial⟩ (memOk_box rfl rfl rfl (memOk_box rfl rfl rfl trivial))⟩
      · exact ⟨4, by decide, by decide, le_of (ad := []) ⟨⟨rfl, rfl, rfl, rfl, rfl⟩, ⟨rfl, rfl, rfl, rfl, rfl⟩, rfl, rfl, rfl, trivial⟩ (memOk_box rfl rfl rfl (memOk_box rfl rfl rfl trivial))⟩
      · exact ⟨1, by decide, by decide, le_of (ad := []) ⟨⟨rfl, rfl, rfl, rfl, rfl⟩, ⟨rfl, rfl, rfl, rfl, rfl⟩, rfl, rfl, rfl, trivial⟩ (memOk_box rfl rfl rfl (memOk_box rfl rfl rfl trivial))⟩
      · exact ⟨2, by decide, by decide, le_of (ad := []) ⟨⟨rfl, rfl, rfl, rfl, rfl⟩, ⟨rfl, rfl, rfl, rfl, rfl⟩, rfl, rfl, rfl, trivial⟩ (memOk_box rfl rfl rfl (memOk_box rfl rfl rfl trivial))⟩
      · exact ⟨3, by decide, by decide, le_of (ad := []) ⟨⟨rfl, rfl, rfl, rfl, rfl⟩, ⟨rfl, rfl, rfl, rfl, rfl⟩, rfl, rfl, rfl, trivial⟩ (memOk_box rfl rfl rfl (memOk_box rfl rfl rfl trivial))⟩
      · exact ⟨4, by decide, by decide, le_of (ad := []) ⟨⟨rfl, rfl, rfl, rfl, rfl⟩, ⟨rfl, rfl, rfl, rfl, rfl⟩, rfl, rfl, rfl, trivial⟩ (memOk_box rfl rfl rfl (memOk_box rfl rfl rfl trivial))⟩
    · have h := of_decide_eq_false h
      refine tr_exit ?_
      repeat' (first | refine tr_seq ?_ | refine reg (T := tab) tOk hnt rfl ?_ ?_ | refine tr_block ?_ | refine tr_skip ?_)
      · (dsimp only [AllP]; (repeat' first | exact trivial | assumption | exact Nat.le_of_ble_eq_true rfl | apply And.intro | intro _ | exact rfl | decide))
      refine ⟨d + 1, hd2, by omega, le_of (ad := []) ⟨⟨rfl, rfl, rfl, rfl, rfl⟩, ⟨rfl, rfl, rfl, rfl, rfl⟩, congrArg (fun z : Int => E.v (.int .i64 z)) (wrap64_id (by omega) (by omega)), trivial⟩ (memOk_box rfl rfl rfl (memOk_box rfl rfl rfl trivial))⟩
  · refine tr_exit ?_
    repeat' (first | refine tr_seq ?_ | refine reg (T := tab) tOk hnt rfl ?_ ?_ | refine regD (T := tab) tOk mixedR hnt rfl (by decide +kernel) ?_ ?_ | refine tr_cond rfl (fun _ => ?_) (fun _ => ?_) | refine tr_block ?_ | refine tr_skip ?_ | refine tr_ret ?_ | refine tr_exit ?_)
    · (dsimp only [AllP]; (repeat' first | exact trivial | assumption | exact Nat.le_of_ble_eq_true rfl | apply And.intro | intro _ | exact rfl | decide))
    exact ⟨.inr rfl, _, _, rfl, by trivial, rfl⟩
end Go.Proofs.Ythmkicejaipjmaa
