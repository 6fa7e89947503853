/- Package server: a server is started; states and disks compared. No condition. -/
import Derived.Test.YthmkicejaipjmaaTSv2
namespace Go.Proofs.Ythmkicejaipjmaa
open Go Go.RowKit Go.Proofs.Ythmkicejaipjmaa.Ab

def zState : List E := zTab ++ zTab ++ zTab ++ zTab ++ zTab ++ zTab ++ [.sl [], eI 0, eI 0, eI 0]
set_option maxRecDepth 10000 in
theorem state_zero : FnD Try.prog 10 [.agg (.es zState), .agg (.es zState)] (.v (.bool true)) := by
  refine fn_intro (T := tab) tOk Try.func10 rfl (by kernel_rfl) (by simp [Try.ntmps10]) ?_
  intro X hX
  have hnt : X.nt = 41 := hX
  clear hX
  repeat' (first | refine tr_seq ?_ | refine reg (T := tab) tOk hnt rfl ?_ ?_ | refine tr_block ?_ | refine tr_skip ?_)
  all_goals (try ((dsimp only [AllP]; (repeat' first | exact trivial | assumption | exact Nat.le_of_ble_eq_true rfl | apply And.intro | intro _ | exact rfl)); done))
  refine tr_loop (σ := Nat) (fun d => St.of [(2, .one (.ptr 2 0 0)), (3, .one (.ptr 3 0 0)), (7, .v (.int .i64 d))] [(2, ⟨0, .box (.es zState), 0⟩), (3, ⟨0, .box (.es zState), 0⟩)]) (fun d => d ≤ 3) (fun d => 3 - d) 0 (le_of (ad := []) ⟨⟨rfl, rfl, rfl, rfl, rfl⟩, ⟨rfl, rfl, rfl, rfl, rfl⟩, rfl, trivial⟩ (memOk_box rfl rfl rfl (memOk_box rfl rfl rfl trivial))) (Nat.zero_le _) ?_
  intro d hd
  refine tr_seq (reg (T := tab) tOk hnt rfl ?_ ?_)
  · (dsimp only [AllP]; (repeat' first | exact trivial | assumption | exact Nat.le_of_ble_eq_true rfl | apply And.intro | intro _ | exact rfl))
  refine tr_seq (tr_cond rfl (fun h => ?_) (fun h => ?_))
  · have h := of_decide_eq_true h
    have hd2 : d < 3 := by omega
    repeat' (first | refine tr_seq ?_ | refine reg (T := tab) tOk hnt rfl ?_ ?_ | refine tr_block ?_ | refine tr_skip ?_)
    all_goals (try ((dsimp only [AllP]; (repeat' first | exact trivial | assumption | exact Nat.le_of_ble_eq_true rfl | apply And.intro | intro _ | exact rfl)); done))
    refine tr_loop (σ := Nat) (fun i => St.of [(2, .one (.ptr 2 0 0)), (3, .one (.ptr 3 0 0)), (5, .v (.int .i64 d)), (7, .v (.int .i64 d)), (10, .v (.int .i64 i))] [(2, ⟨0, .box (.es zState), 0⟩), (3, ⟨0, .box (.es zState), 0⟩)]) (fun d => d ≤ 2) (fun d => 2 - d) 0 (le_of (ad := []) ⟨⟨rfl, rfl, rfl, rfl, rfl⟩, ⟨rfl, rfl, rfl, rfl, rfl⟩, rfl, rfl, rfl, trivial⟩ (memOk_box rfl rfl rfl (memOk_box rfl rfl rfl trivial))) (Nat.zero_le _) ?_
    intro i hi
    refine tr_seq (reg (T := tab) tOk hnt rfl ?_ ?_)
    · (dsimp only [AllP]; (repeat' first | exact trivial | assumption | exact Nat.le_of_ble_eq_true rfl | apply And.intro | intro _ | exact rfl))
    refine tr_seq (tr_cond rfl (fun h => ?_) (fun h => ?_))
    · have h := of_decide_eq_true h
      have hi4 : i < 2 := by omega
      refine tr_skip ?_
      clear h hd hi
      rcases (show d = 0 ∨ d = 1 ∨ d = 2 by omega) with rfl | rfl | rfl <;> rcases (show i = 0 ∨ i = 1 by omega) with rfl | rfl
      all_goals
        repeat' (first | refine tr_seq ?_ | refine reg (T := tab) tOk hnt rfl ?_ ?_ | refine tr_block ?_ | refine tr_skip ?_)
      all_goals (try ((dsimp only [AllP]; (repeat' first | exact trivial | assumption | exact Nat.le_of_ble_eq_true rfl | apply And.intro | intro _ | exact rfl)); done))
      all_goals
        refine tr_draw (T := tab) tOk hnt mixedR (lexD (T := tab) rfl ?_ (callD rfl rfl rfl rfl rfl rfl rfl rfl table_zero (lexD (T := tab) rfl ?_ (.nil _)))) (by decide +kernel) ?_
      all_goals (try ((dsimp only [AllP]; (repeat' first | exact trivial | assumption | exact Nat.le_of_ble_eq_true rfl | apply And.intro | intro _ | exact rfl | decide)); done))
      all_goals
        refine tr_cond rfl (fun h => ft h) (fun _ => ?_)
        repeat' (first | refine tr_seq ?_ | refine reg (T := tab) tOk hnt rfl ?_ ?_ | refine tr_block ?_ | refine tr_skip ?_)
      all_goals (try ((dsimp only [AllP]; (repeat' first | exact trivial | assumption | exact Nat.le_of_ble_eq_true rfl | apply And.intro | intro _ | exact rfl)); done))
      · exact ⟨1, by decide, by decide, le_of (ad := []) ⟨⟨rfl, rfl, rfl, rfl, rfl⟩, ⟨rfl, rfl, rfl, rfl, rfl⟩, rfl, rfl, rfl, trivial⟩ (memOk_box rfl rfl rfl (memOk_box rfl rfl rfl trivial))⟩
      · exact ⟨2, by decide, by decide, le_of (ad := []) ⟨⟨rfl, rfl, rfl, rfl, rfl⟩, ⟨rfl, rfl, rfl, rfl, rfl⟩, rfl, rfl, rfl, trivial⟩ (memOk_box rfl rfl rfl (memOk_box rfl rfl rfl trivial))⟩
      · exact ⟨1, by decide, by decide, le_of (ad := []) ⟨⟨rfl, rfl, rfl, rfl, rfl⟩, ⟨rfl, rfl, rfl, rfl, rfl⟩, rfl, rfl, rfl, trivial⟩ (memOk_box rfl rfl rfl (memOk_box rfl rfl rfl trivial))⟩
      · exact ⟨2, by decide, by decide, le_of (ad := []) ⟨⟨rfl, rfl, rfl, rfl, rfl⟩, ⟨rfl, rfl, rfl, rfl, rfl⟩, rfl, rfl, rfl, trivial⟩ (memOk_box rfl rfl rfl (memOk_box rfl rfl rfl trivial))⟩
      · exact ⟨1, by decide, by decide, le_of (ad := []) ⟨⟨rfl, rfl, rfl, rfl, rfl⟩, ⟨rfl, rfl, rfl, rfl, rfl⟩, rfl, rfl, rfl, trivial⟩ (memOk_box rfl rfl rfl (memOk_box rfl rfl rfl trivial))⟩
      · exact ⟨2, by decide, by decide, le_of (ad := []) ⟨⟨rfl, rfl, rfl, rfl, rfl⟩, ⟨rfl, rfl, rfl, rfl, rfl⟩, rfl, rfl, rfl, trivial⟩ (memOk_box rfl rfl rfl (memOk_box rfl rfl rfl trivial))⟩
    · have h := of_decide_eq_false h
      refine tr_exit ?_
      repeat' (first | refine tr_seq ?_ | refine reg (T := tab) tOk hnt rfl ?_ ?_ | refine tr_block ?_ | refine tr_skip ?_)
      · (dsimp only [AllP]; (repeat' first | exact trivial | assumption | exact Nat.le_of_ble_eq_true rfl | apply And.intro | intro _ | exact rfl))
      refine ⟨d + 1, hd2, by omega, le_of (ad := []) ⟨⟨rfl, rfl, rfl, rfl, rfl⟩, ⟨rfl, rfl, rfl, rfl, rfl⟩, congrArg (fun z : Int => E.v (.int .i64 z)) (wrap64_id (by omega) (by omega)), trivial⟩ (memOk_box rfl rfl rfl (memOk_box rfl rfl rfl trivial))⟩
  · refine tr_exit ?_
    repeat' (first | refine tr_seq ?_ | refine tr_block ?_)
    refine tr_region (lex (T := tab) tOk hnt rfl ?_ (call rfl rfl rfl rfl rfl rfl rfl hnt grants_nil (lex (T := tab) tOk hnt rfl ?_ (Lex.nil _)))) ?_
    · (dsimp only [AllP]; (repeat' first | exact trivial | assumption | exact Nat.le_of_ble_eq_true rfl | apply And.intro | intro _ | exact rfl | decide))
    · (dsimp only [AllP]; (repeat' first | exact trivial | assumption | exact Nat.le_of_ble_eq_true rfl | apply And.intro | intro _ | exact rfl | decide))
      all_goals
        rename_i i hi
        rcases (show i = 0 ∨ i = 1 ∨ i = 2 by omega) with rfl | rfl | rfl <;> first | exact Nat.le_of_ble_eq_true rfl | exact rfl
    repeat' (first | refine tr_seq ?_ | refine reg (T := tab) tOk hnt rfl ?_ ?_ | refine regD (T := tab) tOk mixedR hnt rfl (by decide +kernel) ?_ ?_ | refine tr_cond rfl (fun _ => ?_) (fun _ => ?_) | refine tr_block ?_ | refine tr_skip ?_ | refine tr_ret ?_ | refine tr_exit ?_)
    all_goals (try ((dsimp only [AllP]; (repeat' first | exact trivial | assumption | exact Nat.le_of_ble_eq_true rfl | apply And.intro | intro _ | exact rfl)); done))
    exact ⟨.inr rfl, _, _, rfl, by trivial, rfl⟩

def zSec : List E := List.replicate 32 (.v (.int .u8 0))
def eDisk (n : Nat) : List E := [.sl (List.replicate n zSec), .sl []]
theorem rp {n k : Nat} (h : k < n) : (List.replicate n zSec).getD k [] = zSec := by
  simp [List.getD, h]
theorem sec_at {i : Nat} (h : i < 32) : (Cs.es zSec).at (i * 1) = .e (.v (.int .u8 0)) := by
  simp only [Cs.at, zSec, Nat.mul_one, List.getD_eq_getElem?_getD, List.getElem?_replicate, h, if_true, Option.getD_some]
theorem sec_ok : (eqD tab 9 58 (.agg (.es zSec)) (.agg (.es zSec))).1 := by
  show ∀ i, i < 32 → _
  intro i hi
  have h1 : (Cs.es zSec).load ⟨1, 1, .int .u8, [.int .u8 0]⟩ (i * 1) = ((i * 1 < 32 ∧ True), .one (.e (.v (.int .u8 0)))) := by
    show (((i * 1 < 32 ∧ ((Cs.es zSec).at (i * 1)).isA (.int .u8)) : Prop), D.one (((Cs.es zSec).at (i * 1)).as (.int .u8))) = _
    rw [sec_at hi]
    have : (D0.isA (.int .u8) (D0.e (.v (.int .u8 0)))) = True := propext ⟨fun _ => trivial, fun _ => rfl⟩
    rw [this]
    rfl
  show ((Cs.es zSec).load ⟨1, 1, .int .u8, [.int .u8 0]⟩ (i * 1)).1 ∧ ((Cs.es zSec).load ⟨1, 1, .int .u8, [.int .u8 0]⟩ (i * 1)).1 ∧ (eqD tab 8 5 ((Cs.es zSec).load ⟨1, 1, .int .u8, [.int .u8 0]⟩ (i * 1)).2 ((Cs.es zSec).load ⟨1, 1, .int .u8, [.int .u8 0]⟩ (i * 1)).2).1
  rw [h1]
  exact ⟨⟨by omega, trivial⟩, ⟨by omega, trivial⟩, rfl⟩
theorem sec_eq : (eqD tab 9 58 (.agg (.es zSec)) (.agg (.es zSec))).2 = true := by rfl
set_option maxRecDepth 10000 in
theorem disk_same (n : Nat) (hn : n ≤ 400) : FnD Try.prog 12 [.agg (.es (eDisk n)), .agg (.es (eDisk n))] (.v (.bool true)) := by
  refine fn_intro (T := tab) tOk Try.func12 rfl (by kernel_rfl) (by simp [Try.ntmps12]) ?_
  intro X hX
  have hnt : X.nt = 59 := hX
  clear hX
  repeat' (first | refine tr_seq ?_ | refine reg (T := tab) tOk hnt rfl ?_ ?_ | refine tr_block ?_ | refine tr_skip ?_)
  all_goals (try ((dsimp only [AllP]; (repeat' first | exact trivial | assumption | exact Nat.le_of_ble_eq_true rfl | apply And.intro | intro _ | exact rfl)); done))
  refine tr_cond rfl (fun h => ?_) (fun h => ?_)
  · simp at h
  clear h
  repeat' (first | refine tr_seq ?_ | refine reg (T := tab) tOk hnt rfl ?_ ?_ | refine tr_block ?_ | refine tr_skip ?_)
  all_goals (try ((dsimp only [AllP]; (repeat' first | exact trivial | assumption | exact Nat.le_of_ble_eq_true rfl | apply And.intro | intro _ | exact rfl)); done))
  refine tr_loop (σ := Nat) (fun k => St.of [(2, .one (.ptr 2 0 0)), (3, .one (.ptr 3 0 0)), (25, .v (.int .i64 n)), (26, .v (.int .i64 k))] [(2, ⟨0, .box (.es (eDisk n)), 0⟩), (3, ⟨0, .box (.es (eDisk n)), 0⟩)]) (fun k => k ≤ n) (fun k => n - k) 0 (le_of (ad := []) ⟨⟨rfl, rfl, rfl, rfl, rfl⟩, ⟨rfl, rfl, rfl, rfl, rfl⟩, congrArg (fun z : Nat => E.v (.int .i64 (z : Int))) (List.length_replicate ..), rfl, trivial⟩ (memOk_box rfl rfl rfl (memOk_box rfl rfl rfl trivial))) (Nat.zero_le _) ?_
  intro k hk
  refine tr_seq (reg (T := tab) tOk hnt rfl ?_ ?_)
  · (dsimp only [AllP]; (repeat' first | exact trivial | assumption | exact Nat.le_of_ble_eq_true rfl | apply And.intro | intro _ | exact rfl))
  refine tr_seq (tr_cond rfl (fun h => ?_) (fun h => ?_))
  · have h := of_decide_eq_true h
    have hkn : k < n := by omega
    have hk0 : (k : Int).toNat = k := rfl
    repeat' (first | refine tr_seq ?_ | refine reg (T := tab) tOk hnt rfl ?_ ?_ | refine regD (T := tab) tOk mixedR hnt rfl (by decide +kernel) ?_ ?_ | refine tr_block ?_ | refine tr_skip ?_)
    all_goals (try ((dsimp only [AllP]; (repeat' first | exact trivial | assumption | exact Nat.le_of_ble_eq_true rfl | apply And.intro | intro _ | exact rfl)); done))
    all_goals
      have hg : ((eDisk n).getD (0 + 0) E.dflt).xs.getD (Int.toNat (k : Int)) [] = zSec := rp hkn
      have hL : (k : Int) < (((eDisk n).getD (0 + 0) E.dflt).xs.length : Int) := by
        show (k : Int) < ((List.replicate n zSec).length : Int)
        rw [List.length_replicate]
        omega
      rw [hg]
    · exact ⟨sec_ok, Nat.le_of_ble_eq_true rfl, ⟨Int.natCast_nonneg _, hL, rfl⟩, trivial, ⟨Nat.le_of_ble_eq_true rfl, rfl⟩, trivial, Nat.le_of_ble_eq_true rfl, ⟨Int.natCast_nonneg _, hL, rfl⟩, trivial, ⟨Nat.le_of_ble_eq_true rfl, rfl⟩, trivial⟩
    refine tr_cond rfl (fun h => ?_) (fun _ => ?_)
    · have h : (!(eqD tab 9 58 (.agg (.es zSec)) (.agg (.es zSec))).2) = true := h
      rw [sec_eq] at h
      exact ft h
    repeat' (first | refine tr_seq ?_ | refine reg (T := tab) tOk hnt rfl ?_ ?_ | refine tr_block ?_ | refine tr_skip ?_)
    · (dsimp only [AllP]; (repeat' first | exact trivial | assumption | exact Nat.le_of_ble_eq_true rfl | apply And.intro | intro _ | exact rfl | decide))
    refine ⟨k + 1, by omega, by omega, le_of (ad := []) ⟨⟨rfl, rfl, rfl, rfl, rfl⟩, ⟨rfl, rfl, rfl, rfl, rfl⟩, rfl, congrArg (fun z : Int => E.v (.int .i64 z)) (wrap64_id (by omega) (by omega)), trivial⟩ (memOk_box rfl rfl rfl (memOk_box rfl rfl rfl trivial))⟩
  · have h := of_decide_eq_false h
    refine tr_exit ?_
    repeat' (first | refine tr_seq ?_ | refine reg (T := tab) tOk hnt rfl ?_ ?_ | refine tr_block ?_ | refine tr_skip ?_)
    all_goals (try ((dsimp only [AllP]; (repeat' first | exact trivial | assumption | exact Nat.le_of_ble_eq_true rfl | apply And.intro | intro _ | exact rfl | decide)); done))
    refine tr_loop (σ := Unit) (fun _ => St.of [(43, .v (.int .i64 0)), (44, .v (.int .i64 0))] []) (fun _ => True) (fun _ => 0) () (le_of (ad := []) ⟨rfl, rfl, trivial⟩ trivial) trivial ?_
    intro x _
    cases x
    refine tr_seq (reg (T := tab) tOk hnt rfl (by (dsimp only [AllP]; (repeat' first | exact trivial | assumption | exact Nat.le_of_ble_eq_true rfl | apply And.intro | intro _ | exact rfl | decide))) ?_)
    refine tr_seq (tr_cond rfl (fun hk => absurd hk (by decide)) (fun _ => ?_))
    repeat' (first | refine tr_seq ?_ | refine reg (T := tab) tOk hnt rfl ?_ ?_ | refine tr_block ?_ | refine tr_skip ?_ | refine tr_ret ?_ | refine tr_exit ?_)
    all_goals (try ((dsimp only [AllP]; (repeat' first | exact trivial | assumption | exact Nat.le_of_ble_eq_true rfl | apply And.intro | intro _ | exact rfl | decide)); done))
    exact ⟨.inr rfl, _, _, rfl, by trivial, rfl⟩
end Go.Proofs.Ythmkicejaipjmaa
