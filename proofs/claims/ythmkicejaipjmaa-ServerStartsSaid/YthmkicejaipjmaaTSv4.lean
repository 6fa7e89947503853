/- Package server: a server is started; law ServerStarts answers true. No condition. -/
import Derived.Test.YthmkicejaipjmaaTSv3
namespace Go.Proofs.Ythmkicejaipjmaa
open Go Go.RowKit Go.Proofs.Ythmkicejaipjmaa.Ab

def eSrv (m : Int) (b : List UInt8) (n : Nat) : List E := [eI m, eBytes b] ++ zState ++ [.sl []] ++ eDisk n
set_option maxRecDepth 10000 in
theorem server_same (m : Int) (b : List UInt8) (n : Nat) (hn : n ≤ 400) : FnD Try.prog 6 [.agg (.es (eSrv m b n)), .agg (.es (eSrv m b n))] (.v (.bool true)) := by
  refine fn_intro (T := tab) tOk Try.func6 rfl (by kernel_rfl) (by simp [Try.ntmps6]) ?_
  intro X hX
  have hnt : X.nt = 38 := hX
  clear hX
  refine tr_seq (reg (T := tab) tOk hnt rfl ?_ ?_)
  · (dsimp only [AllP]; (repeat' first | exact trivial | assumption | exact Nat.le_of_ble_eq_true rfl | apply And.intro | intro _ | exact rfl))
  repeat' (first | refine tr_seq ?_ | refine tr_block ?_)
  refine tr_region (lex (T := tab) tOk hnt rfl ?_ (callG rfl rfl rfl rfl rfl rfl hnt rfl (fun hq => ?_) (fun hq => bytes_same b) (lex (T := tab) tOk hnt rfl ?_ (callG rfl rfl rfl rfl rfl rfl hnt rfl (fun hq => ?_) (fun hq => state_zero) (lex (T := tab) tOk hnt rfl ?_ (callG rfl rfl rfl rfl rfl rfl hnt rfl (fun hq => ?_) (fun hq => lists_nil) (lex (T := tab) tOk hnt rfl ?_ (callG rfl rfl rfl rfl rfl rfl hnt rfl (fun hq => ?_) (fun hq => disk_same n hn) (lex (T := tab) tOk hnt rfl ?_ (Lex.nil _)))))))))) ?_
  all_goals (try ((dsimp only [AllP]; (repeat' first | exact trivial | assumption | exact Nat.le_of_ble_eq_true rfl | apply And.intro | intro _ | exact rfl | decide)); done))
  refine tr_ret ⟨.inr rfl, _, _, rfl, by trivial, ?_⟩
  simp
  rfl

def rDisk (n : Nat) (e : Int) : D := .tup [(true, .es (eDisk n)), (false, .es [eI e])]
theorem newB {n : Nat} (h1 : 1 ≤ n) (h2 : n ≤ 400) : (bif decide ((n : Int) < 1) then true else decide ((400 : Int) < n)) = false := by
  rw [decide_eq_false (by omega), decide_eq_false (by omega)]
  rfl
set_option maxRecDepth 10000 in
theorem New_fn (n : Nat) (h1 : 1 ≤ n) (h2 : n ≤ 400) : FnD Try.prog 7 [.one (.e (eI n))] (rDisk n 0) := by
  refine fn_intro (T := tab) tOk Try.func7 rfl (by kernel_rfl) (by simp [Try.ntmps7]) ?_
  intro X hX
  have hnt : X.nt = 14 := hX
  clear hX
  refine tr_seq (reg (T := tab) tOk hnt rfl ?_ ?_)
  · (dsimp only [AllP]; (repeat' first | exact trivial | assumption | exact Nat.le_of_ble_eq_true rfl | apply And.intro | intro _ | exact rfl | decide))
  repeat' (first | refine tr_seq ?_ | refine reg (T := tab) tOk hnt rfl ?_ ?_ | refine tr_block ?_ | refine tr_skip ?_)
  all_goals (try ((dsimp only [AllP]; (repeat' first | exact trivial | assumption | exact Nat.le_of_ble_eq_true rfl | apply And.intro | intro _ | exact rfl | decide)); done))
  refine tr_cond rfl (fun h => ft ((newB h1 h2).symm.trans h)) (fun _ => ?_)
  repeat' (first | refine tr_seq ?_ | refine reg (T := tab) tOk hnt rfl ?_ ?_ | refine regD (T := tab) tOk mixedR hnt rfl (by decide +kernel) ?_ ?_ | refine tr_cond rfl (fun _ => ?_) (fun _ => ?_) | refine tr_block ?_ | refine tr_skip ?_ | refine tr_ret ?_ | refine tr_exit ?_)
  · refine ⟨trivial, ⟨rfl, Nat.le_of_ble_eq_true rfl, Nat.zero_le _⟩, ⟨⟨rfl, Nat.le_of_ble_eq_true rfl⟩, trivial⟩, ⟨Int.natCast_nonneg _, Int.le_refl _, ?_, ?_, rfl⟩, trivial⟩
    · show (n : Int) * 32 ≤ 140737488355328
      omega
    · show (n : Int) ≤ 140737488355328
      omega
  exact ⟨.inr rfl, _, _, rfl, ⟨Nat.le_of_ble_eq_true rfl, trivial⟩, rfl⟩
theorem modeB (m : Int) : (bif !decide (m = 1) then (!decide (m = 2)) else false) = decide (m ≠ 1 ∧ m ≠ 2) := by
  by_cases h1 : m = 1 <;> by_cases h2 : m = 2 <;> simp [h1, h2]
set_option maxRecDepth 10000 in
theorem badMode_fn (m : Int) : FnD Try.prog 8 [.one (.e (eI m))] (.v (.bool (decide (m ≠ 1 ∧ m ≠ 2)))) := by
  refine fn_intro (T := tab) tOk Try.func8 rfl (by kernel_rfl) (by simp [Try.ntmps8]) ?_
  intro X hX
  have hnt : X.nt = 9 := hX
  clear hX
  repeat' (first | refine tr_seq ?_ | refine reg (T := tab) tOk hnt rfl ?_ ?_ | refine regD (T := tab) tOk mixedR hnt rfl (by decide +kernel) ?_ ?_ | refine tr_cond rfl (fun _ => ?_) (fun _ => ?_) | refine tr_block ?_ | refine tr_skip ?_ | refine tr_ret ?_ | refine tr_exit ?_)
  all_goals (try ((dsimp only [AllP]; (repeat' first | exact trivial | assumption | exact Nat.le_of_ble_eq_true rfl | apply And.intro | intro _ | exact rfl | decide)); done))
  refine ⟨.inr rfl, _, _, rfl, by trivial, ?_⟩
  rw [← modeB]
  rfl
def rS (x : Int × List UInt8 × Nat × Int) : D := .tup [(true, .es (eSrv x.1 x.2.1 x.2.2.1)), (false, .es [eI x.2.2.2])]
def srvF (m : Int) (b : List UInt8) : Int × List UInt8 × Nat × Int := if m ≠ 1 ∧ m ≠ 2 then (0, [], 0, 2) else if 16 < b.length then (0, [], 0, 1) else (m, b, 400, 0)
theorem svA {m : Int} {b : List UInt8} (h : m ≠ 1 ∧ m ≠ 2) : srvF m b = (0, [], 0, 2) := if_pos h
theorem svB {m : Int} {b : List UInt8} (h : ¬ (m ≠ 1 ∧ m ≠ 2)) (h1 : 16 < b.length) : srvF m b = (0, [], 0, 1) := (if_neg h).trans (if_pos h1)
theorem svC {m : Int} {b : List UInt8} (h : ¬ (m ≠ 1 ∧ m ≠ 2)) (h1 : ¬ 16 < b.length) : srvF m b = (m, b, 400, 0) := (if_neg h).trans (if_neg h1)
set_option maxRecDepth 10000 in
theorem Start_fn (m : Int) (b : List UInt8) : FnD Try.prog 4 [.one (.e (eI m)), .one (.e (eBytes b))] (rS (srvF m b)) := by
  refine fn_intro (T := tab) tOk Try.func4 rfl (by kernel_rfl) (by simp [Try.ntmps4]) ?_
  intro X hX
  have hnt : X.nt = 30 := hX
  clear hX
  refine tr_seq (reg (T := tab) tOk hnt rfl ?_ ?_)
  · (dsimp only [AllP]; (repeat' first | exact trivial | assumption | exact Nat.le_of_ble_eq_true rfl | apply And.intro | intro _ | exact rfl | decide))
  repeat' (first | refine tr_seq ?_ | refine reg (T := tab) tOk hnt rfl ?_ ?_ | refine tr_block ?_ | refine tr_skip ?_)
  all_goals (try ((dsimp only [AllP]; (repeat' first | exact trivial | assumption | exact Nat.le_of_ble_eq_true rfl | apply And.intro | intro _ | exact rfl | decide)); done))
  refine tr_cond rfl (fun h => ?_) (fun h => ?_)
  · have h : decide (m ≠ 1 ∧ m ≠ 2) = true := (modeB m).symm.trans h
    repeat' (first | refine tr_seq ?_ | refine reg (T := tab) tOk hnt rfl ?_ ?_ | refine regD (T := tab) tOk mixedR hnt rfl (by decide +kernel) ?_ ?_ | refine tr_cond rfl (fun _ => ?_) (fun _ => ?_) | refine tr_block ?_ | refine tr_skip ?_ | refine tr_ret ?_ | refine tr_exit ?_)
    · (dsimp only [AllP]; (repeat' first | exact trivial | assumption | exact Nat.le_of_ble_eq_true rfl | apply And.intro | intro _ | exact rfl | decide))
    refine ⟨.inr rfl, _, _, rfl, ⟨Nat.le_of_ble_eq_true rfl, trivial⟩, ?_⟩
    rw [svA (of_decide_eq_true h)]
    rfl
  have h : decide (m ≠ 1 ∧ m ≠ 2) = false := (modeB m).symm.trans h
  have hm := of_decide_eq_false h
  clear h
  repeat' (first | refine tr_seq ?_ | refine reg (T := tab) tOk hnt rfl ?_ ?_ | refine tr_block ?_ | refine tr_skip ?_)
  all_goals (try ((dsimp only [AllP]; (repeat' first | exact trivial | assumption | exact Nat.le_of_ble_eq_true rfl | apply And.intro | intro _ | exact rfl | decide)); done))
  refine tr_cond rfl (fun h => ?_) (fun h => ?_)
  · have h := of_decide_eq_true h
    rw [eCells_length] at h
    repeat' (first | refine tr_seq ?_ | refine reg (T := tab) tOk hnt rfl ?_ ?_ | refine regD (T := tab) tOk mixedR hnt rfl (by decide +kernel) ?_ ?_ | refine tr_cond rfl (fun _ => ?_) (fun _ => ?_) | refine tr_block ?_ | refine tr_skip ?_ | refine tr_ret ?_ | refine tr_exit ?_)
    · (dsimp only [AllP]; (repeat' first | exact trivial | assumption | exact Nat.le_of_ble_eq_true rfl | apply And.intro | intro _ | exact rfl | decide))
    refine ⟨.inr rfl, _, _, rfl, ⟨Nat.le_of_ble_eq_true rfl, trivial⟩, ?_⟩
    rw [svB hm (by omega)]
    rfl
  have h := of_decide_eq_false h
  rw [eCells_length] at h
  have hb : b.length ≤ 16 := by omega
  repeat' (first | refine tr_seq ?_ | refine tr_skip ?_ | refine tr_block ?_)
  refine tr_region (lex (T := tab) tOk hnt rfl ?_ (call rfl rfl rfl rfl rfl rfl rfl hnt (New_fn 400 (by decide) (by decide)) (lex (T := tab) tOk hnt rfl ?_ (Lex.nil _)))) ?_
  · (dsimp only [AllP]; (repeat' first | exact trivial | assumption | exact Nat.le_of_ble_eq_true rfl | apply And.intro | intro _ | exact rfl | decide))
  · (dsimp only [AllP]; (repeat' first | exact trivial | assumption | exact Nat.le_of_ble_eq_true rfl | apply And.intro | intro _ | exact rfl | decide))
  refine tr_seq ?_
  refine regD (T := tab) tOk mixedR hnt rfl (by decide +kernel) ?_ ?_
  · have e1 : ∀ cs ∈ eCells b, cs.length = 1 := eCells_len1 b
    have e2 : ([] : List (List E)).length + (eCells b).length ≤ maxLen := by
      rw [eCells_length, maxLen]
      simp
      omega
    have e3 : (([] : List (List E)).length + (eCells b).length) * 1 ≤ 140737488355328 := by
      rw [eCells_length]
      simp
      omega
    dsimp only [AllP]
    repeat' first | exact trivial | assumption | exact Nat.le_of_ble_eq_true rfl | exact rfl | apply And.intro | decide
  refine tr_ret ⟨.inr rfl, _, _, rfl, ⟨Nat.le_of_ble_eq_true rfl, trivial⟩, ?_⟩
  rw [svC hm (by omega)]
  rfl
set_option maxRecDepth 10000 in
theorem Started_fn (m : Int) (b : List UInt8) : FnD Try.prog 5 [.one (.e (eI m)), .one (.e (eBytes b))] (rS (srvF m b)) := by
  refine fn_intro (T := tab) tOk Try.func5 rfl (by kernel_rfl) (by simp [Try.ntmps5]) ?_
  intro X hX
  have hnt : X.nt = 18 := hX
  clear hX
  refine tr_seq (reg (T := tab) tOk hnt rfl ?_ ?_)
  · (dsimp only [AllP]; (repeat' first | exact trivial | assumption | exact Nat.le_of_ble_eq_true rfl | apply And.intro | intro _ | exact rfl | decide))
  repeat' (first | refine tr_seq ?_ | refine tr_skip ?_ | refine tr_block ?_)
  refine tr_region (lex (T := tab) tOk hnt rfl ?_ (call rfl rfl rfl rfl rfl rfl rfl hnt (badMode_fn m) (lex (T := tab) tOk hnt rfl ?_ (Lex.nil _)))) ?_
  · (dsimp only [AllP]; (repeat' first | exact trivial | assumption | exact Nat.le_of_ble_eq_true rfl | apply And.intro | intro _ | exact rfl | decide))
  · (dsimp only [AllP]; (repeat' first | exact trivial | assumption | exact Nat.le_of_ble_eq_true rfl | apply And.intro | intro _ | exact rfl | decide))
  refine tr_cond rfl (fun h => ?_) (fun h => ?_)
  · repeat' (first | refine tr_seq ?_ | refine reg (T := tab) tOk hnt rfl ?_ ?_ | refine regD (T := tab) tOk mixedR hnt rfl (by decide +kernel) ?_ ?_ | refine tr_cond rfl (fun _ => ?_) (fun _ => ?_) | refine tr_block ?_ | refine tr_skip ?_ | refine tr_ret ?_ | refine tr_exit ?_)
    · (dsimp only [AllP]; (repeat' first | exact trivial | assumption | exact Nat.le_of_ble_eq_true rfl | apply And.intro | intro _ | exact rfl | decide))
    refine ⟨.inr rfl, _, _, rfl, ⟨Nat.le_of_ble_eq_true rfl, trivial⟩, ?_⟩
    rw [svA (of_decide_eq_true h)]
    rfl
  have hm := of_decide_eq_false h
  clear h
  repeat' (first | refine tr_seq ?_ | refine reg (T := tab) tOk hnt rfl ?_ ?_ | refine tr_block ?_ | refine tr_skip ?_)
  all_goals (try ((dsimp only [AllP]; (repeat' first | exact trivial | assumption | exact Nat.le_of_ble_eq_true rfl | apply And.intro | intro _ | exact rfl | decide)); done))
  refine tr_cond rfl (fun h => ?_) (fun h => ?_)
  · have h := of_decide_eq_true h
    rw [eCells_length] at h
    repeat' (first | refine tr_seq ?_ | refine reg (T := tab) tOk hnt rfl ?_ ?_ | refine regD (T := tab) tOk mixedR hnt rfl (by decide +kernel) ?_ ?_ | refine tr_cond rfl (fun _ => ?_) (fun _ => ?_) | refine tr_block ?_ | refine tr_skip ?_ | refine tr_ret ?_ | refine tr_exit ?_)
    · (dsimp only [AllP]; (repeat' first | exact trivial | assumption | exact Nat.le_of_ble_eq_true rfl | apply And.intro | intro _ | exact rfl | decide))
    refine ⟨.inr rfl, _, _, rfl, ⟨Nat.le_of_ble_eq_true rfl, trivial⟩, ?_⟩
    rw [svB hm (by omega)]
    rfl
  have h := of_decide_eq_false h
  rw [eCells_length] at h
  have hb : b.length ≤ 16 := by omega
  repeat' (first | refine tr_seq ?_ | refine reg (T := tab) tOk hnt rfl ?_ ?_ | refine regD (T := tab) tOk mixedR hnt rfl (by decide +kernel) ?_ ?_ | refine tr_cond rfl (fun _ => ?_) (fun _ => ?_) | refine tr_block ?_ | refine tr_skip ?_ | refine tr_ret ?_ | refine tr_exit ?_)
  · (dsimp only [AllP]; (repeat' first | exact trivial | assumption | exact Nat.le_of_ble_eq_true rfl | apply And.intro | intro _ | exact rfl | decide))
  refine ⟨.inr rfl, _, _, rfl, ⟨Nat.le_of_ble_eq_true rfl, trivial⟩, ?_⟩
  rw [svC hm (by omega)]
  rfl
theorem srv_n (m : Int) (b : List UInt8) : (srvF m b).2.2.1 ≤ 400 := by
  unfold srvF
  split
  · decide
  · split
    · decide
    · exact Nat.le_refl _
set_option maxRecDepth 10000 in
theorem starts_fn (m : Int) (b : List UInt8) : FnD Try.prog 3 [.one (.e (eI m)), .one (.e (eBytes b))] (.v (.bool true)) := by
  refine fn_intro (T := tab) tOk Try.func3 rfl (by kernel_rfl) (by simp [Try.ntmps3]) ?_
  intro X hX
  have hnt : X.nt = 29 := hX
  clear hX
  refine tr_seq (reg (T := tab) tOk hnt rfl ?_ ?_)
  · (dsimp only [AllP]; (repeat' first | exact trivial | assumption | exact Nat.le_of_ble_eq_true rfl | apply And.intro | intro _ | exact rfl | decide))
  repeat' (first | refine tr_seq ?_ | refine tr_skip ?_ | refine tr_block ?_)
  refine tr_region (lex (T := tab) tOk hnt rfl ?_ (call rfl rfl rfl rfl rfl rfl rfl hnt (Start_fn m b) (lex (T := tab) tOk hnt rfl ?_ (Lex.nil _)))) ?_
  · (dsimp only [AllP]; (repeat' first | exact trivial | assumption | exact Nat.le_of_ble_eq_true rfl | apply And.intro | intro _ | exact rfl | decide))
  · (dsimp only [AllP]; (repeat' first | exact trivial | assumption | exact Nat.le_of_ble_eq_true rfl | apply And.intro | intro _ | exact rfl | decide))
  repeat' (first | refine tr_seq ?_ | refine tr_skip ?_ | refine tr_block ?_)
  refine tr_region (lex (T := tab) tOk hnt rfl ?_ (call rfl rfl rfl rfl rfl rfl rfl hnt (Started_fn m b) (lex (T := tab) tOk hnt rfl ?_ (Lex.nil _)))) ?_
  · (dsimp only [AllP]; (repeat' first | exact trivial | assumption | exact Nat.le_of_ble_eq_true rfl | apply And.intro | intro _ | exact rfl | decide))
  · (dsimp only [AllP]; (repeat' first | exact trivial | assumption | exact Nat.le_of_ble_eq_true rfl | apply And.intro | intro _ | exact rfl | decide))
  repeat' (first | refine tr_seq ?_ | refine tr_skip ?_ | refine tr_block ?_)
  refine tr_region (lex (T := tab) tOk hnt rfl ?_ (callG rfl rfl rfl rfl rfl rfl hnt rfl (fun hq => ?_) (fun hq => server_same _ _ _ (srv_n m b)) (lex (T := tab) tOk hnt rfl ?_ (Lex.nil _)))) ?_
  · (dsimp only [AllP]; (repeat' first | exact trivial | assumption | exact Nat.le_of_ble_eq_true rfl | apply And.intro | intro _ | exact rfl | decide))
  · (dsimp only [AllP]; (repeat' first | exact trivial | assumption | exact Nat.le_of_ble_eq_true rfl | apply And.intro | intro _ | exact rfl | decide))
  · (dsimp only [AllP]; (repeat' first | exact trivial | assumption | exact Nat.le_of_ble_eq_true rfl | apply And.intro | intro _ | exact rfl | decide))
  refine tr_ret ⟨.inr rfl, _, _, rfl, by trivial, ?_⟩
  simp
  rfl
end Go.Proofs.Ythmkicejaipjmaa
