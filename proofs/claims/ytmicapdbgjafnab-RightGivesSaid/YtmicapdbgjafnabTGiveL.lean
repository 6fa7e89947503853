/- Law RightGives answers true. No condition. -/
import Derived.Test.YtmicapdbgjafnabTGive
namespace Go.Proofs.Ytmicapdbgjafnab
open Go Go.RowKit Go.Proofs.Ytmicapdbgjafnab.Ab

set_option maxRecDepth 10000 in
theorem sameGr_fn (l : List Gr) (hb : l.length ≤ 1000000) : FnD Try.prog 13 [.one (.e (eGrs l)), .one (.e (eGrs l))] (.v (.bool true)) := by
  refine fn_intro (T := tab) tOk Try.func13 rfl (by kernel_rfl) (by simp [Try.ntmps13]) ?_
  intro X hX
  have hnt : X.nt = 26 := hX
  clear hX
  repeat' (first | refine tr_seq ?_ | refine reg (T := tab) tOk hnt rfl ?_ ?_ | refine tr_cond rfl (fun _ => ?_) (fun _ => ?_) | refine tr_block ?_ | refine tr_skip ?_ | refine tr_ret ?_ | refine tr_exit ?_)
  all_goals (try ((dsimp only [AllP]; (repeat' first | exact trivial | assumption | exact Nat.le_of_ble_eq_true rfl | apply And.intro | intro _ | exact rfl)); done))
  · rename_i h
    simp at h
  refine tr_loop (σ := Nat) (fun k => St.of [(0, .one (.e (eGrs l))), (1, .one (.e (eGrs l))), (12, .v (.int .i64 l.length)), (13, .v (.int .i64 k))] []) (fun k => k ≤ l.length) (fun k => l.length - k) 0 (le_of (ad := []) ⟨rfl, rfl, congrArg (fun z : Nat => E.v (.int .i64 (z : Int))) (List.length_map ..), rfl, trivial⟩ trivial) (Nat.zero_le _) ?_
  intro k j1
  refine tr_seq (reg (T := tab) tOk hnt rfl (by exact rfl) ?_)
  refine tr_seq (tr_cond rfl (fun hk => ?_) (fun hk => ?_))
  · refine tr_skip ?_
    have hk := of_decide_eq_true hk
    have hk : k < l.length := by omega
    have hL : (k : Int) < ((List.map eGr l).length : Int) := by rw [List.length_map]; omega
    have hge : (List.map eGr l).getD (k : Int).toNat [] = eGr (l.getD k gz) := by rw [Int.toNat_natCast]; exact grGet l hk
    have hlen : ((List.map eGr l).getD (k : Int).toNat []).length = 5 := by rw [hge]; rfl
    have hto : (k : Int).toNat = k := rfl
    repeat' (first | refine tr_seq ?_ | refine tr_block ?_)
    refine reg (T := tab) tOk hnt rfl ?_ ?_
    · (dsimp only [AllP]; (repeat' first | exact trivial | assumption | exact Nat.le_of_ble_eq_true rfl | apply And.intro | intro _ | exact rfl))
    repeat' (first | refine tr_seq ?_ | refine tr_block ?_)
    refine regD (T := tab) tOk mixedR hnt rfl (by decide +kernel) ?_ ?_
    · rw [hge]
      exact ⟨grOkE _, Nat.le_refl 5, ⟨Int.natCast_nonneg _, hL, rfl⟩, trivial, trivial, Nat.le_refl 5, ⟨Int.natCast_nonneg _, hL, rfl⟩, trivial, trivial⟩
    rw [hge]
    refine tr_cond rfl (fun hc => ?_) (fun hc => ?_)
    · have hc : (!(eqD tab 9 37 (.agg (.es (eGr (l.getD k gz)))) (.agg (.es (eGr (l.getD k gz))))).2) = true := hc
      rw [grEqE] at hc
      cases hc
    refine tr_skip ?_
    repeat' (first | refine tr_seq ?_ | refine reg (T := tab) tOk hnt rfl ?_ ?_ | refine tr_skip ?_)
    · (dsimp only [AllP]; (repeat' first | exact trivial | assumption | exact Nat.le_of_ble_eq_true rfl | apply And.intro | intro _ | exact rfl))
    refine ⟨k + 1, hk, by omega, le_of (ad := []) ⟨rfl, rfl, rfl, congrArg (fun z : Int => E.v (.int .i64 z)) (wrap64_id (by omega) (by omega)), trivial⟩ trivial⟩
  refine tr_exit ?_
  repeat' (first | refine tr_seq ?_ | refine reg (T := tab) tOk hnt rfl ?_ ?_ | refine tr_block ?_ | refine tr_skip ?_ | refine tr_ret ?_)
  · (dsimp only [AllP]; (repeat' first | exact trivial | assumption | exact Nat.le_of_ble_eq_true rfl | apply And.intro | intro _ | exact rfl))
  exact ⟨.inr rfl, _, _, rfl, by trivial, rfl⟩

set_option maxRecDepth 10000 in
theorem rightGives_fn (l : List Gr) (g : Gr) : FnD Try.prog 5 [.one (.e (eGrs l)), .agg (.es (eGr g))] (.v (.bool true)) := by
  refine fn_intro (T := tab) tOk Try.func5 rfl (by kernel_rfl) (by simp [Try.ntmps5]) ?_
  intro X hX
  have hnt : X.nt = 29 := hX
  clear hX
  refine tr_seq (reg (T := tab) tOk hnt rfl ?_ ?_)
  · (dsimp only [AllP]; (repeat' first | exact trivial | assumption | exact Nat.le_of_ble_eq_true rfl | apply And.intro | intro _ | exact rfl))
  refine tr_seq (tr_region (lex (T := tab) tOk hnt rfl ?_ (call rfl rfl rfl rfl rfl rfl rfl hnt (Give_fn l g) (lex (T := tab) tOk hnt rfl ?_ (Lex.nil _)))) ?_)
  · (dsimp only [AllP]; (repeat' first | exact trivial | assumption | exact Nat.le_of_ble_eq_true rfl | apply And.intro | intro _ | exact rfl))
  · (dsimp only [AllP]; (repeat' first | exact trivial | assumption | exact Nat.le_of_ble_eq_true rfl | apply And.intro | intro _ | exact rfl))
  refine tr_seq (tr_region (lex (T := tab) tOk hnt rfl ?_ (call rfl rfl rfl rfl rfl rfl rfl hnt (given_fn l g) (lex (T := tab) tOk hnt rfl ?_ (Lex.nil _)))) ?_)
  · (dsimp only [AllP]; (repeat' first | exact trivial | assumption | exact Nat.le_of_ble_eq_true rfl | apply And.intro | intro _ | exact rfl))
  · (dsimp only [AllP]; (repeat' first | exact trivial | assumption | exact Nat.le_of_ble_eq_true rfl | apply And.intro | intro _ | exact rfl))
  refine tr_seq (tr_region (lex (T := tab) tOk hnt rfl ?_ (callG rfl rfl rfl rfl rfl rfl hnt rfl (fun hq => ?_) (fun _ => sameGr_fn _ (Nat.le_trans (give_len l g) (by decide))) (lex (T := tab) tOk hnt rfl ?_ (Lex.nil _)))) ?_)
  · (dsimp only [AllP]; (repeat' first | exact trivial | assumption | exact Nat.le_of_ble_eq_true rfl | apply And.intro | intro _ | exact rfl))
  · exact ⟨hq, hq⟩
  · (dsimp only [AllP]; (repeat' first | exact trivial | assumption | exact Nat.le_of_ble_eq_true rfl | apply And.intro | intro _ | exact rfl))
  refine tr_ret ⟨.inr rfl, _, _, rfl, by trivial, ?_⟩
  simp
  rfl
end Go.Proofs.Ytmicapdbgjafnab
