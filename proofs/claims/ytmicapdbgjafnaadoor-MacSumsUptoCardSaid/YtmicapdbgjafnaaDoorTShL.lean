/- The law at the program's own functions. No condition. -/
import Derived.Test.YtmicapdbgjafnaaDoorTShM
namespace Go.Proofs.YtmicapdbgjafnaaDoor
open Go Go.RowKit Go.Proofs.YtmicapdbgjafnaaDoor.Ab

set_option maxRecDepth 10000 in
theorem macs_fn (key b : List UInt8) (hk : key.length ≤ 1000000000) (hb : b.length ≤ 1000000000) : FnG Tryd.prog 6 gK [.one (.e (eBytes key)), .one (.e (eBytes b))] (.v (.bool true)) := by
  refine fn_introG (T := tab) tOk Tryd.func6 rfl (by kernel_rfl) (by simp [Tryd.ntmps6]) ?_
  intro X hX
  have hnt : X.nt = 16 := hX
  clear hX
  have h1 := Mac_fn key b hk hb
  have h2 := Maced_fn key b hk hb
  have ho : (macF key b).length = 32 := sum_len _
  generalize macF key b = o at h1 h2 ho
  have hr : (bE o).length = 32 := by simp [bE, ho]
  repeat' (first | refine tr_seq ?_ | refine reg (T := tab) tOk hnt rfl ?_ ?_ | refine regD (T := tab) tOk mixedR hnt rfl (by decide +kernel) ?_ ?_ | refine tr_block ?_ | refine tr_skip ?_)
  · (dsimp only [AllP]; (repeat' first | exact trivial | assumption | exact Nat.le_of_ble_eq_true rfl | apply And.intro | intro _ | exact rfl))
  refine tr_region (lex (T := tab) tOk hnt rfl ?_ (callV rfl rfl rfl rfl rfl rfl rfl hnt rfl h1 (lex (T := tab) tOk hnt rfl ?_ (Lex.nil _)))) ?_
  · (dsimp only [AllP]; (repeat' first | exact trivial | assumption | exact Nat.le_of_ble_eq_true rfl | apply And.intro | intro _ | exact rfl))
  · exact ⟨⟨hr, Nat.le_of_ble_eq_true (by kernel_rfl), Nat.zero_le _⟩, trivial⟩
  repeat' (first | refine tr_seq ?_ | refine tr_block ?_ | refine tr_skip ?_)
  refine tr_region (lex (T := tab) tOk hnt rfl ?_ (call rfl rfl rfl rfl rfl rfl rfl hnt h2 (lex (T := tab) tOk hnt rfl ?_ (Lex.nil _)))) ?_
  · (dsimp only [AllP]; (repeat' first | exact trivial | assumption | exact Nat.le_of_ble_eq_true rfl | apply And.intro | intro _ | exact rfl))
  · exact ⟨⟨hr, Nat.le_of_ble_eq_true (by kernel_rfl), Nat.zero_le _⟩, trivial⟩
  have hp : List.take 0 (bE z32) ++ bE o ++ List.drop (0 + 32) (bE z32) = bE o := put_all2 _ _ 32 rfl
  refine tr_le (s' := St.of [(5, .one (.ptr 5 0 0)), (6, .one (.ptr 6 0 0))] [(5, ⟨0, .box (.es (bE o)), 0⟩), (6, ⟨0, .box (.es (bE o)), 0⟩)]) (le_of (ad := []) ⟨⟨rfl, rfl, rfl, rfl, rfl⟩, ⟨rfl, rfl, rfl, rfl, rfl⟩, trivial⟩ (memOk_boxE rfl rfl (Eq.trans (by kernel_rfl) hp) (memOk_boxE rfl rfl (Eq.trans (by kernel_rfl) hp) trivial))) ?_
  obtain ⟨q1, q2⟩ := eq23 o ho
  repeat' (first | refine tr_seq ?_ | refine reg (T := tab) tOk hnt rfl ?_ ?_ | refine regD (T := tab) tOk mixedR hnt rfl (by decide +kernel) ?_ ?_ | refine tr_block ?_ | refine tr_skip ?_)
  · exact ⟨trivial, q1, Nat.le_of_eq hr.symm, Nat.le_of_eq hr.symm⟩
  refine tr_ret ⟨.inr rfl, _, _, rfl, by trivial, ?_⟩
  exact congrArg (fun z => D.v (.bool z)) q2
end Go.Proofs.YtmicapdbgjafnaaDoor
