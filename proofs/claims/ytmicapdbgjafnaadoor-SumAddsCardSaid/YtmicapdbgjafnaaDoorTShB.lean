/- Package sum: sums; law SumSums answers true (the table of words given). No condition. -/
import Derived.Test.YtmicapdbgjafnaaDoorTShA
import Derived.Test.YtmicapdbgjafnaaDoorTSh13
namespace Go.Proofs.YtmicapdbgjafnaaDoor
open Go Go.RowKit Go.Proofs.YtmicapdbgjafnaaDoor.Ab

set_option maxRecDepth 10000 in
theorem Ended_fn (H : H8) (l : List UInt8) (n m : Int) (hl : l.length = 64) : FnD Tryd.prog 15 [.agg (.es (stE H l n m))] (rEnd (endR H l n m)) := by
  refine fn_intro (T := tab) tOk Tryd.func15 rfl (by kernel_rfl) (by simp [Tryd.ntmps15]) ?_
  intro X hX
  have hnt : X.nt = 9 := hX
  clear hX
  have hL := st_len H l hl n m
  have hfit := st_fit H l hl n m (k := 0 + 74) (by decide)
  have hck : FnD Tryd.prog 24 [.agg (.es (List.take 74 (List.drop 0 (stE H l n m))))] (.v (.bool (!sOk l n m))) := by
    rw [all_of _ _ hL]
    exact bad_fn H l n m hl
  repeat' (first | refine tr_seq ?_ | refine reg (T := tab) tOk hnt rfl ?_ ?_ | refine regD (T := tab) tOk mixedR hnt rfl (by decide +kernel) ?_ ?_ | refine tr_block ?_ | refine tr_skip ?_)
  · (dsimp only [AllP]; (repeat' first | exact trivial | apply And.intro | exact Nat.le_of_ble_eq_true (by kernel_rfl) | decide | kernel_rfl | exact rfl))
  refine tr_region (lex (T := tab) tOk hnt rfl ?_ (call rfl rfl rfl rfl rfl rfl rfl hnt hck (lex (T := tab) tOk hnt rfl ?_ (Lex.nil _)))) ?_
  · exact hfit
  · exact trivial
  cases hq : sOk l n m with
  | false =>
    refine tr_cond rfl (fun _ => ?_) (fun h => nomatch (show true = false from h))
    repeat' (first | refine tr_seq ?_ | refine reg (T := tab) tOk hnt rfl ?_ ?_ | refine regD (T := tab) tOk mixedR hnt rfl (by decide +kernel) ?_ ?_ | refine tr_block ?_ | refine tr_skip ?_)
    · (dsimp only [AllP]; (repeat' first | exact trivial | apply And.intro | exact Nat.le_of_ble_eq_true (by kernel_rfl) | decide | kernel_rfl | exact rfl))
    refine tr_ret ⟨.inr rfl, _, _, rfl, ⟨Nat.le_of_ble_eq_true (by kernel_rfl), trivial⟩, ?_⟩
    rw [endR, hq]
    kernel_rfl
  | true =>
    refine tr_cond rfl (fun h => nomatch (show false = true from h)) (fun _ => ?_)
    obtain ⟨e1, e2, e3, e4⟩ := sm_of hl hq H
    have hfd : FnD Tryd.prog 22 [.agg (.es (List.take 74 (List.drop 0 (stE H l n m))))] (.agg (.es (bE (endF ⟨H, l.take n.toNat, m⟩)))) := by
      rw [all_of _ _ hL, e1]
      exact ended_fn _ e2 e3 e4
    have hr : (bE (endF ⟨H, l.take n.toNat, m⟩)).length = 32 := by simp [bE, endF, outW_len]
    repeat' (first | refine tr_seq ?_ | refine tr_block ?_ | refine tr_skip ?_)
    refine tr_region (lex (T := tab) tOk hnt rfl ?_ (call rfl rfl rfl rfl rfl rfl rfl hnt hfd (lex (T := tab) tOk hnt rfl ?_ (Lex.nil _)))) ?_
    · exact hfit
    · refine ⟨trivial, ?_, Nat.le_of_ble_eq_true (by kernel_rfl), Nat.zero_le _⟩
      exact hr
    have hres : endR H l n m = (endF ⟨H, l.take n.toNat, m⟩, 0) := by rw [endR, hq, cond_true]
    rw [hres]
    clear hres
    generalize endF ⟨H, l.take n.toNat, m⟩ = o at hr ⊢
    refine tr_le (s' := St.of [(2, .one (.ptr 2 0 0)), (3, .v (.int .i64 0))] [(2, ⟨0, .box (.es (bE o)), 0⟩)]) (le_of (ad := []) ⟨⟨rfl, rfl, rfl, rfl, rfl⟩, rfl, trivial⟩ (memOk_boxE rfl rfl (Eq.trans (b := List.take 0 (bE z32) ++ bE o ++ List.drop (0 + 32) (bE z32)) (by kernel_rfl) (put_all2 _ _ 32 rfl)) trivial)) ?_
    refine tr_ret ⟨.inr rfl, _, _, rfl, ⟨Nat.le_of_eq hr.symm, trivial⟩, ?_⟩
    exact congrArg (fun l => D.tup [(true, .es l), (false, .es [eI 0])]) (all_of _ 32 hr)
set_option maxRecDepth 10000 in
theorem sums_fn (b : List UInt8) (hb : b.length ≤ 1152921504606846976) : FnG Tryd.prog 3 gK [.one (.e (eBytes b))] (.v (.bool true)) := by
  refine fn_introG (T := tab) tOk Tryd.func3 rfl (by kernel_rfl) (by simp [Tryd.ntmps3]) ?_
  intro X hX
  have hnt : X.nt = 12 := hX
  clear hX
  have h1 := Sum_fn b hb
  have h2 := Summed_fn b hb
  have hr : (bE (sumF b)).length = 32 := by simp [bE, sumF, endF, outW_len]
  have ho : (sumF b).length = 32 := by simp [sumF, endF, outW_len]
  generalize sumF b = o at h1 h2 hr ho
  repeat' (first | refine tr_seq ?_ | refine reg (T := tab) tOk hnt rfl ?_ ?_ | refine regD (T := tab) tOk mixedR hnt rfl (by decide +kernel) ?_ ?_ | refine tr_block ?_ | refine tr_skip ?_)
  · exact trivial
  refine tr_region (lex (T := tab) tOk hnt rfl ?_ (callV rfl rfl rfl rfl rfl rfl rfl hnt rfl h1 (lex (T := tab) tOk hnt rfl ?_ (Lex.nil _)))) ?_
  · exact trivial
  · refine ⟨⟨?_, Nat.le_of_ble_eq_true (by kernel_rfl), Nat.zero_le _⟩, trivial⟩
    exact hr
  repeat' (first | refine tr_seq ?_ | refine tr_block ?_ | refine tr_skip ?_)
  refine tr_region (lex (T := tab) tOk hnt rfl ?_ (call rfl rfl rfl rfl rfl rfl rfl hnt h2 (lex (T := tab) tOk hnt rfl ?_ (Lex.nil _)))) ?_
  · exact trivial
  · refine ⟨⟨?_, Nat.le_of_ble_eq_true (by kernel_rfl), Nat.zero_le _⟩, trivial⟩
    exact hr
  have hp : List.take 0 (bE z32) ++ bE o ++ List.drop (0 + 32) (bE z32) = bE o := put_all2 _ _ 32 rfl
  refine tr_le (s' := St.of [(3, .one (.ptr 3 0 0)), (4, .one (.ptr 4 0 0))] [(3, ⟨0, .box (.es (bE o)), 0⟩), (4, ⟨0, .box (.es (bE o)), 0⟩)]) (le_of (ad := []) ⟨⟨rfl, rfl, rfl, rfl, rfl⟩, ⟨rfl, rfl, rfl, rfl, rfl⟩, trivial⟩ (memOk_boxE rfl rfl (Eq.trans (by kernel_rfl) hp) (memOk_boxE rfl rfl (Eq.trans (by kernel_rfl) hp) trivial))) ?_
  obtain ⟨q1, q2⟩ := eq23 o ho
  repeat' (first | refine tr_seq ?_ | refine reg (T := tab) tOk hnt rfl ?_ ?_ | refine regD (T := tab) tOk mixedR hnt rfl (by decide +kernel) ?_ ?_ | refine tr_block ?_ | refine tr_skip ?_)
  · exact ⟨trivial, q1, Nat.le_of_eq hr.symm, Nat.le_of_eq hr.symm⟩
  refine tr_ret ⟨.inr rfl, _, _, rfl, by trivial, ?_⟩
  exact congrArg (fun z => D.v (.bool z)) q2
end Go.Proofs.YtmicapdbgjafnaaDoor
