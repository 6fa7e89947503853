/- Package right: who has a right; law RightHas answers true. No condition. -/
import Derived.Test.YtmicapdbgjafnaaTRc
import Derived.Test.YtmicapdbgjafnaaTGrL
namespace Go.Proofs.Ytmicapdbgjafnaa
open Go Go.RowKit Go.Proofs.Ytmicapdbgjafnaa.Ab

def askP (u o r : Int) (g : Gr) : Bool := bif (bif decide (g.2.1 = u) then decide (g.2.2.1 = o) else false) then decide (g.2.2.2.1 = r) else false
def hasF (l : List Gr) (u o r : Int) : Bool := decide (ownF o = u) || l.any (askP u o r)
theorem anyTake {α : Type} (p : α → Bool) (l : List α) (d : α) {k : Nat} (h : k < l.length) : (l.take (k + 1)).any p = ((l.take k).any p || p (l.getD k d)) := by
  rw [List.take_add_one, List.any_append]
  simp [List.getD, h]
theorem has_end {n : Nat} {a b : Bool} (h : decide (0 < n) = a) : (bif decide (0 < (n : Int)) then true else b) = (b || a) := by
  subst h
  by_cases h : 0 < n
  · rw [decide_eq_true h, decide_eq_true (by omega : 0 < (n : Int))]; simp
  · rw [decide_eq_false h, decide_eq_false (by omega : ¬ 0 < (n : Int))]; simp

set_option maxRecDepth 10000 in
theorem has_fn (l : List Gr) (u o r : Int) (hb : l.length ≤ 1000000) : FnD Try.prog 45 [.one (.e (eGrs l)), .v (.int .i64 u), .v (.int .i64 o), .v (.int .i64 r)] (.v (.bool (hasF l u o r))) := by
  refine fn_intro (T := tab) tOk Try.func45 rfl (by kernel_rfl) (by simp [Try.ntmps45]) ?_
  intro X hX
  have hnt : X.nt = 45 := hX
  clear hX
  repeat' (first | refine tr_seq ?_ | refine reg (T := tab) tOk hnt rfl ?_ ?_ | refine tr_block ?_)
  all_goals (try ((dsimp only [AllP]; (repeat' first | exact trivial | assumption | exact Nat.le_of_ble_eq_true rfl | apply And.intro | intro _ | exact rfl)); done))
  refine tr_loop (σ := Nat × Nat) (fun x => St.of [(0, .one (.e (eGrs l))), (1, .v (.int .i64 u)), (2, .v (.int .i64 o)), (3, .v (.int .i64 r)), (9, .v (.int .i64 x.2)), (12, .one (.e (eGrs l))), (13, .v (.int .i64 l.length)), (14, .v (.int .i64 x.1))] [])
    (fun x => x.1 ≤ l.length ∧ x.2 ≤ x.1 ∧ decide (0 < x.2) = (l.take x.1).any (askP u o r)) (fun x => l.length - x.1) (0, 0) (le_of (ad := []) ⟨rfl, rfl, rfl, rfl, rfl, rfl, congrArg (fun z : Nat => E.v (.int .i64 (z : Int))) (List.length_map ..), rfl, trivial⟩ trivial) ⟨Nat.zero_le _, Nat.le_refl _, rfl⟩ ?_
  rintro ⟨k, n⟩ ⟨j1, j2, j3⟩
  dsimp only at j1 j2 j3 ⊢
  refine tr_seq (reg (T := tab) tOk hnt rfl (by exact rfl) ?_)
  refine tr_seq (tr_cond rfl (fun hk => ?_) (fun hk => ?_))
  · refine tr_skip ?_
    have hk := of_decide_eq_true hk
    have hk : k < l.length := by omega
    refine tr_seq (tr_block ?_)
    have hlen : ((List.map eGr l).getD k []).length = 5 := by rw [grGet l hk]; rfl
    refine tr_seq (reg (T := tab) tOk hnt rfl ?_ ?_)
    · rw [Int.toNat_natCast]
      refine ⟨⟨?_, Nat.le_of_ble_eq_true rfl, Nat.zero_le _⟩, trivial, ?_, Int.natCast_nonneg _, ?_, hlen⟩
      · show (List.take 5 (List.drop 0 ((List.map eGr l).getD k []))).length = 5
        rw [List.length_take, List.length_drop, hlen]
        rfl
      · show 0 + 5 ≤ ((List.map eGr l).getD k []).length
        omega
      · rw [List.length_map]
        omega
    rw [box_store]
    rotate_left
    · exact hlen
    · rfl
    rw [Int.toNat_natCast, grGet l hk]
    have hany := anyTake (askP u o r) l gz hk
    generalize l.getD k gz = g at hany ⊢
    obtain ⟨gf, gt, go, gr, gp, ⟨⟩⟩ := g
    repeat' (first | refine tr_seq ?_ | refine reg (T := tab) tOk hnt rfl ?_ ?_ | refine tr_block ?_)
    · (dsimp only [AllP]; (repeat' first | exact trivial | assumption | exact Nat.le_of_ble_eq_true rfl | apply And.intro | intro _ | exact rfl))
    refine tr_cond rfl (fun hc => ?_) (fun hc => ?_)
    · have hc : askP u o r (gf, gt, go, gr, gp, ()) = true := hc
      repeat' (first | refine tr_seq ?_ | refine reg (T := tab) tOk hnt rfl ?_ ?_ | refine tr_skip ?_)
      all_goals (try ((dsimp only [AllP]; (repeat' first | exact trivial | assumption | exact Nat.le_of_ble_eq_true rfl | apply And.intro | intro _ | exact rfl)); done))
      refine ⟨(k + 1, n + 1), ⟨hk, by dsimp only; omega, ?_⟩, by dsimp only; omega, le_of (ad := []) ⟨rfl, rfl, rfl, rfl, ?_, rfl, rfl, ?_, trivial⟩ trivial⟩
      · dsimp only
        rw [hany, hc]
        simp
      · exact congrArg (fun z : Int => E.v (.int .i64 z)) (wrap64_id (by omega) (by omega))
      · exact congrArg (fun z : Int => E.v (.int .i64 z)) (wrap64_id (by omega) (by omega))
    · have hc : askP u o r (gf, gt, go, gr, gp, ()) = false := hc
      repeat' (first | refine tr_seq ?_ | refine reg (T := tab) tOk hnt rfl ?_ ?_ | refine tr_skip ?_)
      all_goals (try ((dsimp only [AllP]; (repeat' first | exact trivial | assumption | exact Nat.le_of_ble_eq_true rfl | apply And.intro | intro _ | exact rfl)); done))
      refine ⟨(k + 1, n), ⟨hk, by dsimp only; omega, ?_⟩, by dsimp only; omega, le_of (ad := []) ⟨rfl, rfl, rfl, rfl, rfl, rfl, rfl, ?_, trivial⟩ trivial⟩
      · dsimp only
        rw [hany, hc, j3]
        simp
      · exact congrArg (fun z : Int => E.v (.int .i64 z)) (wrap64_id (by omega) (by omega))
  have hk := of_decide_eq_false hk
  have hk : k = l.length := by omega
  subst hk
  rw [List.take_length] at j3
  refine tr_exit ?_
  repeat' (first | refine tr_seq ?_ | refine tr_block ?_ | refine tr_skip ?_)
  refine tr_region (lex (T := tab) tOk hnt rfl ?_ (callG rfl rfl rfl rfl rfl rfl hnt rfl (fun hq => ?_) (fun _ => Owner_fn _) (lex (T := tab) tOk hnt rfl ?_ (Lex.nil _)))) ?_
  · (dsimp only [AllP]; (repeat' first | exact trivial | assumption | exact Nat.le_of_ble_eq_true rfl | apply And.intro | intro _ | exact rfl))
  · exact hq
  · (dsimp only [AllP]; (repeat' first | exact trivial | assumption | exact Nat.le_of_ble_eq_true rfl | apply And.intro | intro _ | exact rfl))
  refine tr_ret ⟨.inr rfl, _, _, rfl, by trivial, ?_⟩
  exact congrArg (fun z : Bool => D.v (.bool z)) (has_end (b := decide (ownF o = u)) j3)

set_option maxRecDepth 10000 in
theorem hasOf_fn (l : List Gr) (u o r : Int) : FnD Try.prog 24 [.one (.e (eGrs l)), .v (.int .i64 u), .v (.int .i64 o), .v (.int .i64 r)] (.tup [(false, .es [.v (.bool (if askF l u o r = 0 then hasF l u o r else false))]), (false, .es [eI (askF l u o r)])]) := by
  refine fn_intro (T := tab) tOk Try.func24 rfl (by kernel_rfl) (by simp [Try.ntmps24]) ?_
  intro X hX
  have hnt : X.nt = 24 := hX
  clear hX
  refine tr_seq (reg (T := tab) tOk hnt rfl ?_ ?_)
  · (dsimp only [AllP]; (repeat' first | exact trivial | assumption | exact Nat.le_of_ble_eq_true rfl | apply And.intro | intro _ | exact rfl))
  repeat' (first | refine tr_seq ?_ | refine tr_block ?_)
  refine tr_region (lex (T := tab) tOk hnt rfl ?_ (call rfl rfl rfl rfl rfl rfl rfl hnt (rfault_fn l u o r) (lex (T := tab) tOk hnt rfl ?_ (Lex.nil _)))) ?_
  · (dsimp only [AllP]; (repeat' first | exact trivial | assumption | exact Nat.le_of_ble_eq_true rfl | apply And.intro | intro _ | exact rfl))
  · (dsimp only [AllP]; (repeat' first | exact trivial | assumption | exact Nat.le_of_ble_eq_true rfl | apply And.intro | intro _ | exact rfl))
  repeat' (first | refine tr_seq ?_ | refine reg (T := tab) tOk hnt rfl ?_ ?_ | refine tr_cond rfl (fun _ => ?_) (fun _ => ?_) | refine tr_block ?_ | refine tr_skip ?_ | refine tr_ret ?_ | refine tr_exit ?_)
  all_goals (try ((dsimp only [AllP]; (repeat' first | exact trivial | assumption | exact Nat.le_of_ble_eq_true rfl | apply And.intro | intro _ | exact rfl)); done))
  · rename_i h
    have h : ¬ askF l u o r = 0 := by simpa using h
    refine ⟨.inr rfl, _, _, rfl, by trivial, ?_⟩
    rw [if_neg h]
    rfl
  rename_i h
  have h : askF l u o r = 0 := by simpa using h
  have hz : gfaultF l = 0 := Classical.byContradiction fun hg => by rw [askA hg] at h; exact hg h
  refine tr_region (lex (T := tab) tOk hnt rfl ?_ (call rfl rfl rfl rfl rfl rfl rfl hnt (has_fn l u o r (by have := (gfault_zero hz).1; omega)) (lex (T := tab) tOk hnt rfl ?_ (Lex.nil _)))) ?_
  · (dsimp only [AllP]; (repeat' first | exact trivial | assumption | exact Nat.le_of_ble_eq_true rfl | apply And.intro | intro _ | exact rfl))
  · (dsimp only [AllP]; (repeat' first | exact trivial | assumption | exact Nat.le_of_ble_eq_true rfl | apply And.intro | intro _ | exact rfl))
  refine tr_ret ⟨.inr rfl, _, _, rfl, by trivial, ?_⟩
  rw [if_pos h, h]
  rfl

set_option maxRecDepth 10000 in
theorem Has_fn (l : List Gr) (u o r : Int) : FnD Try.prog 23 [.one (.e (eGrs l)), .v (.int .i64 u), .v (.int .i64 o), .v (.int .i64 r)] (.tup [(false, .es [.v (.bool (if askF l u o r = 0 then hasF l u o r else false))]), (false, .es [eI (askF l u o r)])]) := by
  refine fn_intro (T := tab) tOk Try.func23 rfl (by kernel_rfl) (by simp [Try.ntmps23]) ?_
  intro X hX
  have hnt : X.nt = 48 := hX
  clear hX
  refine tr_seq (reg (T := tab) tOk hnt rfl ?_ ?_)
  · (dsimp only [AllP]; (repeat' first | exact trivial | assumption | exact Nat.le_of_ble_eq_true rfl | apply And.intro | intro _ | exact rfl))
  repeat' (first | refine tr_seq ?_ | refine tr_block ?_)
  refine tr_region (lex (T := tab) tOk hnt rfl ?_ (call rfl rfl rfl rfl rfl rfl rfl hnt (asked_fn l u o r) (lex (T := tab) tOk hnt rfl ?_ (Lex.nil _)))) ?_
  · (dsimp only [AllP]; (repeat' first | exact trivial | assumption | exact Nat.le_of_ble_eq_true rfl | apply And.intro | intro _ | exact rfl))
  · (dsimp only [AllP]; (repeat' first | exact trivial | assumption | exact Nat.le_of_ble_eq_true rfl | apply And.intro | intro _ | exact rfl))
  repeat' (first | refine tr_seq ?_ | refine reg (T := tab) tOk hnt rfl ?_ ?_ | refine tr_cond rfl (fun _ => ?_) (fun _ => ?_) | refine tr_block ?_ | refine tr_skip ?_ | refine tr_ret ?_ | refine tr_exit ?_)
  all_goals (try ((dsimp only [AllP]; (repeat' first | exact trivial | assumption | exact Nat.le_of_ble_eq_true rfl | apply And.intro | intro _ | exact rfl)); done))
  · rename_i h
    have h : ¬ askF l u o r = 0 := by simpa using h
    refine ⟨.inr rfl, _, _, rfl, by trivial, ?_⟩
    rw [if_neg h]
    rfl
  rename_i h
  have h : askF l u o r = 0 := by simpa using h
  have hz : gfaultF l = 0 := Classical.byContradiction fun hg => by rw [askA hg] at h; exact hg h
  have hb := (gfault_zero hz).1
  refine tr_region (lex (T := tab) tOk hnt rfl ?_ (call rfl rfl rfl rfl rfl rfl rfl hnt (owner_fn o) (lex (T := tab) tOk hnt rfl ?_ (Lex.nil _)))) ?_
  · (dsimp only [AllP]; (repeat' first | exact trivial | assumption | exact Nat.le_of_ble_eq_true rfl | apply And.intro | intro _ | exact rfl))
  · (dsimp only [AllP]; (repeat' first | exact trivial | assumption | exact Nat.le_of_ble_eq_true rfl | apply And.intro | intro _ | exact rfl))
  refine tr_cond rfl (fun hw => ?_) (fun hw => ?_)
  · repeat' (first | refine tr_seq ?_ | refine reg (T := tab) tOk hnt rfl ?_ ?_ | refine tr_ret ?_)
    · (dsimp only [AllP]; (repeat' first | exact trivial | assumption | exact Nat.le_of_ble_eq_true rfl | apply And.intro | intro _ | exact rfl))
    have hw : decide (ownF o = u) = true := hw
    refine ⟨.inr rfl, _, _, rfl, by trivial, ?_⟩
    rw [if_pos h, h, hasF, hw]
    rfl
  have hw : decide (ownF o = u) = false := hw
  repeat' (first | refine tr_seq ?_ | refine reg (T := tab) tOk hnt rfl ?_ ?_ | refine tr_block ?_ | refine tr_skip ?_)
  · (dsimp only [AllP]; (repeat' first | exact trivial | assumption | exact Nat.le_of_ble_eq_true rfl | apply And.intro | intro _ | exact rfl))
  refine tr_loop (σ := Nat) (fun x => St.of [(0, .one (.e (eGrs l))), (1, .v (.int .i64 u)), (2, .v (.int .i64 o)), (3, .v (.int .i64 r)), (25, .one (.e (eGrs l))), (26, .v (.int .i64 l.length)), (27, .v (.int .i64 x))] [])
    (fun x => x ≤ l.length ∧ (l.take x).any (askP u o r) = false) (fun x => l.length - x) 0 (le_of (ad := []) ⟨rfl, rfl, rfl, rfl, rfl, congrArg (fun z : Nat => E.v (.int .i64 (z : Int))) (List.length_map ..), rfl, trivial⟩ trivial) ⟨Nat.zero_le _, rfl⟩ ?_
  rintro k ⟨j1, j3⟩
  refine tr_seq (reg (T := tab) tOk hnt rfl (by exact rfl) ?_)
  refine tr_seq (tr_cond rfl (fun hk => ?_) (fun hk => ?_))
  · refine tr_skip ?_
    have hk := of_decide_eq_true hk
    have hk : k < l.length := by omega
    refine tr_seq (tr_block ?_)
    have hlen : ((List.map eGr l).getD k []).length = 5 := by rw [grGet l hk]; rfl
    refine tr_seq (reg (T := tab) tOk hnt rfl ?_ ?_)
    · rw [Int.toNat_natCast]
      refine ⟨⟨?_, Nat.le_of_ble_eq_true rfl, Nat.zero_le _⟩, trivial, ?_, Int.natCast_nonneg _, ?_, hlen⟩
      · show (List.take 5 (List.drop 0 ((List.map eGr l).getD k []))).length = 5
        rw [List.length_take, List.length_drop, hlen]
        rfl
      · show 0 + 5 ≤ ((List.map eGr l).getD k []).length
        omega
      · rw [List.length_map]
        omega
    rw [box_store]
    rotate_left
    · exact hlen
    · rfl
    rw [Int.toNat_natCast, grGet l hk]
    have hany := anyTake (askP u o r) l gz hk
    have hmem : l.getD k gz ∈ l := by simp [List.getD, hk]
    generalize l.getD k gz = g at hany hmem ⊢
    obtain ⟨gf, gt, go, gr, gp, ⟨⟩⟩ := g
    repeat' (first | refine tr_seq ?_ | refine reg (T := tab) tOk hnt rfl ?_ ?_ | refine tr_block ?_)
    · (dsimp only [AllP]; (repeat' first | exact trivial | assumption | exact Nat.le_of_ble_eq_true rfl | apply And.intro | intro _ | exact rfl))
    refine tr_cond rfl (fun hc => ?_) (fun hc => ?_)
    · have hc : askP u o r (gf, gt, go, gr, gp, ()) = true := hc
      repeat' (first | refine tr_seq ?_ | refine reg (T := tab) tOk hnt rfl ?_ ?_ | refine tr_skip ?_ | refine tr_ret ?_)
      all_goals (try ((dsimp only [AllP]; (repeat' first | exact trivial | assumption | exact Nat.le_of_ble_eq_true rfl | apply And.intro | intro _ | exact rfl)); done))
      refine ⟨.inr rfl, _, _, rfl, by trivial, ?_⟩
      rw [if_pos h, h, hasF, List.any_eq_true.2 ⟨_, hmem, hc⟩, Bool.or_true]
      rfl
    · have hc : askP u o r (gf, gt, go, gr, gp, ()) = false := hc
      repeat' (first | refine tr_seq ?_ | refine reg (T := tab) tOk hnt rfl ?_ ?_ | refine tr_skip ?_)
      all_goals (try ((dsimp only [AllP]; (repeat' first | exact trivial | assumption | exact Nat.le_of_ble_eq_true rfl | apply And.intro | intro _ | exact rfl)); done))
      refine ⟨k + 1, ⟨hk, ?_⟩, by omega, le_of (ad := []) ⟨rfl, rfl, rfl, rfl, rfl, rfl, ?_, trivial⟩ trivial⟩
      · rw [hany, hc, j3]
        rfl
      · exact congrArg (fun z : Int => E.v (.int .i64 z)) (wrap64_id (by omega) (by omega))
  have hk := of_decide_eq_false hk
  have hk : k = l.length := by omega
  subst hk
  rw [List.take_length] at j3
  refine tr_exit ?_
  repeat' (first | refine tr_seq ?_ | refine reg (T := tab) tOk hnt rfl ?_ ?_ | refine tr_block ?_ | refine tr_skip ?_ | refine tr_ret ?_)
  · (dsimp only [AllP]; (repeat' first | exact trivial | assumption | exact Nat.le_of_ble_eq_true rfl | apply And.intro | intro _ | exact rfl))
  refine ⟨.inr rfl, _, _, rfl, by trivial, ?_⟩
  rw [if_pos h, h, hasF, hw, j3]
  rfl

set_option maxRecDepth 10000 in
theorem rightHas_fn (l : List Gr) (u o r : Int) : FnD Try.prog 8 [.one (.e (eGrs l)), .v (.int .i64 u), .v (.int .i64 o), .v (.int .i64 r)] (.v (.bool true)) := by
  refine fn_intro (T := tab) tOk Try.func8 rfl (by kernel_rfl) (by simp [Try.ntmps8]) ?_
  intro X hX
  have hnt : X.nt = 37 := hX
  clear hX
  refine tr_seq (reg (T := tab) tOk hnt rfl ?_ ?_)
  · (dsimp only [AllP]; (repeat' first | exact trivial | assumption | exact Nat.le_of_ble_eq_true rfl | apply And.intro | intro _ | exact rfl))
  refine tr_seq (tr_region (lex (T := tab) tOk hnt rfl ?_ (call rfl rfl rfl rfl rfl rfl rfl hnt (Has_fn l u o r) (lex (T := tab) tOk hnt rfl ?_ (Lex.nil _)))) ?_)
  · (dsimp only [AllP]; (repeat' first | exact trivial | assumption | exact Nat.le_of_ble_eq_true rfl | apply And.intro | intro _ | exact rfl))
  · (dsimp only [AllP]; (repeat' first | exact trivial | assumption | exact Nat.le_of_ble_eq_true rfl | apply And.intro | intro _ | exact rfl))
  refine tr_seq (tr_region (lex (T := tab) tOk hnt rfl ?_ (call rfl rfl rfl rfl rfl rfl rfl hnt (hasOf_fn l u o r) (lex (T := tab) tOk hnt rfl ?_ (Lex.nil _)))) ?_)
  · (dsimp only [AllP]; (repeat' first | exact trivial | assumption | exact Nat.le_of_ble_eq_true rfl | apply And.intro | intro _ | exact rfl))
  · (dsimp only [AllP]; (repeat' first | exact trivial | assumption | exact Nat.le_of_ble_eq_true rfl | apply And.intro | intro _ | exact rfl))
  refine tr_seq (reg (T := tab) tOk hnt rfl ?_ ?_)
  · (dsimp only [AllP]; (repeat' first | exact trivial | assumption | exact Nat.le_of_ble_eq_true rfl | apply And.intro | intro _ | exact rfl))
  refine tr_ret ⟨.inr rfl, _, _, rfl, by trivial, ?_⟩
  simp
  rfl
end Go.Proofs.Ytmicapdbgjafnaa
